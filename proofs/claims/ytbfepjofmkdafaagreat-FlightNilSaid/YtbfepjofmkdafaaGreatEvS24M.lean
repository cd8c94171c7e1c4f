/- Known calls; the theorem (own work). -/
import Derived.Test.YtbfepjofmkdafaaGreatEvS24
namespace Go.Ev
variable {P : Cx} {M M' M0 : Mu} {h h' h0 : AH} {w w' w0 : World}

theorem entEq_eq : ∀ {a b : List MapEntry}, entEq a b = true → a = b
  | [], [], _ => rfl
  | [], _ :: _, h => by cases h
  | _ :: _, [], h => by cases h
  | a :: r, b :: s, h => by
    obtain ⟨h1, h2⟩ := bc_and (show bc (bc (veq 6 a.key b.key) (bc (veq 6 a.val b.val) (Nat.beq a.born b.born) false) false) (entEq r s) false = true from h)
    obtain ⟨h3, h4⟩ := bc_and h1
    obtain ⟨h5, h6⟩ := bc_and h4
    obtain ⟨k, v, n⟩ := a
    obtain ⟨k', v', n'⟩ := b
    have e1 : k = k' := veq_eq 6 h3
    have e2 : v = v' := veq_eq 6 h5
    have e3 : n = n' := Nat.eq_of_beq_eq_true h6
    rw [e1, e2, e3, entEq_eq h2]
theorem aoEq_eq {a b : AO} (h : aoEq a b = true) : a = b := by
  cases a with
  | cells cs e g => cases b with
    | cells cs' e' g' =>
      obtain ⟨h1, h2⟩ := bc_and (show bc (Nat.beq e e') (bc (Nat.beq g g') (veq.all 6 cs cs') false) false = true from h)
      obtain ⟨h3, h4⟩ := bc_and h2
      rw [Nat.eq_of_beq_eq_true h1, Nat.eq_of_beq_eq_true h3, veqs_eq (veq_eq 6) h4]
    | _ => cases h
  | map es c => cases b with
    | map es' c' =>
      obtain ⟨h1, h2⟩ := bc_and (show bc (Nat.beq c c') (entEq es es') false = true from h)
      rw [Nat.eq_of_beq_eq_true h1, entEq_eq h2]
    | _ => cases h
  | _ => cases h
theorem subL_mem : ∀ {l : List (Nat × AO)}, subL h l = true → ∀ b o, (b, o) ∈ l → h.get b = some o
  | [], _, _, _, hm => by cases hm
  | x :: r, hs, b, o, hm => by
    simp only [subL] at hs
    split at hs
    · rename_i o' ho
      obtain ⟨h1, h2⟩ := bc_and hs
      rcases List.mem_cons.1 hm with q | q
      · subst q; rw [ho, aoEq_eq h1]
      · exact subL_mem h2 b o q
    · cases hs
theorem trOn_get : ∀ {l : List (Nat × AO)} {t : Tr AO} {b : Nat}, (∃ o, (b, o) ∈ l ∧ (trOn t l).get b = some o) ∨ ((∀ o, (b, o) ∉ l) ∧ (trOn t l).get b = t.get b)
  | [], _, _ => .inr ⟨fun _ h => (by cases h), rfl⟩
  | x :: r, t, b => by
    rcases trOn_get (l := r) (t := t.put x.1 (some x.2)) (b := b) with ⟨o, h1, h2⟩ | ⟨h1, h2⟩
    · exact .inl ⟨o, List.mem_cons_of_mem _ h1, h2⟩
    · rw [Tr.get_put] at h2
      by_cases hb : b = x.1
      · rw [if_pos hb] at h2
        exact .inl ⟨x.2, by rw [hb]; simp, h2⟩
      · rw [if_neg hb] at h2
        refine .inr ⟨fun o hm => ?_, h2⟩
        rcases List.mem_cons.1 hm with q | q
        · exact hb (by rw [← q])
        · exact h1 o q
theorem trOff_get : ∀ {l : List (Nat × AO)} {t : Tr AO} {b : Nat}, (trOff t l).get b = none ∨ ((∀ o, (b, o) ∉ l) ∧ (trOff t l).get b = t.get b)
  | [], _, _ => .inr ⟨fun _ h => (by cases h), rfl⟩
  | x :: r, t, b => by
    rcases trOff_get (l := r) (t := t.put x.1 none) (b := b) with h1 | ⟨h1, h2⟩
    · exact .inl h1
    · rw [Tr.get_put] at h2
      by_cases hb : b = x.1
      · rw [if_pos hb] at h2
        exact .inl h2
      · rw [if_neg hb] at h2
        refine .inr ⟨fun o hm => ?_, h2⟩
        rcases List.mem_cons.1 hm with q | q
        · exact hb (by rw [← q])
        · exact h1 o q
/-- the groups of a list -/
def GI (l : List (Nat × AO)) (g : Nat) : Prop := ∃ b o, (b, o) ∈ l ∧ grpOf o = some g
theorem GI.cons {x : Nat × AO} {r : List (Nat × AO)} {g : Nat} : GI (x :: r) g ↔ grpOf x.2 = some g ∨ GI r g := by
  constructor
  · rintro ⟨b, o, hm, hg⟩
    rcases List.mem_cons.1 hm with q | q
    · subst q; exact .inl hg
    · exact .inr ⟨b, o, q, hg⟩
  · rintro (hg | ⟨b, o, hm, hg⟩)
    · exact ⟨x.1, x.2, by simp, hg⟩
    · exact ⟨b, o, List.mem_cons_of_mem _ hm, hg⟩
theorem gOff_get : ∀ {l : List (Nat × AO)} {t : Tr (List Nat)} {g : Nat}, (gOff t l).get g = some [] ∨ (¬ GI l g ∧ (gOff t l).get g = t.get g)
  | [], _, _ => .inr ⟨(by rintro ⟨_, _, h, _⟩; cases h), rfl⟩
  | x :: r, t, g => by
    obtain ⟨b, o⟩ := x
    cases o with
    | cells cs e k =>
      rcases gOff_get (l := r) (t := t.put k (some [])) (g := g) with h1 | ⟨h1, h2⟩
      · exact .inl h1
      · rw [Tr.get_put] at h2
        by_cases hb : g = k
        · rw [if_pos hb] at h2; exact .inl h2
        · rw [if_neg hb] at h2
          refine .inr ⟨fun hg => ?_, h2⟩
          rcases GI.cons.1 hg with q | q
          · simp only [grpOf, Option.some.injEq] at q; exact hb q.symm
          · exact h1 q
    | map es c =>
      rcases gOff_get (l := r) (t := t) (g := g) with h1 | ⟨h1, h2⟩
      · exact .inl h1
      · exact .inr ⟨fun hg => (GI.cons.1 hg).elim (fun q => by cases q) h1, h2⟩
    | mapIter m a s p =>
      rcases gOff_get (l := r) (t := t) (g := g) with h1 | ⟨h1, h2⟩
      · exact .inl h1
      · exact .inr ⟨fun hg => (GI.cons.1 hg).elim (fun q => by cases q) h1, h2⟩
    | strIter y p =>
      rcases gOff_get (l := r) (t := t) (g := g) with h1 | ⟨h1, h2⟩
      · exact .inl h1
      · exact .inr ⟨fun hg => (GI.cons.1 hg).elim (fun q => by cases q) h1, h2⟩
    | loop T ps as bd m p =>
      rcases gOff_get (l := r) (t := t) (g := g) with h1 | ⟨h1, h2⟩
      · exact .inl h1
      · exact .inr ⟨fun hg => (GI.cons.1 hg).elim (fun q => by cases q) h1, h2⟩
/-- whoever a group counts behind gOn: one of the list, or counted before -/
theorem gOn_get : ∀ {l : List (Nat × AO)} {t : Tr (List Nat)} {g : Nat} {m : List Nat}, (gOn t l).get g = some m → ∀ b, memN b m = true → (∃ o, (b, o) ∈ l) ∨ ∃ m0, t.get g = some m0 ∧ memN b m0 = true
  | [], _, _, m, h, b, hb => .inr ⟨m, h, hb⟩
  | x :: r, t, g, m, h, b, hb => by
    obtain ⟨c, o⟩ := x
    have skip : (gOn t r).get g = some m → (∃ o', (b, o') ∈ (c, o) :: r) ∨ ∃ m0, t.get g = some m0 ∧ memN b m0 = true := fun h => by
      rcases gOn_get h b hb with ⟨o', q⟩ | q
      · exact .inl ⟨o', List.mem_cons_of_mem _ q⟩
      · exact .inr q
    cases o with
    | cells cs e k =>
      rcases gOn_get (t := t.put k (some (gMore c (t.get k)))) h b hb with ⟨o', q⟩ | ⟨m0, q1, q2⟩
      · exact .inl ⟨o', List.mem_cons_of_mem _ q⟩
      · rw [Tr.get_put] at q1
        by_cases hk : g = k
        · rw [if_pos hk] at q1
          simp only [Option.some.injEq] at q1
          subst q1; subst hk
          cases ht : t.get g with
          | none =>
            rw [ht] at q2
            have q2' : bc (Nat.beq b c) true false = true := q2
            cases hbc : Nat.beq b c with
            | true => exact .inl ⟨_, by rw [Nat.eq_of_beq_eq_true hbc]; exact List.mem_cons_self⟩
            | false => rw [hbc] at q2'; cases q2'
          | some m1 =>
            rw [ht] at q2
            have q2' : bc (Nat.beq b c) true (memN b m1) = true := q2
            cases hbc : Nat.beq b c with
            | true => exact .inl ⟨_, by rw [Nat.eq_of_beq_eq_true hbc]; exact List.mem_cons_self⟩
            | false => rw [hbc] at q2'; exact .inr ⟨m1, rfl, q2'⟩
        · rw [if_neg hk] at q1
          exact .inr ⟨m0, q1, q2⟩
    | map es c => exact skip h
    | mapIter m a s p => exact skip h
    | strIter y p => exact skip h
    | loop T ps as bd m p => exact skip h
theorem mkH_tr {n : Nat} {l : List (Nat × AO)} {b : Nat} {o : AO} (hg : (mkH n l).tr.get b = some o) : (b, o) ∈ l := by
  rcases trOn_get (l := l) (t := .leaf) (b := b) with ⟨o', h1, h2⟩ | ⟨_, h2⟩
  · have hg' : (trOn .leaf l).get b = some o := hg
    rw [h2] at hg'; cases hg'; exact h1
  · have hg' : (trOn .leaf l).get b = some o := hg
    rw [h2] at hg'; cases hg'
theorem gtr {b : Nat} {o : AO} (hg : h.get b = some o) : h.tr.get b = some o := (get_tr hg).1
/-- fewer objects -/
theorem SR.less (s : SR P M h w) (hsub : ∀ b o, h'.tr.get b = some o → h.get b = some o) (hn : h.next ≤ h'.next) (hl : h'.lo = 0) : SR P M h' w :=
  ⟨fun b cs e g hb => (let ⟨h1, h2⟩ := s.ai b cs e g (gtr (hsub _ _ hb)); ⟨h1, Nat.lt_of_lt_of_le h2 hn⟩),
   fun b o hb => s.obj b o (hsub _ _ (gtr hb)),
   fun b b' o o' i i' h1 h2 => s.sep b b' o o' i i' (hsub _ _ (gtr h1)) (hsub _ _ (gtr h2)),
   fun b hb => s.fresh b (Nat.le_trans hn hb), by rw [hl]; exact Nat.zero_le _⟩
theorem Held.less (hsub : ∀ b o, h'.tr.get b = some o → h.get b = some o) {x : Nat} (hx : Held M h' x) : Held M h x :=
  let ⟨b, o, i, h1, h2, h3⟩ := hx; ⟨b, o, i, hsub _ _ (gtr h1), h2, h3⟩
/-- behind a step: fewer objects -/
theorem Nxt.less {h2 : AH} (n : Nxt P M h w M' h' w') (hsub : ∀ b o, h2.tr.get b = some o → h'.get b = some o) (hn : h'.next ≤ h2.next) (hl : h2.lo = 0) : Nxt P M h w M' h2 w' where
  sr := n.sr.less hsub hn hl
  mu := n.mu
  next := Nat.le_trans n.next hn
  old := n.old
  img := fun x hx => n.img x (hx.less hsub)
  kept := n.kept
  size := n.size
  os := n.os
  tape := n.tape
  output := n.output
  lo := by rw [hl]; exact Nat.zero_le _
  fp := fun b hb => by rw [hl] at hb; exact absurd hb (Nat.not_lt_zero _)
  grp := fun b cs e g hb => n.grp b cs e g (gtr (hsub _ _ hb))
  gl := fun b cs e g hb hx hy => by rw [hl]; exact Nat.zero_le _
  gb := fun b cs e g hb hx => n.gb b cs e g (gtr (hsub _ _ hb)) hx
theorem allIn_mem {l : List (Nat × AO)} : ∀ {m : List Nat}, allIn l m = true → ∀ b, memN b m = true → ∃ o, (b, o) ∈ l
  | [], _, b, hb => by cases hb
  | c :: r, h, b, hb => by
    obtain ⟨h1, h2⟩ := bc_and (show bc (idIn c l) (allIn l r) false = true from h)
    have hb' : bc (Nat.beq b c) true (memN b r) = true := hb
    cases hbc : Nat.beq b c with
    | true =>
      obtain rfl := Nat.eq_of_beq_eq_true hbc
      have : ∀ l : List (Nat × AO), idIn b l = true → ∃ o, (b, o) ∈ l := by
        intro l
        induction l with
        | nil => intro h; cases h
        | cons x r ih =>
          intro h
          have h' : bc (Nat.beq x.1 b) true (idIn b r) = true := h
          cases hx : Nat.beq x.1 b with
          | true => exact ⟨x.2, by rw [← Nat.eq_of_beq_eq_true hx]; simp⟩
          | false =>
            rw [hx] at h'
            obtain ⟨o, ho⟩ := ih h'
            exact ⟨o, List.mem_cons_of_mem _ ho⟩
      exact this l h1
    | false => rw [hbc] at hb'; exact allIn_mem h2 b hb'
theorem grpIn_ok {l : List (Nat × AO)} : ∀ {r : List (Nat × AO)}, grpIn h l r = true → ∀ g, GI r g → ∃ m, h.grps.get g = some m ∧ ∀ b, memN b m = true → ∃ o, (b, o) ∈ l
  | [], _, g, hg => by obtain ⟨_, _, q, _⟩ := hg; cases q
  | x :: r, hs, g, hg => by
    obtain ⟨c, o⟩ := x
    have skip : grpIn h l r = true → grpOf o = none → ∃ m, h.grps.get g = some m ∧ ∀ b, memN b m = true → ∃ o, (b, o) ∈ l := fun hs hn => by
      rcases GI.cons.1 hg with q | q
      · rw [hn] at q; cases q
      · exact grpIn_ok hs g q
    cases o with
    | cells cs e k =>
      have hs' : (match h.grps.get k with | some m => bc (allIn l m) (grpIn h l r) false | none => false) = true := hs
      split at hs'
      · rename_i m hm
        obtain ⟨h1, h2⟩ := bc_and hs'
        rcases GI.cons.1 hg with q | q
        · simp only [grpOf, Option.some.injEq] at q
          subst q
          exact ⟨m, hm, allIn_mem h1⟩
        · exact grpIn_ok h2 g q
      · cases hs'
    | map es c => exact skip hs rfl
    | mapIter m a s p => exact skip hs rfl
    | strIter y p => exact skip hs rfl
    | loop T ps as bd m p => exact skip hs rfl
/-- what an entry says -/
def MemoOK (P : Cx) (K : Kx) (e : ME) : Prop := (∀ b o, (b, o) ∈ e.l1 → (mkH e.n1 e.l1).get b = some o) ∧
  ∀ (M : Mu) (w : World) (args' : Array Value) (k : Nat), SR P M (mkH e.n0 e.l0) w → Ctx P K M (mkH e.n0 e.l0) w → VRs M e.args args'.toList →
    CallsIn Fence.wide k P.P e.f args' w (VPost P M (mkH e.n0 e.l0) w (.one (e.v, mkH e.n1 e.l1)))
/-- an object of the heap behind a known call: the call's, or one that it did not see -/
theorem useH_get {e : ME} {b : Nat} {o : AO} (hg : (useH h e).get b = some o) : (b, o) ∈ e.l1 ∨ (h.get b = some o ∧ (∀ o', (b, o') ∉ e.l0) ∧ ∀ g, grpOf o = some g → ¬ GI e.l0 g) := by
  have ht : (trOn (trOff h.tr e.l0) e.l1).get b = some o := gtr hg
  rcases trOn_get (l := e.l1) (t := trOff h.tr e.l0) (b := b) with ⟨o', h1, h2⟩ | ⟨h1, h2⟩
  · rw [h2] at ht; cases ht; exact .inl h1
  · rw [h2] at ht
    rcases trOff_get (l := e.l0) (t := h.tr) (b := b) with q | ⟨q1, q2⟩
    · rw [q] at ht; cases ht
    · rw [q2] at ht
      refine .inr ?_
      have plain : grpOf o = none → h.get b = some o := fun hn => by
        unfold AH.get
        rw [ht]
        cases o <;> first | rfl | cases hn
      cases hgo : grpOf o with
      | none => exact ⟨plain hgo, q1, fun g hg => by cases hg⟩
      | some g =>
        cases o with
        | cells cs el k =>
          simp only [grpOf, Option.some.injEq] at hgo
          subst hgo
          have hU : (useH h e).tr.get b = some (.cells cs el k) := by
            show (trOn (trOff h.tr e.l0) e.l1).get b = _
            rw [h2, q2]; exact ht
          unfold AH.get at hg
          rw [hU] at hg
          simp only at hg
          split at hg
          · rename_i m hm
            have hmem : memN b m = true := by
              cases hb : memN b m with
              | true => rfl
              | false => rw [hb] at hg; cases hg
            have hm' : (gOn (gOff (gOff h.grps e.l0) e.l1) e.l1).get k = some m := hm
            rcases gOn_get hm' b hmem with ⟨o', r1⟩ | ⟨m0, r1, r2⟩
            · exact absurd r1 (h1 o')
            · rcases gOff_get (l := e.l1) (t := gOff h.grps e.l0) (g := k) with t1 | ⟨t1, t2⟩
              · rw [t1] at r1; cases r1; cases r2
              · rw [t2] at r1
                rcases gOff_get (l := e.l0) (t := h.grps) (g := k) with u1 | ⟨u1, u2⟩
                · rw [u1] at r1; cases r1; cases r2
                · rw [u2] at r1
                  refine ⟨?_, q1, fun g hg => by simp only [grpOf, Option.some.injEq] at hg; rw [← hg]; exact u1⟩
                  unfold AH.get
                  rw [ht]
                  simp only [r1, r2]
          · cases hg
        | _ => cases hgo
theorem useH_tr {e : ME} {b : Nat} {o : AO} (hg : (useH h e).tr.get b = some o) : (b, o) ∈ e.l1 ∨ h.tr.get b = some o := by
  have ht : (trOn (trOff h.tr e.l0) e.l1).get b = some o := hg
  rcases trOn_get (l := e.l1) (t := trOff h.tr e.l0) (b := b) with ⟨o', h1, h2⟩ | ⟨h1, h2⟩
  · rw [h2] at ht; cases ht; exact .inl h1
  · rw [h2] at ht
    rcases trOff_get (l := e.l0) (t := h.tr) (b := b) with q | ⟨q1, q2⟩
    · rw [q] at ht; cases ht
    · rw [q2] at ht; exact .inr ht
/-- a known call among other objects -/
theorem nxt_use {e : ME} (s : SR P M h w) (hnx : h.next = e.n0) (hsub : ∀ b o, (b, o) ∈ e.l0 → h.get b = some o) (hl1 : ∀ b o, (b, o) ∈ e.l1 → (mkH e.n1 e.l1).get b = some o)
    (n : Nxt P M (mkH e.n0 e.l0) w M' (mkH e.n1 e.l1) w') : Nxt P M h w M' (useH h e) w' := by
  have hsub0 : ∀ b o, (mkH e.n0 e.l0).tr.get b = some o → h.get b = some o := fun b o hb => hsub b o (mkH_tr hb)
  have hn01 : e.n0 ≤ e.n1 := n.next
  -- an object that the call did not see: its block
  have out : ∀ b o, h.get b = some o → (∀ o', (b, o') ∉ e.l0) → (∀ g, grpOf o = some g → ¬ GI e.l0 g) → ∃ i, M b = some i ∧ M' b = some i ∧ OR P M i w o ∧ ¬ Held M (mkH e.n0 e.l0) i.blk := by
    intro b o hb h1 h2
    obtain ⟨i, hi, ho⟩ := s.obj b o hb
    refine ⟨i, hi, n.mu _ _ hi, ho, ?_⟩
    rintro ⟨c, o2, j, g1, g2, g3⟩
    have hc := gtr g1
    have hm := mkH_tr hc
    rcases s.sep b c o o2 i j hb (hsub c o2 hm) hi g2 g3.symm with q | ⟨g, q1, q2⟩
    · subst q; exact h1 o2 hm
    · exact h2 g q1 ⟨c, o2, hm, q2⟩
  have hkept : ∀ b o i, M b = some i → OR P M i w o → ¬ Held M (mkH e.n0 e.l0) i.blk → OR P M' i w' o := fun b o i _ ho hn =>
    (ho.world (n.kept i.blk ho.lt hn)).mono n.mu
  have trsub : ∀ b o, (useH h e).tr.get b = some o → (mkH e.n1 e.l1).tr.get b = some o ∨ h.tr.get b = some o := fun b o hb => by
    rcases useH_tr hb with q | q
    · exact .inl (gtr (hl1 b o q))
    · exact .inr q
  refine { mu := n.mu, next := by rw [hnx]; exact hn01, old := fun b hb => n.old b (by rw [hnx] at hb; exact hb), kept := fun x hx hh => n.kept x hx (fun q => hh (q.less hsub0)), size := n.size, os := n.os, tape := n.tape, output := n.output, lo := Nat.zero_le _, fp := fun b hb => absurd hb (Nat.not_lt_zero _), gl := fun _ _ _ _ _ _ _ => Nat.zero_le _, sr := ⟨?_, ?_, ?_, ?_, Nat.zero_le _⟩, img := ?_, grp := ?_, gb := ?_ }
  · intro b cs el g hb
    rcases trsub b _ hb with q | q
    · exact n.sr.ai b cs el g q
    · obtain ⟨h1, h2⟩ := s.ai b cs el g q
      refine ⟨h1, ?_⟩
      rw [hnx] at h2
      exact Nat.lt_of_lt_of_le h2 hn01
  · intro b o hb
    rcases useH_get hb with q | ⟨q1, q2, q3⟩
    · exact n.sr.obj b o (hl1 b o q)
    · obtain ⟨i, hi, hi', ho, hn⟩ := out b o q1 q2 q3
      exact ⟨i, hi', hkept b o i hi ho hn⟩
  · intro b b' o o' i i' hb hb' hi hi' hbl
    have mixed : ∀ {b b' o o' i i'}, (b, o) ∈ e.l1 → h.get b' = some o' → (∀ o2, (b', o2) ∉ e.l0) → (∀ g, grpOf o' = some g → ¬ GI e.l0 g) → M' b = some i → M' b' = some i' → i.blk = i'.blk → False := by
      intro b b' o o' i i' q r1 r2 r3 hi hi' hbl
      obtain ⟨j, hj, hj', ho, hn⟩ := out b' o' r1 r2 r3
      rw [hi'] at hj'; cases hj'
      rcases n.img i.blk ⟨b, o, i, hl1 b o q, hi, rfl⟩ with t | t
      · rw [hbl] at t; exact hn t
      · rw [hbl] at t; exact absurd ho.lt (by omega)
    rcases useH_get hb with q | ⟨q1, q2, q3⟩
    · rcases useH_get hb' with r | ⟨r1, r2, r3⟩
      · exact n.sr.sep b b' o o' i i' (hl1 b o q) (hl1 b' o' r) hi hi' hbl
      · exact (mixed q r1 r2 r3 hi hi' hbl).elim
    · rcases useH_get hb' with r | ⟨r1, r2, r3⟩
      · exact (mixed r q1 q2 q3 hi' hi hbl.symm).elim
      · obtain ⟨j, hj, hj', _, _⟩ := out b o q1 q2 q3
        obtain ⟨j2, hj2, hj2', _, _⟩ := out b' o' r1 r2 r3
        rw [hi] at hj'; cases hj'
        rw [hi'] at hj2'; cases hj2'
        exact s.sep b b' o o' i i' q1 r1 hj hj2 hbl
  · intro b hb
    exact n.sr.fresh b hb
  · rintro x ⟨b, o, i, hb, hi, hx⟩
    rcases useH_get hb with q | ⟨q1, q2, q3⟩
    · rcases n.img x ⟨b, o, i, hl1 b o q, hi, hx⟩ with t | t
      · exact .inl (t.less hsub0)
      · exact .inr t
    · obtain ⟨j, hj, hj', _, _⟩ := out b o q1 q2 q3
      rw [hi] at hj'; cases hj'
      exact .inl ⟨b, o, i, q1, hj, hx⟩
  · intro b cs el g hb
    rcases trsub b _ hb with q | q
    · rcases n.grp b cs el g q with t | ⟨b0, cs0, e0, t⟩
      · left; rw [hnx]; exact t
      · exact .inr ⟨b0, cs0, e0, gtr (hsub0 _ _ t)⟩
    · exact .inr ⟨b, cs, el, q⟩
  · intro b cs el g hb hlt
    rcases trsub b _ hb with q | q
    · obtain ⟨cs0, e0, t⟩ := n.gb b cs el g q (by rw [hnx] at hlt; exact hlt)
      exact ⟨cs0, e0, gtr (hsub0 _ _ t)⟩
    · exact ⟨cs, el, q⟩
theorem memoFind_ok {f n : Nat} {e : ME} : ∀ {l : List ME} {i : Nat}, memoFind f n l i = some e → (∃ j, j < i ∧ l[j]? = some e) ∧ e.f = f ∧ e.n0 = n
  | [], _, h => by cases h
  | x :: r, i, h => by
    have h' : bc (Nat.beq i 0) none (bc (bc (Nat.beq x.f f) (Nat.beq x.n0 n) false) (some x) (memoFind f n r (Nat.pred i))) = some e := h
    cases hi : Nat.beq i 0 with
    | true => rw [hi] at h'; cases h'
    | false =>
      rw [hi] at h'
      have hpos : i ≠ 0 := fun q => by rw [q] at hi; cases hi
      have h'' : bc (bc (Nat.beq x.f f) (Nat.beq x.n0 n) false) (some x) (memoFind f n r (Nat.pred i)) = some e := h'
      cases hb : bc (Nat.beq x.f f) (Nat.beq x.n0 n) false with
      | true =>
        rw [hb] at h''; cases h''
        obtain ⟨h1, h2⟩ := bc_and hb
        exact ⟨⟨0, by omega, rfl⟩, Nat.eq_of_beq_eq_true h1, Nat.eq_of_beq_eq_true h2⟩
      | false =>
        rw [hb] at h''
        obtain ⟨⟨j, h1, h2⟩, h3⟩ := memoFind_ok h''
        have h1' : j < i - 1 := h1
        exact ⟨⟨j + 1, by omega, by simpa using h2⟩, h3⟩
/-- the first i entries are what they say -/
def MemoT (P : Cx) (K : Kx) (i : Nat) : Prop := ∀ j e, j < i → P.memo[j]? = some e → MemoOK P K e
theorem callM_ok {K : Kx} {i : Nat} (mt : MemoT P K i) {g : Outs VH} {f : FuncId} {args : List Value} {args' : Array Value} {k : Nat} (s : SR P M h w) (cx : Ctx P K M h w) (ha : VRs M args args'.toList)
    (hg : g ≠ .fail → CallsIn Fence.wide k P.P f args' w (VPost P M h w g)) (hnf : callM P i g f args h ≠ .fail) : CallsIn Fence.wide k P.P f args' w (VPost P M h w (callM P i g f args h)) := by
  unfold callM at hnf ⊢
  cases hb : Nat.testBit P.mmask f with
  | false => rw [hb] at hnf; exact hg hnf
  | true =>
    rw [hb] at hnf
    show CallsIn Fence.wide k P.P f args' w (VPost P M h w (match memoFind f h.next P.memo i with
      | some e => bc (bc (veq.all 6 e.args args) (bc (subL h e.l0) (grpIn h e.l0 e.l0) false) false) (Outs.one (e.v, useH h e)) g
      | none => g))
    have hnf' : (match memoFind f h.next P.memo i with
      | some e => bc (bc (veq.all 6 e.args args) (bc (subL h e.l0) (grpIn h e.l0 e.l0) false) false) (Outs.one (e.v, useH h e)) g
      | none => g) ≠ .fail := hnf
    cases hm : memoFind f h.next P.memo i with
    | none => rw [hm] at hnf'; exact hg hnf'
    | some e =>
      rw [hm] at hnf'
      obtain ⟨⟨j, hj, hje⟩, hf, hn⟩ := memoFind_ok hm
      cases hc : bc (veq.all 6 e.args args) (bc (subL h e.l0) (grpIn h e.l0 e.l0) false) false with
      | false =>
        simp only [hc] at hnf' ⊢
        exact hg hnf'
      | true =>
        simp only [hc]
        obtain ⟨c1, c2⟩ := bc_and hc
        obtain ⟨c3, c4⟩ := bc_and c2
        have hsub := subL_mem c3
        obtain ⟨hl1, hrun⟩ := mt j e hj hje
        have hsub0 : ∀ b o, (mkH e.n0 e.l0).tr.get b = some o → h.get b = some o := fun b o hb => hsub b o (mkH_tr hb)
        have s0 : SR P M (mkH e.n0 e.l0) w := s.less hsub0 (by rw [← hn]; exact Nat.le_refl _) rfl
        have cx0 : Ctx P K M (mkH e.n0 e.l0) w := ⟨cx.mu, cx.sy, fun x hx => cx.held x (hx.less hsub0), cx.below⟩
        have hargs := veqs_eq (veq_eq 6) c1
        rw [← hf]
        refine (hrun M w args' k s0 cx0 (by rw [hargs]; exact ha)).mono ?_
        rintro en w' ⟨x, M', u, rfl, hx, hv, nx⟩
        cases hx
        exact ⟨(e.v, useH h e), M', u, rfl, inO_one _, hv, nxt_use s hn.symm hsub hl1 nx⟩
theorem rec_ok (ok : CxOK P) {K : Kx} (ot : OrcT P K) {i : Nat} (mt : MemoT P K i) : ∀ n, RecOK P K n (evalR P i n) := by
  intro n
  induction n with
  | zero =>
    exact ⟨fun _ _ _ _ _ _ _ _ _ _ h => absurd rfl h, fun _ _ _ _ _ _ _ _ _ _ _ _ _ _ _ _ _ _ _ _ _ h => absurd rfl h, fun _ _ _ _ _ _ _ _ _ _ _ h => absurd rfl h⟩
  | succ n ih =>
    refine ⟨fun f args h M w args' k s cx ha hnf => callO_ok ot s cx ha (fun hg => callM_ok mt s cx ha (fun hg => callN_ok ok ih cx s ha hg) hg) hnf, ?_, fun l args h M w i args' s cx hl ha hnf => yield_ok ok ih cx s hl ha hnf⟩
    intro b ρ k mask lo sz T h h0 M M0 w w0 a outs hlo hb hρ st cx nx hnf hsub
    exact loop_round ih (code_ok ok ih b) hb hρ hlo st cx nx hnf hsub
/-- THE THEOREM: what the evaluator gives holds of the call. -/
theorem eval_ok (ok : CxOK P) {K : Kx} (ot : OrcT P K) {i : Nat} (mt : MemoT P K i) {n : Nat} {f : FuncId} {args : List Value} {args' : Array Value} (s : SR P M h w) (cx : Ctx P K M h w) (ha : VRs M args args'.toList) (hnf : evalCall P i n f args h ≠ .fail) :
    Calls P.P f args' w (VPost P M h w (evalCall P i n f args h)) :=
  callsIn_wide.1 ((rec_ok ok ot mt n).call f args h M w args' 0 s cx ha hnf)
theorem meOne_ok {e : ME} {x : VH} (hm : meOne e x = true) : x.1 = e.v ∧ x.2.next ≤ e.n1 ∧ ∀ b o, (b, o) ∈ e.l1 → x.2.get b = some o := by
  obtain ⟨h1, h2⟩ := bc_and hm
  obtain ⟨h3, h4⟩ := bc_and h2
  exact ⟨veq_eq 6 h1, Nat.le_of_ble_eq_true h3, subL_mem h4⟩
theorem meCheck_ok {e : ME} : ∀ {o : Outs VH}, meCheck e o = true → o ≠ .fail ∧ ∀ x, inO x o → meOne e x = true := by
  intro o
  induction o with
  | fail => intro h; cases h
  | one a => intro h; exact ⟨by simp, fun x hx => by cases hx; exact h⟩
  | more a r ih =>
    intro h
    obtain ⟨h1, h2⟩ := bc_and (show bc (meOne e a) (meCheck e r) false = true from h)
    exact ⟨by simp, fun x hx => by
      rcases hx with q | q
      · rw [q]; exact h1
      · exact (ih h2).2 x q⟩
/-- an entry that the evaluator bears out -/
theorem memo_ok (ok : CxOK P) {K : Kx} (ot : OrcT P K) {i : Nat} (mt : MemoT P K i) {n : Nat} {e : ME} (hr : memoRun P i n e = true) : MemoOK P K e := by
  obtain ⟨h1, h2⟩ := bc_and hr
  refine ⟨subL_mem h1, fun M w args' k s cx ha => ?_⟩
  obtain ⟨h3, h4⟩ := meCheck_ok h2
  refine (callN_ok ok (rec_ok ok ot mt n) cx s ha h3).mono ?_
  rintro en w' ⟨x, M', u, rfl, hx, hv, nx⟩
  obtain ⟨e1, e2, e3⟩ := meOne_ok (h4 x hx)
  exact ⟨(e.v, mkH e.n1 e.l1), M', u, rfl, inO_one _, e1 ▸ hv, nx.less (fun b o hb => e3 b o (mkH_tr hb)) e2 rfl⟩
theorem memoT_zero {K : Kx} : MemoT P K 0 := fun j _ hj => absurd hj (Nat.not_lt_zero j)
theorem memoT_succ {K : Kx} {i : Nat} {e : ME} (mt : MemoT P K i) (hi : P.memo[i]? = some e) (he : MemoOK P K e) : MemoT P K (i + 1) := fun j e' hj hje => by
  rcases Nat.lt_succ_iff_lt_or_eq.1 hj with q | q
  · exact mt j e' q hje
  · subst q; rw [hi] at hje; cases hje; exact he
end Go.Ev
