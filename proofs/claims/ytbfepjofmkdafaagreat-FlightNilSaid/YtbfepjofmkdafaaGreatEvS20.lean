/- Regions that draw their order (own work). -/
import Derived.Test.YtbfepjofmkdafaaGreatEvS19
namespace Go.Ev
variable {P : Cx} {M M0 : Mu} {h h' h0 : AH} {w w' w0 : World}

/-- an operation that has been gone through ahead of its time -/
def LagF (P : Cx) (E : Env) (h : AH) (base : Nat) (pend : List (PO × Nat)) (rd : List PO) (x : PO) : Prop :=
  ∃ b, wantedE E x.c.guard = some b ∧
    ((b = false ∧ ∀ d, x.c.dst = some d → E.get d = some undef) ∨
     (b = true ∧ ∃ v, (∀ d, x.c.dst = some d → E.get d = some v) ∧
      ((x.c.kind = 0 ∧ ∀ h', x.c.run P E h' = some (.val v h')) ∨
       (x.c.kind = 1 ∧ x ∈ rd ∧ readP P E h pend x = some v) ∨
       (x.c.kind = 2 ∧ (x, base + x.i) ∈ pend ∧ ∃ (k : NK) (mk : Nat → Value), v = mk (base + x.i) ∧ (∀ o', k = .obj o' → grpOf o' = none) ∧ ∀ h', x.c.run P E h' = some (.val (mk h'.next) (addK k h'))))))
structure DI (P : Cx) (ops : Array Oper) (L : List PO) (R : Rec) (lo sz mask : Nat) (M0 : Mu) (h0 : AH) (w0 : World) (outs : Out)
    (listed : Array Bool) (dn lag rest : List PO) (E : Env) (h : AH) (pend : List (PO × Nat)) (rd : List PO) (M : Mu) (a : Act) (w : World) : Prop where
  split : L = dn ++ rest
  lagsub : ∀ x ∈ lag, x ∈ dn
  kinds : ∀ x ∈ lag, x.c.kind < 3
  unl : ∀ i, i < ops.size → (listed.getD i true = false ↔ ∃ x, (x ∈ lag ∨ x ∈ rest) ∧ x.i = i)
  lsz : listed.size = ops.size
  cl : CL ops listed
  nx : Nxt P M0 h0 w0 M h w
  hnext : h0.next + ops.size ≤ h.next
  env : ∀ k v, E.get k = some v → (∃ x ∈ lag, x.c.dst = some k) ∨ ∃ u, a.tmps[k]? = some u ∧ VR M v u
  hE : ∀ k v, E.all.get k = some v → mask.testBit k = true
  mks : Marks M h w lo a.defers
  asz : a.tmps.size = sz
  lagf : ∀ x ∈ lag, LagF P E h h0.next pend rd x
  pdn : ∀ p ∈ pend, p.1 ∈ dn ∧ p.2 = h0.next + p.1.i ∧ p.1.c.kind = 2
  pw : ∀ p ∈ pend, p.1 ∈ lag → wantedE E p.1.c.guard = some true
  pf : ∀ p ∈ pend, p.1 ∉ lag → PE P M w w0 E p
  free : ∀ x, (x ∈ lag ∨ x ∈ rest) → M (h0.next + x.i) = none
  pnh : ∀ p ∈ pend, ∀ i, M p.2 = some i → ¬ Held M h i.blk
  pdis : ∀ p ∈ pend, ∀ q ∈ pend, p.2 ≠ q.2 → ∀ i j, M p.2 = some i → M q.2 = some j → i.blk ≠ j.blk
  gfree : ∀ x, ((∃ id, (x, id) ∈ pend) ∨ x ∈ rest) → ∀ b cs e g, h.tr.get b = some (.cells cs e g) → g ≠ h0.next + x.i
  pnd : (pend.map (·.2)).Nodup
  nf : drawL P R mask h0.next rest E h pend rd ≠ .fail
  sub : ∀ s, inO s (drawL P R mask h0.next rest E h pend rd) → inO s outs

theorem pair_cases {α : Type} {Q : α → α → Prop} : ∀ {l : List α}, l.Pairwise Q → ∀ {x y : α}, x ∈ l → y ∈ l → x = y ∨ Q x y ∨ Q y x := by
  intro l
  induction l with
  | nil => intro _ x y hx; cases hx
  | cons z r ih =>
    intro h x y hx hy
    rw [List.pairwise_cons] at h
    rcases List.mem_cons.1 hx with p | p
    · rcases List.mem_cons.1 hy with q | q
      · exact .inl (p.trans q.symm)
      · subst p; exact .inr (.inl (h.1 y q))
    · rcases List.mem_cons.1 hy with q | q
      · subst q; exact .inr (.inr (h.1 x p))
      · exact ih h.2 p q
theorem getD_two {l : Array Bool} {j : Nat} (h1 : l.getD j false = true) (h2 : l.getD j true = false) : False := by
  rw [Array.getD_eq_getD_getElem?] at h1 h2
  cases hq : l[j]? with
  | none => rw [hq] at h1; cases h1
  | some b => rw [hq] at h1 h2; simp at h1 h2; rw [h1] at h2; cases h2
theorem readP_eq (E : Env) (h : AH) (pend : List (PO × Nat)) (x : PO) : readP P E h pend x = match matP P E x.w pend h with
    | some h1 => match x.c.run P E h1 with
      | some (.val v _) => some v
      | _ => none
    | none => none := rfl
theorem readP_congr {E E' : Env} {pend : List (PO × Nat)} {x : PO} (hp : ∀ p ∈ pend, ∀ h, p.1.c.run P E h = p.1.c.run P E' h) (hx : ∀ h, x.c.run P E h = x.c.run P E' h) (h : AH) : readP P E h pend x = readP P E' h pend x := by
  rw [readP_eq, readP_eq, matP_congr hp]
  cases matP P E' x.w pend h with
  | none => rfl
  | some h1 => simp only [hx]
theorem readP_skip {E : Env} {pend : List (PO × Nat)} {x : PO} {q : PO × Nat} (hq : x.w.testBit q.1.i = false) (h : AH) : readP P E h (q :: pend) x = readP P E h pend x := by
  rw [readP_eq, readP_eq, matP_cons, if_neg (by rw [hq]; simp)]
theorem readP_some {E : Env} {pend : List (PO × Nat)} {x : PO} {v : Value} (hr : readP P E h pend x = some v) : ∃ h1 h2, matP P E x.w pend h = some h1 ∧ x.c.run P E h1 = some (.val v h2) := by
  rw [readP_eq] at hr
  cases hm : matP P E x.w pend h with
  | none => rw [hm] at hr; cases hr
  | some h1 =>
    rw [hm] at hr
    simp only at hr
    cases hx : x.c.run P E h1 with
    | none => rw [hx] at hr; cases hr
    | some r =>
      rw [hx] at hr
      cases r with
      | val u h2 => simp only [Option.some.injEq] at hr; subst hr; exact ⟨h1, h2, rfl, hx⟩
      | _ => cases hr

section
variable {ops : Array Oper} {L : List PO} {R : Rec} {lo sz mask : Nat} {outs : Out} {listed : Array Bool} {dn lag rest r : List PO} {E : Env} {pend : List (PO × Nat)} {rd : List PO} {a : Act} {x : PO}

theorem DI.mem (d : DI P ops L R lo sz mask M0 h0 w0 outs listed dn lag rest E h pend rd M a w) {y : PO} (hy : y ∈ lag ∨ y ∈ rest) : y ∈ L := by
  rw [d.split]
  rcases hy with q | q
  · exact List.mem_append_left _ (d.lagsub y q)
  · exact List.mem_append_right _ q
theorem DI.open_ (pl : PlanOK P ops L) (d : DI P ops L R lo sz mask M0 h0 w0 outs listed dn lag rest E h pend rd M a w) {y : PO} (hy : y ∈ lag ∨ y ∈ rest) : listed.getD y.i true = false := by
  obtain ⟨o, it⟩ := pl.item y (d.mem hy)
  have hlt := (Array.getElem?_eq_some_iff.1 it.op).1
  exact (d.unl y.i hlt).2 ⟨y, hy, rfl⟩
theorem DI.pairs (pl : PlanOK P ops L) (d : DI P ops L R lo sz mask M0 h0 w0 outs listed dn lag rest E h pend rd M a w) {y z : PO} (hy : y ∈ dn) (hz : z ∈ rest) : PairOK y z := by
  have := pl.pair
  rw [d.split, List.pairwise_append] at this
  exact this.2.2 y hy z hz
theorem idx_inj (pl : PlanOK P ops L) {y z : PO} (hy : y ∈ L) (hz : z ∈ L) (he : y.i = z.i) : y = z := by
  rcases pair_cases pl.pair hy hz with q | q | q
  · exact q
  · exact absurd he q.ne
  · exact absurd he.symm q.ne

/-- what can be gone through ahead of its time is gone through -/
theorem DI.adv (pl : PlanOK P ops L) (d : DI P ops L R lo sz mask M0 h0 w0 outs listed dn lag (x :: r) E h pend rd M a w) (hk : x.c.kind < 3) {v : Value} {pend' : List (PO × Nat)} {rd' : List PO}
    (hp : pend' = pend ∨ (x.c.kind = 2 ∧ pend' = (x, h0.next + x.i) :: pend ∧ wantedE E x.c.guard = some true)) (hrd : ∀ y ∈ rd, y ∈ rd')
    (hlag : LagF P (putE E x.c.dst v) h h0.next pend' rd' x) (heq : drawL P R mask h0.next (x :: r) E h pend rd = drawL P R mask h0.next r (putE E x.c.dst v) h pend' rd') :
    DI P ops L R lo sz mask M0 h0 w0 outs listed (dn ++ [x]) (x :: lag) r (putE E x.c.dst v) h pend' rd' M a w := by
  -- what it turns nobody ahead of it looks at
  have hpair : ∀ y ∈ dn, PairOK y x := fun y hy => d.pairs pl hy (by simp)
  have hoff : ∀ y ∈ dn, (∀ t, x.c.dst = some t → y.rb.testBit t = false) ∧ ∀ t, x.c.dst = some t → y.c.dst ≠ some t := by
    intro y hy
    rcases (hpair y hy).later with ⟨_, q⟩ | q
    · omega
    · exact q
  have hag : ∀ y ∈ dn, AgR y (putE E x.c.dst v) E := fun y hy t ht => by
    rw [putE_get, if_neg]
    intro hd
    rw [(hoff y hy).1 t hd] at ht; cases ht
  have hrun : ∀ y ∈ dn, ∀ h, y.c.run P (putE E x.c.dst v) h = y.c.run P E h := fun y hy h => by
    obtain ⟨o, it⟩ := pl.item y (by rw [d.split]; exact List.mem_append_left _ hy)
    exact item_run it (hag y hy) h
  have hwant : ∀ y ∈ dn, wantedE (putE E x.c.dst v) y.c.guard = wantedE E y.c.guard := fun y hy => by
    obtain ⟨o, it⟩ := pl.item y (by rw [d.split]; exact List.mem_append_left _ hy)
    exact item_wanted it (hag y hy)
  have hdst : ∀ y ∈ dn, ∀ t, y.c.dst = some t → (putE E x.c.dst v).get t = E.get t := fun y hy t ht => by
    rw [putE_get, if_neg (fun q => (hoff y hy).2 t q ht)]
  have hpm : ∀ p ∈ pend', p ∈ pend ∨ (p = (x, h0.next + x.i) ∧ x.c.kind = 2 ∧ wantedE E x.c.guard = some true) := by
    intro p hp'
    rcases hp with q | ⟨q1, q2, q3⟩
    · rw [q] at hp'; exact .inl hp'
    · rw [q2] at hp'
      rcases List.mem_cons.1 hp' with q | q
      · exact .inr ⟨q, q1, q3⟩
      · exact .inl q
  have hpsub : ∀ p ∈ pend, p ∈ pend' := by
    intro p hp'
    rcases hp with q | ⟨q1, q2, q3⟩
    · rw [q]; exact hp'
    · rw [q2]; exact List.mem_cons_of_mem _ hp'
  have hxw : wantedE (putE E x.c.dst v) x.c.guard = wantedE E x.c.guard := by
    obtain ⟨o, it⟩ := pl.item x (d.mem (.inr (by simp)))
    refine item_wanted it fun t ht => ?_
    rw [putE_get, if_neg]
    intro hd
    rw [pl.self x (d.mem (.inr (by simp))) hk t hd] at ht; cases ht
  refine ⟨by rw [d.split]; simp, ?_, ?_, ?_, d.lsz, d.cl, d.nx, d.hnext, ?_, ?_, d.mks, d.asz, ?_, ?_, ?_, ?_, ?_, ?_, ?_, ?_, ?_, by rw [← heq]; exact d.nf, by rw [← heq]; exact d.sub⟩
  · intro y hy
    rcases List.mem_cons.1 hy with q | q
    · simp [q]
    · exact List.mem_append_left _ (d.lagsub y q)
  · intro y hy
    rcases List.mem_cons.1 hy with q | q
    · rw [q]; exact hk
    · exact d.kinds y q
  · intro i hi
    rw [d.unl i hi]
    constructor
    · rintro ⟨y, q | q, he⟩
      · exact ⟨y, .inl (List.mem_cons_of_mem _ q), he⟩
      · rcases List.mem_cons.1 q with q | q
        · exact ⟨y, .inl (by simp [q]), he⟩
        · exact ⟨y, .inr q, he⟩
    · rintro ⟨y, q | q, he⟩
      · rcases List.mem_cons.1 q with q | q
        · exact ⟨y, .inr (by simp [q]), he⟩
        · exact ⟨y, .inl q, he⟩
      · exact ⟨y, .inr (List.mem_cons_of_mem _ q), he⟩
  · intro k u hku
    rw [putE_get] at hku
    by_cases hd : x.c.dst = some k
    · exact .inl ⟨x, by simp, hd⟩
    · rw [if_neg hd] at hku
      rcases d.env k u hku with ⟨y, hy, q⟩ | q
      · exact .inl ⟨y, List.mem_cons_of_mem _ hy, q⟩
      · exact .inr q
  · intro k u hku
    rw [putE_all] at hku; exact d.hE k u hku
  · intro y hy
    rcases List.mem_cons.1 hy with q | q
    · rw [q]; exact hlag
    · have hyd := d.lagsub y q
      obtain ⟨b, hb, hcase⟩ := d.lagf y q
      refine ⟨b, by rw [hwant y hyd]; exact hb, ?_⟩
      rcases hcase with ⟨hbf, hd⟩ | ⟨hbt, u, hd, hkk⟩
      · exact .inl ⟨hbf, fun t ht => by rw [hdst y hyd t ht]; exact hd t ht⟩
      · refine .inr ⟨hbt, u, fun t ht => by rw [hdst y hyd t ht]; exact hd t ht, ?_⟩
        rcases hkk with ⟨k0, hr⟩ | ⟨k1, hm, hr⟩ | ⟨k2, hm, k, mk, h1, h2, h3⟩
        · exact .inl ⟨k0, fun h' => by rw [hrun y hyd]; exact hr h'⟩
        · refine .inr (.inl ⟨k1, hrd y hm, ?_⟩)
          have e1 : readP P (putE E x.c.dst v) h pend y = readP P E h pend y := readP_congr (fun p hp' h => hrun p.1 (d.pdn p hp').1 h) (hrun y hyd) h
          rcases hp with q | ⟨q1, q2, q3⟩
          · rw [q, e1]; exact hr
          · rw [q2, readP_skip (hpair y hyd).nw, e1]; exact hr
        · exact .inr (.inr ⟨k2, hpsub _ hm, k, mk, h1, h2, fun h' => by rw [hrun y hyd]; exact h3 h'⟩)
  · intro p hp'
    rcases hpm p hp' with q | ⟨q, q2, _⟩
    · obtain ⟨g1, g2⟩ := d.pdn p q
      exact ⟨List.mem_append_left _ g1, g2⟩
    · rw [q]; exact ⟨by simp, rfl, q2⟩
  · intro p hp' hl
    rcases hpm p hp' with q | ⟨q, _, q3⟩
    · have hpd := (d.pdn p q).1
      rw [hwant p.1 hpd]
      rcases List.mem_cons.1 hl with q' | q'
      · exact absurd (by rw [q']) (hpair p.1 hpd).ne
      · exact d.pw p q q'
    · rw [q]; rw [hxw]; exact q3
  · intro p hp' hl
    rcases hpm p hp' with q | ⟨q, _, _⟩
    · have hpd := (d.pdn p q).1
      exact (d.pf p q (fun q' => hl (List.mem_cons_of_mem _ q'))).next (Mu.le_refl M) (fun _ _ _ => rfl) (hrun p.1 hpd)
    · exact absurd (by rw [q]; simp) hl
  · intro y hy
    refine d.free y ?_
    rcases hy with q | q
    · rcases List.mem_cons.1 q with q | q
      · exact .inr (by simp [q])
      · exact .inl q
    · exact .inr (List.mem_cons_of_mem _ q)
  · intro p hp' i hi
    rcases hpm p hp' with q | ⟨q, _, _⟩
    · exact d.pnh p q i hi
    · rw [q] at hi
      have := d.free x (.inr (by simp))
      simp only at hi
      rw [this] at hi; cases hi
  · intro p hp' q hq hne i j hi hj
    have nox : ∀ p : PO × Nat, p = (x, h0.next + x.i) → ∀ i, M p.2 = some i → False := by
      intro p hpx i hi
      rw [hpx] at hi
      have := d.free x (.inr (by simp))
      simp only at hi
      rw [this] at hi; cases hi
    rcases hpm p hp' with q1 | ⟨q1, _, _⟩
    · rcases hpm q hq with q2 | ⟨q2, _, _⟩
      · exact d.pdis p q1 q q2 hne i j hi hj
      · exact (nox q q2 j hj).elim
    · exact (nox p q1 i hi).elim
  · intro y hy
    refine d.gfree y ?_
    rcases hy with ⟨id, q⟩ | q
    · rcases hpm _ q with q | ⟨q, _, _⟩
      · exact .inl ⟨id, q⟩
      · exact .inr (by simp [(Prod.mk.inj q).1])
    · exact .inr (List.mem_cons_of_mem _ q)
  · rcases hp with q | ⟨_, q2, _⟩
    · rw [q]; exact d.pnd
    · rw [q2, List.map_cons, List.nodup_cons]
      refine ⟨fun hm => ?_, d.pnd⟩
      obtain ⟨p, hp', he⟩ := List.mem_map.1 hm
      obtain ⟨g1, g2, _⟩ := d.pdn p hp'
      have hne := (hpair p.1 g1).ne
      rw [g2] at he
      simp only at he
      omega
/-- ahead of the next effect -/
theorem DI.norm (pl : PlanOK P ops L) : ∀ {rest dn lag : List PO} {E : Env} {pend : List (PO × Nat)} {rd : List PO},
    DI P ops L R lo sz mask M0 h0 w0 outs listed dn lag rest E h pend rd M a w →
    ∃ dn' lag' rest' E' pend' rd', DI P ops L R lo sz mask M0 h0 w0 outs listed dn' lag' rest' E' h pend' rd' M a w ∧ (lag' ++ rest').length = (lag ++ rest).length ∧ ∀ x r, rest' = x :: r → 3 ≤ x.c.kind := by
  intro rest
  induction rest with
  | nil => intro dn lag E pend rd d; exact ⟨dn, lag, [], E, pend, rd, d, rfl, fun x r h => by cases h⟩
  | cons x r ih =>
    intro dn lag E pend rd d
    by_cases hk : x.c.kind < 3
    · have hxL := d.mem (.inr (List.mem_cons_self : x ∈ x :: r))
      obtain ⟨o, it⟩ := pl.item x hxL
      have fin : ∀ {dn' lag' E' pend' rd'}, DI P ops L R lo sz mask M0 h0 w0 outs listed dn' (x :: lag') r E' h pend' rd' M a w → lag' = lag →
          ∃ dn' lag' rest' E' pend' rd', DI P ops L R lo sz mask M0 h0 w0 outs listed dn' lag' rest' E' h pend' rd' M a w ∧ (lag' ++ rest').length = (lag ++ x :: r).length ∧ ∀ x r, rest' = x :: r → 3 ≤ x.c.kind := by
        intro dn' lag' E' pend' rd' d' hl
        obtain ⟨a1, a2, a3, a4, a5, a6, q1, q2, q3⟩ := ih d'
        refine ⟨a1, a2, a3, a4, a5, a6, q1, ?_, q3⟩
        rw [q2, hl]; simp; omega
      have hself : ∀ v : Value, AgR x (putE E x.c.dst v) E := fun v t ht => by
        rw [putE_get, if_neg]
        intro hd
        rw [pl.self x hxL hk t hd] at ht; cases ht
      have hnf := d.nf
      have hstep : drawL P R mask h0.next (x :: r) E h pend rd = drawStep P R h0.next x (drawL P R mask h0.next r) E h pend rd := rfl
      rw [hstep] at hnf
      unfold drawStep at hnf hstep
      have hb3 : Nat.ble 3 x.c.kind = false := by
        cases hq : Nat.ble 3 x.c.kind with
        | false => rfl
        | true => have := bleN hq; omega
      cases hw : wantedE E x.c.guard with
      | none => rw [hw] at hnf; exact absurd rfl hnf
      | some b =>
        rw [hw] at hnf hstep
        simp only [hb3, bc_false] at hnf hstep
        cases b with
        | false =>
          try simp only [bc_false] at hnf hstep
          refine fin (d.adv pl hk (v := undef) (.inl rfl) (fun _ q => q) ⟨false, ?_, .inl ⟨rfl, fun t ht => by rw [putE_get, if_pos ht]⟩⟩ hstep) rfl
          rw [item_wanted it (hself undef)]; exact hw
        | true =>
          try simp only [bc_true] at hnf hstep
          have hkc : x.c.kind = 0 ∨ x.c.kind = 1 ∨ x.c.kind = 2 := by omega
          rcases hkc with k0 | k1 | k2
          · have hb0 : Nat.beq x.c.kind 0 = true := by rw [k0]; rfl
            simp only [hb0] at hnf hstep
            unfold drawPure at hnf hstep
            cases hr : x.c.run P E h with
            | none => rw [hr] at hnf; exact absurd rfl hnf
            | some res =>
              rw [hr] at hnf hstep
              have hkind : (compOp P o (guardOf ops o)).kind = 0 := by rw [← it.c]; exact k0
              obtain ⟨v, rfl, hall⟩ := op_pure hkind (by rw [← it.c]; exact hr)
              rw [← it.c] at hall
              simp only at hnf hstep
              refine fin (d.adv pl hk (v := v) (.inl rfl) (fun _ q => q) ⟨true, ?_, .inr ⟨rfl, v, fun t ht => by rw [putE_get, if_pos ht], .inl ⟨k0, fun h' => ?_⟩⟩⟩ hstep) rfl
              · rw [item_wanted it (hself v)]; exact hw
              · rw [item_run it (hself v)]; exact hall h'
          · have hb0 : Nat.beq x.c.kind 0 = false := by rw [k1]; rfl
            have hb1 : Nat.beq x.c.kind 1 = true := by rw [k1]; rfl
            simp only [hb0, hb1] at hnf hstep
            unfold drawRead at hnf hstep
            cases hr : readP P E h pend x with
            | none => rw [hr] at hnf; exact absurd rfl hnf
            | some v =>
              rw [hr] at hnf hstep
              simp only at hnf hstep
              refine fin (d.adv pl hk (v := v) (rd' := x :: rd) (.inl rfl) (fun _ q => List.mem_cons_of_mem _ q) ⟨true, ?_, .inr ⟨rfl, v, fun t ht => by rw [putE_get, if_pos ht], .inr (.inl ⟨k1, by simp, ?_⟩)⟩⟩ hstep) rfl
              · rw [item_wanted it (hself v)]; exact hw
              · rw [← hr]
                refine readP_congr (fun p hp h => ?_) (item_run it (hself v)) h
                have hpd := (d.pdn p hp).1
                obtain ⟨o', it'⟩ := pl.item p.1 (by rw [d.split]; exact List.mem_append_left _ hpd)
                refine item_run it' (fun t ht => ?_) h
                rw [putE_get, if_neg]
                intro hd
                rcases (d.pairs pl hpd (List.mem_cons_self : x ∈ x :: r)).later with ⟨_, q⟩ | q
                · omega
                · rw [q.1 t hd] at ht; cases ht
          · have hb0 : Nat.beq x.c.kind 0 = false := by rw [k2]; rfl
            have hb1 : Nat.beq x.c.kind 1 = false := by rw [k2]; rfl
            simp only [hb0, hb1] at hnf hstep
            unfold drawNew at hnf hstep
            cases hr : x.c.run P E { h with next := Nat.add h0.next x.i } with
            | none => rw [hr] at hnf; exact absurd rfl hnf
            | some res =>
              rw [hr] at hnf hstep
              have hkind : (compOp P o (guardOf ops o)).kind = 2 := by rw [← it.c]; exact k2
              obtain ⟨k, mk, g1, g2⟩ := op_new hkind (by rw [← it.c]; exact hr)
              rw [← it.c] at g2
              rw [g2] at hr
              simp only [Option.some.injEq] at hr
              subst hr
              simp only at hnf hstep
              refine fin (d.adv pl hk (v := mk (h0.next + x.i)) (pend' := (x, h0.next + x.i) :: pend) (.inr ⟨k2, rfl, hw⟩) (fun _ q => q)
                ⟨true, ?_, .inr ⟨rfl, mk (h0.next + x.i), fun t ht => by rw [putE_get, if_pos ht], .inr (.inr ⟨k2, by simp, k, mk, rfl, g1, fun h' => ?_⟩)⟩⟩ hstep) rfl
              · rw [item_wanted it (hself _)]; exact hw
              · rw [item_run it (hself _)]; exact g2 h'
    · exact ⟨dn, lag, x :: r, E, pend, rd, d, rfl, fun y s h => by cases h; omega⟩
end
end Go.Ev
