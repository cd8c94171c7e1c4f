/- Blocks that come in late (own work). -/
import Derived.Test.YtbfepjofmkdafaaGreatEvS18
namespace Go.Ev
variable {P : Cx} {M M0 : Mu} {h h' h0 : AH} {w w' w0 : World}

theorem held_not_deferred (s : SR P M h w) {r : Nat} {d : Option (List Deferred)} (hr : w.heap[r]? = some (.deferred d)) : ¬ Held M h r := by
  rintro ⟨b, o, i, hb, hi, rfl⟩
  obtain ⟨j, hj, ho⟩ := s.obj b o hb
  rw [hi] at hj; cases hj
  cases o with
  | cells cs e g => obtain ⟨c, lo, hi2, h1, _⟩ := ho; rw [hr] at h1; cases h1
  | map es c => obtain ⟨es', h1, _⟩ := ho; rw [hr] at h1; cases h1
  | mapIter m si se st => obtain ⟨m', se', h1, _⟩ := ho; rw [hr] at h1; cases h1
  | strIter y p => rw [ho.1] at hr; cases hr
  | loop T ps as bd m p => obtain ⟨r', h1, _⟩ := ho; rw [hr] at h1; cases h1
theorem Marks.of {lo : Nat} {ds : List Deferred} (m : Marks M h w lo ds) {M' : Mu} (s : SR P M' h' w') (hk : ∀ r, lo ≤ r → w.heap[r]? = some (.deferred (some [])) → w'.heap[r]? = some (.deferred (some []))) : Marks M' h' w' lo ds := by
  obtain ⟨rs, h1, h2, h3⟩ := m
  refine ⟨rs, h1, h2, fun r hr => ?_⟩
  obtain ⟨g1, g2, _⟩ := h3 r hr
  have := hk r g1 g2
  exact ⟨g1, this, held_not_deferred s this⟩
/-- a number is set aside -/
theorem nxt_reserve (s : SR P M h w) (n : Nat) : Nxt P M h w M { h with next := h.next + n } w := by
  have hai : AI { h with next := h.next + n } := by
    intro b cs e g hb
    obtain ⟨h1, h2⟩ := s.ai b cs e g hb
    have : b < h.next + n := by omega
    exact ⟨h1, this⟩
  exact { Nxt.refl s with
    sr := ⟨hai, s.obj, s.sep, fun b hb => s.fresh b (Nat.le_trans (Nat.le_add_right _ _) hb), Nat.le_trans s.lon (Nat.le_add_right _ _)⟩
    next := Nat.le_add_right _ _ }
/-- what stands at a number that comes in -/
theorem addK_tr (k : NK) (h : AH) (b : Nat) : (addK k h).tr.get b = if b = h.next then some (aoK k h.next) else h.tr.get b := by
  cases k with
  | row cs e => simp only [addK, aoK, AH.newCells, Tr.get_put]
  | obj o => simp only [addK, aoK, AH.newObj, Tr.get_put]
noncomputable def matK (k : NK) (id : Nat) (h : AH) : AH := { (addK k { h with next := id }) with next := h.next }
theorem matK_tr (k : NK) (id : Nat) (h : AH) (b : Nat) : (matK k id h).tr.get b = if b = id then some (aoK k id) else h.tr.get b := addK_tr k { h with next := id } b
theorem matK_get (k : NK) (id : Nat) (h : AH) (hk : ∀ o', k = .obj o' → grpOf o' = none) (hg : ∀ b cs e g, h.tr.get b = some (.cells cs e g) → g ≠ id) (b : Nat) :
    (matK k id h).get b = if b = id then some (aoK k id) else h.get b := by
  rw [get_def, get_def, matK_tr]
  by_cases hb : b = id
  · rw [if_pos hb, if_pos hb]
    cases k with
    | obj o => exact live_noGrp (hk o rfl) _
    | row cs e =>
      have hok : okGrp (matK (.row cs e) id h) b id = true := by
        unfold okGrp matK addK AH.newCells
        simp only [Tr.get_put, if_true]
        rw [memN_iff]; simp [hb]
      simp only [aoK, live, hok, if_true]
  · rw [if_neg hb, if_neg hb]
    refine live_congr fun cs e g hx => ?_
    have hne := hg b cs e g hx
    cases k with
    | obj o => rfl
    | row cs' e' =>
      unfold okGrp matK addK AH.newCells
      simp only [Tr.get_put, if_neg hne]
/-- a block whose object has been made comes into the heap -/
theorem nxt_mat {id : Nat} {k : NK} {i : Img} (nx : Nxt P M0 h0 w0 M h w) (hid : M id = some i) (hge : h0.next ≤ id) (hlt : id < h.next) (hnh : ¬ Held M h i.blk) (hnb : w0.heap.size ≤ i.blk)
    (hg : ∀ b cs e g, h.tr.get b = some (.cells cs e g) → g ≠ id) (hk : ∀ o', k = .obj o' → grpOf o' = none) (ho : OR P M i w (aoK k id)) : Nxt P M0 h0 w0 M (matK k id h) w := by
  have hget := matK_get k id h hk hg
  have hne : ∀ b o, h.get b = some o → b ≠ id := fun b o hb e => hnh ⟨b, o, i, hb, by rw [e]; exact hid, rfl⟩
  have hlo : (matK k id h).lo = h.lo := by cases k <;> rfl
  have hnx : (matK k id h).next = h.next := rfl
  refine ⟨⟨?_, ?_, ?_, nx.sr.fresh, by rw [hlo]; exact nx.sr.lon⟩, nx.mu, nx.next, nx.old, ?_, nx.kept, nx.size, nx.os, nx.tape, nx.output, by rw [hlo]; exact nx.lo, ?_, ?_, ?_, ?_⟩
  · intro b cs e g hb
    rw [matK_tr] at hb
    by_cases he : b = id
    · rw [if_pos he] at hb
      cases k with
      | row cs' e' => simp only [aoK, Option.some.injEq, AO.cells.injEq] at hb; rw [hnx]; omega
      | obj o => simp only [aoK, Option.some.injEq] at hb; have := hk o rfl; rw [hb] at this; cases this
    · rw [if_neg he] at hb; rw [hnx]; exact nx.sr.ai b cs e g hb
  · intro b o hb
    rw [hget] at hb
    by_cases he : b = id
    · rw [if_pos he] at hb; cases hb; exact ⟨i, by rw [he]; exact hid, ho⟩
    · rw [if_neg he] at hb; exact nx.sr.obj b o hb
  · intro b b' o o' i1 i2 h1 h2 m1 m2 hb
    rw [hget] at h1 h2
    by_cases e1 : b = id
    · by_cases e2 : b' = id
      · exact .inl (e1.trans e2.symm)
      · rw [if_neg e2] at h2
        rw [e1, hid] at m1; cases m1
        exact absurd ⟨b', o', i2, h2, m2, hb.symm⟩ hnh
    · rw [if_neg e1] at h1
      by_cases e2 : b' = id
      · rw [e2, hid] at m2; cases m2
        exact absurd ⟨b, o, i1, h1, m1, hb⟩ hnh
      · rw [if_neg e2] at h2; exact nx.sr.sep b b' o o' i1 i2 h1 h2 m1 m2 hb
  · rintro x ⟨b, o, j, hb, hj, hx⟩
    rw [hget] at hb
    by_cases he : b = id
    · rw [he, hid] at hj; cases hj; exact .inr (by omega)
    · rw [if_neg he] at hb; exact nx.img x ⟨b, o, j, hb, hj, hx⟩
  · intro b hb hbn
    rw [hlo] at hb
    rw [hget, if_neg (by omega)]; exact nx.fp b hb hbn
  · intro b cs e g hb
    rw [matK_tr] at hb
    by_cases he : b = id
    · rw [if_pos he] at hb
      cases k with
      | row cs' e' => simp only [aoK, Option.some.injEq, AO.cells.injEq] at hb; left; omega
      | obj o => simp only [aoK, Option.some.injEq] at hb; have := hk o rfl; rw [hb] at this; cases this
    · rw [if_neg he] at hb; exact nx.grp b cs e g hb
  · intro b cs e g hb hn hgn
    rw [hlo]
    rw [matK_tr] at hb
    by_cases he : b = id
    · rw [if_pos he] at hb
      cases k with
      | row cs' e' => simp only [aoK, Option.some.injEq, AO.cells.injEq] at hb; omega
      | obj o => simp only [aoK, Option.some.injEq] at hb; have := hk o rfl; rw [hb] at this; cases this
    · rw [if_neg he] at hb; exact nx.gl b cs e g hb hn hgn
  · intro b cs e g hb hn
    rw [matK_tr, if_neg (by omega)] at hb
    exact nx.gb b cs e g hb hn
/-- an object is made that the heap does not hold yet -/
theorem nxt_hidden {id : Nat} {i : Img} {ob : Obj} (nx : Nxt P M0 h0 w0 M h w) (hid : M id = none) (hge : h0.next ≤ id) (hlt : id < h.next) (gw : Grew w w' ob) : Nxt P M0 h0 w0 (M.set id i) h w' := by
  have hle : M.le (M.set id i) := Mu.le_set i hid
  have hne : ∀ b o, h.get b = some o → b ≠ id := fun b o hb e => by
    obtain ⟨j, hj, _⟩ := nx.sr.obj b o hb; rw [e, hid] at hj; cases hj
  have hheld : ∀ x, Held (M.set id i) h x → Held M h x := by
    rintro x ⟨b, o, j, hb, hj, hx⟩
    rw [Mu.set_other M i (hne b o hb)] at hj
    exact ⟨b, o, j, hb, hj, hx⟩
  refine ⟨⟨nx.sr.ai, ?_, ?_, ?_, nx.sr.lon⟩, Mu.le_trans nx.mu hle, nx.next, ?_, fun x hx => nx.img x (hheld x hx), ?_, by rw [gw.size]; have := nx.size; omega, gw.os.trans nx.os, gw.tape.trans nx.tape, gw.output.trans nx.output, nx.lo, nx.fp, nx.grp, nx.gl, nx.gb⟩
  · intro b o hb
    obtain ⟨j, hj, ho⟩ := nx.sr.obj b o hb
    exact ⟨j, hle _ _ hj, (ho.mono hle).world (gw.old _ ho.lt)⟩
  · intro b b' o o' i1 i2 h1 h2 m1 m2 hb
    rw [Mu.set_other M i (hne b o h1)] at m1
    rw [Mu.set_other M i (hne b' o' h2)] at m2
    exact nx.sr.sep b b' o o' i1 i2 h1 h2 m1 m2 hb
  · intro b hb
    rw [Mu.set_other M i (by omega)]; exact nx.sr.fresh b hb
  · intro b hb
    rw [Mu.set_other M i (by omega)]; exact nx.old b hb
  · intro x hx hn
    rw [gw.old x (Nat.lt_of_lt_of_le hx nx.size)]; exact nx.kept x hx hn

-- what counts of the variables
theorem env_tree (E : Env) : ∃ T : Tr Value, ∀ k, T.get k = E.get k := by
  obtain ⟨loc, all⟩ := E
  induction loc with
  | nil => exact ⟨all, fun k => rfl⟩
  | cons x r ih =>
    obtain ⟨T, hT⟩ := ih
    refine ⟨T.put x.1 (some x.2), fun k => ?_⟩
    rw [Tr.get_put]
    show _ = getLoc k all (x :: r)
    rw [getLoc_cons]
    by_cases hk : k = x.1
    · rw [if_pos hk, if_pos hk.symm]
    · rw [if_neg hk, if_neg (Ne.symm hk)]; exact hT k
theorem env_without (E : Env) (l : List Nat) : ∃ E' : Env, ∀ k, E'.get k = if k ∈ l then none else E.get k := by
  obtain ⟨T, hT⟩ := env_tree E
  have : ∃ T' : Tr Value, ∀ k, T'.get k = if k ∈ l then none else E.get k := by
    induction l with
    | nil => exact ⟨T, fun k => by simp [hT]⟩
    | cons x r ih =>
      obtain ⟨T', hT'⟩ := ih
      refine ⟨T'.put x none, fun k => ?_⟩
      rw [Tr.get_put, hT']
      by_cases hk : k = x
      · simp [hk]
      · rw [if_neg hk]; simp [hk]
  obtain ⟨T', hT'⟩ := this
  exact ⟨⟨[], T'⟩, hT'⟩
theorem putE_get (E : Env) (d : Option Tmp) (v : Value) (k : Nat) : (putE E d v).get k = if d = some k then some v else E.get k := by
  cases d with
  | none => simp [putE]
  | some d =>
    show getLoc k E.all ((d, v) :: E.loc) = _
    rw [getLoc_cons]
    by_cases hk : d = k
    · simp [hk]
    · rw [if_neg hk, if_neg (by simpa using hk)]; rfl
def AgR (x : PO) (E E' : Env) : Prop := ∀ t, x.rb.testBit t = true → E.get t = E'.get t
section
variable {ops : Array Oper} {x : PO} {o : Oper} {E E' : Env}
theorem item_run (it : ItemOK P ops x o) (ag : AgR x E E') (h : AH) : x.c.run P E h = x.c.run P E' h := by
  rw [it.c]
  refine op_congr fun y hy => ?_
  cases y with
  | tmp t => exact ag t (it.rb t (by simpa using hy))
  | _ => rfl
theorem item_wanted (it : ItemOK P ops x o) (ag : AgR x E E') : wantedE E x.c.guard = wantedE E' x.c.guard := by
  rw [it.c, compOp_guard]
  cases hg : guardOf ops o with
  | none => rfl
  | some gw =>
    obtain ⟨d, want⟩ := gw
    cases d with
    | none => rfl
    | some d => simp only [wantedE, ag d (it.gb d want hg)]
theorem AgR.symm (ag : AgR x E E') : AgR x E' E := fun t ht => (ag t ht).symm
theorem AgR.put {v : Value} (hx : ∀ d, o.dst = some d → x.rb.testBit d = false) : AgR x (putE E o.dst v) E := fun t ht => by
  rw [putE_get, if_neg]
  intro hd
  rw [hx t hd] at ht; cases ht
end

theorem matP_nil (E : Env) (W : Nat) (h : AH) : matP P E W [] h = some h := rfl
theorem matP_cons (E : Env) (W : Nat) (x : PO × Nat) (l : List (PO × Nat)) (h : AH) :
    matP P E W (x :: l) h = if W.testBit x.1.i = true then (match x.1.c.run P E { h with next := x.2 } with
      | some (.val _ h') => matP P E W l { h' with next := h.next }
      | _ => none) else matP P E W l h := by
  show matStep P E W x (matP P E W l) h = _
  unfold matStep
  rw [bc_eq]
  by_cases hx : W.testBit x.1.i = true
  · rw [if_pos hx, if_pos hx]
    cases x.1.c.run P E { h with next := x.2 } with
    | none => rfl
    | some r => cases r <;> rfl
  · rw [if_neg hx, if_neg hx]
theorem leftP_cons (W : Nat) (x : PO × Nat) (l : List (PO × Nat)) : leftP W (x :: l) = if W.testBit x.1.i = true then leftP W l else x :: leftP W l := by
  show bc (Nat.testBit W x.1.i) (leftP W l) (x :: leftP W l) = _
  rw [bc_eq]
theorem leftR_cons (W : Nat) (x : PO) (l : List PO) : leftR W (x :: l) = if W.testBit x.i = true then leftR W l else x :: leftR W l := by
  show bc (Nat.testBit W x.i) (leftR W l) (x :: leftR W l) = _
  rw [bc_eq]
theorem leftP_mem {W : Nat} {p : PO × Nat} : ∀ {l : List (PO × Nat)}, p ∈ leftP W l ↔ p ∈ l ∧ W.testBit p.1.i = false := by
  intro l
  induction l with
  | nil => simp [leftP]
  | cons x r ih =>
    rw [leftP_cons]
    by_cases hx : W.testBit x.1.i = true
    · rw [if_pos hx, ih]
      constructor
      · rintro ⟨h1, h2⟩; exact ⟨List.mem_cons_of_mem _ h1, h2⟩
      · rintro ⟨h1, h2⟩
        rcases List.mem_cons.1 h1 with q | q
        · subst q; rw [hx] at h2; cases h2
        · exact ⟨q, h2⟩
    · rw [if_neg hx]
      have hx' : W.testBit x.1.i = false := by simpa using hx
      constructor
      · intro h1
        rcases List.mem_cons.1 h1 with q | q
        · subst q; exact ⟨by simp, hx'⟩
        · exact ⟨List.mem_cons_of_mem _ (ih.1 q).1, (ih.1 q).2⟩
      · rintro ⟨h1, h2⟩
        rcases List.mem_cons.1 h1 with q | q
        · simp [q]
        · exact List.mem_cons_of_mem _ (ih.2 ⟨q, h2⟩)
theorem leftR_mem {W : Nat} {p : PO} : ∀ {l : List PO}, p ∈ l → W.testBit p.i = false → p ∈ leftR W l := by
  intro l
  induction l with
  | nil => intro h; cases h
  | cons x r ih =>
    intro h1 h2
    rw [leftR_cons]
    rcases List.mem_cons.1 h1 with q | q
    · subst q; rw [if_neg (by rw [h2]; simp)]; simp
    · have := ih q h2
      split
      · exact this
      · exact List.mem_cons_of_mem _ this
theorem leftP_nodup {W : Nat} : ∀ {l : List (PO × Nat)}, (l.map (·.2)).Nodup → ((leftP W l).map (·.2)).Nodup := by
  intro l
  induction l with
  | nil => intro h; simp [leftP]
  | cons x r ih =>
    intro h
    rw [List.map_cons, List.nodup_cons] at h
    rw [leftP_cons]
    split
    · exact ih h.2
    · rw [List.map_cons, List.nodup_cons]
      refine ⟨fun hm => h.1 ?_, ih h.2⟩
      obtain ⟨p, hp, hpe⟩ := List.mem_map.1 hm
      exact List.mem_map.2 ⟨p, (leftP_mem.1 hp).1, hpe⟩
/-- a block that has been made, and may come into the heap -/
def PE (P : Cx) (M : Mu) (w w0 : World) (E : Env) (p : PO × Nat) : Prop :=
  ∃ (k : NK) (mk : Nat → Value) (ob : Obj) (i : Img), (∀ o', k = .obj o' → grpOf o' = none) ∧ (∀ h', p.1.c.run P E h' = some (.val (mk h'.next) (addK k h'))) ∧
    w.heap[i.blk]? = some ob ∧ w0.heap.size ≤ i.blk ∧ M p.2 = some i ∧ (∀ (M' : Mu) w', M.le M' → w'.heap[i.blk]? = some ob → OR P M' i w' (aoK k p.2))
theorem PE.next {M' : Mu} {E E' : Env} {p : PO × Nat} (q : PE P M w w0 E p) (hM : M.le M') (hw : ∀ i, M p.2 = some i → i.blk < w.heap.size → w'.heap[i.blk]? = w.heap[i.blk]?)
    (hE : ∀ h, p.1.c.run P E' h = p.1.c.run P E h) : PE P M' w' w0 E' p := by
  obtain ⟨k, mk, ob, i, h1, h2, h3, h4, h5, h6⟩ := q
  refine ⟨k, mk, ob, i, h1, fun h' => by rw [hE]; exact h2 h', ?_, h4, hM _ _ h5, fun M'' w'' hM' hw' => h6 M'' w'' (Mu.le_trans hM hM') hw'⟩
  rw [hw i h5 (Array.getElem?_eq_some_iff.1 h3).1]; exact h3
/-- blocks that are waited for come in -/
theorem matP_ok {E : Env} {W : Nat} : ∀ {l : List (PO × Nat)} {h h1 : AH}, Nxt P M0 h0 w0 M h w → (l.map (·.2)).Nodup → (∀ p ∈ l, h0.next ≤ p.2 ∧ p.2 < h.next) →
    (∀ p ∈ l, W.testBit p.1.i = true → PE P M w w0 E p) → (∀ p ∈ l, ∀ i, M p.2 = some i → ¬ Held M h i.blk) →
    (∀ p ∈ l, ∀ q ∈ l, p.2 ≠ q.2 → ∀ i j, M p.2 = some i → M q.2 = some j → i.blk ≠ j.blk) → (∀ p ∈ l, ∀ b cs e g, h.tr.get b = some (.cells cs e g) → g ≠ p.2) → matP P E W l h = some h1 →
    Nxt P M0 h0 w0 M h1 w ∧ h1.next = h.next ∧ (∀ x, Held M h1 x → Held M h x ∨ ∃ p ∈ l, W.testBit p.1.i = true ∧ ∃ i, M p.2 = some i ∧ i.blk = x) ∧
      (∀ b cs e g, h1.tr.get b = some (.cells cs e g) → (∃ b0 cs0 e0, h.tr.get b0 = some (.cells cs0 e0 g)) ∨ ∃ p ∈ l, W.testBit p.1.i = true ∧ g = p.2) := by
  intro l
  induction l with
  | nil => intro h h1 nx _ _ _ _ _ _ hm; cases hm; exact ⟨nx, rfl, fun x hx => .inl hx, fun b cs e g hb => .inl ⟨b, cs, e, hb⟩⟩
  | cons x r ih =>
    intro h h1 nx hnd hb hpe hnh hdis hgrp hm
    rw [List.map_cons, List.nodup_cons] at hnd
    rw [matP_cons] at hm
    by_cases hx : W.testBit x.1.i = true
    · rw [if_pos hx] at hm
      obtain ⟨k, mk, ob, i, g1, g2, g3, g4, g5, g6⟩ := hpe x (by simp) hx
      rw [g2] at hm
      simp only at hm
      have hmk : { (addK k { h with next := x.2 }) with next := h.next } = matK k x.2 h := rfl
      rw [hmk] at hm
      obtain ⟨hb1, hb2⟩ := hb x (by simp)
      have hgx := hgrp x (by simp)
      have nx1 := nxt_mat nx g5 hb1 hb2 (hnh x (by simp) i g5) g4 hgx g1 (g6 M w (Mu.le_refl M) g3)
      have hget := matK_get k x.2 h g1 hgx
      have hheld : ∀ y, Held M (matK k x.2 h) y → Held M h y ∨ i.blk = y := by
        rintro y ⟨b, o, j, hb, hj, hy⟩
        rw [hget] at hb
        by_cases he : b = x.2
        · rw [he, g5] at hj; cases hj; exact .inr hy
        · rw [if_neg he] at hb; exact .inl ⟨b, o, j, hb, hj, hy⟩
      have hne : ∀ p ∈ r, p.2 ≠ x.2 := fun p hp e => hnd.1 (List.mem_map.2 ⟨p, hp, e⟩)
      have hgr : ∀ b cs e g, (matK k x.2 h).tr.get b = some (.cells cs e g) → (∃ b0 cs0 e0, h.tr.get b0 = some (.cells cs0 e0 g)) ∨ g = x.2 := by
        intro b cs e g hb
        rw [matK_tr] at hb
        by_cases he : b = x.2
        · rw [if_pos he] at hb
          cases k with
          | row cs' e' => simp only [aoK, Option.some.injEq, AO.cells.injEq] at hb; exact .inr hb.2.2.symm
          | obj o => simp only [aoK, Option.some.injEq] at hb; have := g1 o rfl; rw [hb] at this; cases this
        · rw [if_neg he] at hb; exact .inl ⟨b, cs, e, hb⟩
      obtain ⟨q1, q2, q3, q4⟩ := ih nx1 hnd.2 (fun p hp => hb p (by simp [hp])) (fun p hp hw => hpe p (by simp [hp]) hw)
        (fun p hp j hj hh => by
          rcases hheld _ hh with q | q
          · exact hnh p (by simp [hp]) j hj q
          · exact hdis x (by simp) p (by simp [hp]) (Ne.symm (hne p hp)) i j g5 hj q)
        (fun p hp q hq => hdis p (by simp [hp]) q (by simp [hq]))
        (fun p hp b cs e g hb => by
          rcases hgr b cs e g hb with ⟨b0, cs0, e0, q⟩ | q
          · exact hgrp p (by simp [hp]) b0 cs0 e0 g q
          · rw [q]; exact Ne.symm (hne p hp)) hm
      refine ⟨q1, q2, fun y hy => ?_, fun b cs e g hb => ?_⟩
      · rcases q3 y hy with q | ⟨p, hp, hw, j, hj, hy'⟩
        · rcases hheld y q with q | q
          · exact .inl q
          · exact .inr ⟨x, by simp, hx, i, g5, q⟩
        · exact .inr ⟨p, by simp [hp], hw, j, hj, hy'⟩
      · rcases q4 b cs e g hb with ⟨b0, cs0, e0, q⟩ | ⟨p, hp, hw, q⟩
        · rcases hgr b0 cs0 e0 g q with q | q
          · exact .inl q
          · exact .inr ⟨x, by simp, hx, q⟩
        · exact .inr ⟨p, by simp [hp], hw, q⟩
    · rw [if_neg hx] at hm
      obtain ⟨q1, q2, q3, q4⟩ := ih nx hnd.2 (fun p hp => hb p (by simp [hp])) (fun p hp hw => hpe p (by simp [hp]) hw) (fun p hp => hnh p (by simp [hp]))
        (fun p hp q hq => hdis p (by simp [hp]) q (by simp [hq])) (fun p hp => hgrp p (by simp [hp])) hm
      refine ⟨q1, q2, fun y hy => ?_, fun b cs e g hb => ?_⟩
      · rcases q3 y hy with q | ⟨p, hp, q⟩
        · exact .inl q
        · exact .inr ⟨p, by simp [hp], q⟩
      · rcases q4 b cs e g hb with q | ⟨p, hp, q⟩
        · exact .inl q
        · exact .inr ⟨p, by simp [hp], q⟩
theorem matP_congr {E E' : Env} {W : Nat} : ∀ {l : List (PO × Nat)}, (∀ p ∈ l, ∀ h, p.1.c.run P E h = p.1.c.run P E' h) → ∀ h, matP P E W l h = matP P E' W l h := by
  intro l
  induction l with
  | nil => intro _ h; rfl
  | cons x r ih =>
    intro he h
    rw [matP_cons, matP_cons, he x (by simp)]
    have ih' := ih fun p hp => he p (by simp [hp])
    split
    · split
      · exact ih' _
      · rfl
    · exact ih' _
theorem veqs_eq {n : Nat} (hn : ∀ {a b : Value}, veq n a b = true → a = b) : ∀ {a b : List Value}, veq.all n a b = true → a = b := by
  intro a
  induction a with
  | nil => intro b h; cases b with
    | nil => rfl
    | cons y s => simp [veq.all] at h
  | cons x r ih =>
    intro b h
    cases b with
    | nil => simp [veq.all] at h
    | cons y s =>
      obtain ⟨h1, h2⟩ := bc_and (show bc (veq n x y) (veq.all n r s) false = true from h)
      rw [hn h1, ih h2]
theorem veq_eq : ∀ (n : Nat) {a b : Value}, veq n a b = true → a = b := by
  intro n
  induction n with
  | zero => intro a b h; simp [veq] at h
  | succ n ih =>
    intro a b h
    unfold veq at h
    split at h
    · rename_i x y
      cases x <;> cases y <;> first | rfl | (simp at h)
    · obtain ⟨h1, h2⟩ := bc_and h
      rw [of_decide_eq_true h1, of_decide_eq_true h2]
    · rename_i x y
      have := of_decide_eq_true h
      congr 1
      apply ByteArray.ext
      apply Array.ext'; exact this
    · rfl
    · rw [of_decide_eq_true h]
    · obtain ⟨h1, h2⟩ := bc_and h
      rw [beqN h1, beqN h2]
    · obtain ⟨h1, h2⟩ := bc_and h
      obtain ⟨h3, h4⟩ := bc_and h2
      rw [of_decide_eq_true h1, beqN h3, beqN h4]
    · rfl
    · rw [beqN h]
    · rw [beqN h]
    · rfl
    · rfl
    · rename_i f a1 b1 g a2 b2
      obtain ⟨h1, h2⟩ := bc_and h
      obtain ⟨h3, h4⟩ := bc_and h2
      rw [beqN h1]
      have e1 := veqs_eq ih h3
      have e2 := veqs_eq ih h4
      obtain ⟨a1⟩ := a1; obtain ⟨a2⟩ := a2; obtain ⟨b1⟩ := b1; obtain ⟨b2⟩ := b2
      simp only at e1 e2; rw [e1, e2]
    · obtain ⟨h1, h2⟩ := bc_and h
      rw [beqN h1, ih h2]
    · rename_i a1 a2
      have e1 := veqs_eq ih h
      obtain ⟨a1⟩ := a1; obtain ⟨a2⟩ := a2
      simp only at e1; rw [e1]
    · rename_i a1 a2
      have e1 := veqs_eq ih h
      obtain ⟨a1⟩ := a1; obtain ⟨a2⟩ := a2
      simp only at e1; rw [e1]
    · cases h
end Go.Ev
