/- Plans of regions that draw: what their check gives (own work). -/
import Derived.Test.YtbfepjofmkdafaaGreatEvS17
namespace Go.Ev
variable {P : Cx} {M : Mu} {h h' : AH} {w w' : World}

theorem testBit_shl (k j : Nat) : (Nat.shiftLeft 1 k).testBit j = decide (k = j) := by
  show (1 <<< k).testBit j = _
  rw [Nat.one_shiftLeft, Nat.testBit_two_pow]
theorem testBit_lor (a b j : Nat) : (Nat.lor a b).testBit j = (a.testBit j || b.testBit j) := Nat.testBit_or a b j

/-- what is listed is listed with all that it waits for -/
def CL (ops : Array Oper) (listed : Array Bool) : Prop :=
  ∀ j o, ops[j]? = some o → listed.getD j false = true → ∀ e ∈ o.after, Region.binds .any e = true → listed.getD e.on false = true
structure ItemOK (P : Cx) (ops : Array Oper) (x : PO) (o : Oper) : Prop where
  op : ops[x.i]? = some o
  c : x.c = compOp P o (guardOf ops o)
  rb : ∀ t, Operand.tmp t ∈ o.op.operands.toList → x.rb.testBit t = true
  gb : ∀ d want, guardOf ops o = some (some d, want) → x.rb.testBit d = true
  w1 : ∀ listed, CL ops listed → (∀ e ∈ o.after, Region.binds .any e = true → listed.getD e.on false = true) → ∀ j, x.w.testBit j = true → listed.getD j false = true
  w2 : ∀ e ∈ o.after, Region.binds .any e = true → x.w.testBit e.on = true

theorem waitE_bit {bs : List Nat} {j : Nat} : ∀ {es : List Edge}, (waitE bs es).testBit j = true → ∃ e ∈ es, Region.binds .any e = true ∧ (j = e.on ∨ ∃ v, bs[e.on]? = some v ∧ v.testBit j = true) := by
  intro es
  induction es with
  | nil => intro h; simp [waitE] at h
  | cons e r ih =>
    intro h
    simp only [waitE, bc_eq] at h
    split at h
    · rename_i hb
      simp only [testBit_lor, testBit_shl, Bool.or_eq_true, decide_eq_true_eq] at h
      rcases h with h | h | h
      · exact ⟨e, by simp, hb, .inl h.symm⟩
      · rw [getL_eq] at h
        cases hv : bs[e.on]? with
        | none => rw [hv] at h; simp at h
        | some v => rw [hv] at h; exact ⟨e, by simp, hb, .inr ⟨v, hv, h⟩⟩
      · obtain ⟨e', h1, h2⟩ := ih h
        exact ⟨e', by simp [h1], h2⟩
    · obtain ⟨e', h1, h2⟩ := ih h
      exact ⟨e', by simp [h1], h2⟩
theorem waitE_on {bs : List Nat} : ∀ {es : List Edge}, ∀ e ∈ es, Region.binds .any e = true → (waitE bs es).testBit e.on = true := by
  intro es
  induction es with
  | nil => intro e he; cases he
  | cons e0 r ih =>
    intro e he hb
    simp only [waitE, bc_eq]
    rcases List.mem_cons.1 he with q | q
    · subst q
      rw [if_pos hb]; simp [testBit_lor, testBit_shl]
    · have := ih e q hb
      split
      · simp [testBit_lor, this]
      · exact this
theorem waits_spec : ∀ (l : List Oper) (bs : List Nat), ∃ t, waits bs l = bs ++ t ∧ t.length = l.length ∧ ∀ (i : Nat) (o : Oper), l[i]? = some o → t[i]? = some (waitE (bs ++ t.take i) o.after.toList) := by
  intro l
  induction l with
  | nil => intro bs; exact ⟨[], by simp [waits], rfl, fun i o h => by simp at h⟩
  | cons o r ih =>
    intro bs
    obtain ⟨t, h1, h2, h3⟩ := ih (bs ++ [waitE bs o.after.toList])
    refine ⟨waitE bs o.after.toList :: t, ?_, by simp [h2], ?_⟩
    · simp only [waits, appL_eq, h1]; simp
    · intro i o' ho
      cases i with
      | zero => simp at ho; subst ho; simp
      | succ i =>
        have := h3 i o' (by simpa using ho)
        simpa using this
theorem compOps_get (ops : Array Oper) : ∀ (l : List Oper) (k : Nat), (compOps P ops l)[k]? = (l[k]?).map fun o => compOp P o (guardOf ops o) := by
  intro l
  induction l with
  | nil => intro k; simp [compOps]
  | cons o r ih => intro k; cases k with
    | zero => simp [compOps]
    | succ k => simpa [compOps] using ih k
theorem compOps_len (ops : Array Oper) (l : List Oper) : (compOps P ops l).length = l.length := by
  induction l with
  | nil => rfl
  | cons o r ih => simp [compOps, ih]
theorem places_mem : ∀ {ws : List Nat} {os : List Oper} {cs : List COp} {i : Nat} {x : PO}, x ∈ places i ws os cs →
    ∃ k o, os[k]? = some o ∧ x.i = i + k ∧ ws[k]? = some x.w ∧ cs[k]? = some x.c ∧ x.rb = Nat.lor (readsOf o.op.operands.toList) (guardBit x.c.guard) := by
  intro ws
  induction ws with
  | nil => intro os cs i x hx; simp [places] at hx
  | cons v ws ih =>
    intro os cs i x hx
    cases os with
    | nil => simp [places] at hx
    | cons o os =>
      cases cs with
      | nil => simp [places] at hx
      | cons c cs =>
        simp only [places] at hx
        rcases List.mem_cons.1 hx with q | q
        · subst q; exact ⟨0, o, by simp, by simp, by simp, by simp, rfl⟩
        · obtain ⟨k, o', h1, h2, h3, h4, h5⟩ := ih q
          exact ⟨k + 1, o', by simpa using h1, by omega, by simpa using h3, by simpa using h4, h5⟩
theorem places_len : ∀ (ws : List Nat) (os : List Oper) (cs : List COp) (i : Nat), ws.length = os.length → cs.length = os.length → (places i ws os cs).length = os.length := by
  intro ws
  induction ws with
  | nil => intro os cs i h1 h2; simp at h1; simp [places, ← h1]
  | cons v ws ih =>
    intro os cs i h1 h2
    cases os with
    | nil => simp at h1
    | cons o os => cases cs with
      | nil => simp at h2
      | cons c cs => simp only [places, List.length_cons]; rw [ih os cs _ (by simpa using h1) (by simpa using h2)]
theorem readsOf_bit : ∀ {l : List Operand} {t : Nat}, Operand.tmp t ∈ l → (readsOf l).testBit t = true := by
  intro l
  induction l with
  | nil => intro t h; cases h
  | cons x r ih =>
    intro t h
    simp only [readsOf, testBit_lor]
    rcases List.mem_cons.1 h with q | q
    · rw [← q]; simp [bitOf, testBit_shl]
    · simp [ih q]
theorem item_ok {ops : Array Oper} {x : PO} (hx : x ∈ places 0 (waits [] ops.toList) ops.toList (compOps P ops ops.toList)) : ∃ o, ItemOK P ops x o := by
  obtain ⟨k, o, h1, h2, h3, h4, h5⟩ := places_mem hx
  rw [Nat.zero_add] at h2
  subst h2
  obtain ⟨t, g1, g2, g3⟩ := waits_spec ops.toList []
  simp only [List.nil_append] at g1 g3
  rw [g1] at h3
  have hc : x.c = compOp P o (guardOf ops o) := by rw [compOps_get, h1] at h4; simpa using h4.symm
  refine ⟨o, by simpa using h1, hc, fun t ht => ?_, fun d want hd => ?_, ?_, ?_⟩
  · rw [h5, testBit_lor, readsOf_bit ht]; rfl
  · rw [h5, testBit_lor, hc, compOp_guard, hd]; simp [guardBit, testBit_shl]
  · -- by the number of the operation
    intro listed hcl
    have main : ∀ (n : Nat) (i : Nat) (o : Oper) (v : Nat), i < n → ops.toList[i]? = some o → t[i]? = some v → (∀ e ∈ o.after, Region.binds .any e = true → listed.getD e.on false = true) → ∀ j, v.testBit j = true → listed.getD j false = true := by
      intro n
      induction n with
      | zero => intro i o v hi; omega
      | succ n ih =>
        intro i o v hi ho hv hready j hj
        have hv' := g3 i o ho
        rw [hv] at hv'
        simp only [Option.some.injEq] at hv'
        rw [hv'] at hj
        obtain ⟨e, he, hb, hcase⟩ := waitE_bit hj
        have hel := hready e (by simpa using he) hb
        rcases hcase with q | ⟨v', hv1, hv2⟩
        · rw [q]; exact hel
        · have hlt : e.on < i := by
            have := (List.getElem?_eq_some_iff.1 hv1).1
            simp at this; omega
          rw [List.getElem?_take_of_lt hlt] at hv1
          have hol : e.on < ops.toList.length := by
            have := (List.getElem?_eq_some_iff.1 hv1).1
            omega
          obtain ⟨o', ho'⟩ : ∃ o', ops.toList[e.on]? = some o' := ⟨_, List.getElem?_eq_getElem hol⟩
          exact ih e.on o' v' (by omega) ho' hv1 (hcl e.on o' (by simpa using ho') hel) j hv2
    exact main (x.i + 1) x.i o x.w (by omega) h1 h3
  · intro e he hb
    have hv' := g3 x.i o h1
    rw [h3] at hv'
    simp only [Option.some.injEq] at hv'
    rw [hv']
    exact waitE_on e (by simpa using he) hb
theorem aheadP_mem {e : PO} : ∀ {l : List PO} {x : PO}, x ∈ aheadP e l → x ∈ l := by
  intro l
  induction l with
  | nil => intro x h; cases h
  | cons y r ih =>
    intro x h
    rw [aheadP, bc_eq] at h
    split at h
    · exact List.mem_cons_of_mem _ (ih h)
    · rcases List.mem_cons.1 h with q | q
      · simp [q]
      · exact List.mem_cons_of_mem _ (ih q)
theorem behindP_mem {e : PO} : ∀ {l : List PO} {x : PO}, x ∈ behindP e l → x ∈ l := by
  intro l
  induction l with
  | nil => intro x h; cases h
  | cons y r ih =>
    intro x h
    rw [behindP, bc_eq] at h
    split at h
    · rcases List.mem_cons.1 h with q | q
      · simp [q]
      · exact List.mem_cons_of_mem _ (ih q)
    · exact List.mem_cons_of_mem _ (ih h)
theorem order_mem : ∀ {es l : List PO} {x : PO}, x ∈ order es l → x ∈ es ∨ x ∈ l := by
  intro es
  induction es with
  | nil => intro l x h; exact .inr h
  | cons e es ih =>
    intro l x h
    simp only [order, appL_eq] at h
    rcases List.mem_append.1 h with q | q
    · exact .inr (aheadP_mem q)
    · rcases List.mem_cons.1 q with q | q
      · exact .inl (by simp [q])
      · rcases ih q with q | q
        · exact .inl (List.mem_cons_of_mem _ q)
        · exact .inr (behindP_mem q)
theorem effsOf_mem : ∀ {l : List PO} {x : PO}, x ∈ effsOf l → x ∈ l := by
  intro l
  induction l with
  | nil => intro x h; cases h
  | cons y r ih =>
    intro x h
    rw [effsOf, bc_eq] at h
    split at h
    · rcases List.mem_cons.1 h with q | q
      · simp [q]
      · exact List.mem_cons_of_mem _ (ih q)
    · exact List.mem_cons_of_mem _ (ih h)
structure PairOK (x y : PO) : Prop where
  nw : x.w.testBit y.i = false
  ne : x.i ≠ y.i
  later : (y.w.testBit x.i = true ∧ 3 ≤ y.c.kind) ∨ ((∀ d, y.c.dst = some d → x.rb.testBit d = false) ∧ ∀ d, y.c.dst = some d → x.c.dst ≠ some d)
  earlier : y.w.testBit x.i = true ∨ (x.c.kind < 3 ∧ ∀ d, x.c.dst = some d → y.rb.testBit d = false)
theorem dOff_ok {d : Option Tmp} {rb : Nat} (h : dOff d rb = true) : ∀ t, d = some t → rb.testBit t = false := by
  intro t ht
  subst ht
  have h' : bc (Nat.testBit rb t) false true = true := h
  cases hb : Nat.testBit rb t with
  | false => rfl
  | true => rw [hb] at h'; cases h'
theorem dNe_ok {d e : Option Tmp} (h : dNe d e = true) : ∀ t, e = some t → d ≠ some t := by
  intro t ht hd
  subst ht; subst hd
  have h' : bc (Nat.beq t t) false true = true := h
  rw [show Nat.beq t t = true from Nat.beq_refl t] at h'
  cases h'
theorem pairOK_ok {x y : PO} (h : pairOK x y = true) : PairOK x y := by
  unfold pairOK at h
  obtain ⟨h1, h2⟩ := bc_and h
  -- the first part
  have hA : (bc (Nat.testBit x.w y.i) true (Nat.beq x.i y.i)) = false ∧ bc (bc (Nat.testBit y.w x.i) (Nat.ble 3 y.c.kind) false) true (bc (dOff y.c.dst x.rb) (dNe x.c.dst y.c.dst) false) = true := by
    cases hq : bc (Nat.testBit x.w y.i) true (Nat.beq x.i y.i) with
    | true => rw [hq] at h1; cases h1
    | false => rw [hq] at h1; exact ⟨rfl, h1⟩
  obtain ⟨g1, g2⟩ := hA
  have hnw : Nat.testBit x.w y.i = false := by
    cases hq : Nat.testBit x.w y.i with
    | true => rw [hq] at g1; cases g1
    | false => rfl
  refine ⟨hnw, ?_, ?_, ?_⟩
  · intro he
    rw [hnw, he] at g1
    have : Nat.beq y.i y.i = true := Nat.beq_refl _
    rw [bc_false, this] at g1; cases g1
  · cases hq : bc (Nat.testBit y.w x.i) (Nat.ble 3 y.c.kind) false with
    | true => obtain ⟨q1, q2⟩ := bc_and hq; exact .inl ⟨q1, bleN q2⟩
    | false =>
      rw [hq] at g2
      obtain ⟨q1, q2⟩ := bc_and (show bc (dOff y.c.dst x.rb) (dNe x.c.dst y.c.dst) false = true from g2)
      exact .inr ⟨dOff_ok q1, dNe_ok q2⟩
  · cases hq : Nat.testBit y.w x.i with
    | true => exact .inl rfl
    | false =>
      rw [hq] at h2
      have h2' : bc (Nat.ble 3 x.c.kind) false (dOff x.c.dst y.rb) = true := h2
      cases hk : Nat.ble 3 x.c.kind with
      | true => rw [hk] at h2'; cases h2'
      | false =>
        rw [hk] at h2'
        refine .inr ⟨?_, dOff_ok h2'⟩
        have : ¬ 3 ≤ x.c.kind := fun q => by rw [Nat.ble_eq_true_of_le q] at hk; cases hk
        omega
theorem pairsOK_ok {x : PO} : ∀ {l : List PO}, pairsOK x l = true → ∀ y ∈ l, PairOK x y := by
  intro l
  induction l with
  | nil => intro _ y hy; cases hy
  | cons z r ih =>
    intro h y hy
    obtain ⟨h1, h2⟩ := bc_and (show bc (pairOK x z) (pairsOK x r) false = true from h)
    rcases List.mem_cons.1 hy with q | q
    · rw [q]; exact pairOK_ok h1
    · exact ih h2 y q
theorem orderOK_ok : ∀ {l : List PO}, orderOK l = true → l.Pairwise PairOK ∧ (∀ x ∈ l, ∀ j, x.w.testBit j = true → j < x.i) ∧ ∀ x ∈ l, x.c.kind < 3 → ∀ d, x.c.dst = some d → x.rb.testBit d = false := by
  intro l
  induction l with
  | nil => intro _; exact ⟨.nil, (fun x hx => by cases hx), fun x hx => by cases hx⟩
  | cons x r ih =>
    intro h
    obtain ⟨h1, h2⟩ := bc_and (show bc (bc (Nat.beq (Nat.shiftRight x.w x.i) 0) (bc (selfOK x) (pairsOK x r) false) false) (orderOK r) false = true from h)
    obtain ⟨h3, h4⟩ := bc_and h1
    obtain ⟨h7, h4⟩ := bc_and h4
    obtain ⟨h5, h6, h8⟩ := ih h2
    refine ⟨.cons (pairsOK_ok h4) h5, fun y hy => ?_, fun y hy hk => ?_⟩
    rcases List.mem_cons.1 hy with q | q
    · subst q
      intro j hj
      have h0 : y.w >>> y.i = 0 := beqN h3
      rcases Nat.lt_or_ge j y.i with q | q
      · exact q
      · have : (y.w >>> y.i).testBit (j - y.i) = true := by rw [Nat.testBit_shiftRight, show y.i + (j - y.i) = j by omega]; exact hj
        rw [h0] at this; simp at this
    · exact h6 y q
    rcases List.mem_cons.1 hy with q | q
    · subst q
      unfold selfOK at h7
      cases hb : Nat.ble 3 y.c.kind with
      | true => have := bleN hb; omega
      | false => rw [hb] at h7; exact dOff_ok h7
    · exact h8 y q hk
theorem idxBits_ok : ∀ {l : List PO} {j : Nat}, (idxBits l).testBit j = true → ∃ x ∈ l, x.i = j := by
  intro l
  induction l with
  | nil => intro j h; simp [idxBits] at h
  | cons x r ih =>
    intro j h
    simp only [idxBits, testBit_lor, testBit_shl, Bool.or_eq_true, decide_eq_true_eq] at h
    rcases h with h | h
    · exact ⟨x, by simp, h⟩
    · obtain ⟨y, h1, h2⟩ := ih h
      exact ⟨y, by simp [h1], h2⟩
structure PlanOK (P : Cx) (ops : Array Oper) (L : List PO) : Prop where
  item : ∀ x ∈ L, ∃ o, ItemOK P ops x o
  pair : L.Pairwise PairOK
  low : ∀ x ∈ L, ∀ j, x.w.testBit j = true → j < x.i
  self : ∀ x ∈ L, x.c.kind < 3 → ∀ d, x.c.dst = some d → x.rb.testBit d = false
  all : ∀ j, j < ops.size → ∃ x ∈ L, x.i = j
  len : L.length = ops.size
theorem plan_ok {ops : Array Oper} (h : (planOf P ops).ok = true) : PlanOK P ops (planOf P ops).l ∧ (planOf P ops).n = ops.size := by
  have hlen : (places 0 (waits [] ops.toList) ops.toList (compOps P ops ops.toList)).length = ops.size := by
    obtain ⟨t, g1, g2, _⟩ := waits_spec ops.toList []
    rw [places_len _ _ _ _ (by rw [g1]; simpa using g2) (by rw [compOps_len])]; simp
  unfold planOf planP planL at h ⊢
  simp only at h ⊢
  obtain ⟨h1, h2⟩ := bc_and h
  obtain ⟨h3, h4⟩ := bc_and h2
  have hl := beqN h1
  rw [lenL_eq, lenL_eq, hlen] at hl
  obtain ⟨h5, h6, h7⟩ := orderOK_ok h4
  refine ⟨⟨fun x hx => ?_, h5, h6, h7, fun j hj => ?_, hl⟩, by rw [lenL_eq, hlen]⟩
  · rcases order_mem hx with q | q
    · exact item_ok (effsOf_mem q)
    · exact item_ok q
  · have hb := beqN h3
    rw [lenL_eq, hlen] at hb
    apply idxBits_ok
    rw [hb]
    show ((1 <<< ops.size) - 1).testBit j = true
    rw [Nat.one_shiftLeft, Nat.testBit_two_pow_sub_one]; simpa using hj
end Go.Ev
