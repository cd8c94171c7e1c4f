/- Operations that make one new block (own work). -/
import Derived.Test.YtbfepjofmkdafaaGreatEvS7
import Derived.IntWalk
namespace Go.Ev
variable {P : Cx} {M : Mu} {h h' : AH} {w w' : World}

theorem mkCap_half (n : Nat) (e : Bool) : mkCap n e / 2 = n := by
  show (2 * n + bc e 1 0) / 2 = n
  cases e
  · show (2 * n + 0) / 2 = n; omega
  · show (2 * n + 1) / 2 = n; omega
theorem mkCap_odd (n : Nat) : mkCap n true % 2 = 1 := by show (2 * n + 1) % 2 = 1; omega
theorem mkCap_even (n : Nat) : mkCap n false % 2 = 0 := by show (2 * n + 0) % 2 = 0; omega
/-- a slice whose room is just known -/
theorem VR.slice_exact {M : Mu} {b off len n : Nat} {i : Img} {off' : Nat} (h : M b = some i) (ho : off' = i.sh + off ∨ (len = 0 ∧ n = 0)) (hl : len ≤ n) :
    VR M (.slice (some ⟨b, off, none⟩) len (mkCap n true)) (.slice (some ⟨i.blk, off', none⟩) len n) :=
  .slice b off len _ i off' n h ho (by rw [mkCap_half]; exact hl) (by rw [mkCap_half]; exact Nat.le_refl _) (fun _ => (mkCap_half n true).symm) (fun hh => by rw [mkCap_odd] at hh; omega)

inductive NK where
  | row (cs : List Value) (e : TypeId)
  | obj (o : AO)
noncomputable def addK : NK → AH → AH
  | .row cs e, h => h.newCells cs e
  | .obj o, h => h.newObj o
def aoK : NK → Nat → AO
  | .row cs e, id => .cells cs e id
  | .obj o, _ => o
/-- one new block, whatever the heap: what stands in it, and the value -/
def FreshOK (P : Cx) (M : Mu) (a : Act) (o : Oper) (run : AH → Res) : Prop :=
  ∃ (k : NK) (mk cmk : Nat → Value) (ob : Obj) (sz tot : Nat),
    (∀ o', k = .obj o' → grpOf o' = none) ∧
    (∀ h r, run h = some r → r = .val (mk h.next) (addK k h)) ∧
    (∀ w, (execOp a.eval o).run P.P w = .ok (.value (cmk w.heap.size)) { w with heap := w.heap.push ob }) ∧
    (∀ (M' : Mu) id n, M' id = some ⟨n, 0, sz, tot, undef⟩ → VR M' (mk id) (cmk n)) ∧
    (∀ (M' : Mu) id n w', M.le M' → w'.heap[n]? = some ob → OR P M' ⟨n, 0, sz, tot, undef⟩ w' (aoK k id))

theorem fresh_row {a : Act} {o : Oper} {run : AH → Res} {cs : List Value} {e sz : Nat} {mk cmk : Nat → Value} {c : Array Value} (hsz : tsize P e = some sz)
    (hrun : ∀ h r, run h = some r → r = .val (mk h.next) (h.newCells cs e))
    (hex : ∀ w, (execOp a.eval o).run P.P w = .ok (.value (cmk w.heap.size)) { w with heap := w.heap.push (.cells c e) })
    (hv : ∀ (M' : Mu) id n, M' id = some ⟨n, 0, sz, c.size, undef⟩ → VR M' (mk id) (cmk n)) (hc : VRs M cs c.toList) : FreshOK P M a o run :=
  ⟨.row cs e, mk, cmk, .cells c e, sz, c.size, fun o' ho => (by cases ho), hrun, hex, hv, fun M' id n w' hM hw =>
    ⟨c, 0, 0, hw, rfl, hsz, fun k _ _ => by omega, fun k v hk => by simpa using (hc.mono hM).get k v hk⟩⟩
theorem Nxt.of_fresh {a : Act} {o : Oper} {run : AH → Res} {r : R1} (s : SR P M h w) (f : FreshOK P M a o run) (hr : run h = some r) :
    OpOut P M h w r ((execOp a.eval o).run P.P w) := by
  obtain ⟨k, mk, cmk, ob, sz, tot, h1, h2, h3, h4, h5⟩ := f
  rw [h2 h r hr, h3]
  have gw : Grew w { w with heap := w.heap.push ob } ob := ⟨⟨rfl, rfl, rfl⟩, rfl⟩
  have hid := s.fresh h.next (Nat.le_refl _)
  refine .val (M' := M.set h.next ⟨w.heap.size, 0, sz, tot, undef⟩) ?_ (h4 _ _ _ (Mu.set_same _ _ _))
  cases k with
  | row cs e =>
    have := h5 (M.set h.next ⟨w.heap.size, 0, sz, tot, undef⟩) h.next w.heap.size _ (Mu.le_set _ hid) gw.new
    refine nxt_new (id := h.next) (o := .cells cs e h.next) s hid (Nat.le_refl _) s.lon (Nat.le_succ _) (Nat.lt_succ_self _) (get_newCells s.ai cs e) (ai_newCells s.ai cs e) rfl ?_ gw rfl this
    intro b cs' e' g hb
    simp only [addK, AH.newCells, Tr.get_put] at hb
    by_cases hbn : b = h.next
    · rw [if_pos hbn] at hb; cases hb; exact .inl ⟨hbn, Nat.le_refl _⟩
    · rw [if_neg hbn] at hb; exact .inr hb
  | obj oo => exact nxt_obj sz tot s (h1 oo rfl) gw (h5 _ h.next _ _ (Mu.le_set _ hid) gw.new)

section
variable {o : Oper} {a : Act} {E : Env} {r : R1}
theorem f_alloc (ok : CxOK P) {t : TypeId} (ho : o.op = .alloc t) (hr : opAlloc t P E h = some r) : FreshOK P M a o (opAlloc t P E) := by
  unfold opAlloc at hr
  split at hr
  · rename_i z hz
    obtain ⟨v, h1, h2, h3⟩ := tzero_of ok hz
    have hsz : ∃ sz, tsize P t = some sz := by
      unfold tzero tzeroV at hz
      cases hi : P.ty.get t with
      | none => simp [hi] at hz
      | some i => exact ⟨i.size, by simp [tsize, hi]⟩
    obtain ⟨sz, hsz⟩ := hsz
    refine fresh_row (cs := z) (c := v.cells) (mk := fun n => .pointer (some ⟨n, 0, none⟩)) (cmk := fun n => .pointer (some ⟨n, 0, none⟩)) hsz ?_ ?_ (fun M' id n hm => by simpa using VR.ptr id 0 _ hm) (by rw [h2]; exact h3 M)
    · intro h' r' hr'
      unfold opAlloc at hr'
      rw [hz] at hr'
      exact one_some hr'
    · intro w
      simp [execOp, ho, Instr.alloc, h1, newVar, newRow]
  · cases hr
theorem f_box (e : ER M E a.tmps) {t : TypeId} {x : Operand} (ho : o.op = .box t x) (hr : opBox t x P E h = some r) : FreshOK P M a o (opBox t x P E) := by
  have key : ∀ h r, opBox t x P E h = some r → ∃ sz v, tsize P t = some sz ∧ evalO E x = some v ∧ r = .val (.pointer (some ⟨h.next, 0, none⟩)) (h.newCells (cellsV v) t) := by
    intro h r hr
    unfold opBox at hr
    split at hr
    · rename_i sz hsz
      obtain ⟨v, h1, h2⟩ := ev1_some hr
      exact ⟨sz, v, hsz, h1, one_some h2⟩
    · cases hr
  obtain ⟨sz, v, hsz, h1, _⟩ := key h r hr
  refine fresh_row (cs := cellsV v) (c := (a.eval x).cells) (mk := fun n => .pointer (some ⟨n, 0, none⟩)) (cmk := fun n => .pointer (some ⟨n, 0, none⟩)) hsz ?_ ?_ (fun M' id n hm => by simpa using VR.ptr id 0 _ hm) (cellsV_ok (evalO_ok e h1))
  · intro h' r' hr'
    obtain ⟨_, v', _, h3, h4⟩ := key h' r' hr'
    rw [h1] at h3; cases h3
    exact h4
  · intro w
    simp [execOp, ho, Instr.box, newVar, newRow]
theorem f_makeMap (ok : CxOK P) (e : ER M E a.tmps) {t : TypeId} {q : Option Operand} (ho : o.op = .makeMap t q) (hr : opMkMap t q P E h = some r) : FreshOK P M a o (opMkMap t q P E) := by
  have key : ∀ h r, opMkMap t q P E h = some r → (∃ k m, desc P t = some (.map k m)) ∧ r = .val (.map (some h.next)) (h.newObj (.map [] 0)) ∧ (∀ x, q = some x → ∃ k n, evalO E x = some (.int k n)) := by
    intro h r hr
    unfold opMkMap at hr
    split at hr
    · rename_i kt et hd
      refine ⟨⟨kt, et, hd⟩, ?_⟩
      cases q with
      | none => exact ⟨one_some hr, fun x hx => by cases hx⟩
      | some x =>
        simp only [optL] at hr
        cases h1 : evalO E x with
        | none => rw [h1] at hr; cases hr
        | some v =>
          rw [h1] at hr
          cases v with
          | int k n => exact ⟨one_some hr, fun y hy => by cases hy; exact ⟨k, n, h1⟩⟩
          | _ => cases hr
    · cases hr
  obtain ⟨⟨kt, et, hd⟩, _, hx⟩ := key h r hr
  refine ⟨.obj (.map [] 0), fun n => .map (some n), fun n => .map (some n), .map #[] 0, 0, 0, fun o' h' => by cases h'; rfl, fun h r hr => (key h r hr).2.1, ?_, fun M' id n hm => .map id _ hm, fun M' id n w' hM hw => ⟨#[], hw, .nil, fun x hx => by cases hx⟩⟩
  intro w
  cases q with
  | none => simp [execOp, ho, Instr.makeMap]
  | some x =>
    obtain ⟨k, n, hx⟩ := hx x rfl
    have := (evalO_ok e hx).int_inv
    simp [execOp, ho, Instr.makeMap, run_und ok hd, this, asInt, asIntOf]

-- n elements, all zero
theorem rep_range (z : List Value) : ∀ n, (List.range (n * z.length)).map (fun i => z.toArray[i % z.toArray.size]!) = repL n z := by
  intro n
  induction n with
  | zero => simp [repL_eq]
  | succ n ih =>
    rw [repL_succ, Nat.succ_mul, Nat.add_comm, List.range_add, List.map_append, List.map_map, ← ih]
    congr 1
    · apply List.ext_getElem?
      intro i
      by_cases hi : i < z.length
      · simp [hi, Nat.mod_eq_of_lt hi]
      · simp [hi]
    · apply List.map_congr_left
      intro i _
      simp [Nat.add_mod_left]
theorem zerosA_ok (ok : CxOK P) {e n sz : Nat} {z : List Value} (hz : zerosA P e n sz = some z) :
    (∀ M : Mu, VRs M z z) ∧ z.length = n * sz ∧
    ((n * sz = 0 ∧ z = []) ∨ (n * sz ≠ 0 ∧ ∃ v : Value, (∀ w, (zeroValue e).run P.P w = .ok v w) ∧ (Array.range (n * sz)).map (fun i => v.cells[i % v.cells.size]!) = z.toArray)) := by
  unfold zerosA at hz
  rw [bc_eq] at hz
  split at hz
  · rename_i h0
    have h0' : n * sz = 0 := beqN h0
    cases hz
    exact ⟨fun M => .nil, h0'.symm, .inl ⟨h0', rfl⟩⟩
  · rename_i h0
    have hne : ¬ n * sz = 0 := fun h => h0 (by show Nat.beq (n * sz) 0 = true; rw [h]; rfl)
    split at hz
    · rename_i zl hzl
      obtain ⟨hl, hz2⟩ := bc_some hz
      cases hz2
      obtain ⟨v, h1, h2, h3⟩ := tzero_of ok hzl
      have hlen : zl.length = sz := by have := beqN hl; rwa [lenL_eq] at this
      refine ⟨fun M => ?_, ?_, .inr ⟨hne, v, h1, ?_⟩⟩
      · rw [repL_eq]
        clear hz hl h0 hne
        induction n with
        | zero => exact .nil
        | succ n ih => rw [List.replicate_succ, List.flatten_cons]; exact (h3 M).app ih
      · rw [repL_eq]; simp [hlen]
      · have hv : v.cells = zl.toArray := by rw [← h2]
        rw [hv]
        apply Array.ext'
        rw [Array.toList_map, Array.toList_range, ← hlen]
        exact rep_range zl n
    · cases hz
theorem f_buildSlice (ok : CxOK P) (e : ER M E a.tmps) {t : TypeId} {len : Nat} {ps : Array (Nat × Operand)} (ho : o.op = .buildSlice t len ps) (hr : opBuildSlice t len ps P E h = some r) :
    FreshOK P M a o (opBuildSlice t len ps P E) := by
  have key : ∀ h r, opBuildSlice t len ps P E h = some r → ∃ el sz l z cs, desc P t = some (.slice el) ∧ tsize P el = some sz ∧ evalParts E ps.toList = some l ∧ len * sz ≤ 16777216 ∧ zerosA P el len sz = some z ∧
      fillA (fun i => some (Nat.mul i sz, sz)) z l = some cs ∧ r = .val (.slice (some ⟨h.next, 0, none⟩) len (mkCap len true)) (h.newCells cs el) := by
    intro h r hr
    unfold opBuildSlice at hr
    split at hr
    · rename_i el hd
      split at hr
      · rename_i sz hsz
        split at hr
        · rename_i l hl
          obtain ⟨hb, hr2⟩ := bc_some hr
          split at hr2
          · rename_i z hz
            split at hr2
            · rename_i cs hcs
              exact ⟨el, sz, l, z, cs, hd, hsz, hl, bleN hb, hz, hcs, one_some hr2⟩
            · cases hr2
          · cases hr2
        · cases hr
      · cases hr
    · cases hr
  obtain ⟨el, sz, l, z, cs, hd, hsz, hl, hb, hz, hcs, _⟩ := key h r hr
  obtain ⟨hz1, hz2, hz3⟩ := zerosA_ok ok hz
  -- the row that the model fills
  obtain ⟨r', hf1, hf2⟩ := fill_ok (M := M) (place' := fun i => some (i * sz, sz)) (fun i x hx => hx) (evalParts_ok e hl) (cells' := z.toArray) (hz1 M) hcs
  have hcl : cs.length = r'.size := by rw [hf2.length]; simp
  have hrsz : r'.size = len * sz := by
    have : ∀ {place : Nat → Option (Nat × Nat)} {ps : List (Nat × Value)} {c c' : Array Value}, Instr.fill place c ps = some c' → c'.size = c.size := by
      intro place ps
      induction ps with
      | nil => intro c c' h; cases h; rfl
      | cons x r ih =>
        intro c c' h
        obtain ⟨i, v⟩ := x
        simp only [Instr.fill] at h
        split at h
        · cases h
        · split at h
          · cases h
          · rw [ih h]
            have : ∀ (l : List (Value × Nat)) (c : Array Value) (off : Nat), (l.foldl (fun cs (x : Value × Nat) => cs.setIfInBounds (off + x.2) x.1) c).size = c.size := by
              intro l
              induction l with
              | nil => intros; rfl
              | cons y l ih => intro c off; rw [List.foldl_cons, ih]; simp
            rw [← Array.foldl_toList]
            exact this _ _ _
    rw [this hf1]; simp [hz2]
  refine fresh_row (cs := cs) (c := r') (mk := fun n => .slice (some ⟨n, 0, none⟩) len (mkCap len true)) (cmk := fun n => .slice (some ⟨n, 0, none⟩) len len) hsz ?_ ?_ ?_ hf2
  · intro h' r2 hr'
    obtain ⟨el', sz', l', z', cs', hd', hsz', hl', _, hz', hcs', hrr⟩ := key h' r2 hr'
    rw [hd] at hd'; cases hd'
    rw [hsz] at hsz'; cases hsz'
    rw [hl] at hl'; cases hl'
    rw [hz] at hz'; cases hz'
    rw [hcs] at hcs'; cases hcs'
    exact hrr
  · intro w
    have hf1' : Instr.fill (fun i => some (i * sz, sz)) z.toArray (ps.map fun (i, x) => (i, a.eval x)).toList = some r' := by simpa using hf1
    have hlim : ¬ len * sz > 2 ^ 24 := by omega
    simp only [execOp, ho, Instr.buildSlice, Sem.run_bind, run_und ok hd, Result.andThen_ok, run_size ok hsz]
    rw [if_neg hlim]
    rcases hz3 with ⟨h0, hz0⟩ | ⟨h0, v, hv, hza⟩
    · rw [if_pos h0]
      subst hz0
      have : Array.range (len * sz) = #[] := by rw [h0]; rfl
      simp only [Sem.run_bind, Sem.run_pure, Result.andThen_ok, this, Array.map_empty, hf1', newRow, run_newObj]
    · rw [if_neg h0]
      simp only [Sem.run_bind, Sem.run_pure, hv, Result.andThen_ok, hza, hf1', newRow, run_newObj]
  · intro M' id n hm
    exact VR.slice_exact (i := ⟨n, 0, sz, r'.size, undef⟩) hm (.inl rfl) (Nat.le_refl _)
theorem f_makeSlice (ok : CxOK P) (e : ER M E a.tmps) {t : TypeId} {x y : Operand} (ho : o.op = .makeSlice t x y) (hr : opMkSlice t x y P E h = some r) : FreshOK P M a o (opMkSlice t x y P E) := by
  have key : ∀ h r, opMkSlice t x y P E h = some r → ∃ k k' l c el sz by_ z, evalO E x = some (.int k (.ofNat l)) ∧ evalO E y = some (.int k' (.ofNat c)) ∧ desc P t = some (.slice el) ∧ tsize P el = some sz ∧ tbytes P el = some by_ ∧
      zerosA P el c sz = some z ∧ (tzeroV P el).isSome = true ∧ l ≤ c ∧ (by_ + 1) * c ≤ 281474976710656 ∧ r = .val (.slice (some ⟨h.next, 0, none⟩) l (mkCap c true)) (h.newCells z el) := by
    intro h r hr
    obtain ⟨u, h1, h2⟩ := ev1_some hr
    obtain ⟨v, h3, h4⟩ := ev1_some h2
    split at h4
    · rename_i l hl
      obtain ⟨k, rfl⟩ := natOf_some hl
      split at h4
      · rename_i c hc
        obtain ⟨k', rfl⟩ := natOf_some hc
        split at h4
        · rename_i el hd
          split at h4
          · rename_i sz hsz
            split at h4
            · rename_i by_ hby
              split at h4
              · rename_i z hz
                obtain ⟨q1, q2⟩ := bc_some h4
                obtain ⟨q3, q4⟩ := bc_some q2
                obtain ⟨hz0, hz⟩ := bc_some hz
                exact ⟨k, k', l, c, el, sz, by_, z, h1, h3, hd, hsz, hby, hz, hz0, bleN q1, bleN q3, one_some q4⟩
              · cases h4
            · cases h4
          · cases h4
        · cases h4
      · cases h4
    · cases h4
  obtain ⟨k, k', l, c, el, sz, by_, z, h1, h3, hd, hsz, hby, hz, hz0, hlc, hb, _⟩ := key h r hr
  obtain ⟨hz1, hz2, hz3⟩ := zerosA_ok ok hz
  have hu := (evalO_ok e h1).int_inv
  have hv := (evalO_ok e h3).int_inv
  have hcs : c ≤ 281474976710656 := Nat.le_trans (by rw [Nat.succ_mul]; omega) hb
  have hbc : by_ * c ≤ 281474976710656 := Nat.le_trans (by rw [Nat.succ_mul]; omega) hb
  refine fresh_row (cs := z) (c := z.toArray) (mk := fun n => .slice (some ⟨n, 0, none⟩) l (mkCap c true)) (cmk := fun n => .slice (some ⟨n, 0, none⟩) l c) hsz ?_ ?_ ?_ (hz1 M)
  · intro h' r2 hr'
    obtain ⟨_, _, l', c', el', sz', by', z', h1', h3', hd', hsz', _, hz', _, _, _, hrr⟩ := key h' r2 hr'
    rw [h1] at h1'; cases h1'
    rw [h3] at h3'; cases h3'
    rw [hd] at hd'; cases hd'
    rw [hsz] at hsz'; cases hsz'
    rw [hz] at hz'; cases hz'
    exact hrr
  · intro w
    obtain ⟨ti, hti, htb⟩ : ∃ ti, P.P.info? el = some ti ∧ ti.bytes = by_ := by
      unfold tbytes at hby
      cases hi : P.ty.get el with
      | none => rw [hi] at hby; cases hby
      | some i => rw [hi] at hby; cases hby; exact ⟨i, info_of ok hi, rfl⟩
    obtain ⟨zv, hzv⟩ := Option.isSome_iff_exists.1 hz0
    have hzi : ti.zero = some zv := by
      have := (tzeroV_of ok hzv).1 default
      simp only [zeroValue, typeInfo, Sem.run_bind, run_program, Result.andThen_ok, hti, Sem.run_pure] at this
      cases hq : ti.zero with
      | none => simp [hq] at this
      | some q => simp [hq] at this; rw [this]
    have hts : ti.size = sz := by
      obtain ⟨i', hi', hs'⟩ := tsize_info hsz
      have := info_of ok hi'
      rw [hti] at this; cases this; exact hs'
    have hb1 : ((ti.bytes : Int) * ((c : Nat) : Int)) ≤ 281474976710656 := by
      rw [htb]
      have h : ((by_ * c : Nat) : Int) ≤ 281474976710656 := by omega
      rwa [Int.natCast_mul] at h
    have hm := run_make (P := P.P) w t el ti zv (desc_of ok hd) hti hzi k k' l c (by omega) (by omega) hb1 (by omega)
    have hcells : madeCells zv.cells ((c : Int).toNat * ti.size) = z.toArray := by
      rw [hts, Int.toNat_natCast]
      rcases hz3 with ⟨h0, hz0'⟩ | ⟨h0, v, hv', hza⟩
      · rw [h0, hz0']; simp [madeCells, Array.range_zero']
      · have e1 := hv' default
        rw [(tzeroV_of ok hzv).1 default] at e1
        cases e1
        exact hza
    rw [hcells] at hm
    simp only [execOp, ho, hu, hv, Sem.run_bind, Int.ofNat_eq_natCast, hm, Int.toNat_natCast, Result.andThen_ok, Sem.run_pure]
    rfl
  · intro M' id n hm
    exact VR.slice_exact (i := ⟨n, 0, sz, z.toArray.size, undef⟩) hm (.inl rfl) hlc
end
end Go.Ev
