/- append (own work). -/
import Derived.Test.YtbfepjofmkdafaaGreatEvS12
namespace Go.Ev
variable {P : Cx} {M : Mu} {h h' : AH} {w w' : World}

theorem run_appendCap {p : Program} (need old e : Nat) (w : World) :
    ∃ t, (choose (.appendCap need old e)).run p w = .ok (need + t) { w with drawn := w.drawn + 1 } :=
  ⟨_, by simp only [choose, Sem.run, Question.forced, Question.cut]; rfl⟩
def isIntD : TypeDesc → Bool
  | .int _ => true
  | _ => false
structure ApIn (P : Cx) (sT xT e sz : Nat) (d : TypeDesc) (x' : Value) (n : Nat) (w : World) : Prop where
  hd : desc P sT = some (.slice e)
  hsz : tsize P e = some sz
  hdx : desc P xT = some d
  hn : (isIntD d = true ∧ (∃ k, x' = .int k (.ofNat n)) ∧ ∃ i, P.ty.get e = some i ∧ n * (i.bytes + 1) ≤ 281474976710656) ∨ (isIntD d = false ∧ (Builtin.lenOf x').run P.P w = .ok n w)
def apNew (zeros : Bool) (e sz n : Nat) (x' : Value) : Sem (Array Value) :=
  if zeros = true then (if n * sz = 0 then pure #[] else (zeroValue e).bind fun z => pure (Builtin.zeroCells z.cells n)) else Builtin.firstCells sz n x'
theorem run_info (ok : CxOK P) {e : TypeId} {i : TypeInfo} (hi : P.ty.get e = some i) (w : World) : (typeInfo e).run P.P w = .ok i w := by
  simp [typeInfo, info_of ok hi]
theorem wrap_nat {n : Nat} (hn : n ≤ 281474976710656) : IntKind.i64.wrap (Int.ofNat n) = (n : Int) := by
  simp only [IntKind.wrap, IntKind.signed, IntKind.bits, Int.ofNat_eq_natCast]
  have h2 : ((n : Int) % 2 ^ 64) = (n : Int) := Int.emod_eq_of_lt (by omega) (by omega)
  simp only [h2]
  rw [if_neg (by simp; omega)]
theorem append_stay (ok : CxOK P) {sT xT t e sz n l c : Nat} {d : TypeDesc} {x' : Value} {b : Option Addr} (hi : ApIn P sT xT e sz d x' n w) (hle : l + n ≤ c) {new : Array Value}
    (hnew : (apNew (isIntD d) e sz n x').run P.P w = .ok new w) :
    (Builtin.append_ #[sT, xT] t #[.slice b l c, x']).run P.P w = match b with
      | none => .ok (.slice b (l + n) c) w
      | some a => ((storeCells (a.add (l * sz)) new.toList).run P.P w).andThen fun _ w' => .ok (.slice b (l + n) c) w' := by
  obtain ⟨hd, hsz, hdx, hn⟩ := hi
  rcases hn with ⟨h0, ⟨k, rfl⟩, i, hi, hb⟩ | ⟨h0, hl⟩
  · have hn48 : n ≤ 281474976710656 := Nat.le_trans (by rw [Nat.mul_succ]; omega) hb
    have e1 : ¬ IntKind.i64.wrap (Int.ofNat n) < 0 := by rw [wrap_nat hn48]; omega
    have e2 : ¬ (IntKind.i64.wrap (Int.ofNat n) * (i.bytes : Int) > 2 ^ 48) := by
      rw [wrap_nat hn48]
      have : n * i.bytes ≤ 281474976710656 := Nat.le_trans (by rw [Nat.mul_succ]; omega) hb
      have : ((n * i.bytes : Nat) : Int) ≤ 281474976710656 := by omega
      rw [Int.natCast_mul] at this; omega
    have e3 : (IntKind.i64.wrap (Int.ofNat n)).toNat = n := by rw [wrap_nat hn48]; simp
    simp only [apNew, h0, if_true] at hnew
    cases d with
    | int ki =>
      simp only [Builtin.append_, List.getElem?_toArray, List.getElem?_cons_zero, List.getElem?_cons_succ, Sem.run_bind, run_und ok hd, Result.andThen_ok, run_size ok hsz, run_und ok hdx, Sem.run_pure, if_true, asInt, asIntOf, if_neg e1, if_neg e2, run_info ok hi, e3, if_pos hle, Bool.not_true, Bool.false_eq_true, if_false]
      have hnew' : Sem.run P.P (if n * sz = 0 then pure #[] else do let z ← zeroValue e; pure (Builtin.zeroCells z.cells n)) w = .ok new w := hnew
      rw [hnew']
      cases b <;> simp
    | _ => cases h0
  · simp only [apNew, h0, Bool.false_eq_true, if_false] at hnew
    cases d with
    | int ki => cases h0
    | _ =>
      simp only [Builtin.append_, List.getElem?_toArray, List.getElem?_cons_zero, List.getElem?_cons_succ, Sem.run_bind, run_und ok hd, Result.andThen_ok, run_size ok hsz, run_und ok hdx, Sem.run_pure, if_true, if_pos hle, Bool.not_false, Bool.false_eq_true, if_false, hl, hnew]
      cases b <;> simp
/-- the new row's zeros -/
theorem append_grow (ok : CxOK P) {sT xT t e sz n l c : Nat} {d : TypeDesc} {x' : Value} {b : Option Addr} (hi : ApIn P sT xT e sz d x' n w) (hle : ¬ l + n ≤ c) {old new : Array Value} {z : Value} {i : TypeInfo}
    (hie : P.ty.get e = some i) (hz : i.zero = some z) (hby : 1 ≤ i.bytes) (hroom : i.bytes * (2 * (l + n) + 1000) ≤ 281474976710656)
    (hold : ∀ w' : World, w'.heap = w.heap → (Builtin.firstCells sz l (.slice b l c)).run P.P w' = .ok old w')
    (hnew : ∀ w' : World, w'.heap = w.heap → (apNew (isIntD d) e sz n x').run P.P w' = .ok new w') :
    ∃ k, (Builtin.append_ #[sT, xT] t #[.slice b l c, x']).run P.P w = .ok (.slice (some ⟨w.heap.size, 0, none⟩) (l + n) (l + n + k))
      { w with drawn := w.drawn + 1, heap := w.heap.push (.cells (old ++ new ++ Builtin.zeroCells z.cells k) e) } := by
  obtain ⟨hd, hsz, hdx, hn⟩ := hi
  have hneed : l + n ≤ 281474976710656 := by
    refine Nat.le_trans ?_ hroom
    exact Nat.le_trans (by omega) (Nat.le_mul_of_pos_left (2 * (l + n) + 1000) hby)
  have hcap : ¬ (Builtin.nextslicecap (l + n) c * i.bytes > 2 ^ 48) := by
    have hg : ∀ k x, x ≤ 2 * (l + n) + 1000 → Builtin.growBy (l + n) k x ≤ 2 * (l + n) + 1000 := by
      intro k
      induction k with
      | zero => intro x hx; exact hx
      | succ k ih =>
        intro x hx
        simp only [Builtin.growBy]
        split
        · exact hx
        · exact ih _ (by omega)
    have : Builtin.nextslicecap (l + n) c ≤ 2 * (l + n) + 1000 := by
      unfold Builtin.nextslicecap
      split
      · omega
      · split
        · omega
        · exact hg 4 c (by omega)
    have h2 := Nat.mul_le_mul_left i.bytes this
    rw [Nat.mul_comm] at h2
    omega
  have hmax : ¬ (((l + n : Nat) : Int) > IntKind.i64.max ∧ True) := by
    have : (IntKind.i64.max : Int) = 9223372036854775807 := by decide
    rw [this]; omega
  have hmax' : ∀ q : Prop, ¬ (((l + n : Nat) : Int) > IntKind.i64.max ∧ q) := fun q hq => hmax ⟨hq.1, trivial⟩
  obtain ⟨k, hk⟩ := run_appendCap (p := P.P) (l + n) c e w
  have hzv : ∀ w, (zeroValue e).run P.P w = .ok z w := fun w => by simp [zeroValue, typeInfo, info_of ok hie, hz]
  refine ⟨k, ?_⟩
  have ho := hold { w with drawn := w.drawn + 1 } rfl
  have hw := hnew { w with drawn := w.drawn + 1 } rfl
  rcases hn with ⟨h0, ⟨kk, rfl⟩, i', hi, hb⟩ | ⟨h0, hl⟩
  · rw [hie] at hi; cases hi
    have hn48 : n ≤ 281474976710656 := Nat.le_trans (by rw [Nat.mul_succ]; omega) hb
    have e1 : ¬ IntKind.i64.wrap (Int.ofNat n) < 0 := by rw [wrap_nat hn48]; omega
    have e2 : ¬ (IntKind.i64.wrap (Int.ofNat n) * (i.bytes : Int) > 2 ^ 48) := by
      rw [wrap_nat hn48]
      have : n * i.bytes ≤ 281474976710656 := Nat.le_trans (by rw [Nat.mul_succ]; omega) hb
      have : ((n * i.bytes : Nat) : Int) ≤ 281474976710656 := by omega
      rw [Int.natCast_mul] at this; omega
    have e3 : (IntKind.i64.wrap (Int.ofNat n)).toNat = n := by rw [wrap_nat hn48]; simp
    simp only [apNew, h0, if_true] at hw
    cases d with
    | int ki =>
      simp only [Builtin.append_, List.getElem?_toArray, List.getElem?_cons_zero, List.getElem?_cons_succ, Sem.run_bind, run_und ok hd, Result.andThen_ok, run_size ok hsz, run_und ok hdx, Sem.run_pure, if_true, asInt, asIntOf, if_neg e1, if_neg e2, run_info ok hie, e3, if_neg hle, Bool.not_true, Bool.false_eq_true, if_false, if_neg (hmax' _), if_neg hcap, hk, Sem.run_bind]
      have hw' : Sem.run P.P (if n * sz = 0 then pure #[] else do let z ← zeroValue e; pure (Builtin.zeroCells z.cells n)) { w with drawn := w.drawn + 1 } = .ok new { w with drawn := w.drawn + 1 } := hw
      have hask : ∀ (b : Nat) (w : World), (askRoom b).run P.P w = .ok () w := fun b w => by unfold askRoom; split <;> rfl
      rw [hask]
      simp only [Result.andThen_ok, ho, hw', hzv, newRow, Sem.run_bind, run_newObj, Sem.run_pure, Nat.add_sub_cancel_left]
    | _ => cases h0
  · simp only [apNew, h0, Bool.false_eq_true, if_false] at hw
    cases d with
    | int ki => cases h0
    | _ =>
      simp only [Builtin.append_, List.getElem?_toArray, List.getElem?_cons_zero, List.getElem?_cons_succ, Sem.run_bind, run_und ok hd, Result.andThen_ok, run_size ok hsz, run_und ok hdx, Sem.run_pure, if_true, Bool.not_false, Bool.false_eq_true, if_false, hl, run_info ok hie, if_neg hle, if_neg (hmax' _), if_neg hcap, hk]
      have hask : ∀ (b : Nat) (w : World), (askRoom b).run P.P w = .ok () w := fun b w => by unfold askRoom; split <;> rfl
      rw [hask]
      simp only [Result.andThen_ok, ho, hw, hzv, newRow, Sem.run_bind, run_newObj, Sem.run_pure, Nat.add_sub_cancel_left]
theorem loadN_ok' (s : SR P M h w) {b off n : Nat} {l : List Value} (hl : loadN h b off n = some l) :
    ∃ i l', M b = some i ∧ (∀ w' : World, w'.heap = w.heap → (loadCells ⟨i.blk, i.sh + off, none⟩ n).run P.P w' = .ok l' w') ∧ VRs M l l'.toList := by
  unfold loadN at hl
  split at hl
  · rename_i cs e g hg
    obtain ⟨i, hi, c, lo, hi2, h1, h2, h3, h4, h5⟩ := s.obj _ _ hg
    obtain ⟨r1, r2⟩ := h5.range hl
    rcases Nat.eq_zero_or_pos n with q | q
    · subst q
      refine ⟨i, #[], hi, fun w' _ => rfl, ?_⟩
      simpa using r1
    · have := r2 q
      refine ⟨i, _, hi, fun w' hw => run_load_row (by rw [hw]; exact h1) n (by simpa using this), r1⟩
  · cases hl
theorem bytesCells_refl (M : Mu) (y : ByteArray) : VRs M (bytesCells y) (bytesCells y) := by
  unfold bytesCells
  generalize y.data.toList = l
  induction l with
  | nil => exact .nil
  | cons b r ih => exact .cons _ _ _ _ (.int _ _) ih
theorem extract_all (y : ByteArray) : y.extract 0 y.size = y := by
  apply ByteArray.ext
  simp
theorem appNew_ok (ok : CxOK P) (s : SR P M h w) {sT xT e sz n : Nat} {x x' : Value} {cells : List Value} (hd : desc P sT = some (.slice e)) (hsz : tsize P e = some sz) (hx : VR M x x')
    (hr : appNew P h e sz xT x = some (n, cells)) :
    ∃ d, ApIn P sT xT e sz d x' n w ∧ ∃ new, VRs M cells new.toList ∧ ∀ w' : World, w'.heap = w.heap → (apNew (isIntD d) e sz n x').run P.P w' = .ok new w' := by
  have hc : ∀ d, desc P xT = some d → isIntD d = false → appCells h sz x = some (n, cells) →
      ∃ d, ApIn P sT xT e sz d x' n w ∧ ∃ new, VRs M cells new.toList ∧ ∀ w' : World, w'.heap = w.heap → (apNew (isIntD d) e sz n x').run P.P w' = .ok new w' := by
    intro d hdx h0 hq
    refine ⟨d, ?_⟩
    rw [h0]
    unfold appCells at hq
    split at hq
    · simp only [Option.some.injEq, Prod.mk.injEq] at hq
      obtain ⟨rfl, rfl⟩ := hq
      cases hx with
      | slice0 => exact ⟨⟨hd, hsz, hdx, .inr ⟨h0, rfl⟩⟩, #[], .nil, fun w' _ => rfl⟩
    · rename_i a len code
      obtain ⟨ab, ao, as⟩ := a
      cases hx with
      | slice _ _ _ _ i off' c' hm hoff hlen hcc hex hroom =>
        rw [bc_eq] at hq
        split at hq
        · rename_i hz
          have := beqN hz
          subst this
          simp only [Option.some.injEq, Prod.mk.injEq] at hq
          obtain ⟨rfl, rfl⟩ := hq
          exact ⟨⟨hd, hsz, hdx, .inr ⟨h0, rfl⟩⟩, #[], .nil, fun w' _ => by simp [apNew, Builtin.firstCells, loadCells, loadCellsFrom]⟩
        · rename_i hz
          have hlp : len ≠ 0 := fun e0 => hz (by rw [e0]; rfl)
          split at hq
          · rename_i l hl
            simp only [Option.some.injEq, Prod.mk.injEq] at hq
            obtain ⟨rfl, rfl⟩ := hq
            obtain ⟨j, l', hj, h1, h2⟩ := loadN_ok' s hl
            rw [hm] at hj; cases hj
            have ho : off' = i.sh + ao := by rcases hoff with q | q <;> omega
            exact ⟨⟨hd, hsz, hdx, .inr ⟨h0, rfl⟩⟩, l', h2, fun w' hw => by simpa [apNew, Builtin.firstCells, ho] using h1 w' hw⟩
          · cases hq
    · rename_i y
      obtain ⟨_, hq⟩ := bc_some hq
      simp only [Option.some.injEq, Prod.mk.injEq] at hq
      obtain ⟨rfl, rfl⟩ := hq
      cases hx with
      | string =>
        refine ⟨⟨hd, hsz, hdx, .inr ⟨h0, rfl⟩⟩, ⟨bytesCells y⟩, bytesCells_refl M y, fun w' _ => ?_⟩
        simp only [apNew, Bool.false_eq_true, if_false, Builtin.firstCells, extract_all, Sem.run_pure]
        congr 1
        apply Array.ext'
        simp [bytesCells]
    · cases hq
  unfold appNew at hr
  cases hdx : desc P xT with
  | none => rw [hdx] at hr; cases hr
  | some d =>
    rw [hdx] at hr
    cases d with
    | int k =>
      simp only at hr
      unfold appZeros at hr
      split at hr
      · rename_i m hm
        obtain ⟨k', rfl⟩ := natOf_some hm
        split at hr
        · rename_i z hz
          split at hr
          · rename_i by_ hby
            obtain ⟨hcond, hr2⟩ := bc_some hr
            obtain ⟨hb, hl⟩ := bc_and hcond
            simp only [Option.some.injEq, Prod.mk.injEq] at hr2
            obtain ⟨rfl, rfl⟩ := hr2
            have hx' := hx.int_inv
            subst hx'
            obtain ⟨i, hi, rfl⟩ : ∃ i, P.ty.get e = some i ∧ i.bytes = by_ := by
              unfold tbytes at hby
              cases hi : P.ty.get e with
              | none => rw [hi] at hby; cases hby
              | some i => rw [hi] at hby; cases hby; exact ⟨i, rfl, rfl⟩
            obtain ⟨v, h1, h2, h3⟩ := tzero_of ok hz
            have hlen : z.length = sz := by have := beqN hl; rwa [lenL_eq] at this
            refine ⟨_, ⟨hd, hsz, hdx, .inl ⟨rfl, ⟨k', rfl⟩, i, hi, bleN hb⟩⟩, ⟨repL m z⟩, ?_, fun w' _ => ?_⟩
            · rw [repL_eq]
              clear hr hb hx hdx hcond hc hm
              induction m with
              | zero => exact .nil
              | succ m ih => rw [List.replicate_succ, List.flatten_cons]; exact (h3 M).app ih
            · simp only [apNew, isIntD, if_true]
              split
              · rename_i h0
                have : repL m z = [] := by
                  apply List.eq_nil_of_length_eq_zero
                  rw [repL_eq]; simp [hlen, h0]
                rw [this]; rfl
              · show ((zeroValue e).bind fun z => .pure (Builtin.zeroCells z.cells m)).run P.P w' = _
                have := h1 w'
                have hv : v.cells = z.toArray := by rw [← h2]
                rw [show ((zeroValue e).bind fun z => Sem.pure (Builtin.zeroCells z.cells m)) = (zeroValue e >>= fun z => pure (Builtin.zeroCells z.cells m)) from rfl, Sem.run_bind, this]
                simp only [Result.andThen_ok, Sem.run_pure]
                congr 1
                apply Array.ext'
                rw [hv]
                unfold Builtin.zeroCells
                rw [Array.toList_map, Array.toList_range]
                simpa using rep_range z m
          · cases hr
        · cases hr
      · cases hr
    | _ => exact hc _ hdx rfl hr
theorem loadN_len {b off n : Nat} {l : List Value} (hl : loadN h b off n = some l) : l.length = n := by
  unfold loadN at hl
  split at hl
  · rw [dropL_eq] at hl
    obtain ⟨e, hn⟩ := takeL_spec _ _ _ hl
    rw [e, List.length_take]; omega
  · cases hl
theorem appNew_len {e sz xT n : Nat} {x : Value} {cells : List Value} (hr : appNew P h e sz xT x = some (n, cells)) : cells.length = n * sz := by
  have hc : appCells h sz x = some (n, cells) → cells.length = n * sz := by
    intro hq
    unfold appCells at hq
    split at hq
    · simp only [Option.some.injEq, Prod.mk.injEq] at hq
      obtain ⟨rfl, rfl⟩ := hq; simp
    · rw [bc_eq] at hq
      split at hq
      · rename_i hz
        have := beqN hz
        simp only [Option.some.injEq, Prod.mk.injEq] at hq
        obtain ⟨rfl, rfl⟩ := hq; simp
      · split at hq
        · rename_i l hl
          simp only [Option.some.injEq, Prod.mk.injEq] at hq
          obtain ⟨rfl, rfl⟩ := hq; exact loadN_len hl
        · cases hq
    · obtain ⟨h1, hq⟩ := bc_some hq
      have := beqN h1
      simp only [Option.some.injEq, Prod.mk.injEq] at hq
      obtain ⟨rfl, rfl⟩ := hq
      subst this
      simp [bytesCells]
    · cases hq
  unfold appNew at hr
  split at hr
  · unfold appZeros at hr
    split at hr
    · split at hr
      · split at hr
        · obtain ⟨hcond, hr2⟩ := bc_some hr
          obtain ⟨_, hl⟩ := bc_and hcond
          simp only [Option.some.injEq, Prod.mk.injEq] at hr2
          obtain ⟨rfl, rfl⟩ := hr2
          have := beqN hl
          rw [lenL_eq] at this
          rw [repL_eq]; simp [this]
        · cases hr
      · cases hr
    · cases hr
  · exact hc hr
  · cases hr
theorem zeroCells_size (z : Array Value) (k : Nat) : (Builtin.zeroCells z k).size = k * z.size := by simp [Builtin.zeroCells]
/-- a new row: some cells, and zeros behind -/
theorem newA_ok (s : SR P M h w) {e sz need k : Nat} {cells : List Value} {c0 zs : Array Value} {r : R1} (hsz : tsize P e = some sz) (hc : VRs M cells c0.toList) (hlen : cells.length = need * sz) (hz : zs.size = k * sz)
    (hr : newA h cells e need = some r) (hw : w'.heap = w.heap.push (.cells (c0 ++ zs) e)) (hs : Same w w') :
    ∃ v h' M', r = .val v h' ∧ Nxt P M h w M' h' w' ∧ VR M' v (.slice (some ⟨w.heap.size, 0, none⟩) need (need + k)) := by
  have gw : Grew w w' (.cells (c0 ++ zs) e (0, 0)) := ⟨hs, hw⟩
  refine ⟨_, _, M.set h.next ⟨w.heap.size, 0, sz, (c0 ++ zs).size, undef⟩, one_some hr, nxt_row (lo := 0) (hi := 0) s gw hsz (fun k _ _ => by omega) ?_, ?_⟩
  · intro j v hj
    obtain ⟨u, hu, hv⟩ := hc.get j v hj
    refine ⟨u, ?_, hv⟩
    rw [Nat.zero_add, Array.toList_append, List.getElem?_append_left (List.getElem?_eq_some_iff.1 hu).1]; exact hu
  · refine .slice _ 0 need _ ⟨w.heap.size, 0, sz, (c0 ++ zs).size, undef⟩ 0 (need + k) (Mu.set_same _ _ _) (.inl rfl) ?_ ?_ ?_ ?_
    · rw [mkCap_half]; exact Nat.le_refl _
    · rw [mkCap_half]; omega
    · intro q; rw [mkCap_even] at q; cases q
    · intro _
      have : c0.size = need * sz := by rw [← hlen, hc.length]; simp
      simp only [Array.size_append, this, hz, Nat.zero_add, Nat.add_mul]; omega
theorem roomOK_ok (ok : CxOK P) {e sz need : Nat} (hr : roomOK P e sz need = true) :
    ∃ i z, P.ty.get e = some i ∧ i.zero = some z ∧ z.cells.size = sz ∧ 1 ≤ i.bytes ∧ i.bytes * (2 * need + 1000) ≤ 281474976710656 := by
  unfold roomOK at hr
  split at hr
  · rename_i z by_ hz hby
    obtain ⟨h1, h2⟩ := bc_and hr
    obtain ⟨h3, h4⟩ := bc_and h2
    obtain ⟨v, g1, g2, g3⟩ := tzero_of ok hz
    obtain ⟨i, hi, rfl⟩ : ∃ i, P.ty.get e = some i ∧ i.bytes = by_ := by
      unfold tbytes at hby
      cases hi : P.ty.get e with
      | none => rw [hi] at hby; cases hby
      | some i => rw [hi] at hby; cases hby; exact ⟨i, rfl, rfl⟩
    have g4 := g1 default
    simp only [zeroValue, typeInfo, Sem.run_bind, run_program, info_of ok hi, Result.andThen_ok, Sem.run_pure] at g4
    cases hq : i.zero with
    | none => simp [hq] at g4
    | some q =>
      simp only [hq, Sem.run_pure, Result.ok.injEq, and_true] at g4
      refine ⟨i, q, hi, hq, ?_, bleN h3, bleN h4⟩
      have := beqN h1
      rw [lenL_eq, ← g2] at this
      rw [g4]; simpa using this
  · cases hr
theorem append_ok (ok : CxOK P) (s : SR P M h w) {sT xT t : TypeId} {a a' x x' : Value} {r : R1} (ha : VR M a a') (hx : VR M x x') (hr : appendA P h sT xT a x = some r) :
    ∃ v h' M' u w', r = .val v h' ∧ (Builtin.append_ #[sT, xT] t #[a', x']).run P.P w = .ok u w' ∧ Nxt P M h w M' h' w' ∧ VR M' v u := by
  unfold appendA at hr
  split at hr
  · rename_i e hd
    split at hr
    · cases hr
    · rename_i sz hne hsz
      split at hr
      · rename_i base len code
        split at hr
        · cases hr
        · rename_i n cells hnew
          obtain ⟨d, hap, new, hv1, hv2⟩ := appNew_ok ok s hd hsz hx hnew
          have hcl := appNew_len hnew
          rw [bc_eq] at hr
          split at hr
          · -- it stays
            rename_i hle
            have hle' : len + n ≤ code / 2 := bleN hle
            unfold appStay at hr
            cases ha with
            | slice0 =>
              have hn0 : n = 0 := by omega
              subst hn0
              simp only at hr
              refine ⟨_, _, M, _, w, one_some hr, append_stay (l := 0) (c := 0) ok hap (by omega) (hv2 w rfl), Nxt.refl s, ?_⟩
              exact .slice0
            | slice b off _ _ i off' c' hm hoff hl hc hex hroom =>
              simp only at hr
              split at hr
              · rename_i h' hst
                have hex1 : ∃ w', (storeCells ⟨i.blk, off' + len * sz, none⟩ new.toList).run P.P w = .ok () w' ∧ Nxt P M h w M h' w' := by
                  by_cases ho : off' = i.sh + off
                  · obtain ⟨w', q1, q2⟩ := storeL_ok s hv1 hst hm
                    exact ⟨w', by rw [ho, Nat.add_assoc]; exact q1, q2⟩
                  · have hn0 : n = 0 := by rcases hoff with q | q <;> omega
                    have : cells = [] := List.eq_nil_of_length_eq_zero (by rw [hcl, hn0]; simp)
                    subst this
                    cases hst
                    generalize hnl : new.toList = nl at hv1
                    cases hv1
                    exact ⟨w, rfl, Nxt.refl s⟩
                obtain ⟨w', q1, q2⟩ := hex1
                refine ⟨_, _, M, .slice (some ⟨i.blk, off', none⟩) (len + n) c', w', one_some hr, ?_, q2, ?_⟩
                · rw [append_stay ok hap (by omega) (hv2 w rfl)]
                  simp only [add_off, q1, Result.andThen_ok]
                · refine .slice b off _ _ i off' c' hm ?_ hle' hc hex hroom
                  rcases hoff with q | q
                  · exact .inl q
                  · exact .inr ⟨by show len + n = 0; omega, q.2⟩
              · cases hr
          · -- it grows, or not
            rename_i hle
            have hle' : ¬ len + n ≤ code / 2 := fun q => hle (Nat.ble_eq_true_of_le q)
            obtain ⟨hroomOK, hr2⟩ := bc_some hr
            obtain ⟨ti, z, hti, htz, hzs, hby, hrm⟩ := roomOK_ok ok hroomOK
            unfold appGrow at hr2
            cases ha with
            | slice0 =>
              simp only at hr2
              have hold : ∀ w' : World, w'.heap = w.heap → (Builtin.firstCells sz 0 (.slice none 0 0)).run P.P w' = .ok #[] w' := fun w' _ => rfl
              obtain ⟨k, hk⟩ := append_grow (t := t) (l := 0) (c := 0) ok hap (by omega) hti htz hby hrm hold hv2
              obtain ⟨v, h', M', g1, g2, g3⟩ := newA_ok (k := k) (c0 := #[] ++ new) (zs := Builtin.zeroCells z.cells k) s hsz (by simpa using hv1) (by rw [hcl]; show n * sz = (0 + n) * sz; rw [Nat.zero_add]) (by rw [zeroCells_size, hzs]) hr2
                (w' := { w with drawn := w.drawn + 1, heap := w.heap.push (.cells (#[] ++ new ++ Builtin.zeroCells z.cells k) e) }) rfl ⟨rfl, rfl, rfl⟩
              exact ⟨v, h', M', _, _, g1, hk, g2, g3⟩
            | slice b off _ _ i off' c' hm hoff hl hc hex hroom =>
              simp only at hr2
              split at hr2
              · cases hr2
              · rename_i oldc hoc
                -- the old cells
                have hO : ∃ old : Array Value, VRs M oldc old.toList ∧ oldc.length = len * sz ∧ ∀ w' : World, w'.heap = w.heap → (Builtin.firstCells sz len (.slice (some ⟨i.blk, off', none⟩) len c')).run P.P w' = .ok old w' := by
                  unfold oldCells at hoc
                  rw [bc_eq] at hoc
                  split at hoc
                  · rename_i h0
                    have h0' : len = 0 := beqN h0
                    subst h0'
                    cases hoc
                    exact ⟨#[], .nil, by simp, fun w' _ => by simp [Builtin.firstCells, loadCells, loadCellsFrom]⟩
                  · rename_i h0
                    have h0' : len ≠ 0 := fun q => h0 (by rw [q]; rfl)
                    obtain ⟨j, l', hj, g1, g2⟩ := loadN_ok' s hoc
                    rw [hm] at hj; cases hj
                    have ho : off' = i.sh + off := by rcases hoff with q | q <;> omega
                    exact ⟨l', g2, loadN_len hoc, fun w' hw => by rw [ho]; exact g1 w' hw⟩
                obtain ⟨old, ho1, ho2, ho3⟩ := hO
                have hboth : VRs M (appL oldc cells) (old ++ new).toList := by rw [appL_eq, Array.toList_append]; exact ho1.app hv1
                have hblen : (appL oldc cells).length = (len + n) * sz := by rw [appL_eq, List.length_append, ho2, hcl, Nat.add_mul]
                rw [bc_eq] at hr2
                split at hr2
                · -- the room is just known: it grows
                  rename_i hexc
                  have hodd : code % 2 = 1 := beqN hexc
                  have hcc : c' = code / 2 := hex hodd
                  obtain ⟨k, hk⟩ := append_grow (t := t) ok hap (by rw [hcc]; exact hle') hti htz hby hrm ho3 hv2
                  obtain ⟨v, h', M', g1, g2, g3⟩ := newA_ok (k := k) (c0 := old ++ new) (zs := Builtin.zeroCells z.cells k) s hsz hboth hblen (by rw [zeroCells_size, hzs]) hr2
                    (w' := { w with drawn := w.drawn + 1, heap := w.heap.push (.cells (old ++ new ++ Builtin.zeroCells z.cells k) e) }) rfl ⟨rfl, rfl, rfl⟩
                  exact ⟨v, h', M', _, _, g1, hk, g2, g3⟩
                · rename_i hexc
                  have heven : code % 2 = 0 := by
                    have : ¬ code % 2 = 1 := fun q => hexc (by show Nat.beq (code % 2) 1 = true; rw [q]; rfl)
                    omega
                  have hrm2 := hroom heven
                  split at hr2
                  · rename_i cs e' g hg
                    obtain ⟨hcond, hr3⟩ := bc_some hr2
                    obtain ⟨c1, c2⟩ := bc_and hcond
                    obtain ⟨c3, c4⟩ := bc_and c2
                    have hee : e = e' := beqN c1
                    subst hee
                    have hlc : cs.length = off + len * sz := by have := beqN c3; rwa [lenL_eq] at this
                    obtain ⟨j, hj, c, lo, hi2, q1, q2, q3, q4, q5⟩ := s.obj _ _ hg
                    rw [hm] at hj; cases hj
                    have hisz : i.sz = sz := by rw [hsz] at q3; cases q3; rfl
                    have hnewl : new.toList.length = n * sz := by rw [← hv1.length, hcl]
                    by_cases hfit : len + n ≤ c'
                    · -- it stays where it is
                      have ho : off' = i.sh + off := by rcases hoff with q | q <;> omega
                      have hbound : i.sh + (off + len * sz) + 0 + new.toList.length ≤ c.size := by
                        have : (len + n) * sz ≤ c' * sz := Nat.mul_le_mul_right sz hfit
                        rw [Nat.add_mul] at this
                        rw [hisz] at hrm2
                        rw [hnewl, q2]; omega
                      obtain ⟨w', c2', r1, r2, r3, r4, r5⟩ := run_store_row (p := P.P) (o := i.sh + (off + len * sz)) new.toList 0 c w q1 q4 hbound (scals_ok hv1 c4)
                      have hkeep : CR M cs c2'.toList i.sh := by
                        intro k v hk
                        obtain ⟨u, hu, hvu⟩ := q5 k v hk
                        have hkl : k < cs.length := (List.getElem?_eq_some_iff.1 hk).1
                        refine ⟨u, ?_, hvu⟩
                        rw [r5, Nat.add_zero, List.append_assoc, List.getElem?_append_left (by rw [List.length_take]; simp only [Array.length_toList]; omega), List.getElem?_take_of_lt (by omega)]; exact hu
                      have hjn : OR P (M.set h.next ⟨i.blk, off', sz, i.tot, undef⟩) ⟨i.blk, off', sz, i.tot, undef⟩ w' (.cells (appL oldc cells) e g) := by
                        refine ⟨c2', lo, hi2, r3, r4.trans q2, hsz, fun k hk => q4 k (by omega), ?_⟩
                        have hid := s.fresh h.next (Nat.le_refl _)
                        refine CR.mono (Mu.le_set _ hid) ?_
                        intro k v hk
                        rw [appL_eq] at hk
                        by_cases hk1 : k < oldc.length
                        · -- an old cell
                          rw [List.getElem?_append_left hk1] at hk
                          have hlen0 : len ≠ 0 := by intro q; rw [ho2, q] at hk1; simp at hk1
                          have hloc : loadN h b off (len * sz) = some oldc := by
                            unfold oldCells at hoc
                            rw [bc_eq, if_neg (fun q => hlen0 (beqN q))] at hoc; exact hoc
                          have hcs : cs[off + k]? = some v := by
                            unfold loadN at hloc
                            rw [hg] at hloc
                            simp only [dropL_eq] at hloc
                            obtain ⟨e1, _⟩ := takeL_spec _ _ _ hloc
                            rw [e1, List.getElem?_take_of_lt (by rw [ho2] at hk1; exact hk1), List.getElem?_drop] at hk; exact hk
                          obtain ⟨u, hu, hvu⟩ := hkeep _ _ hcs
                          exact ⟨u, by rw [show off' + k = i.sh + (off + k) by omega]; exact hu, hvu⟩
                        · rw [List.getElem?_append_right (by omega)] at hk
                          obtain ⟨u, hu, hvu⟩ := hv1.get _ _ hk
                          refine ⟨u, ?_, hvu⟩
                          show c2'.toList[off' + k]? = some u
                          have htl : (c.toList.take (i.sh + (off + len * sz))).length = i.sh + (off + len * sz) := by rw [List.length_take]; simp only [Array.length_toList]; omega
                          rw [r5, Nat.add_zero, List.append_assoc, List.getElem?_append_right (by rw [htl]; omega), htl, List.getElem?_append_left (by have := (List.getElem?_eq_some_iff.1 hu).1; omega)]
                          rw [← hu]; congr 1; omega
                      refine ⟨_, _, M.set h.next ⟨i.blk, off', sz, i.tot, undef⟩, .slice (some ⟨i.blk, off', none⟩) (len + n) c', w', one_some hr3, ?_, ?_, ?_⟩
                      · rw [append_stay ok hap hfit (hv2 w rfl)]
                        have r1' : (storeCells ⟨i.blk, off' + len * sz, none⟩ new.toList).run P.P w = .ok () w' := by rw [ho, Nat.add_assoc]; exact r1
                        simp only [add_off, r1', Result.andThen_ok]
                      · exact nxt_beside s hm hg (.inl ⟨rfl, r2⟩) ⟨c2', lo, hi2, r3, r4.trans q2, q3, fun k hk => q4 k (by omega), hkeep⟩ hjn
                      · refine .slice _ 0 _ _ ⟨i.blk, off', sz, i.tot, undef⟩ off' c' (Mu.set_same _ _ _) (.inl rfl) ?_ ?_ ?_ ?_
                        · rw [mkCap_half]; exact Nat.le_refl _
                        · rw [mkCap_half]; exact hfit
                        · intro q; rw [mkCap_even] at q; cases q
                        · intro _; rw [hisz] at hrm2; exact hrm2
                    · -- a new row
                      obtain ⟨k, hk⟩ := append_grow (t := t) ok hap hfit hti htz hby hrm ho3 hv2
                      have gw : Grew w { w with drawn := w.drawn + 1, heap := w.heap.push (.cells (old ++ new ++ Builtin.zeroCells z.cells k) e) } (.cells (old ++ new ++ Builtin.zeroCells z.cells k) e (0, 0)) := ⟨⟨rfl, rfl, rfl⟩, rfl⟩
                      have hid := s.fresh h.next (Nat.le_refl _)
                      refine ⟨_, _, M.set h.next ⟨w.heap.size, 0, sz, (old ++ new ++ Builtin.zeroCells z.cells k).size, undef⟩, _, _, one_some hr3, hk, ?_, ?_⟩
                      · refine nxt_beside s hm hg (.inr ⟨rfl, _, gw⟩) ?_ ?_
                        · exact (show OR P M i w (.cells cs e g) from ⟨c, lo, hi2, q1, q2, q3, q4, q5⟩).world (gw.old _ ((show OR P M i w (.cells cs e g) from ⟨c, lo, hi2, q1, q2, q3, q4, q5⟩).lt))
                        · refine ⟨_, 0, 0, gw.new, rfl, hsz, fun k _ _ => by omega, ?_⟩
                          refine CR.mono (Mu.le_set _ hid) ?_
                          intro k' v hk'
                          obtain ⟨u, hu, hv⟩ := hboth.get k' v hk'
                          refine ⟨u, ?_, hv⟩
                          rw [Nat.zero_add, Array.toList_append, List.getElem?_append_left (List.getElem?_eq_some_iff.1 hu).1]; exact hu
                      · refine .slice _ 0 _ _ ⟨w.heap.size, 0, sz, (old ++ new ++ Builtin.zeroCells z.cells k).size, undef⟩ 0 (len + n + k) (Mu.set_same _ _ _) (.inl rfl) ?_ ?_ ?_ ?_
                        · rw [mkCap_half]; exact Nat.le_refl _
                        · rw [mkCap_half]; show len + n ≤ len + n + k; omega
                        · intro q; rw [mkCap_even] at q; cases q
                        · intro _
                          have h1 : (old ++ new).size = (len + n) * sz := by rw [← hblen, hboth.length]; simp
                          simp only [Array.size_append, zeroCells_size, hzs, Nat.zero_add] at h1 ⊢
                          rw [Nat.add_mul]; omega
                  · cases hr2
      · cases hr
    · cases hr
  · cases hr
end Go.Ev
