/- Parts of values, loads, stores (own work). -/
import Derived.Test.YtbfepjofmkdafaaGreatEvS9
namespace Go.Ev
variable {P : Cx} {M : Mu} {h h' : AH} {w w' : World}

theorem scal_ok {v u : Value} (hv : VR M v u) (hs : scal v = true) : u.oneCell' = true := by cases hv <;> first | rfl | assumption | (simp [scal] at hs)
theorem scals_ok : ∀ {l l' : List Value}, VRs M l l' → scals l = true → ∀ u ∈ l', u.oneCell' = true
  | _, _, .nil, _, u, hu => by cases hu
  | _, _, .cons v v' r r' hv hr, hs, u, hu => by
    obtain ⟨h1, h2⟩ := bc_and (show bc (scal v) (scals r) false = true from hs)
    rcases List.mem_cons.1 hu with q | q
    · rw [q]; exact scal_ok hv h1
    · exact scals_ok hr h2 u q

theorem CR.range {cs c l : List Value} {sh off n : Nat} (hc : CR M cs c sh) (hl : takeL n (dropL off cs) = some l) :
    VRs M l ((c.drop (sh + off)).take n) ∧ (0 < n → sh + off + n ≤ c.length) := by
  rw [dropL_eq] at hl
  obtain ⟨e, hn⟩ := takeL_spec _ _ _ hl
  rw [List.length_drop] at hn
  have hlen : 0 < n → sh + off + n ≤ c.length := by
    intro hpos
    have hk : off + n - 1 < cs.length := by omega
    obtain ⟨u, hu, _⟩ := hc (off + n - 1) cs[off + n - 1] (by simp [hk])
    have := (List.getElem?_eq_some_iff.1 hu).1
    omega
  refine ⟨VRs.of_get ?_ ?_, hlen⟩
  · rw [e, List.length_take, List.length_take, List.length_drop, List.length_drop]
    rcases Nat.eq_zero_or_pos n with q | q
    · omega
    · have := hlen q; omega
  · intro k v hk
    have hkn : k < n := by
      rcases Nat.lt_or_ge k n with q | q
      · exact q
      · rw [e, List.getElem?_eq_none (by rw [List.length_take]; omega)] at hk; cases hk
    rw [e, List.getElem?_take_of_lt hkn, List.getElem?_drop] at hk
    obtain ⟨u, hu, hv⟩ := hc _ _ hk
    exact ⟨u, by rw [List.getElem?_take_of_lt hkn, List.getElem?_drop, Nat.add_assoc]; exact hu, hv⟩
theorem loadN_ok (s : SR P M h w) {b off n : Nat} {l : List Value} (hl : loadN h b off n = some l) :
    ∃ i l', M b = some i ∧ (loadCells ⟨i.blk, i.sh + off, none⟩ n).run P.P w = .ok l' w ∧ VRs M l l'.toList := by
  unfold loadN at hl
  split at hl
  · rename_i cs e g hg
    obtain ⟨i, hi, c, lo, hi2, h1, h2, h3, h4, h5⟩ := s.obj _ _ hg
    obtain ⟨r1, r2⟩ := h5.range hl
    rcases Nat.eq_zero_or_pos n with q | q
    · subst q
      refine ⟨i, #[], hi, rfl, ?_⟩
      simpa using r1
    · have := r2 q
      refine ⟨i, _, hi, run_load_row h1 n (by simpa using this), r1⟩
  · cases hl
theorem loadV_ok (ok : CxOK P) (s : SR P M h w) {t : TypeId} {b off : Nat} {v : Value} (hl : loadV P h t b off = some v) :
    ∃ i u, M b = some i ∧ (loadVar t ⟨i.blk, i.sh + off, none⟩).run P.P w = .ok u w ∧ VR M v u := by
  unfold loadV at hl
  split at hl
  · rename_i hagg
    split at hl
    · rename_i n hn
      split at hl
      · rename_i l hl2
        simp only [Option.some.injEq] at hl; subst hl
        obtain ⟨i, l', hi, h1, h2⟩ := loadN_ok s hl2
        refine ⟨i, .agg l', hi, ?_, .agg _ _ h2⟩
        simp only [loadVar, Sem.run_bind, run_aggT ok hagg, Result.andThen_ok, if_true, run_size ok hn, h1, Sem.run_pure]
      · cases hl
    · cases hl
  · rename_i hagg
    split at hl
    · rename_i cs e g hg
      rw [getL_eq] at hl
      obtain ⟨i, hi, c, lo, hi2, h1, h2, h3, h4, h5⟩ := s.obj _ _ hg
      obtain ⟨u, hu, hv⟩ := h5 _ _ hl
      refine ⟨i, u, hi, ?_, hv⟩
      simp only [loadVar, Sem.run_bind, run_aggT ok hagg, Result.andThen_ok, Bool.false_eq_true, if_false, run_load]
      rw [cell_of h1, show c[i.sh + off]? = some u by simpa using hu]
    · cases hl
  · cases hl
/-- cells are stored -/
theorem storeL_ok (s : SR P M h w) {b off : Nat} {new new' : List Value} (hn : VRs M new new') (hl : storeL h b off new = some h') {i : Img} (hi : M b = some i) :
    ∃ w', (storeCells ⟨i.blk, i.sh + off, none⟩ new').run P.P w = .ok () w' ∧ Nxt P M h w M h' w' := by
  cases hn with
  | nil => cases hl; exact ⟨w, rfl, Nxt.refl s⟩
  | cons v v' r r' hv hr =>
    have hn : VRs M (v :: r) (v' :: r') := .cons _ _ _ _ hv hr
    simp only [storeL] at hl
    split at hl
    · rename_i cs e g hg
      split at hl
      · rename_i cs' hcs
        obtain ⟨hsc, hl2⟩ := bc_some hl
        simp only [Option.some.injEq] at hl2; subst hl2
        obtain ⟨j, hj, c, lo, hi2, h1, h2, h3, h4, h5⟩ := s.obj _ _ hg
        rw [hi] at hj; cases hj
        obtain ⟨e1, e2⟩ := spliceL_spec _ _ _ _ hcs
        -- the row is long enough
        have hlen : i.sh + off + (v' :: r').length ≤ c.size := by
          have hrl : (v :: r).length = (v' :: r').length := hn.length
          have hpos : 0 < (v :: r).length := by simp
          have hk : off + (v :: r).length - 1 < cs.length := by omega
          obtain ⟨u, hu, _⟩ := h5 (off + (v :: r).length - 1) cs[off + (v :: r).length - 1] (List.getElem?_eq_getElem hk)
          have := (List.getElem?_eq_some_iff.1 hu).1
          rw [← hrl]
          simp only [Array.length_toList] at this
          omega
        obtain ⟨w', c', q1, q2, q3, q4, q5⟩ := run_store_row (p := P.P) (v' :: r') 0 c w h1 h4 (by simpa using hlen) (scals_ok hn hsc)
        refine ⟨w', q1, nxt_putCells s hi hg q2 ⟨c', lo, hi2, q3, q4.trans h2, h3, fun k hk => h4 k (by omega), ?_⟩⟩
        intro k x hx
        rw [q5, Nat.add_zero]
        rw [e1] at hx
        have hrl : (v :: r).length = (v' :: r').length := hn.length
        have hcl : i.sh + off + (v' :: r').length ≤ c.toList.length := by simpa using hlen
        have hoff : off ≤ cs.length := by omega
        by_cases k1 : k < off
        · have hx' : cs[k]? = some x := by
            rw [List.append_assoc, List.getElem?_append_left (by rw [List.length_take]; omega), List.getElem?_take_of_lt k1] at hx; exact hx
          obtain ⟨u, hu, hv'⟩ := h5 k x hx'
          refine ⟨u, ?_, hv'⟩
          rw [List.append_assoc, List.getElem?_append_left (by rw [List.length_take]; omega), List.getElem?_take_of_lt (by omega)]; exact hu
        · by_cases k2 : k < off + (v :: r).length
          · have hx' : (v :: r)[k - off]? = some x := by
              rw [List.append_assoc, List.getElem?_append_right (by rw [List.length_take]; omega), List.length_take, Nat.min_eq_left hoff, List.getElem?_append_left (by omega)] at hx; exact hx
            obtain ⟨u, hu, hv'⟩ := hn.get _ _ hx'
            refine ⟨u, ?_, hv'⟩
            rw [List.append_assoc, List.getElem?_append_right (by rw [List.length_take]; omega), List.length_take, Nat.min_eq_left (by omega), List.getElem?_append_left (by omega)]
            rw [show i.sh + k - (i.sh + off) = k - off by omega]; exact hu
          · have hx' : cs[k]? = some x := by
              rw [List.append_assoc, List.getElem?_append_right (by rw [List.length_take]; omega), List.length_take, Nat.min_eq_left hoff, List.getElem?_append_right (by omega), List.getElem?_drop] at hx
              rw [← hx]; congr 1; omega
            obtain ⟨u, hu, hv'⟩ := h5 k x hx'
            refine ⟨u, ?_, hv'⟩
            rw [List.append_assoc, List.getElem?_append_right (by rw [List.length_take]; omega), List.length_take, Nat.min_eq_left (by omega), List.getElem?_append_right (by omega), List.getElem?_drop]
            rw [← hu]; congr 1; omega
      · cases hl
    · cases hl
theorem partA_ok (ok : CxOK P) {t : TypeId} {cs : List Value} {cs' : Array Value} {off : Nat} {v : Value} (hc : VRs M cs cs'.toList) (hv : partA P t cs off = some v) (w : World) :
    ∃ u, (part t cs' off).run P.P w = .ok u w ∧ VR M v u := by
  have hcr : CR M cs cs'.toList 0 := fun k x hx => by simpa using hc.get k x hx
  unfold partA at hv
  split at hv
  · rename_i hagg
    split at hv
    · rename_i n hn
      split at hv
      · rename_i l hl
        simp only [Option.some.injEq] at hv; subst hv
        obtain ⟨r1, _⟩ := hcr.range hl
        refine ⟨.agg (cs'.extract off (off + n)), ?_, ?_⟩
        · simp only [part, Sem.run_bind, run_aggT ok hagg, Result.andThen_ok, if_true, run_size ok hn, Sem.run_pure]
        · have : cs'.extract off (off + n) = ⟨(cs'.toList.drop (0 + off)).take n⟩ := by
            apply Array.ext'
            rw [Array.toList_extract]
            simp [List.extract_eq_take_drop]
          rw [this]
          exact .agg _ _ r1
      · cases hv
    · cases hv
  · rename_i hagg
    rw [getL_eq] at hv
    obtain ⟨u, hu, hvu⟩ := hc.get _ _ hv
    refine ⟨u, ?_, hvu⟩
    have hu' : cs'[off]? = some u := by simpa using hu
    simp only [part, Sem.run_bind, run_aggT ok hagg, Result.andThen_ok, Bool.false_eq_true, if_false, hu', Sem.run_pure]
  · cases hv
section
variable {o : Oper} {a : Act} {E : Env} {r : R1}
theorem s_field (ok : CxOK P) (s : SR P M h w) (e : ER M E a.tmps) {t : TypeId} {x : Operand} {f : Nat} (ho : o.op = .field t x f) (hr : opField t x f P E h = some r) :
    OpS P M h w r ((execOp a.eval o).run P.P w) := by
  obtain ⟨v, h1, h2⟩ := ev1_some hr
  have hv := evalO_ok e h1
  obtain ⟨z, h3, rfl⟩ := ret1_some h2
  unfold fieldV at h3
  split at h3
  · rename_i fs cs hd
    rw [getL_eq] at h3
    split at h3
    · rename_i fd hfd
      generalize hu : a.eval x = u at hv
      cases hv with
      | agg c c' hc =>
        obtain ⟨u, hu1, hu2⟩ := partA_ok ok (cs' := ⟨c'⟩) hc h3 w
        refine out_same s hu2 ?_
        have hfd' : fs[f]? = some fd := by simpa using hfd
        simp only [execOp, ho, hu, Instr.field, asAgg, Sem.run_bind, run_und ok hd, Result.andThen_ok, hfd', Sem.run_pure, hu1]
    · cases h3
  · cases h3
theorem s_load (ok : CxOK P) (s : SR P M h w) (e : ER M E a.tmps) {t : TypeId} {x : Operand} (ho : o.op = .load t x) (hr : opLoad t x P E h = some r) :
    OpS P M h w r ((execOp a.eval o).run P.P w) := by
  obtain ⟨v, h1, h2⟩ := ev1_some hr
  have hv := evalO_ok e h1
  split at h2
  · rename_i b off hp
    rw [placeOf_some hp] at hv
    obtain ⟨i, hi, hu⟩ := hv.at
    obtain ⟨z, h3, rfl⟩ := ret1_some h2
    obtain ⟨j, u, hj, h4, h5⟩ := loadV_ok ok s h3
    rw [hi] at hj; cases hj
    refine out_same s h5 ?_
    simp only [execOp, ho, hu, Instr.loadAt, Instr.sureAddr, Sem.run_bind, Sem.run_pure, Result.andThen_ok, h4]
  · cases h2
theorem s_store (ok : CxOK P) (s : SR P M h w) (e : ER M E a.tmps) {t : TypeId} {x y : Operand} (ho : o.op = .store t x y) (hr : opStore t x y P E h = some r) :
    OpOut P M h w r ((execOp a.eval o).run P.P w) := by
  obtain ⟨p, h1, h2⟩ := ev1_some hr
  obtain ⟨v, h3, h4⟩ := ev1_some h2
  have hp := evalO_ok e h1
  have hv := evalO_ok e h3
  split at h4
  · rename_i b off hpl
    rw [placeOf_some hpl] at hp
    obtain ⟨i, hi, hu⟩ := hp.at
    unfold stR at h4
    split at h4
    · rename_i h' hst
      simp only [Option.some.injEq] at h4; subst h4
      unfold storeV at hst
      split at hst
      · rename_i n hn
        obtain ⟨hlen, hst2⟩ := bc_some hst
        have hcv := cellsV_ok hv
        obtain ⟨w', q1, q2⟩ := storeL_ok s hcv hst2 hi
        have hsz : (a.eval y).cells.size = n := by
          have := beqN hlen
          rw [lenL_eq, hcv.length] at this
          simpa using this
        have : (execOp a.eval o).run P.P w = .ok .skip w' := by
          simp only [execOp, ho, hu, Instr.storeAt, Instr.sureAddr, storeVar, Sem.run_bind, Sem.run_pure, Result.andThen_ok, run_size ok hn]
          rw [if_neg (by simp [hsz])]
          simp only [q1, Result.andThen_ok]
        rw [this]
        exact .skip q2
      · cases hst
    · cases h4
  · cases h4
end
end Go.Ev
