/- The other builtins, conversions, iterators (own work). -/
import Derived.Test.YtbfepjofmkdafaaGreatEvS13
namespace Go.Ev
variable {P : Cx} {M : Mu} {h h' : AH} {w w' : World}

/-- what a builtin comes to -/
def BOut (P : Cx) (M : Mu) (h : AH) (w : World) (r : R1) (m : Result Value) : Prop :=
  ∃ v h' M' u w', r = .val v h' ∧ m = .ok u w' ∧ Nxt P M h w M' h' w' ∧ VR M' v u
theorem BOut.same (s : SR P M h w) {v u : Value} {m : Result Value} (hm : m = .ok u w) (hv : VR M v u) : BOut P M h w (.val v h) m :=
  ⟨v, h, M, u, w, rfl, hm, Nxt.refl s, hv⟩
/-- .. and leaves all as it was -/
def BSame (M : Mu) (h : AH) (w : World) (r : R1) (m : Result Value) : Prop := ∃ v u, r = .val v h ∧ m = .ok u w ∧ VR M v u
theorem BSame.out (s : SR P M h w) {r : R1} {m : Result Value} (q : BSame M h w r m) : BOut P M h w r m := by
  obtain ⟨v, u, rfl, rfl, hv⟩ := q
  exact BOut.same s rfl hv
theorem prunV_run {n : Nat} {sm : Sem Value} {v : Value} (hv : prunV P n sm = some v) (w : World) : sm.run P.P w = .ok v w := (prunV_ok hv).1 w

theorem len_ok (ok : CxOK P) (s : SR P M h w) {t tt : TypeId} {x x' v : Value} (hx : VR M x x') (hr : lenA P h t x = some v) :
    ∃ u, (Builtin.len_ #[t] tt #[x']).run P.P w = .ok u w ∧ VR M v u := by
  unfold lenA at hr
  split at hr
  · rename_i a n c
    split at hr
    · rename_i e hd
      simp only [Option.some.injEq] at hr; subst hr
      refine ⟨goInt n, ?_, .int _ _⟩
      cases hx with
      | slice0 => simp only [Builtin.len_, List.getElem?_toArray, List.getElem?_cons_zero, Sem.run_bind, run_und ok hd, Result.andThen_ok, Sem.run_pure]
      | slice => simp only [Builtin.len_, List.getElem?_toArray, List.getElem?_cons_zero, Sem.run_bind, run_und ok hd, Result.andThen_ok, Sem.run_pure]
    · cases hr
  · rename_i b
    split at hr
    · rename_i kt et hd
      split at hr
      · rename_i es clock hg
        simp only [Option.some.injEq] at hr; subst hr
        obtain ⟨i, hi, es', q1, q2, q3⟩ := s.obj _ _ hg
        cases hx with
        | map _ j hj =>
          rw [hi] at hj; cases hj
          refine ⟨goInt es'.size, ?_, ?_⟩
          · simp only [Builtin.len_, List.getElem?_toArray, List.getElem?_cons_zero, Sem.run_bind, run_und ok hd, Result.andThen_ok, run_getMap q1, Sem.run_pure]
          · have := q2.length
            rw [lenL_eq, this, Array.length_toList]; exact .int _ _
      · cases hr
    · cases hr
  · obtain ⟨hc, hp⟩ := bc_some hr
    obtain ⟨h1, h2⟩ := prunV_ok hp
    have := closed_eq 3 hc hx
    subst this
    exact ⟨v, h1 w, h2⟩
theorem cap_ok (ok : CxOK P) {t tt : TypeId} {e a n code} {x' : Value} (hd : desc P t = some (.slice e)) (hx : VR M (.slice a n code) x') (he : exactC a code = true) :
    (Builtin.cap_ #[t] tt #[x']).run P.P w = .ok (goInt (capOf code)) w := by
  cases hx with
  | slice0 => simp only [Builtin.cap_, List.getElem?_toArray, List.getElem?_cons_zero, Sem.run_bind, run_und ok hd, Result.andThen_ok, Sem.run_pure]; rfl
  | slice _ _ _ _ i off' c' hm hoff hl hc hex hroom =>
    have : c' = code / 2 := hex (beqN he)
    simp only [Builtin.cap_, List.getElem?_toArray, List.getElem?_cons_zero, Sem.run_bind, run_und ok hd, Result.andThen_ok, Sem.run_pure, this]; rfl
theorem clear_ok (ok : CxOK P) (s : SR P M h w) {t tt : TypeId} {x x' : Value} (hx : VR M x x') (hr : clearA P h t x = some h') :
    ∃ w', (Builtin.clear_ #[t] tt #[x']).run P.P w = .ok (.tuple #[]) w' ∧ Nxt P M h w M h' w' := by
  unfold clearA at hr
  split at hr
  · cases hr
  · rename_i d hd
    split at hr
    · cases hr
      cases hx with
      | map0 => exact ⟨w, by simp only [Builtin.clear_, List.getElem?_toArray, List.getElem?_cons_zero, Sem.run_bind, run_und ok hd, Result.andThen_ok, Sem.run_pure], Nxt.refl s⟩
    · cases hr
      cases hx with
      | slice0 => exact ⟨w, by simp only [Builtin.clear_, List.getElem?_toArray, List.getElem?_cons_zero, Sem.run_bind, run_und ok hd, Result.andThen_ok, Sem.run_pure], Nxt.refl s⟩
    · rename_i b
      split at hr
      · rename_i es clock hg
        simp only [Option.some.injEq] at hr; subst hr
        obtain ⟨i, hi, es', q1, q2, q3⟩ := s.obj _ _ hg
        cases hx with
        | map _ j hj =>
          rw [hi] at hj; cases hj
          refine ⟨{ w with heap := w.heap.setIfInBounds i.blk (.map #[] clock) }, ?_, nxt_putO s hi hg rfl rfl turn_set ⟨_, set_at q1, .nil, fun x hx => by cases hx⟩⟩
          simp only [Builtin.clear_, List.getElem?_toArray, List.getElem?_cons_zero, Sem.run_bind, run_und ok hd, Result.andThen_ok, run_getMap q1, run_setMap q1 (by intros; simp), Sem.run_pure]
      · cases hr
    · rename_i a n c
      obtain ⟨ab, ao, as⟩ := a
      rw [bc_eq] at hr
      split at hr
      · rename_i hz
        have hz' : n = 0 := beqN hz
        subst hz'
        cases hr
        cases hx with
        | slice => exact ⟨w, by simp only [Builtin.clear_, List.getElem?_toArray, List.getElem?_cons_zero, Sem.run_bind, run_und ok hd, Result.andThen_ok, Sem.run_pure], Nxt.refl s⟩
      · rename_i hz
        have hz' : n ≠ 0 := fun q => hz (by rw [q]; rfl)
        split at hr
        · rename_i e
          split at hr
          · rename_i z hzz
            obtain ⟨v, g1, g2, g3⟩ := tzero_of ok hzz
            cases hx with
            | slice _ _ _ _ i off' c' hm hoff hl hc hex hroom =>
              have ho : off' = i.sh + ao := by rcases hoff with q | q <;> omega
              have hv : VRs M (repL n z) (repL n z) := by
                rw [repL_eq]
                clear hz hz' hl hoff hr
                induction n with
                | zero => exact .nil
                | succ n ih => rw [List.replicate_succ, List.flatten_cons]; exact (g3 M).app ih
              obtain ⟨w', q1, q2⟩ := storeL_ok s hv hr hm
              refine ⟨w', ?_, q2⟩
              have hcells : (Builtin.zeroCells v.cells n).toList = repL n z := by
                have hvz : v.cells = z.toArray := by rw [← g2]
                rw [hvz]; unfold Builtin.zeroCells
                rw [Array.toList_map, Array.toList_range]
                simpa using rep_range z n
              cases n with
              | zero => exact absurd rfl hz'
              | succ n => simp only [Builtin.clear_, List.getElem?_toArray, List.getElem?_cons_zero, Sem.run_bind, run_und ok hd, Result.andThen_ok, g1, hcells, ho, q1, Sem.run_pure]
          · cases hr
        · cases hr
    · cases hr
theorem copy_ok (ok : CxOK P) (s : SR P M h w) {t t2 tt e sz : TypeId} {base : Option Addr} {dl cd sn : Nat} {src dst' src' : Value} {r : R1} (hd : desc P t = some (.slice e)) (hsz : tsize P e = some sz)
    (hdst : VR M (.slice base dl cd) dst') (hsrc : VR M src src') (hsn : srcLen src = some sn)
    (hr : copyA h sz (bc (Nat.ble sn dl) sn dl) base src = some r) :
    BOut P M h w r ((Builtin.copy_ #[t, t2] tt #[dst', src']).run P.P w) := by
  have hmin : bc (Nat.ble sn dl) sn dl = Nat.min sn dl := by
    rw [bc_eq]
    by_cases q : Nat.ble sn dl = true
    · rw [if_pos q]; exact (Nat.min_eq_left (bleN q)).symm
    · rw [if_neg q]
      have : ¬ sn ≤ dl := fun p => q (Nat.ble_eq_true_of_le p)
      exact (Nat.min_eq_right (by omega)).symm
  rw [hmin] at hr
  unfold copyA at hr
  have hlen : ∀ w : World, (Builtin.lenOf src').run P.P w = .ok sn w := by
    intro w
    cases hsrc <;> simp only [srcLen, Option.some.injEq, reduceCtorEq] at hsn <;> subst hsn <;> rfl
  rw [bc_eq] at hr
  split at hr
  · rename_i hz
    have hz' : Nat.min sn dl = 0 := beqN hz
    rw [one_some hr]
    refine BOut.same (u := goInt 0) s ?_ (.int _ _)
    have hfc : ∀ w : World, (Builtin.firstCells sz 0 src').run P.P w = .ok #[] w := by
      intro w
      cases hsrc <;> simp only [srcLen, Option.some.injEq, reduceCtorEq] at hsn <;> simp [Builtin.firstCells, loadCells, loadCellsFrom]
    cases hdst with
    | slice0 =>
      have e0 : Nat.min sn 0 = 0 := hz'
      simp only [Builtin.copy_, List.getElem?_toArray, List.getElem?_cons_zero, List.getElem?_cons_succ, Sem.run_bind, run_und ok hd, Result.andThen_ok, Sem.run_pure, hlen, run_size ok hsz, e0, hfc]
      rfl
    | slice _ _ _ _ i off' c' hm hoff hl hc hex hroom =>
      simp only [Builtin.copy_, List.getElem?_toArray, List.getElem?_cons_zero, List.getElem?_cons_succ, Sem.run_bind, run_und ok hd, Result.andThen_ok, Sem.run_pure, hlen, run_size ok hsz, hz', hfc, storeCells]
      rfl
  · rename_i hz
    have hz' : Nat.min sn dl ≠ 0 := fun q => hz (by rw [q]; rfl)
    have hsn0 : sn ≠ 0 := fun q => hz' (by rw [q]; exact Nat.zero_min dl)
    have hdl0 : dl ≠ 0 := fun q => hz' (by rw [q]; exact Nat.min_zero sn)
    cases hcs : srcCells h (Nat.min sn dl) sz src with
    | none => rw [hcs] at hr; cases hr
    | some cs =>
      rw [hcs] at hr
      cases base with
      | none => cases hr
      | some a =>
      obtain ⟨ab, ao, as⟩ := a
      simp only at hr
      split at hr
      · rename_i h' hst
        rw [one_some hr]
        -- what is copied
        have hfirst : ∃ new, VRs M cs new.toList ∧ (Builtin.firstCells sz (Nat.min sn dl) src').run P.P w = .ok new w := by
          unfold srcCells at hcs
          split at hcs
          · rename_i a' n c
            obtain ⟨a'b, a'o, a's⟩ := a'
            simp only [srcLen, Option.some.injEq] at hsn; subst hsn
            obtain ⟨j, l', hj, g1, g2⟩ := loadN_ok s hcs
            cases hsrc with
            | slice _ _ _ _ i off' c' hm hoff hl hc hex hroom =>
              rw [hm] at hj; cases hj
              have ho : off' = j.sh + a'o := by rcases hoff with q | q <;> omega
              exact ⟨l', g2, by simp only [Builtin.firstCells, ho]; exact g1⟩
          · rename_i y
            cases hcs
            cases hsrc with
            | string =>
              refine ⟨⟨bytesCells (y.extract 0 (Nat.min sn dl))⟩, bytesCells_refl M _, ?_⟩
              simp only [Builtin.firstCells, Sem.run_pure]
              congr 1
              apply Array.ext'
              simp [bytesCells]
          · cases hcs
        obtain ⟨new, g1, g2⟩ := hfirst
        cases hdst with
        | slice _ _ _ _ i off' c' hm hoff hl hc hex hroom =>
          have ho : off' = i.sh + ao := by rcases hoff with q | q <;> omega
          obtain ⟨w', q1, q2⟩ := storeL_ok s g1 hst hm
          refine ⟨_, _, M, goInt (Int.ofNat (Nat.min sn dl)), w', rfl, ?_, q2, .int _ _⟩
          simp only [Builtin.copy_, List.getElem?_toArray, List.getElem?_cons_zero, List.getElem?_cons_succ, Sem.run_bind, run_und ok hd, Result.andThen_ok, Sem.run_pure, hlen, run_size ok hsz, g2, ho, q1]
          rfl
      · cases hr
theorem minmax_ok {f : Value → Value → Sem Value} {l l' : List Value} {v : Value} (hl : VRs M l l') (hr : minmax P f l = some v) :
    ∃ x r, l' = x :: r ∧ (∀ w, (r.foldlM f x).run P.P w = .ok v w) ∧ VR M v v := by
  unfold minmax at hr
  split at hr
  · cases hr
  · rename_i x r
    obtain ⟨hc, hp⟩ := bc_some hr
    have := closeds_eq 3 hc hl
    subst this
    obtain ⟨h1, h2⟩ := prunV_ok hp
    exact ⟨x, r, rfl, h1, h2⟩
theorem delete_ok (ok : CxOK P) (s : SR P M h w) {t t2 tt kt et : TypeId} {m m' k k' : Value} {r : R1} (hd : desc P t = some (.map kt et)) (hm : VR M m m') (hk : VR M k k')
    (hr : deleteA P h kt m k = some r) :
    BOut P M h w r ((Builtin.delete_ #[t, t2] tt #[m', k']).run P.P w) := by
  unfold deleteA at hr
  split at hr
  · obtain ⟨hc, hr2⟩ := bc_some hr
    split at hr2
    · rename_i u hu
      rw [one_some hr2]
      cases hm with
      | map0 =>
        have := closed_eq 10 hc hk
        subst this
        refine BOut.same s ?_ (.tuple _ _ .nil)
        simp only [Builtin.delete_, List.getElem?_toArray, List.getElem?_cons_zero, List.getElem?_cons_succ, Sem.run_bind, run_und ok hd, Result.andThen_ok, Sem.run_pure, prun_ok P _ _ _ hu]
    · cases hr2
  · rename_i b
    split at hr
    · rename_i es clock hg
      obtain ⟨i, hi, es', q1, q2, q3⟩ := s.obj _ _ hg
      cases hm with
      | map _ j hj =>
        rw [hi] at hj; cases hj
        cases hfk : findK P (noEntry es) kt k es with
        | none => rw [hfk] at hr; cases hr
        | some q =>
          rw [hfk] at hr
          obtain ⟨hck, g1, q', g2, g3⟩ := findK_ok q2 q3 hfk
          have hke := closed_eq 10 hck hk
          subst hke
          have hemp := noEntry_eq q2
          cases q with
          | some iv =>
            obtain ⟨n, u⟩ := iv
            cases q' with
            | none => exact g3.elim
            | some ju =>
              obtain ⟨n', u'⟩ := ju
              obtain ⟨hnn, _⟩ := g3
              subst hnn
              simp only at hr
              rw [one_some hr]
              refine ⟨_, _, M, .tuple #[], { w with heap := w.heap.setIfInBounds i.blk (.map (es'.eraseIdxIfInBounds n) clock) }, rfl, ?_, nxt_putO s hi hg rfl rfl turn_set ⟨_, set_at q1, ?_, ?_⟩, .tuple _ _ .nil⟩
              · simp only [Builtin.delete_, List.getElem?_toArray, List.getElem?_cons_zero, List.getElem?_cons_succ, Sem.run_bind, run_und ok hd, Result.andThen_ok, run_getMap q1, hemp, g1, g2, run_setMap q1 (by intros; simp), Sem.run_pure]
              · have : (es'.eraseIdxIfInBounds n).toList = es'.toList.eraseIdx n := by
                  simp [Array.eraseIdxIfInBounds]
                  split
                  · simp
                  · rw [List.eraseIdx_of_length_le]; simp; omega
                rw [this]
                exact delL_ok q2 n
              · intro x hx
                have : ∀ (l : List MapEntry) (n : Nat) (x : MapEntry), x ∈ delL n l → x ∈ l := by
                  intro l
                  induction l with
                  | nil => intro n x hx; cases n <;> cases hx
                  | cons e r ih =>
                    intro n x hx
                    cases n with
                    | zero => exact List.mem_cons_of_mem _ hx
                    | succ n =>
                      rcases List.mem_cons.1 (show x ∈ e :: delL n r from hx) with q | q
                      · simp [q]
                      · exact List.mem_cons_of_mem _ (ih n x q)
                exact q3 x (this _ _ _ hx)
          | none =>
            cases q' with
            | some ju => exact g3.elim
            | none =>
              simp only at hr
              rw [one_some hr]
              refine ⟨_, _, M, .tuple #[], { w with heap := w.heap.setIfInBounds i.blk (.map es' clock) }, rfl, ?_, nxt_putO s hi hg rfl rfl turn_set ⟨_, set_at q1, q2, q3⟩, .tuple _ _ .nil⟩
              simp only [Builtin.delete_, List.getElem?_toArray, List.getElem?_cons_zero, List.getElem?_cons_succ, Sem.run_bind, run_und ok hd, Result.andThen_ok, run_getMap q1, hemp, g1, g2, run_setMap q1 (by intros; simp), Sem.run_pure]
    · cases hr
  · cases hr
theorem list2 {α : Type} {l : List α} {x y : α} {a : Array α} (ha : a.toList = l) (hl : l = [x, y]) : a = #[x, y] := by
  apply Array.ext'; rw [ha, hl]
theorem builtin_ok (ok : CxOK P) (s : SR P M h w) {b : Builtin} {ts : Array TypeId} {tt : TypeId} {consts : Array Bool} {args : List Value} {args' : Array Value} {r : R1} (ha : VRs M args args'.toList)
    (hr : builtinA P h b ts.toList args = some r) : OpOut P M h w r ((builtin b ts tt consts args').run P.P w) := by
  have fin : ∀ {sm : Sem Value}, BOut P M h w r (sm.run P.P w) → OpOut P M h w r ((do pure (Next.value (← sm)) : Sem Next).run P.P w) := by
    intro sm hb
    obtain ⟨v, h', M', u, w', rfl, h2, h3, h4⟩ := hb
    simp only [Sem.run_bind, h2, Result.andThen_ok, Sem.run_pure]
    exact .val h3 h4
  unfold builtinA at hr
  obtain ⟨tsl⟩ := ts
  obtain ⟨al⟩ := args'
  simp only at hr ha
  cases b with
  | append =>
    simp only at hr
    split at hr
    · cases ha with
      | cons _ a' _ r' h1 h2 => cases h2 with
        | cons _ x' _ r'' h3 h4 => cases h4 with
          | nil => exact fin (append_ok ok s h1 h3 hr)
    · cases hr
  | len =>
    simp only at hr
    split at hr
    · cases ha with
      | cons _ a' _ r' h1 h2 => cases h2 with
        | nil =>
          split at hr
          · rename_i v hv
            rw [one_some hr]
            obtain ⟨u, g1, g2⟩ := len_ok (tt := tt) ok s h1 hv
            rw [one_some hr] at fin
            exact fin (BOut.same s g1 g2)
          · cases hr
    · cases hr
  | cap =>
    simp only at hr
    split at hr
    · cases ha with
      | cons _ a' _ r' h1 h2 => cases h2 with
        | nil =>
          split at hr
          · rename_i e hd
            obtain ⟨he, hr2⟩ := bc_some hr
            rw [one_some hr2] at fin ⊢
            exact fin (BOut.same s (cap_ok ok hd h1 he) (.int _ _))
          · cases hr
    · cases hr
  | min =>
    simp only at hr
    split at hr
    · rename_i v hv
      obtain ⟨x, r', rfl, g1, g2⟩ := minmax_ok ha hv
      rw [one_some hr] at fin ⊢
      exact fin (BOut.same s (by simpa [Builtin.min_] using g1 w) g2)
    · cases hr
  | max =>
    simp only at hr
    split at hr
    · rename_i v hv
      obtain ⟨x, r', rfl, g1, g2⟩ := minmax_ok ha hv
      rw [one_some hr] at fin ⊢
      exact fin (BOut.same s (by simpa [Builtin.max_] using g1 w) g2)
    · cases hr
  | clear =>
    simp only at hr
    split at hr
    · cases ha with
      | cons _ a' _ r' h1 h2 => cases h2 with
        | nil =>
          split at hr
          · rename_i h' hc
            rw [one_some hr] at fin ⊢
            obtain ⟨w', g1, g2⟩ := clear_ok (tt := tt) ok s h1 hc
            exact fin ⟨_, _, M, _, w', rfl, g1, g2, .tuple _ _ .nil⟩
          · cases hr
    · cases hr
  | delete =>
    simp only at hr
    split at hr
    · cases ha with
      | cons _ a' _ r' h1 h2 => cases h2 with
        | cons _ x' _ r'' h3 h4 => cases h4 with
          | nil =>
            split at hr
            · rename_i kt et hd
              exact fin (delete_ok ok s hd h1 h3 hr)
            · cases hr
    · cases hr
  | copy =>
    simp only at hr
    split at hr
    · cases ha with
      | cons _ a' _ r' h1 h2 => cases h2 with
        | cons _ x' _ r'' h3 h4 => cases h4 with
          | nil =>
            split at hr
            · rename_i e hd
              split at hr
              · rename_i sz sn hsz hsn
                exact fin (copy_ok ok s hd hsz h1 h3 hsn hr)
              · cases hr
            · cases hr
    · cases hr
  | _ => cases hr
end Go.Ev
