/- Maps that are written (own work). -/
import Derived.Test.YtbfepjofmkdafaaGreatEvS11
namespace Go.Ev
variable {P : Cx} {M : Mu} {h h' : AH} {w w' : World}

/-- the world with another object -/
theorem run_getMap {b : Nat} {es : Array MapEntry} {clock : Nat} (hb : w.heap[b]? = some (.map es clock)) : (getObj b).run P.P w = .ok (.map es clock) w := by
  simp [getObj, Sem.run, hb]
theorem run_setMap {b : Nat} {ob o' : Obj} (hb : w.heap[b]? = some ob) (hc : ∀ c e f, ob ≠ .cells c e f) : (setObj b o').run P.P w = .ok () { w with heap := w.heap.setIfInBounds b o' } := by
  simp only [setObj, Sem.run]
  cases ob <;> first | (exact absurd rfl (hc _ _ _)) | (rw [hb])
theorem turn_set {b : Nat} {o' : Obj} : Turn w { w with heap := w.heap.setIfInBounds b o' } b :=
  ⟨⟨rfl, rfl, rfl⟩, by simp, fun y hy => by simp only [Array.getElem?_setIfInBounds_ne (Ne.symm hy)]⟩
theorem set_at {b : Nat} {ob o' : Obj} (hb : w.heap[b]? = some ob) : (w.heap.setIfInBounds b o')[b]? = some o' := by
  have := (Array.getElem?_eq_some_iff.1 hb).1
  simp [this]
theorem mem_modL {f : MapEntry → MapEntry} : ∀ {l : List MapEntry} {n : Nat} {x : MapEntry}, x ∈ modL f n l → x ∈ l ∨ ∃ y ∈ l, x = f y := by
  intro l
  induction l with
  | nil => intro n x hx; cases n <;> cases hx
  | cons e r ih =>
    intro n x hx
    cases n with
    | zero =>
      rcases List.mem_cons.1 (show x ∈ f e :: r from hx) with q | q
      · exact .inr ⟨e, by simp, q⟩
      · exact .inl (by simp [q])
    | succ n =>
      rcases List.mem_cons.1 (show x ∈ e :: modL f n r from hx) with q | q
      · exact .inl (by simp [q])
      · rcases ih q with q | ⟨y, h1, h2⟩
        · exact .inl (by simp [q])
        · exact .inr ⟨y, by simp [h1], h2⟩
/-- an entry is set -/
theorem mapSet_ok (ok : CxOK P) (s : SR P M h w) {t : TypeId} {m m' k k' v v' : Value} (hm : VR M m m') (hk : VR M k k') (hv : VR M v v') (hr : mapSet P h t m k v = some h') :
    ∃ w', (Instr.mapUpdate t m' k' v').run P.P w = .ok () w' ∧ Nxt P M h w M h' w' := by
  unfold mapSet at hr
  split at hr
  · rename_i kt et hd
    cases hm with
    | map b i hi =>
      simp only at hr
      cases hg : h.get b with
      | none => rw [hg] at hr; cases hr
      | some ob =>
        rw [hg] at hr
        cases ob with
        | map es clock =>
          simp only at hr
          obtain ⟨j, hj, es', q1, q2, q3⟩ := s.obj _ _ hg
          rw [hi] at hj; cases hj
          cases hfk : findK P false kt k es with
          | none => rw [hfk] at hr; cases hr
          | some q =>
            rw [hfk] at hr
            obtain ⟨hck, g1, q', g2, g3⟩ := findK_ok q2 q3 hfk
            have hke := closed_eq 10 hck hk
            obtain rfl : k = k' := hke.symm
            cases q with
            | some iv =>
              obtain ⟨n, u⟩ := iv
              cases q' with
              | none => exact g3.elim
              | some ju =>
                obtain ⟨n', u'⟩ := ju
                obtain ⟨hnn, _⟩ := g3
                subst hnn
                simp only [getL_eq] at hr
                cases hen : es[n]? with
                | none => rw [hen] at hr; cases hr
                | some e =>
                  rw [hen] at hr
                  obtain ⟨hsb, hr2⟩ := bc_some hr
                  simp only [Option.some.injEq] at hr2; subst hr2
                  obtain ⟨e', he', hee⟩ := q2.get _ _ hen
                  have hek : e'.key = e.key := closed_eq 10 (q3 e (List.mem_of_getElem? hen)) hee.1
                  have he'' : es'[n]? = some e' := by simpa using he'
                  refine ⟨_, ?_, nxt_putO s hi hg rfl rfl (turn_set (o' := .map (es'.modify n fun e => { e with key := k, val := v' }) clock)) ⟨_, set_at q1, ?_, ?_⟩⟩
                  · simp only [Instr.mapUpdate, Sem.run_bind, run_und ok hd, Result.andThen_ok, run_getMap q1, g1, g2, he'', Option.map_some, Option.getD_some, hek, Instr.keyThatStays, hsb, if_true, Sem.run_pure]
                    exact run_setMap q1 (by intros; simp)
                  · rw [Array.toList_modify]
                    exact modL_ok (f := fun e => { e with key := k, val := v }) (f' := fun e => { e with key := k, val := v' }) (fun x y hxy => ⟨closed_refl 10 hck, hv, hxy.2.2⟩) q2 n
                  · intro x hx
                    rcases mem_modL hx with q | ⟨y, _, q⟩
                    · exact q3 x q
                    · rw [q]; exact hck
            | none =>
              cases q' with
              | some ju => exact g3.elim
              | none =>
                simp only [Option.some.injEq] at hr; subst hr
                refine ⟨_, ?_, nxt_putO s hi hg rfl rfl (turn_set (o' := .map (es'.push { key := k, val := v', born := clock }) (clock + 1))) ⟨_, set_at q1, ?_, ?_⟩⟩
                · simp only [Instr.mapUpdate, Sem.run_bind, run_und ok hd, Result.andThen_ok, run_getMap q1, g1, g2]
                  exact run_setMap q1 (by intros; simp)
                · rw [appL_eq, Array.toList_push]
                  exact q2.app (.cons _ _ _ _ ⟨closed_refl 10 hck, hv, rfl⟩ .nil)
                · intro x hx
                  rw [appL_eq] at hx
                  rcases List.mem_append.1 hx with q | q
                  · exact q3 x q
                  · simp at q; subst q; exact hck
        | _ => cases hr
    | _ => cases hr
  · cases hr
section
variable {o : Oper} {a : Act} {E : Env} {r : R1}
theorem s_mapUpdate (ok : CxOK P) (s : SR P M h w) (e : ER M E a.tmps) {t : TypeId} {x y z : Operand} (ho : o.op = .mapUpdate t x y z ∨ o.op = .insert t x y z) (hr : opMapUpdate t x y z P E h = some r) :
    OpOut P M h w r ((execOp a.eval o).run P.P w) := by
  obtain ⟨m, h1, h2⟩ := ev1_some hr
  obtain ⟨k, h3, h4⟩ := ev1_some h2
  obtain ⟨v, h5, h6⟩ := ev1_some h4
  unfold stR at h6
  split at h6
  · rename_i h' hst
    simp only [Option.some.injEq] at h6; subst h6
    obtain ⟨w', q1, q2⟩ := mapSet_ok ok s (evalO_ok e h1) (evalO_ok e h3) (evalO_ok e h5) hst
    have : (execOp a.eval o).run P.P w = .ok .skip w' := by
      rcases ho with ho | ho <;> simp only [execOp, ho, Sem.run_bind, q1, Result.andThen_ok, Sem.run_pure]
    rw [this]
    exact .skip q2
  · cases h6
theorem s_mapEntry (ok : CxOK P) (s : SR P M h w) (e : ER M E a.tmps) {t : TypeId} {x y : Operand} (ho : o.op = .mapEntry t x y) (hr : opMapEntry t x y P E h = some r) :
    OpOut P M h w r ((execOp a.eval o).run P.P w) := by
  obtain ⟨m, h1, h2⟩ := ev1_some hr
  obtain ⟨k, h3, h4⟩ := ev1_some h2
  have hm := evalO_ok e h1
  have hk := evalO_ok e h3
  split at h4
  · rename_i kt et b hd
    generalize hu : a.eval x = u at hm
    generalize hku : a.eval y = k' at hk
    cases hm with
    | map _ i hi =>
      cases hg : h.get b with
      | none => rw [hg] at h4; cases h4
      | some ob =>
        rw [hg] at h4
        cases ob with
        | map es clock =>
          simp only at h4
          obtain ⟨j, hj, es', q1, q2, q3⟩ := s.obj _ _ hg
          rw [hi] at hj; cases hj
          cases hfk : findK P false kt k es with
          | none => rw [hfk] at h4; cases h4
          | some q =>
            rw [hfk] at h4
            obtain ⟨hck, g1, q', g2, g3⟩ := findK_ok q2 q3 hfk
            have hke := closed_eq 10 hck hk
            obtain rfl : k = k' := hke.symm
            cases q with
            | some iv =>
              obtain ⟨n, v⟩ := iv
              cases q' with
              | none => exact g3.elim
              | some ju =>
                obtain ⟨n', u'⟩ := ju
                obtain ⟨hnn, hvu⟩ := g3
                subst hnn
                simp only [getL_eq] at h4
                cases hen : es[n]? with
                | none => rw [hen] at h4; cases h4
                | some e0 =>
                  rw [hen] at h4
                  obtain ⟨hsb, hr2⟩ := bc_some h4
                  rw [one_some hr2]
                  obtain ⟨e', he', hee⟩ := q2.get _ _ hen
                  have hek : e'.key = e0.key := closed_eq 10 (q3 e0 (List.mem_of_getElem? hen)) hee.1
                  have he'' : es'[n]? = some e' := by simpa using he'
                  have nx : Nxt P M h w M (h.put b (.map (modL (fun e => { e with key := k }) n es) clock)) { w with heap := w.heap.setIfInBounds i.blk (.map (es'.modify n fun e => { e with key := k }) clock) } := by
                    refine nxt_putO s hi hg rfl rfl turn_set ⟨_, set_at q1, ?_, ?_⟩
                    · rw [Array.toList_modify]
                      exact modL_ok (f := fun e => { e with key := k }) (f' := fun e => { e with key := k }) (fun x y hxy => ⟨closed_refl 10 hck, hxy.2.1, hxy.2.2⟩) q2 n
                    · intro x hx
                      rcases mem_modL hx with q | ⟨y, _, q⟩
                      · exact q3 x q
                      · rw [q]; exact hck
                  have run : (execOp a.eval o).run P.P w = .ok (.value (.tuple #[u', goInt e'.born])) { w with heap := w.heap.setIfInBounds i.blk (.map (es'.modify n fun e => { e with key := k }) clock) } := by
                    simp only [execOp, ho, hu, hku, Instr.mapEntry, Sem.run_bind, run_und ok hd, Result.andThen_ok, run_getMap q1, g1, g2, he'', Option.map_some, Option.getD_some, hek, Instr.keyThatStays, hsb, if_true, Sem.run_pure]
                    rw [run_setMap q1 (by intros; simp)]
                    rfl
                  rw [run]
                  refine .val nx (.tuple _ _ (.cons _ _ _ _ hvu (.cons _ _ _ _ ?_ .nil)))
                  rw [hee.2.2]; exact .int _ _
            | none =>
              cases q' with
              | some ju => exact g3.elim
              | none =>
                simp only at h4
                cases hzv : tzeroV P et with
                | none => rw [hzv] at h4; cases h4
                | some zv =>
                  rw [hzv] at h4
                  rw [one_some h4]
                  obtain ⟨g4, g5⟩ := tzeroV_of ok hzv
                  have nx : Nxt P M h w M (h.put b (.map (appL es [{ key := k, val := zv, born := clock }]) (Nat.succ clock))) { w with heap := w.heap.setIfInBounds i.blk (.map (es'.push { key := k, val := zv, born := clock }) (clock + 1)) } := by
                    refine nxt_putO s hi hg rfl rfl turn_set ⟨_, set_at q1, ?_, ?_⟩
                    · rw [appL_eq, Array.toList_push]
                      exact q2.app (.cons _ _ _ _ ⟨closed_refl 10 hck, closed_refl 4 g5, rfl⟩ .nil)
                    · intro x hx
                      rw [appL_eq] at hx
                      rcases List.mem_append.1 hx with q | q
                      · exact q3 x q
                      · simp at q; subst q; exact hck
                  have run : (execOp a.eval o).run P.P w = .ok (.value (.tuple #[zv, goInt clock])) { w with heap := w.heap.setIfInBounds i.blk (.map (es'.push { key := k, val := zv, born := clock }) (clock + 1)) } := by
                    simp only [execOp, ho, hu, hku, Instr.mapEntry, Sem.run_bind, run_und ok hd, Result.andThen_ok, run_getMap q1, g1, g2, g4]
                    rw [run_setMap q1 (by intros; simp)]
                    rfl
                  rw [run]
                  exact .val nx (.tuple _ _ (.cons _ _ _ _ (closed_refl 4 g5) (.cons _ _ _ _ (.int _ _) .nil)))
        | _ => cases h4
  · cases h4
theorem findBorn_ok : ∀ {l l' : List MapEntry} (_ : ERs M l l') (b k i : Nat) (x : MapEntry), findBorn b l k = some (i, x) →
    k ≤ i ∧ l'.findIdx? (fun e => ((e.born : Nat) : Int) == (b : Int)) = some (i - k) := by
  intro l l' hl
  induction hl with
  | nil => intro b k i x h; cases h
  | cons e e' r r' he hr ih =>
    intro b k i x h
    simp only [findBorn] at h
    rw [bc_eq] at h
    split at h
    · rename_i hb
      have := beqN hb
      simp only [Option.some.injEq, Prod.mk.injEq] at h
      refine ⟨by omega, ?_⟩
      rw [List.findIdx?_cons, if_pos (by rw [← he.2.2, this]; simp)]
      rw [show i - k = 0 by omega]
    · rename_i hb
      have hne : e.born ≠ b := fun q => hb (by rw [q]; exact Nat.beq_refl b)
      obtain ⟨h1, h2⟩ := ih b (Nat.succ k) i x h
      refine ⟨by omega, ?_⟩
      rw [List.findIdx?_cons, if_neg (by rw [← he.2.2, beq_iff_eq]; omega), h2]
      simp; omega
theorem s_entryStore (s : SR P M h w) (e : ER M E a.tmps) {t : TypeId} {x y z : Operand} (ho : o.op = .entryStore t x y z) (hr : opEntryStore x y z P E h = some r) :
    OpOut P M h w r ((execOp a.eval o).run P.P w) := by
  obtain ⟨m, h1, h2⟩ := ev1_some hr
  obtain ⟨k, h3, h4⟩ := ev1_some h2
  obtain ⟨v, h5, h6⟩ := ev1_some h4
  have hm := evalO_ok e h1
  have hk := evalO_ok e h3
  have hv := evalO_ok e h5
  split at h6
  · rename_i b n hn
    obtain ⟨kk, rfl⟩ := natOf_some hn
    have hk' := hk.int_inv
    generalize hu : a.eval x = u at hm
    cases hm with
    | map _ i hi =>
      cases hg : h.get b with
      | none => rw [hg] at h6; cases h6
      | some ob =>
        rw [hg] at h6
        cases ob with
        | map es clock =>
          simp only at h6
          obtain ⟨j, hj, es', q1, q2, q3⟩ := s.obj _ _ hg
          rw [hi] at hj; cases hj
          cases hf : findBorn n es 0 with
          | none => rw [hf] at h6; cases h6
          | some ix =>
            obtain ⟨ix, x0⟩ := ix
            rw [hf] at h6
            simp only [stR, Option.some.injEq] at h6; subst h6
            obtain ⟨_, hidx⟩ := findBorn_ok q2 n 0 ix x0 hf
            have hidx' : es'.findIdx? (fun e => ((e.born : Nat) : Int) == Int.ofNat n) = some ix := by
              have hh : es'.findIdx? (fun e => ((e.born : Nat) : Int) == Int.ofNat n) = es'.toList.findIdx? (fun e => ((e.born : Nat) : Int) == Int.ofNat n) := by
                obtain ⟨l⟩ := es'; exact List.findIdx?_toArray _ _
              rw [hh]; simpa using hidx
            have nx : Nxt P M h w M (h.put b (.map (modL (fun e => { e with val := v }) ix es) clock)) { w with heap := w.heap.setIfInBounds i.blk (.map (es'.modify ix fun e => { e with val := a.eval z }) clock) } := by
              refine nxt_putO s hi hg rfl rfl turn_set ⟨_, set_at q1, ?_, ?_⟩
              · rw [Array.toList_modify]
                exact modL_ok (f := fun e => { e with val := v }) (f' := fun e => { e with val := a.eval z }) (fun x y hxy => ⟨hxy.1, hv, hxy.2.2⟩) q2 ix
              · intro x hx
                rcases mem_modL hx with q | ⟨y, hy, q⟩
                · exact q3 x q
                · rw [q]; exact q3 y hy
            have run : (execOp a.eval o).run P.P w = .ok .skip { w with heap := w.heap.setIfInBounds i.blk (.map (es'.modify ix fun e => { e with val := a.eval z }) clock) } := by
              simp only [execOp, ho, hu, hk', Instr.entryStore, asInt, asIntOf, Sem.run_bind, Result.andThen_ok, run_getMap q1, Sem.run_pure, hidx']
              rw [run_setMap q1 (by intros; simp)]
              rfl
            rw [run]
            exact .skip nx
        | _ => cases h6
  · cases h6
end
end Go.Ev
