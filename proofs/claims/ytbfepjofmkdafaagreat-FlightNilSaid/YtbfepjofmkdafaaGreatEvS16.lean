/- All operations (own work). -/
import Derived.Test.YtbfepjofmkdafaaGreatEvS15
namespace Go.Ev
variable {P : Cx} {M : Mu} {h h' : AH} {w w' : World}
section
variable {o : Oper} {a : Act} {E E' : Env} {r : R1} {g : Option (Option Nat × Bool)}

theorem op_ok (ok : CxOK P) (sm : SyM P M) (s : SR P M h w) (e : ER M E a.tmps) (hr : (compOp P o g).run P E h = some r) : OpOut P M h w r ((execOp a.eval o).run P.P w) := by
  unfold compOp at hr
  cases hop : o.op <;> rw [hop] at hr <;> simp only at hr <;> first
    | exact (s_move s e (.inl hop) hr).out s
    | exact (s_move s e (.inr hop) hr).out s
    | exact (s_pick s e hop hr).out s
    | exact Nxt.of_fresh s (f_alloc ok hop hr) hr
    | exact Nxt.of_fresh s (f_box e hop hr) hr
    | exact (s_build ok s e hop hr).out s
    | exact Nxt.of_fresh s (f_buildSlice ok e hop hr) hr
    | exact (s_load ok s e hop hr).out s
    | exact s_store ok s e hop hr
    | exact (s_nilCheck s e hop hr).out s
    | exact (s_binOp ok sm s e hop hr).out s
    | exact (s_unOp s e hop hr).out s
    | exact s_convert ok s e hop hr
    | exact (s_makeInterface ok s e hop hr).out s
    | exact (s_makeFunc s e hop hr).out s
    | exact Nxt.of_fresh s (f_makeMap ok e hop hr) hr
    | exact Nxt.of_fresh s (f_makeSlice ok e hop hr) hr
    | exact (s_slice ok s e hop hr).out s
    | exact (s_fieldAddr ok s e hop hr).out s
    | exact (s_field ok s e hop hr).out s
    | exact (s_indexAddr ok s e hop hr).out s
    | exact (s_index ok s e hop hr).out s
    | exact (s_lookup ok s e hop hr).out s
    | exact s_mapUpdate ok s e (.inl hop) hr
    | exact s_mapUpdate ok s e (.inr hop) hr
    | exact s_mapEntry ok s e hop hr
    | exact s_entryStore s e hop hr
    | exact s_range ok s e hop hr
    | exact s_next s e hop hr
    | exact (s_entry s e hop hr).out s
    | exact (s_extract s e hop hr).out s
    | exact s_call ok s e hop hr
    | exact absurd hr (by simp [opNone])

theorem compOp_dst : (compOp P o g).dst = o.dst := by unfold compOp; cases o.op <;> rfl
theorem compOp_guard : (compOp P o g).guard = g := by unfold compOp; cases o.op <;> rfl

/-- it gives a value, or nothing, whatever the heap, and leaves it -/
def Pure1 (f : AH → Res) : Prop := ∃ q : Option Value, ∀ h, f h = q.bind fun v => one v h
theorem p_none : Pure1 (fun _ => none) := ⟨none, fun _ => rfl⟩
theorem p_one (v : Value) : Pure1 (fun h => one v h) := ⟨some v, fun _ => rfl⟩
theorem p_ret (q : Option Value) : Pure1 (fun h => ret1 h q) := ⟨q, fun h => by cases q <;> rfl⟩
theorem p_ev1 {x : Operand} {k : AH → Value → Res} (hk : ∀ v, Pure1 (fun h => k h v)) : Pure1 (fun h => ev1 E x (k h)) := by
  unfold ev1
  cases evalO E x with
  | none => exact p_none
  | some v => exact hk v
theorem p_bc {b : Bool} {f k : AH → Res} (hf : Pure1 f) (hk : Pure1 k) : Pure1 (fun h => bc b (f h) (k h)) := by cases b <;> assumption
theorem Pure1.out {f : AH → Res} (p : Pure1 f) (hr : f h = some r) : ∃ v, r = .val v h ∧ ∀ h', f h' = some (.val v h') := by
  obtain ⟨q, hq⟩ := p
  cases q with
  | none => rw [hq] at hr; cases hr
  | some v =>
    rw [hq] at hr
    exact ⟨v, one_some hr, fun h' => by rw [hq]; rfl⟩
theorem p_builtin {b : Builtin} {ts : List TypeId} {args : List Value} (hk : kindB b = 0) : Pure1 (fun h => builtinA P h b ts args) := by
  cases b <;> first | (cases hk; done) | skip
  · -- cap
    unfold builtinA
    simp only
    split
    · split
      · exact p_bc (p_one _) p_none
      · exact p_none
    · exact p_none
  · unfold builtinA
    simp only
    split
    · exact p_one _
    · exact p_none
  · unfold builtinA
    simp only
    split
    · exact p_one _
    · exact p_none
theorem op_pure1 (hk : (compOp P o g).kind = 0) : Pure1 ((compOp P o g).run P E) := by
  unfold compOp at hk ⊢
  cases hop : o.op <;> rw [hop] at hk <;> simp only at hk ⊢ <;> first | (cases hk; done) | skip
  · exact p_ev1 fun v => p_one v
  · refine p_ev1 fun v => ?_
    cases v <;> first | exact p_none | exact p_ev1 fun v => p_one v
  · unfold opBuild
    show Pure1 fun h => _
    split
    · exact p_ret _
    · exact p_none
  · refine p_ev1 fun v => ?_
    split <;> first | exact p_one _ | exact p_none
  · refine p_ev1 fun v => p_ev1 fun u => ?_
    split
    · split
      · exact p_one _
      · exact p_none
    · split
      · exact p_one _
      · exact p_none
    · refine p_bc ?_ (p_ret _)
      split
      · exact p_one _
      · exact p_ret _
    · exact p_ret _
  · exact p_ev1 fun v => p_bc (p_ret _) p_none
  · -- convert
    rename_i sT dT x
    refine p_ev1 fun v => ?_
    have hcc : Pure1 fun h => convClosed P h sT dT v := by
      unfold convClosed
      refine p_bc ?_ p_none
      split
      · exact p_one _
      · exact p_none
    unfold kindConv at hk
    unfold convertA
    split
    · rename_i hs
      split
      · rename_i e hd
        rw [hd] at hk
        simp at hk
      · exact hcc
    · rename_i e hs
      exfalso
      rw [hs] at hk
      rcases hd : desc P dT with _ | d
      · simp [hd] at hk
      · cases d <;> simp [hd] at hk
    · exact hcc
  · refine p_ev1 fun v => ?_
    split
    · exact p_none
    · exact p_one _
    · exact p_none
  · unfold opMkFunc
    show Pure1 fun h => _
    split
    · split
      · exact p_one _
      · exact p_none
    · exact p_none
  · refine p_ev1 fun v => ?_
    split
    · exact p_one _
    · exact p_none
  · exact p_ev1 fun v => p_ret _
  · refine p_ev1 fun v => p_ev1 fun u => ?_
    split
    · exact p_none
    · have hidx : ∀ (e b off i len : Nat), Pure1 fun h => idxAddr P h e b off i len := by
        intro e b off i len
        unfold idxAddr
        split
        · exact p_bc (p_one _) p_none
        · exact p_none
      split
      · exact hidx _ _ _ _ _
      · exact hidx _ _ _ _ _
      · exact p_none
  · refine p_ev1 fun v => p_ev1 fun u => ?_
    split
    · exact p_ret _
    · exact p_none
  · refine p_ev1 fun v => ?_
    cases v <;> first | exact p_none | exact p_ret _
  · -- call
    rename_i c
    obtain ⟨cal, args, ts⟩ := c
    cases cal with
    | builtin b =>
      show Pure1 (opBuiltin b ts args P E)
      unfold opBuiltin
      show Pure1 fun h => _
      split
      · exact p_builtin hk
      · exact p_none
    | value f => simp [kindCall] at hk
    | invoke x m => simp [kindCall] at hk
theorem op_pure (hk : (compOp P o g).kind = 0) (hr : (compOp P o g).run P E h = some r) : ∃ v, r = .val v h ∧ ∀ h', (compOp P o g).run P E h' = some (.val v h') :=
  (op_pure1 hk).out hr
/-- it leaves the heap -/
def Keeps (f : AH → Res) : Prop := ∀ h r, f h = some r → ∃ v, r = .val v h
theorem Pure1.keeps {f : AH → Res} (p : Pure1 f) : Keeps f := fun _ _ hr => let ⟨v, h1, _⟩ := p.out hr; ⟨v, h1⟩
theorem k_one {v : AH → Value} : Keeps fun h => one (v h) h := fun _ _ hr => ⟨_, one_some hr⟩
theorem k_ret {q : AH → Option Value} : Keeps fun h => ret1 h (q h) := fun _ _ hr => let ⟨v, _, h2⟩ := ret1_some hr; ⟨v, h2⟩
theorem k_none : Keeps fun _ => none := fun _ _ hr => by cases hr
theorem k_ev1 {x : Operand} {k : AH → Value → Res} (hk : ∀ v, Keeps (fun h => k h v)) : Keeps (fun h => ev1 E x (k h)) := by
  intro h r hr
  obtain ⟨v, h1, h2⟩ := ev1_some hr
  exact hk v h r h2
theorem k_bc {b : AH → Bool} {f k : AH → Res} (hf : Keeps f) (hk : Keeps k) : Keeps (fun h => bc (b h) (f h) (k h)) := by
  intro h r hr
  have hr' : bc (b h) (f h) (k h) = some r := hr
  cases hb : b h with
  | true => rw [hb] at hr'; exact hf h r hr'
  | false => rw [hb] at hr'; exact hk h r hr'
theorem op_reads (hk : (compOp P o g).kind = 1) : Keeps ((compOp P o g).run P E) := by
  unfold compOp at hk ⊢
  cases hop : o.op <;> rw [hop] at hk <;> simp only at hk ⊢ <;> first | (cases hk; done) | skip
  · -- load
    refine k_ev1 fun v => ?_
    split
    · exact k_ret
    · exact k_none
  · -- convert
    rename_i sT dT x
    refine k_ev1 fun v => ?_
    have hcc : Keeps fun h => convClosed P h sT dT v := by
      unfold convClosed
      refine k_bc ?_ k_none
      split
      · exact k_one
      · exact k_none
    unfold convertA
    unfold kindConv at hk
    split
    · split
      · rename_i e hd
        rw [hd] at hk; simp at hk
      · exact hcc
    · split
      · unfold bytesStr
        split
        · split
          · exact k_one
          · refine k_bc k_one ?_
            intro h r hr
            simp only at hr
            split at hr
            · split at hr
              · exact ⟨_, one_some hr⟩
              · cases hr
            · cases hr
          · exact k_none
        · exact k_none
      · exact k_none
    · exact hcc
  · -- slice
    refine k_ev1 fun v => ?_
    split
    · have harr : ∀ (n e : Nat) (p : Addr) (lo hi : Option Value), Keeps fun h => sliceArr P h n e p lo hi := by
        intro n e p lo hi
        unfold sliceArr
        split
        · exact k_bc (k_bc k_one k_none) k_none
        · exact k_none
      split
      · split
        · exact harr _ _ _ _ _
        · exact k_none
      · split
        · exact harr _ _ _ _ _
        · exact k_none
      · exact k_ret
    · exact k_none
  · exact k_ev1 fun v => k_ev1 fun u => k_ret
  · exact k_ev1 fun v => k_ret
  · -- call
    rename_i c
    obtain ⟨cal, args, ts⟩ := c
    cases cal with
    | builtin b =>
      cases b <;> first | (cases hk; done) | skip
      show Keeps (opBuiltin .len ts args P E)
      intro h r hr
      unfold opBuiltin at hr
      split at hr
      · unfold builtinA at hr
        simp only at hr
        split at hr
        · split at hr
          · exact ⟨_, one_some hr⟩
          · cases hr
        · cases hr
      · cases hr
    | value f => simp [kindCall] at hk
    | invoke x m => simp [kindCall] at hk
theorem op_fresh (ok : CxOK P) (e : ER M E a.tmps) (hk : (compOp P o g).kind = 2) (hr : (compOp P o g).run P E h = some r) : FreshOK P M a o ((compOp P o g).run P E) := by
  unfold compOp at hk hr ⊢
  cases hop : o.op <;> rw [hop] at hk hr <;> simp only at hk hr ⊢ <;> first
    | exact f_alloc ok hop hr
    | exact f_box e hop hr
    | exact f_buildSlice ok e hop hr
    | exact f_makeMap ok e hop hr
    | exact f_makeSlice ok e hop hr
    | (cases hk; done)
    | (exfalso; rename_i sT dT x; unfold kindConv at hk; split at hk <;> simp at hk; done)
    | (exfalso; rename_i c; obtain ⟨cal, args, ts⟩ := c; cases cal <;> simp [kindCall] at hk; rename_i b; cases b <;> simp [kindB] at hk; done)
theorem conv_same (ok : CxOK P) {src dst : TypeId} {x x' : Value} (hk : kindConv P src dst = 0 ∨ kindConv P src dst = 1) (hx : VR M x x') (s : SR P M h w) (hr : convertA P h src dst x = some r) :
    BSame M h w r ((convert src dst x').run P.P w) := by
  unfold convertA at hr
  unfold kindConv at hk
  split at hr
  · rename_i hs
    split at hr
    · rename_i e hd
      rw [hd] at hk; simp at hk
    · exact convClosed_ok hx hr
  · rename_i e hs
    split at hr
    · rename_i hd
      exact bytesStr_ok ok hx s hs hd hr
    · cases hr
  · exact convClosed_ok hx hr
theorem BSame.op {sm : Sem Value} (hb : BSame M h w r (sm.run P.P w)) (ho : execOp a.eval o = (do pure (Next.value (← sm)))) : OpS P M h w r ((execOp a.eval o).run P.P w) := by
  obtain ⟨v, u, rfl, h2, h4⟩ := hb
  rw [ho]
  simp only [Sem.run_bind, h2, Result.andThen_ok, Sem.run_pure]
  exact ⟨v, u, rfl, rfl, h4⟩
/-- operations that only look -/
theorem op_same (ok : CxOK P) (sm : SyM P M) (s : SR P M h w) (e : ER M E a.tmps) (hk : (compOp P o g).kind = 0 ∨ (compOp P o g).kind = 1) (hr : (compOp P o g).run P E h = some r) : OpS P M h w r ((execOp a.eval o).run P.P w) := by
  unfold compOp at hr hk
  cases hop : o.op <;> rw [hop] at hr hk <;> simp only at hr hk <;> first
    | exact s_move s e (.inl hop) hr
    | exact s_pick s e hop hr
    | exact s_build ok s e hop hr
    | exact s_load ok s e hop hr
    | exact s_nilCheck s e hop hr
    | exact s_binOp ok sm s e hop hr
    | exact s_unOp s e hop hr
    | exact s_makeInterface ok s e hop hr
    | exact s_makeFunc s e hop hr
    | exact s_slice ok s e hop hr
    | exact s_fieldAddr ok s e hop hr
    | exact s_field ok s e hop hr
    | exact s_indexAddr ok s e hop hr
    | exact s_index ok s e hop hr
    | exact s_lookup ok s e hop hr
    | exact s_entry s e hop hr
    | exact s_extract s e hop hr
    | (exfalso; simp at hk; done)
    | skip
  · obtain ⟨v, h1, h2⟩ := ev1_some hr
    exact (conv_same ok hk (evalO_ok e h1) s h2).op (by simp only [execOp, hop])
  · rename_i c
    obtain ⟨cal, args, ts⟩ := c
    cases cal with
    | value f => simp [kindCall] at hk
    | invoke x m => simp [kindCall] at hk
    | builtin b =>
      have hr' : opBuiltin b ts args P E h = some r := hr
      unfold opBuiltin at hr'
      split at hr'
      · rename_i l hl
        have ha : VRs M l (args.map a.eval).toList := by simpa using evalL_ok e hl
        have fin : ∀ {sm : Sem Value}, (∀ consts, builtin b ts o.type consts (args.map a.eval) = (do pure (Next.value (← sm)))) → BSame M h w r (sm.run P.P w) → OpS P M h w r ((execOp a.eval o).run P.P w) := by
          intro sm hsm hb
          obtain ⟨v, u, rfl, h2, h4⟩ := hb
          refine ⟨v, u, rfl, ?_, h4⟩
          simp only [execOp, hop, resolve, Sem.run_bind, Sem.run_pure, Result.andThen_ok, invoke]
          rw [hsm]
          simp only [Sem.run_bind, h2, Result.andThen_ok, Sem.run_pure]
        unfold builtinA at hr'
        generalize hargs : args.map a.eval = args' at ha fin
        obtain ⟨tsl⟩ := ts
        obtain ⟨al⟩ := args'
        simp only at ha hr'
        cases b <;> first | (exfalso; simp [kindCall, kindB] at hk; done) | skip
        · simp only at hr'
          split at hr'
          · cases ha with
            | cons _ a' _ r' h1 h2 => cases h2 with
              | nil =>
                split at hr'
                · rename_i e hd
                  obtain ⟨he, hr2⟩ := bc_some hr'
                  refine fin (fun _ => rfl) ⟨_, _, one_some hr2, cap_ok ok hd h1 he, .int _ _⟩
                · cases hr'
          · cases hr'
        · simp only at hr'
          split at hr'
          · cases ha with
            | cons _ a' _ r' h1 h2 => cases h2 with
              | nil =>
                split at hr'
                · rename_i v hv
                  obtain ⟨u, g1, g2⟩ := len_ok (tt := o.type) ok s h1 hv
                  exact fin (fun _ => rfl) ⟨_, _, one_some hr', g1, g2⟩
                · cases hr'
          · cases hr'
        · simp only at hr'
          split at hr'
          · rename_i v hv
            obtain ⟨x, r', rfl, g1, g2⟩ := minmax_ok ha hv
            exact fin (fun _ => rfl) ⟨_, _, one_some hr', by simpa [Builtin.max_] using g1 w, g2⟩
          · cases hr'
        · simp only at hr'
          split at hr'
          · rename_i v hv
            obtain ⟨x, r', rfl, g1, g2⟩ := minmax_ok ha hv
            exact fin (fun _ => rfl) ⟨_, _, one_some hr', by simpa [Builtin.min_] using g1 w, g2⟩
          · cases hr'
      · cases hr'
/-- a new block is made whatever the heap -/
theorem op_new (hk : (compOp P o g).kind = 2) (hr : (compOp P o g).run P E h = some r) : ∃ (k : NK) (mk : Nat → Value), (∀ o', k = .obj o' → grpOf o' = none) ∧ ∀ h', (compOp P o g).run P E h' = some (.val (mk h'.next) (addK k h')) := by
  unfold compOp at hk hr ⊢
  cases hop : o.op <;> rw [hop] at hk hr <;> simp only at hk hr ⊢ <;> first | (cases hk; done) | skip
  · unfold opAlloc at hr ⊢
    split at hr
    · rename_i z hz
      exact ⟨.row z _, fun n => .pointer (some ⟨n, 0, none⟩), (fun o' h => by cases h), fun h' => by simp only [hz]; rfl⟩
    · cases hr
  · unfold opBox at hr ⊢
    split at hr
    · rename_i sz hsz
      obtain ⟨v, h1, h2⟩ := ev1_some hr
      exact ⟨.row (cellsV v) _, fun n => .pointer (some ⟨n, 0, none⟩), (fun o' h => by cases h), fun h' => by simp only [hsz, ev1, h1]; rfl⟩
    · cases hr
  · rename_i t len ps
    unfold opBuildSlice at hr ⊢
    split at hr
    · rename_i el hd
      split at hr
      · rename_i sz hsz
        split at hr
        · rename_i l hl
          obtain ⟨hb, hr2⟩ := bc_some hr
          split at hr2
          · rename_i z hz
            split at hr2
            · rename_i cs hcs
              exact ⟨.row cs el, fun n => .slice (some ⟨n, 0, none⟩) len (mkCap len true), (fun o' h => by cases h), fun h' => by simp only [hd, hsz, hl, hb, bc_true, hz, hcs]; rfl⟩
            · cases hr2
          · cases hr2
        · cases hr
      · cases hr
    · cases hr
  · exfalso
    unfold kindConv at hk
    split at hk <;> simp at hk
  · unfold opMkMap at hr ⊢
    split at hr
    · rename_i kt et hd
      split at hr
      · rename_i kk n hq
        exact ⟨.obj (.map [] 0), fun n => .map (some n), (fun o' h => by cases h; rfl), fun h' => by simp only [hd, hq]; rfl⟩
      · rename_i hq
        exact ⟨.obj (.map [] 0), fun n => .map (some n), (fun o' h => by cases h; rfl), fun h' => by simp only [hd, hq]; rfl⟩
      · cases hr
    · cases hr
  · obtain ⟨u, h1, h2⟩ := ev1_some hr
    obtain ⟨v, h3, h4⟩ := ev1_some h2
    split at h4
    · rename_i l hl
      split at h4
      · rename_i c hc
        split at h4
        · rename_i el hd
          split at h4
          · rename_i sz hsz
            split at h4
            · rename_i by_ hby
              split at h4
              · rename_i z hz
                obtain ⟨q1, q2⟩ := bc_some h4
                obtain ⟨q3, q4⟩ := bc_some q2
                exact ⟨.row z el, fun n => .slice (some ⟨n, 0, none⟩) l (mkCap c true), (fun o' h => by cases h), fun h' => by simp only [opMkSlice, ev1, h1, h3, hl, hc, hd, hsz, hby, hz, q1, q3, bc_true]; rfl⟩
              · cases h4
            · cases h4
          · cases h4
        · cases h4
      · cases h4
    · cases h4
  · rename_i c
    exfalso
    obtain ⟨cal, args, ts⟩ := c
    cases cal <;> simp [kindCall] at hk
    rename_i b
    cases b <;> simp [kindB] at hk
-- only the operands count
theorem evalL_congr : ∀ {xs : List Operand}, (∀ x ∈ xs, evalO E x = evalO E' x) → evalL E xs = evalL E' xs := by
  intro xs
  induction xs with
  | nil => intro _; rfl
  | cons x r ih => intro hx; simp only [evalL, hx x (by simp), ih fun y hy => hx y (by simp [hy])]
theorem evalParts_congr : ∀ {xs : List (Nat × Operand)}, (∀ x ∈ xs.map (·.2), evalO E x = evalO E' x) → evalParts E xs = evalParts E' xs := by
  intro xs
  induction xs with
  | nil => intro _; rfl
  | cons x r ih =>
    intro hx
    obtain ⟨i, x⟩ := x
    simp only [evalParts, hx x (by simp), ih fun y hy => hx y (by simp only [List.map_cons, List.mem_cons]; exact .inr hy)]
theorem optL_congr {x : Option Operand} (hx : ∀ y, x = some y → evalO E y = evalO E' y) : optL E x = optL E' x := by
  cases x with
  | none => rfl
  | some y => simp only [optL, hx y rfl]
theorem ev1_congr {x : Operand} {k k' : Value → Res} (hx : evalO E x = evalO E' x) (hk : ∀ v, k v = k' v) : ev1 E x k = ev1 E' x k' := by
  have : k = k' := funext hk
  unfold ev1; rw [hx, this]
theorem op_congr (he : ∀ x ∈ o.op.operands, evalO E x = evalO E' x) : (compOp P o g).run P E h = (compOp P o g).run P E' h := by
  unfold compOp
  cases hop : o.op <;> rw [hop] at he <;> simp only [Op.operands] at he ⊢
  case move x => exact ev1_congr (he x (by simp)) fun _ => rfl
  case assign x => exact ev1_congr (he x (by simp)) fun _ => rfl
  case pick c x y =>
    refine ev1_congr (he c (by simp)) fun v => ?_
    cases v <;> first | rfl | skip
    rename_i b
    cases b
    · exact ev1_congr (he y (by simp)) fun _ => rfl
    · exact ev1_congr (he x (by simp)) fun _ => rfl
  case alloc => rfl
  case box t x =>
    show opBox t x P E h = opBox t x P E' h
    unfold opBox
    split
    · exact ev1_congr (he x (by simp)) fun _ => rfl
    · rfl
  case build t ps =>
    show opBuild t ps P E h = opBuild t ps P E' h
    unfold opBuild
    rw [evalParts_congr (fun x hx => he x (by simpa using hx))]
  case buildSlice t n ps =>
    show opBuildSlice t n ps P E h = opBuildSlice t n ps P E' h
    unfold opBuildSlice
    rw [evalParts_congr (fun x hx => he x (by simpa using hx))]
  case load t x => exact ev1_congr (he x (by simp)) fun _ => rfl
  case store t x y => exact ev1_congr (he x (by simp)) fun _ => ev1_congr (he y (by simp)) fun _ => rfl
  case nilCheck x => exact ev1_congr (he x (by simp)) fun _ => rfl
  case binOp op t x y t' => exact ev1_congr (he x (by simp)) fun _ => ev1_congr (he y (by simp)) fun _ => rfl
  case unOp op t x => exact ev1_congr (he x (by simp)) fun _ => rfl
  case convert s d x => exact ev1_congr (he x (by simp)) fun _ => rfl
  case makeInterface t x => exact ev1_congr (he x (by simp)) fun _ => rfl
  case makeFunc fn first cap =>
    show opMkFunc fn first cap P E h = opMkFunc fn first cap P E' h
    unfold opMkFunc
    rw [evalL_congr (fun x hx => he x (by simp at hx ⊢; exact .inl hx)), evalL_congr (fun x hx => he x (by simp at hx ⊢; exact .inr hx))]
  case makeMap t q =>
    show opMkMap t q P E h = opMkMap t q P E' h
    unfold opMkMap
    rw [optL_congr (fun y hy => he y (by subst hy; simp))]
  case makeSlice t x y => exact ev1_congr (he x (by simp)) fun _ => ev1_congr (he y (by simp)) fun _ => rfl
  case slice t x lo hi mx =>
    refine ev1_congr (he x (by simp)) fun v => ?_
    rw [optL_congr (fun y hy => he y (by subst hy; simp)), optL_congr (x := hi) (fun y hy => he y (by subst hy; simp)), optL_congr (x := mx) (fun y hy => he y (by subst hy; simp))]
  case fieldAddr s x f => exact ev1_congr (he x (by simp)) fun _ => rfl
  case field t x f => exact ev1_congr (he x (by simp)) fun _ => rfl
  case indexAddr t x i => exact ev1_congr (he x (by simp)) fun _ => ev1_congr (he i (by simp)) fun _ => rfl
  case index t x i => exact ev1_congr (he x (by simp)) fun _ => ev1_congr (he i (by simp)) fun _ => rfl
  case lookup t x k b => exact ev1_congr (he x (by simp)) fun _ => ev1_congr (he k (by simp)) fun _ => rfl
  case mapUpdate t x y z => exact ev1_congr (he x (by simp)) fun _ => ev1_congr (he y (by simp)) fun _ => ev1_congr (he z (by simp)) fun _ => rfl
  case insert t x y z => exact ev1_congr (he x (by simp)) fun _ => ev1_congr (he y (by simp)) fun _ => ev1_congr (he z (by simp)) fun _ => rfl
  case mapEntry t x y => exact ev1_congr (he x (by simp)) fun _ => ev1_congr (he y (by simp)) fun _ => rfl
  case entryStore t x y z => exact ev1_congr (he x (by simp)) fun _ => ev1_congr (he y (by simp)) fun _ => ev1_congr (he z (by simp)) fun _ => rfl
  case range t x => exact ev1_congr (he x (by simp)) fun _ => rfl
  case next x b => exact ev1_congr (he x (by simp)) fun _ => rfl
  case entry x => exact ev1_congr (he x (by simp)) fun _ => rfl
  case extract x i => exact ev1_congr (he x (by simp)) fun _ => rfl
  case call c =>
    obtain ⟨cal, args, ts⟩ := c
    simp only [Call.operands] at he
    cases cal with
    | builtin b =>
      show opBuiltin b ts args P E h = opBuiltin b ts args P E' h
      unfold opBuiltin
      rw [evalL_congr (fun x hx => he x (by simpa using hx))]
    | value f =>
      show opValue f args P E h = opValue f args P E' h
      refine ev1_congr (he f (by simp)) fun v => ?_
      rw [evalL_congr (fun x hx => he x (by simp at hx ⊢; exact .inr hx))]
    | invoke x m => rfl
  all_goals rfl
end
end Go.Ev
