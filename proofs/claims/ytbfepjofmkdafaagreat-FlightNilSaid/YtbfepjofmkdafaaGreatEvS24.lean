/- Calls; the theorem (own work). -/
import Derived.Test.YtbfepjofmkdafaaGreatEvS23
namespace Go.Ev
variable {P : Cx} {M M' M0 : Mu} {h h' h0 : AH} {w w' w0 : World}

theorem tupleA_ok {vs us : List Value} (hv : VRs M vs us) : VR M (tupleA vs) (if h : us.toArray.size = 1 then us.toArray[0] else .tuple us.toArray) := by
  cases hv with
  | nil => exact .tuple _ _ .nil
  | cons v v' r r' h1 h2 =>
    cases h2 with
    | nil => exact h1
    | cons x x' s s' h3 h4 =>
      rw [dif_neg (by simp)]
      exact .tuple _ _ (.cons _ _ _ _ h1 (.cons _ _ _ _ h3 h4))
/-- one result -/
noncomputable def resOne (t : Array Value) : ResultVar → Sem Value
  | .tmp x => pure (t.getD x undef)
  | .cell x ty => do loadVar ty (← asAddr (t.getD x undef))
theorem results_eq (fn : Func) (t : Array Value) : results fn t = (fn.results.toList.mapM (resOne t) >>= fun us => pure (if h : us.toArray.size = 1 then us.toArray[0] else .tuple us.toArray)) := by
  unfold results
  have : (fun | .tmp t_1 => pure (t.getD t_1 undef) | .cell a t_1 => do loadVar t_1 (← asAddr (t.getD a undef)) : ResultVar → Sem Value) = resOne t := by
    funext r; cases r <;> rfl
  rw [Array.mapM_eq_mapM_toList]
  simp only [map_eq_pure_bind, bind_assoc, pure_bind]
  congr 1
theorem resOne_list (ok : CxOK P) {T : Tr Value} {t : Array Value} (htr : TR M T t) (s : SR P M h w) : ∀ (rs : List ResultVar) (vs : List Value), resultsA P h ⟨[], T⟩ rs = some vs →
    ∃ us, (rs.mapM (resOne t)).run P.P w = .ok us w ∧ VRs M vs us := by
  intro rs
  induction rs with
  | nil => intro vs h; cases h; exact ⟨[], by simp, .nil⟩
  | cons r rs ih =>
    intro vs hr
    have fin : ∀ {v : Value}, (resultsA P h ⟨[], T⟩ rs).map (v :: ·) = some vs → (∃ u, (resOne t r).run P.P w = .ok u w ∧ VR M v u) → ∃ us, ((r :: rs).mapM (resOne t)).run P.P w = .ok us w ∧ VRs M vs us := by
      intro v hm ⟨u, h1, h2⟩
      simp only [Option.map_eq_some_iff] at hm
      obtain ⟨vs', h3, rfl⟩ := hm
      obtain ⟨us, h4, h5⟩ := ih vs' h3
      refine ⟨u :: us, ?_, .cons _ _ _ _ h2 h5⟩
      simp only [List.mapM_cons, Sem.run_bind, h1, Result.andThen_ok, h4, Sem.run_pure]
    cases r with
    | tmp x =>
      have hr' : (match Env.get ⟨[], T⟩ x with | some v => (resultsA P h ⟨[], T⟩ rs).map (v :: ·) | none => none) = some vs := hr
      cases hx : Env.get ⟨[], T⟩ x with
      | none => rw [hx] at hr'; cases hr'
      | some v =>
        rw [hx] at hr'
        obtain ⟨u, hu, hv⟩ := htr x v hx
        refine fin hr' ⟨u, ?_, hv⟩
        have hg : t.getD x undef = u := by rw [Array.getD_eq_getD_getElem?, hu]; rfl
        simp only [resOne, hg, Sem.run_pure]
    | cell x ty =>
      have hr' : (match Env.get ⟨[], T⟩ x with | some p => (match placeOf p with | some (b, off) => (match loadV P h ty b off with | some v => (resultsA P h ⟨[], T⟩ rs).map (v :: ·) | none => none) | none => none) | none => none) = some vs := hr
      cases hx : Env.get ⟨[], T⟩ x with
      | none => rw [hx] at hr'; cases hr'
      | some p =>
        rw [hx] at hr'
        simp only at hr'
        cases hp : placeOf p with
        | none => rw [hp] at hr'; cases hr'
        | some bo =>
          obtain ⟨b, off⟩ := bo
          rw [hp] at hr'
          simp only at hr'
          cases hl : loadV P h ty b off with
          | none => rw [hl] at hr'; cases hr'
          | some v =>
            rw [hl] at hr'
            obtain ⟨pu, hpu, hpv⟩ := htr x p hx
            rw [placeOf_some hp] at hpv
            obtain ⟨i, hi, rfl⟩ := hpv.at
            obtain ⟨j, u, hj, h4, h5⟩ := loadV_ok ok s hl
            rw [hi] at hj; cases hj
            refine fin hr' ⟨u, ?_, h5⟩
            have hg : t.getD x undef = .pointer (some ⟨i.blk, i.sh + off, none⟩) := by rw [Array.getD_eq_getD_getElem?, hpu]; rfl
            simp only [resOne, hg, asAddr, Sem.run_bind, Sem.run_pure, Result.andThen_ok, h4]
theorem results_ok (ok : CxOK P) {T : Tr Value} {t : Array Value} (htr : TR M T t) {fn : Func} {vs : List Value} (s : SR P M h w) (hr : resultsA P h ⟨[], T⟩ fn.results.toList = some vs) :
    ∃ u, (results fn t).run P.P w = .ok u w ∧ VR M (tupleA vs) u := by
  obtain ⟨us, h1, h2⟩ := resOne_list ok htr s _ _ hr
  refine ⟨_, ?_, tupleA_ok h2⟩
  rw [results_eq]
  simp only [Sem.run_bind, h1, Result.andThen_ok, Sem.run_pure]
/-- a frame leaves: its marks are taken up -/
theorem leaves_ok {fn : Func} {t : Array Value} {k : Nat} {Rp : Ending → World → Prop} (hfin : ∀ w', Nxt P M0 h0 w0 M h w' → ∃ v, (results fn t).run P.P w' = .ok v w' ∧ Rp (.returned v) w') :
    ∀ (rs : List Nat) (w : World), Nxt P M0 h0 w0 M h w → rs.Nodup → (∀ r ∈ rs, w0.heap.size ≤ r ∧ w.heap[r]? = some (.deferred (some [])) ∧ ¬ Held M h r) →
      LeavesInM Fence.wide k P.P fn t Rp (rs.map fun r => ({ target := .collected r, args := #[] } : Deferred)) .returning w := by
  intro rs
  induction rs with
  | nil =>
    intro w nx _ _
    exact hfin w nx
  | cons r rs ih =>
    intro w nx hnd hr
    rw [List.nodup_cons] at hnd
    obtain ⟨g1, g2, g3⟩ := hr r (by simp)
    refine ⟨by simp, .inl ⟨r, _, rfl, run_takeDeferred g2, ?_⟩⟩
    have nx' := nxt_unheld nx g1 g3 (turn_putObj (o := .deferred none))
    refine ih _ nx' hnd.2 fun r' hr' => ?_
    obtain ⟨f1, f2, f3⟩ := hr r' (by simp [hr'])
    have hne : r' ≠ r := fun e => hnd.1 (by rw [← e]; exact hr')
    exact ⟨f1, by rw [World.putObj_heap_other hne]; exact f2, f3⟩
theorem putM_eq (m : Nat) (T : Tr Value) (t : Nat) (v : Value) : putM m T t v = if m.testBit t = true then T.put t (some v) else T := by
  unfold putM; rw [bc_eq]
theorem argsT_get {m : Nat} : ∀ {l : List Value} {T : Tr Value} {i k : Nat} {v : Value}, (argsT m T i l).get k = some v → T.get k = some v ∨ (m.testBit k = true ∧ ∃ j, l[j]? = some v ∧ k = i + j) := by
  intro l
  induction l with
  | nil => intro T i k v h; exact .inl h
  | cons x r ih =>
    intro T i k v h
    have h' : (argsT m (putM m T i x) (Nat.succ i) r).get k = some v := h
    rcases ih h' with q | ⟨q, j, hj, hk⟩
    · rw [putM_eq] at q
      split at q
      · rename_i hm
        rw [Tr.get_put] at q
        by_cases hki : k = i
        · rw [if_pos hki] at q
          exact .inr ⟨by rw [hki]; exact hm, 0, by simpa using q, by omega⟩
        · rw [if_neg hki] at q; exact .inl q
      · exact .inl q
    · exact .inr ⟨q, j + 1, by simpa using hj, by omega⟩
theorem setAll_ok {m : Nat} {ts : List Tmp} : ∀ {vs us : List Value} {T : Tr Value} {t : Array Value}, VRs M vs us → ts.length = vs.length → (∀ x ∈ ts, x < t.size) → TRm M m T t →
    TRm M m (setAll m T ts vs) ((ts.zip us).foldl (fun t x => t.setIfInBounds x.1 x.2) t) ∧ ((ts.zip us).foldl (fun t x => t.setIfInBounds x.1 x.2) t).size = t.size := by
  induction ts with
  | nil => intro vs us T t _ _ _ h; exact ⟨by cases vs <;> exact h, rfl⟩
  | cons x ts ih =>
    intro vs us T t hv hl hb h
    cases hv with
    | nil => simp at hl
    | cons v u r r' h1 h2 =>
      simp only [List.zip_cons_cons, List.foldl_cons]
      have hx := hb x (by simp)
      have h3 : TRm M m (putM m T x v) (t.setIfInBounds x u) := by
        refine ⟨fun k z hk => ?_, fun k z hk => ?_⟩
        · rw [putM_eq] at hk
          by_cases hm : m.testBit x = true
          · rw [if_pos hm, Tr.get_put] at hk
            by_cases hkx : k = x
            · rw [if_pos hkx] at hk; cases hk
              exact ⟨u, by rw [hkx]; simp [hx], h1⟩
            · rw [if_neg hkx] at hk
              obtain ⟨y, hy, hv⟩ := h.1 k z hk
              exact ⟨y, by rw [Array.getElem?_setIfInBounds_ne (Ne.symm hkx)]; exact hy, hv⟩
          · rw [if_neg hm] at hk
            have hkx : k ≠ x := fun e => hm (by rw [← e]; exact h.2 k z hk)
            obtain ⟨y, hy, hv⟩ := h.1 k z hk
            exact ⟨y, by rw [Array.getElem?_setIfInBounds_ne (Ne.symm hkx)]; exact hy, hv⟩
        · rw [putM_eq] at hk
          by_cases hm : m.testBit x = true
          · rw [if_pos hm, Tr.get_put] at hk
            by_cases hkx : k = x
            · rw [hkx]; exact hm
            · rw [if_neg hkx] at hk; exact h.2 k z hk
          · rw [if_neg hm] at hk; exact h.2 k z hk
      obtain ⟨q1, q2⟩ := ih (T := putM m T x v) (t := t.setIfInBounds x u) h2 (by simpa using hl) (fun y hy => by rw [Array.size_setIfInBounds]; exact hb y (by simp [hy])) h3
      exact ⟨q1, by rw [q2]; simp⟩
theorem nxt_lo {lo : Nat} {hl : AH} (hle : lo ≤ h.lo) (hhl : hl = { h with lo := h.next }) (n : Nxt P M hl w M' h' w') : Nxt P M h w M' { h' with lo := minN lo h'.lo } w' := by
  subst hhl
  have hm : minN lo h'.lo ≤ lo ∧ minN lo h'.lo ≤ h'.lo := by rw [minN_eq]; omega
  exact ⟨⟨n.sr.ai, n.sr.obj, n.sr.sep, n.sr.fresh, Nat.le_trans hm.2 n.sr.lon⟩, n.mu, n.next, n.old, n.img, n.kept, n.size, n.os, n.tape, n.output, Nat.le_trans hm.1 hle,
    fun b hb hbn => n.fp b (Nat.lt_of_lt_of_le hb hm.2) hbn, n.grp, fun b cs e g hb hn hg => Nat.le_trans hm.2 (n.gl b cs e g hb hn hg), n.gb⟩
theorem call_ok (ok : CxOK P) {K : Kx} {n : Nat} {R : Rec} (rc : RecOK P K n R) (cx : Ctx P K M h w) {f : FuncId} {args : List Value} {args' : Array Value} {k : Nat} (s : SR P M h w) (ha : VRs M args args'.toList) (hnf : callF P R f args h ≠ .fail) :
    CallsIn Fence.wide k P.P f args' w (VPost P M h w (callF P R f args h)) := by
  unfold callF at hnf ⊢
  unfold compF at hnf ⊢
  cases hfn : P.fn.get f with
  | none => rw [hfn] at hnf; exact absurd rfl hnf
  | some fn =>
    rw [hfn] at hnf
    simp only at hnf ⊢
    cases hbd : fn.body with
    | none => rw [hbd] at hnf; exact absurd rfl hnf
    | some c =>
      rw [hbd] at hnf
      simp only at hnf ⊢
      cases hmk : P.msk.get f with
      | none => rw [hmk] at hnf; exact absurd rfl hnf
      | some m =>
        rw [hmk] at hnf
        simp only at hnf ⊢
        cases hbc : bndC fn.ntmps c with
        | false => rw [hbc] at hnf; exact absurd rfl hnf
        | true =>
          rw [hbc] at hnf
          obtain ⟨hl, hhl⟩ : ∃ hl : AH, hl = { h with lo := h.next } := ⟨_, rfl⟩
          obtain ⟨outs, houts⟩ : ∃ outs, outs = ((compC c).run P R m (argsT m .leaf 0 args) hl).bind (afterBody P fn.results.toList) := ⟨_, rfl⟩
          have hnf' : (settle hl outs).bind (lowVH h.lo) ≠ .fail := by rw [houts, hhl]; exact hnf
          have hgoal : CallsIn Fence.wide k P.P f args' w (VPost P M h w ((settle hl outs).bind (lowVH h.lo))) := by
            obtain ⟨q1, q2⟩ := bind_ok hnf'
            have hon : outs ≠ .fail := by
              intro e; rw [e] at q1; exact q1 rfl
            rw [houts] at hon
            obtain ⟨q3, q4⟩ := bind_ok hon
            have sl : SR P M hl w := by rw [hhl]; exact ⟨s.ai, s.obj, s.sep, s.fresh, Nat.le_refl _⟩
            have cxl : Ctx P K M hl w := by rw [hhl]; exact ⟨cx.mu, cx.sy, cx.held, cx.below⟩
            refine callsIn_of_wp_marks (ok.fn f fn hfn) hbd trivial ?_
            obtain ⟨a, hadef⟩ : ∃ a : Act, a = { tmps := args' ++ Array.replicate (fn.ntmps - args'.size) undef, defers := [] } := ⟨_, rfl⟩
            rw [← hadef]
            have hasz : a.tmps.size = args'.size + (fn.ntmps - args'.size) := by rw [hadef]; simp
            have htr : TRm M m (argsT m .leaf 0 args) a.tmps := by
              refine ⟨fun j v hj => ?_, fun j v hj => ?_⟩
              · rcases argsT_get hj with q | ⟨_, i, hi, hji⟩
                · simp at q
                · obtain ⟨u, hu, hv⟩ := ha.get i v hi
                  refine ⟨u, ?_, hv⟩
                  rw [hadef, hji, Nat.zero_add]
                  have hlt := (List.getElem?_eq_some_iff.1 hu).1
                  simp only
                  rw [Array.getElem?_append_left (by simpa using hlt)]
                  simpa using hu
              · rcases argsT_get hj with q | ⟨q, _⟩
                · simp at q
                · exact q
            have st : St P M hl w w.heap.size a.tmps.size m (argsT m .leaf 0 args) a := ⟨sl, htr, by rw [hadef]; exact Marks.nil, rfl, Nat.le_refl _⟩
            refine wpIn_mono (show c.wpIn (Wd none) k P.P _ a w from code_ok ok rc c (bndC_mono (by omega) hbc) (.inl rfl) (Nat.le_refl _) st cxl (Nxt.refl sl) q3 (fun s hs => hs)) ?_
            rintro e a' w' ⟨sx, M', hs, rfl, htr', hn, hmk', hsz'⟩
            obtain ⟨q5, q6⟩ := q4 sx hs
            obtain ⟨se, sT, sh⟩ := sx
            have hend : (∀ id, se ≠ .exit id) ∧ afterBody P fn.results.toList ⟨se, sT, sh⟩ = endCall P fn.results.toList sT sh := by
              cases se with
              | exit id => exact absurd rfl q5
              | normal => exact ⟨(fun id h => by cases h), rfl⟩
              | ret => exact ⟨(fun id h => by cases h), rfl⟩
            have hgo : LeavesInM Fence.wide k P.P fn a'.tmps (VPost P M h w ((settle hl outs).bind (lowVH h.lo))) a'.defers .returning w' := by
              obtain ⟨rs, e1, e2, e3⟩ := hmk'
              rw [e1]
              rw [hend.2] at q5 q6
              unfold endCall at q5 q6
              cases hres : resultsA P sh ⟨[], sT⟩ fn.results.toList with
              | none => rw [hres] at q5; exact absurd rfl q5
              | some vs =>
                rw [hres] at q6
                refine leaves_ok (fun w2 n2 => ?_) rs w' hn e2 e3
                obtain ⟨u, g1, g2⟩ := results_ok ok htr'.1 n2.sr hres
                refine ⟨u, g1, ?_⟩
                have hin : inO (tupleA vs, sh) outs := by rw [houts]; exact q6 _ (inO_one _)
                obtain ⟨y, M2, y1, y2, y3⟩ := settle_ok sl hin n2 g2
                obtain ⟨_, q8⟩ := q2 y y1
                exact ⟨_, M2, u, rfl, q8 _ (inO_one _), y3, nxt_lo (Nat.le_refl _) hhl y2⟩
            cases se with
            | exit id => exact absurd rfl (hend.1 id)
            | normal => exact hgo
            | ret => exact hgo
          rw [houts, hhl] at hgoal
          exact hgoal
theorem bndT_mem {n : Nat} : ∀ {l : List Nat}, bndT n l = true → ∀ x ∈ l, x < n := by
  intro l
  induction l with
  | nil => intro _ x hx; cases hx
  | cons y r ih =>
    intro h x hx
    obtain ⟨h1, h2⟩ := bc_and (show bc (Nat.blt y n) (bndT n r) false = true from h)
    rcases List.mem_cons.1 hx with q | q
    · rw [q]; exact bltN h1
    · exact ih h2 x q
theorem yield_ok (ok : CxOK P) {K : Kx} {n : Nat} {R : Rec} (rc : RecOK P K n R) (cx : Ctx P K M h w) {l : Nat} {args args' : List Value} {i : Img} (s : SR P M h w) (hl : M l = some i) (ha : VRs M args args') (hnf : yldF P R l args h ≠ .fail) :
    ∃ f tmps assign body, (Instr.yield i.blk ⟨args'⟩).run P.P w = .ok (.round i.blk f tmps assign body) w ∧ ∀ k, RoundIn Fence.wide k P.P i.blk f tmps assign body w (VPost P M h w (yldF P R l args h)) := by
  unfold yldF at hnf ⊢
  cases hg : h.get l with
  | none => rw [hg] at hnf; exact absurd rfl hnf
  | some o =>
    rw [hg] at hnf
    cases o with
    | loop T ps as bd m e =>
      cases e with
      | normal =>
        simp only at hnf ⊢
        obtain ⟨j, hj, r, p1, p2, p3, p4, p5, p6, p7, N, p8, p9, p10, p11, p12, p13⟩ := s.obj _ _ hg
        rw [hl] at hj
        have hij : i = j := by simpa using hj
        subst hij
        cases hlen : Nat.beq (lenL ps) (lenL args) with
        | false => rw [hlen] at hnf; exact absurd rfl hnf
        | true =>
          rw [hlen] at hnf
          have hlen' : ps.length = args.length := by have := beqN hlen; rwa [lenL_eq, lenL_eq] at this
          obtain ⟨q1, q2⟩ := bind_ok (show ((compC as).run P R m (setAll m T ps args) h).bind (yldMid P R m l bd) ≠ .fail from hnf)
          have hstate : r.state = .ready := congrArg Prod.fst p6
          have hyl := run_yield (P := P.P) (args := ⟨args'⟩) p1 (by
            have h1 : r.params.size = ps.length := by rw [← p2]; simp
            have h2 : args.length = args'.length := ha.length
            simp only [List.size_toArray]; omega)
          obtain ⟨tmps, htmps⟩ : ∃ tmps, tmps = (r.params.zip (⟨args'⟩ : Array Value)).foldl (fun tmps (t, a) => tmps.setIfInBounds t a) r.tmps := ⟨_, rfl⟩
          rw [← htmps] at hyl
          have htm : TRm M m (setAll m T ps args) tmps ∧ tmps.size = r.tmps.size := by
            have hz : tmps = (ps.zip args').foldl (fun t x => t.setIfInBounds x.1 x.2) r.tmps := by
              rw [htmps, ← Array.foldl_toList, Array.toList_zip, p2]
            rw [hz]
            refine setAll_ok ha hlen' (fun x hx => ?_) ⟨p5, p7⟩
            exact Nat.lt_of_lt_of_le (bndT_mem p9 x hx) p8
          refine ⟨r.fn, tmps, r.assign, r.body, hyl, fun k => ?_⟩
          show RoundIn (Wd none) k P.P i.blk r.fn tmps r.assign r.body w _
          refine roundIn_of_wpIn trivial ?_
          show r.assign.wpIn (Wd (some i.blk)) k P.P _ _ w
          rw [p3, p4]
          have st : St P M h w 0 tmps.size m (setAll m T ps args) { tmps, defers := [] } := ⟨s, htm.1, Marks.nil, rfl, Nat.zero_le _⟩
          refine wpIn_mono (code_ok ok rc as (bndC_mono (by rw [htm.2]; exact p8) p10) (.inr p12) (Nat.zero_le _) st cx (Nxt.refl s) q1 (fun s hs => hs)) ?_
          rintro e a1 w1 ⟨sx, M1, hs, rfl, htr1, n1, hmk1, hsz1⟩
          obtain ⟨q3, q4⟩ := q2 sx hs
          obtain ⟨se, sT, sh⟩ := sx
          cases se with
          | exit id => exact absurd rfl q3
          | ret => exact absurd rfl q3
          | normal =>
            unfold yldMid at q3 q4
            simp only at q3 q4
            cases hg1 : sh.get l with
            | none => rw [hg1] at q3; exact absurd rfl q3
            | some o1 =>
              rw [hg1] at q3 q4
              cases o1 with
              | loop T2 ps2 as2 bd2 m2 e2 =>
                cases e2 with
                | normal =>
                  simp only at q3 q4
                  obtain ⟨q5, q6⟩ := bind_ok q3
                  obtain ⟨j1, hj1, r2, t1, t2, t3, t4, t5, t6, t7, N2, t8, t9, t10, t11, t12, t13⟩ := n1.sr.obj _ _ hg1
                  have := n1.mu _ _ hl
                  rw [hj1] at this
                  have hji : j1 = i := by simpa using this
                  subst hji
                  have hst2 : r2.state = .ready := congrArg Prod.fst t6
                  refine ⟨_, run_beginRound t1 hst2, ?_⟩
                  obtain ⟨w2, hw2⟩ : ∃ w2, w2 = w1.putObj j1.blk (.loop { r2 with state := .busy }) := ⟨_, rfl⟩
                  have hw2l : w2.heap[j1.blk]? = some (.loop { r2 with state := .busy }) := by
                    rw [hw2]; exact World.putObj_heap_same (Array.getElem?_eq_some_iff.1 t1).1
                  obtain ⟨n2, hnh2⟩ := nxt_del_turn n1.sr hg1 rfl hj1 (w' := w2) (by rw [hw2]; exact turn_putObj)
                  rw [← hw2]
                  show bd.wpIn (Wd (some j1.blk)) k P.P _ a1 w2
                  have st2 : St P M1 (sh.del l) w2 0 tmps.size m sT a1 := ⟨n2.sr, htr1, hmk1.next n2, hsz1, Nat.zero_le _⟩
                  refine wpIn_mono (code_ok ok rc bd (bndC_mono (by rw [htm.2]; exact p8) p11) (.inr p13) (Nat.zero_le _) st2 ((cx.next n1).next n2) (Nxt.refl n2.sr) q5 (fun s hs => hs)) ?_
                  rintro e3 a3 w3 ⟨sy, M3, hs3, rfl, _, n3, _, _⟩
                  obtain ⟨q7, q8⟩ := q6 sy hs3
                  obtain ⟨ye, yT, yh⟩ := sy
                  have hlt2 : j1.blk < w2.heap.size := (Array.getElem?_eq_some_iff.1 hw2l).1
                  have hw3l : w3.heap[j1.blk]? = some (.loop { r2 with state := .busy }) := by rw [n3.kept _ hlt2 hnh2]; exact hw2l
                  have hnh3 : ¬ Held M3 yh j1.blk := by
                    intro hh
                    rcases n3.img _ hh with q | q
                    · exact hnh2 q
                    · omega
                  have nAll := (n1.trans n2).trans n3
                  have hM3 : M3 l = some j1 := n3.mu _ _ hj1
                  have hheld : Held M h j1.blk := ⟨l, _, j1, hg, hl, rfl⟩
                  -- the end of the round
                  have fin : ∀ (jump : Option Code), jump = (pend ye).2 → ∃ v w', (Instr.endRound j1.blk jump).run P.P w3 = .ok v w' ∧
                      VPost P M h w (bc true (((compC as).run P R m (setAll m T ps args) h).bind (yldMid P R m l bd)) .fail) (.returned v) w' := by
                    intro jump hjump
                    obtain ⟨w4, hw4⟩ : ∃ w4, w4 = w3.putObj j1.blk (.loop { r2 with state := if jump.isNone then .ready else .done, pending := jump }) := ⟨_, rfl⟩
                    have hend := run_endRound (P := P.P) jump hw3l
                    refine ⟨_, w4, by rw [hw4]; exact hend, ?_⟩
                    have hlt3 := (Array.getElem?_eq_some_iff.1 hw3l).1
                    have hor : OR P M3 j1 w4 (.loop T2 ps2 as2 bd2 m2 ye) := by
                      refine ⟨{ r2 with state := if jump.isNone then .ready else .done, pending := jump }, by rw [hw4]; exact World.putObj_heap_same hlt3, t2, t3, t4, t5.mono (Mu.le_trans n2.mu n3.mu), ?_, t7, N2, t8, t9, t10, t11, t12, t13⟩
                      rw [hjump]; cases ye <;> rfl
                    have n4 := nxt_readd nAll hM3 hnh3 hheld rfl (by rw [hw4]; exact turn_putObj) hor
                    have hin := q4 _ (q8 _ (inO_one _))
                    refine ⟨_, M3, .bool jump.isNone, rfl, hin, ?_, n4⟩
                    clear hin hor n4 hs3 n3 q7 q8 nAll
                    subst hjump
                    cases ye <;> exact .bool _
                  cases ye with
                  | normal => exact fin none rfl
                  | exit id => exact fin (some (.exit id)) rfl
                  | ret => exact fin (some .ret) rfl
                | _ => exact absurd rfl q3
              | _ => exact absurd rfl q3
      | _ => exact absurd rfl hnf
    | _ => exact absurd rfl hnf
-- calls that are not gone into
theorem nxt_below (s : SR P M h w) (b : RowKit.Below w.heap.size w w') : Nxt P M h w M h w' :=
  { Nxt.refl s with
    sr := ⟨s.ai, fun x o hx => let ⟨i, hi, ho⟩ := s.obj x o hx; ⟨i, hi, ho.world (b.block _ ho.lt)⟩, s.sep, s.fresh, s.lon⟩
    kept := fun x hx _ => b.block x hx
    size := b.size, os := b.os, tape := b.tape, output := b.output }
theorem nxt_sign (s : SR P M h w) (i : Img) : Nxt P M h w (M.set h.next i) { h with next := Nat.succ h.next } w := by
  have hid := s.fresh h.next (Nat.le_refl _)
  have hle : M.le (M.set h.next i) := Mu.le_set i hid
  have hne : ∀ b o, h.get b = some o → b ≠ h.next := fun b o hb e => by
    obtain ⟨j, hj, _⟩ := s.obj b o hb; rw [e, hid] at hj; cases hj
  have hai : AI { h with next := Nat.succ h.next } := by
    intro b cs e g hb
    obtain ⟨h1, h2⟩ := s.ai b cs e g hb
    have : b < Nat.succ h.next := by omega
    exact ⟨h1, this⟩
  refine ⟨⟨hai, fun b o hb => ?_, fun b b' o o' i1 i2 h1 h2 m1 m2 he => ?_, fun b hb => ?_, Nat.le_trans s.lon (Nat.le_succ _)⟩, hle, Nat.le_succ _, fun b hb => Mu.set_other M i (by omega), ?_, fun _ _ _ => rfl, Nat.le_refl _, rfl, rfl, rfl,
    Nat.le_refl _, fun _ _ _ => rfl, fun b cs e g hb => .inr ⟨b, cs, e, hb⟩, fun b cs e g hb hn _ => absurd (s.ai b cs e g hb).2 (by omega), fun b cs e g hb _ => ⟨cs, e, hb⟩⟩
  · obtain ⟨j, hj, ho⟩ := s.obj b o hb
    exact ⟨j, hle _ _ hj, ho.mono hle⟩
  · have h1' : h.get b = some o := h1
    have h2' : h.get b' = some o' := h2
    rw [Mu.set_other M i (hne b o h1')] at m1
    rw [Mu.set_other M i (hne b' o' h2')] at m2
    exact s.sep b b' o o' i1 i2 h1' h2' m1 m2 he
  · have hb' : h.next + 1 ≤ b := hb
    rw [Mu.set_other M i (by omega)]; exact s.fresh b (by omega)
  · rintro x ⟨b, o, j, hb, hj, hx⟩
    have hb' : h.get b = some o := hb
    rw [Mu.set_other M i (hne b o hb')] at hj
    exact .inl ⟨b, o, j, hb', hj, hx⟩
theorem signs_ok : ∀ {l us : List Value} {h : AH} {M : Mu} {w : World}, SR P M h w → FitL l us → orcOut.orcOK l = true →
    ∃ M', Nxt P M h w M' { h with next := (signs h.next l).2 } w ∧ VRs M' (signs h.next l).1 us := by
  intro l
  induction l with
  | nil => intro us h M w s hf _; cases hf; exact ⟨M, Nxt.refl s, .nil⟩
  | cons v r ih =>
    intro us h M w s hf hok
    cases hf with
    | cons _ u _ s' h1 hr =>
      by_cases hv : v = .chan none
      · subst hv
        have hok' : orcOut.orcOK r = true := hok
        have hu : u.oneCell' = true := by
          rcases h1 with ⟨_, q⟩ | q
          · exact q
          · rw [q]; rfl
        have n1 := nxt_sign s ⟨0, 0, 0, 0, u⟩
        obtain ⟨M', n2, hv2⟩ := ih n1.sr hr hok'
        refine ⟨M', n1.trans n2, .cons _ _ _ _ (.sym h.next ⟨0, 0, 0, 0, u⟩ u (n2.mu _ _ (Mu.set_same _ _ _)) rfl hu) hv2⟩
      · have hsig : ∀ n, signs n (v :: r) = (v :: (signs n r).1, (signs n r).2) := by
          intro n
          cases v with
          | chan c => cases c with
            | none => exact absurd rfl hv
            | some c => rfl
          | _ => rfl
        have hok2 : closedV 6 v = true ∧ orcOut.orcOK r = true := by
          have : bc (closedV 6 v) (orcOut.orcOK r) false = true := by
            cases v with
            | chan c => cases c with
              | none => exact absurd rfl hv
              | some c => exact hok
            | _ => exact hok
          exact bc_and this
        have hu : u = v := by
          rcases h1 with ⟨q, _⟩ | q
          · exact absurd q hv
          · exact q
        obtain ⟨M', n2, hv2⟩ := ih s hr hok2.2
        rw [hsig]
        exact ⟨M', n2, .cons _ _ _ _ (by rw [hu]; exact closed_refl 6 hok2.1) hv2⟩
theorem orcOut_ok {res u : Value} (s : SR P M h w) (hf : Fits res u) (hnf : orcOut h res ≠ .fail) : ∃ x M', inO x (orcOut h res) ∧ Nxt P M h w M' x.2 w ∧ VR M' x.1 u := by
  have closed : ∀ {v : Value}, orcOut h v = bc (closedV 6 v) (.one (v, h)) .fail → orcOut h v ≠ .fail → Fit1 v u → v ≠ .chan none → ∃ x M', inO x (orcOut h v) ∧ Nxt P M h w M' x.2 w ∧ VR M' x.1 u := by
    intro v he hnf h1 hv
    rw [he] at hnf ⊢
    cases hc : closedV 6 v with
    | false => rw [hc] at hnf; exact absurd rfl hnf
    | true =>
      have hu : u = v := by
        rcases h1 with ⟨q, _⟩ | q
        · exact absurd q hv
        · exact q
      exact ⟨_, M, inO_one _, Nxt.refl s, by rw [hu]; exact closed_refl 6 hc⟩
  have agg : ∀ {cs us : List Value}, res = .agg ⟨cs⟩ → u = .agg ⟨us⟩ → FitL cs us → ∃ x M', inO x (orcOut h res) ∧ Nxt P M h w M' x.2 w ∧ VR M' x.1 u := by
    intro cs us hres hu hfl
    subst hres; subst hu
    have he : orcOut h (.agg ⟨cs⟩) = bc (orcOut.orcOK cs) (.one (.agg ⟨(signs h.next cs).1⟩, { h with next := (signs h.next cs).2 })) .fail := rfl
    rw [he] at hnf ⊢
    cases hc : orcOut.orcOK cs with
    | false => rw [hc] at hnf; exact absurd rfl hnf
    | true =>
      obtain ⟨M', n, hv⟩ := signs_ok s hfl hc
      exact ⟨_, M', inO_one _, n, .agg _ _ hv⟩
  rcases hf with ⟨cs, us, h1, h2, h3⟩ | h1
  · exact agg h1 h2 h3
  · cases res with
    | agg cs =>
      obtain ⟨cs⟩ := cs
      have hu : u = .agg ⟨cs⟩ := by
        rcases h1 with ⟨q, _⟩ | q
        · cases q
        · exact q
      have hrefl : ∀ l : List Value, FitL l l := by
        intro l
        induction l with
        | nil => exact .nil
        | cons v r ih => exact .cons _ _ _ _ (.inr rfl) ih
      exact agg rfl hu (hrefl cs)
    | chan c =>
      cases c with
      | none =>
        have hu : u.oneCell' = true := by
          rcases h1 with ⟨_, q⟩ | q
          · exact q
          · rw [q]; rfl
        exact ⟨(.chan (some h.next), { h with next := Nat.succ h.next }), _, inO_one _, nxt_sign s ⟨0, 0, 0, 0, u⟩, .sym h.next ⟨0, 0, 0, 0, u⟩ u (Mu.set_same _ _ _) rfl hu⟩
      | some c => exact closed rfl hnf h1 (by simp)
    | _ => exact closed rfl hnf h1 (by simp)
theorem callO_ok {K : Kx} (ot : OrcT P K) {g : Outs VH} {f : FuncId} {args : List Value} {args' : Array Value} {k : Nat} (s : SR P M h w) (cx : Ctx P K M h w) (ha : VRs M args args'.toList)
    (hg : g ≠ .fail → CallsIn Fence.wide k P.P f args' w (VPost P M h w g)) (hnf : callO P g f args h ≠ .fail) : CallsIn Fence.wide k P.P f args' w (VPost P M h w (callO P g f args h)) := by
  have main : ∀ l, P.orc = l → (match orcFind f args l with | some res => orcOut h res | none => g) ≠ .fail → CallsIn Fence.wide k P.P f args' w (VPost P M h w (match orcFind f args l with | some res => orcOut h res | none => g)) := by
    intro l hl hnf
    cases hf : orcFind f args l with
    | none => rw [hf] at hnf; exact hg hnf
    | some res =>
      rw [hf] at hnf
      refine (ot f args res (by rw [hl]; exact hf) M args' cx.mu ha w k cx.below).mono ?_
      rintro e w' ⟨u, rfl, hfit, hb⟩
      have n1 := nxt_below s hb
      obtain ⟨x, M', hx, n2, hv⟩ := orcOut_ok n1.sr hfit hnf
      exact ⟨x, M', u, rfl, hx, hv, n1.trans n2⟩
  unfold callO at hnf ⊢
  cases ho : P.orc with
  | nil => rw [ho] at hnf; exact hg hnf
  | cons x r => rw [ho] at hnf; exact main (x :: r) ho hnf
theorem cellIs_ok {b off : Nat} {k : IntKind} {n : Int} (hc : cellIs h b off k n = true) : loadN h b off 1 = some [.int k n] := by
  unfold cellIs at hc
  split at hc
  · rename_i k' x hl
    obtain ⟨h1, h2⟩ := bc_and hc
    rw [hl, of_decide_eq_true h1, of_decide_eq_true h2]
  · cases hc
theorem cell_is (s : SR P M h w) {b off : Nat} {k : IntKind} {n : Int} (hc : cellIs h b off k n = true) {i : Img} (hi : M b = some i) : w.cell? ⟨i.blk, i.sh + off, none⟩ = some (.int k n) := by
  obtain ⟨j, u, hj, h1, h2⟩ := loadN_one s (cellIs_ok hc)
  rw [hi] at hj; cases hj
  rw [h2.int_inv] at h1
  exact h1
theorem bc_notfail {α : Type} {b : Bool} {x : Outs α} (hb : bc b x .fail ≠ .fail) : b = true ∧ bc b x .fail = x := by
  cases b with
  | true => exact ⟨rfl, rfl⟩
  | false => exact absurd rfl hb
/-- the slow road of sync.Once -/
theorem once_ok (ok : CxOK P) {K : Kx} {n : Nat} {R : Rec} (rc : RecOK P K n R) (cx : Ctx P K M h w) {d : FuncId} (hd : P.onc = some d) {args : List Value} {args' : Array Value} {k : Nat} (s : SR P M h w) (ha : VRs M args args'.toList)
    (hnf : onceA P R args h ≠ .fail) : CallsIn Fence.wide k P.P d args' w (VPost P M h w (onceA P R args h)) := by
  unfold onceA at hnf
  split at hnf
  · rename_i p g first cap
    split at hnf
    · rename_i b off hp
      obtain ⟨hb, hbe⟩ := bc_notfail hnf
      rw [hbe] at hnf
      have hoe : onceA P R [p, .func (.func g) first cap] h = onceMid R b off g (appL first.toList cap.toList) h := by
        unfold onceA
        simp only [hp]
        exact hbe
      rw [hoe]
      rw [placeOf_some hp] at ha
      obtain ⟨i, a1, a2, c1, c2, hi, hf1, hf2, hargs, h1, h2⟩ : ∃ i a1 a2 c1 c2, M b = some i ∧ first = ⟨a1⟩ ∧ cap = ⟨c1⟩ ∧ args' = #[.pointer (some ⟨i.blk, i.sh + off, none⟩), .func (.func g) ⟨a2⟩ ⟨c2⟩] ∧ VRs M a1 a2 ∧ VRs M c1 c2 := by
        obtain ⟨l⟩ := args'
        cases ha with
        | cons _ u _ _ q1 q2 => cases q2 with
          | cons _ z _ _ q3 q4 =>
            cases q4
            obtain ⟨i, hi, rfl⟩ := q1.at
            cases q3 with
            | func _ a1 a2 c1 c2 r1 r2 => exact ⟨i, a1, a2, c1, c2, hi, rfl, rfl, rfl, r1, r2⟩
      subst hf1; subst hf2; subst hargs
      unfold onceMid at hnf ⊢
      obtain ⟨hcs, hce⟩ := bc_notfail hnf
      rw [hce] at hnf ⊢
      obtain ⟨hc0, hc1⟩ := bc_and hcs
      split at hnf
      · rename_i h1' hst
        obtain ⟨_, hz, nx⟩ := storeL_one s (.int .i32 1) hst hi
        obtain ⟨fn, c, _, _, hent⟩ := hasBody_ok ok hb
        refine callsIn_wide.2 (ok.onc d hd i.blk (i.sh + off) g ⟨a2⟩ ⟨c2⟩ w _ (cell_is s hc0 hi) (cell_is s hc1 hi) hz hent ?_)
        obtain ⟨b1, b2⟩ := bind_ok hnf
        have hall : VRs M (appL a1 c1) ((⟨a2⟩ : Array Value) ++ ⟨c2⟩).toList := by
          rw [appL_eq]; simpa using h1.app h2
        refine (callsIn_wide.1 (rc.call g (appL a1 c1) h1' M _ _ 0 nx.sr (cx.next nx) hall b1)).mono ?_
        rintro e w1 ⟨x, M', u, rfl, hx, hv, n1⟩
        obtain ⟨e1, e2⟩ := b2 x hx
        unfold onceEnd at e1 e2
        obtain ⟨f1, f2⟩ := bc_notfail e1
        rw [f2] at e1 e2
        have hi' : M' b = some i := n1.mu _ _ hi
        split at e1
        · rename_i h2' hs2
          split at e1
          · rename_i h3' hs3
            have nd : Nxt P M' x.2 w1 M' x.2 w1.drew := nxt_below n1.sr (RowKit.Below.refl _ _).drew
            obtain ⟨⟨y, hy⟩, hz2, nx2⟩ := storeL_one nd.sr (.int .u32 1) hs2 hi'
            obtain ⟨_, hz3, nx3⟩ := storeL_one nx2.sr (.int .i32 0) hs3 hi'
            refine ⟨u, y, rfl, hy, hz2, cell_is n1.sr f1 hi', ?_, ⟨(noVal, h3'), M', _, rfl, ?_, noVal_vr, (((nx.trans n1).trans nd).trans nx2).trans nx3⟩⟩
            · have hz4 : w1.frozen? ⟨i.blk, i.sh + (off + 1), none⟩ = false := by simpa using hz3
              exact hz4
            · apply e2
              rw [hs2]
              simp only [hs3]
              exact inO_one _
          · exact absurd rfl e1
        · exact absurd rfl e1
      · exact absurd rfl hnf
    · exact absurd rfl hnf
  · exact absurd rfl hnf
theorem callN_ok (ok : CxOK P) {K : Kx} {n : Nat} {R : Rec} (rc : RecOK P K n R) (cx : Ctx P K M h w) {f : FuncId} {args : List Value} {args' : Array Value} {k : Nat} (s : SR P M h w) (ha : VRs M args args'.toList) (hnf : callN P R f args h ≠ .fail) :
    CallsIn Fence.wide k P.P f args' w (VPost P M h w (callN P R f args h)) := by
  unfold callN at hnf ⊢
  cases hd : P.onc with
  | none => rw [hd] at hnf; exact call_ok ok rc cx s ha hnf
  | some d =>
    rw [hd] at hnf
    cases hb : Nat.beq d f with
    | true =>
      simp only [hb] at hnf ⊢
      obtain rfl := Nat.eq_of_beq_eq_true hb
      exact once_ok ok rc cx hd s ha hnf
    | false =>
      simp only [hb] at hnf ⊢
      exact call_ok ok rc cx s ha hnf
end Go.Ev
