/- Operations that look at no memory (own work). -/
import Derived.Test.YtbfepjofmkdafaaGreatEvS5
namespace Go.Ev
variable {P : Cx} {M : Mu} {h h' : AH} {w w' : World}

/-- what the evaluator makes of an operation, and what the model does -/
inductive OpOut (P : Cx) (M : Mu) (h : AH) (w : World) : R1 → Result Next → Prop
  | val {v u : Value} {M' : Mu} {h' : AH} {w' : World} (n : Nxt P M h w M' h' w') (hv : VR M' v u) : OpOut P M h w (.val v h') (.ok (.value u) w')
  | skip {M' : Mu} {h' : AH} {w' : World} (n : Nxt P M h w M' h' w') : OpOut P M h w (.skip h') (.ok .skip w')
  | enter {f : FuncId} {args : List Value} {args' : Array Value} (ha : VRs M args args'.toList) : OpOut P M h w (.enter f args h) (.ok (.enter f args') w)
  | yield {l : Nat} {i : Img} {args args' : List Value} (hl : M l = some i) (ha : VRs M args args') : OpOut P M h w (.yield l args h) ((Instr.yield i.blk ⟨args'⟩).run P.P w)
  | many {l : List (Value × AH)} {v u : Value} {M' : Mu} {h' : AH} {w' : World} (hl : (v, h') ∈ l) (n : Nxt P M h w M' h' w') (hv : VR M' v u) : OpOut P M h w (.many l) (.ok (.value u) w')

/-- an operation that gives a value and leaves all as it was -/
def OpS (P : Cx) (M : Mu) (h : AH) (w : World) (r : R1) (m : Result Next) : Prop := ∃ v u, r = .val v h ∧ m = .ok (.value u) w ∧ VR M v u
theorem OpS.out (s : SR P M h w) {r : R1} {m : Result Next} (q : OpS P M h w r m) : OpOut P M h w r m := by
  obtain ⟨v, u, rfl, rfl, hv⟩ := q
  exact .val (Nxt.refl s) hv
theorem ev1_some {E : Env} {x : Operand} {k : Value → Res} {r : R1} (hr : ev1 E x k = some r) : ∃ v, evalO E x = some v ∧ k v = some r := by
  unfold ev1 at hr
  cases h1 : evalO E x with
  | none => rw [h1] at hr; cases hr
  | some v => rw [h1] at hr; exact ⟨v, rfl, hr⟩
theorem one_some {v : Value} {h : AH} {r : R1} (hr : one v h = some r) : r = .val v h := by cases hr; rfl
theorem ret1_some {o : Option Value} {h : AH} {r : R1} (hr : ret1 h o = some r) : ∃ v, o = some v ∧ r = .val v h := by
  unfold ret1 at hr
  cases o with
  | none => cases hr
  | some v => cases hr; exact ⟨v, rfl, rfl⟩
theorem prun_ok {α : Type} (P : Cx) : ∀ (n : Nat) (s : Sem α) (x : α), prun P n s = some x → ∀ w, s.run P.P w = .ok x w := by
  intro n
  induction n with
  | zero => intro s x hx; cases hx
  | succ n ih =>
    intro s x hx w
    cases s with
    | pure y => cases hx; rfl
    | program k => exact ih _ _ hx w
    | _ => cases hx
theorem prunV_ok {n : Nat} {s : Sem Value} {v : Value} (hv : prunV P n s = some v) : (∀ w, s.run P.P w = .ok v w) ∧ ∀ {M : Mu}, VR M v v := by
  unfold prunV at hv
  split at hv
  · rename_i u hu
    obtain ⟨hc, h2⟩ := bc_some hv
    cases h2
    exact ⟨prun_ok P _ _ _ hu, closed_refl 3 hc⟩
  · cases hv
theorem placeOf_some {v : Value} {b off : Nat} (hp : placeOf v = some (b, off)) : v = .pointer (some ⟨b, off, none⟩) := by
  cases v with
  | pointer a => cases a with
    | none => cases hp
    | some a =>
      obtain ⟨b', o', s⟩ := a
      cases s with
      | none => simp only [placeOf, Option.some.injEq, Prod.mk.injEq] at hp; rw [hp.1, hp.2]
      | some s => simp [placeOf] at hp
  | _ => cases hp
theorem VR.at {b off : Nat} {u : Value} (hv : VR M (.pointer (some ⟨b, off, none⟩)) u) : ∃ i, M b = some i ∧ u = .pointer (some ⟨i.blk, i.sh + off, none⟩) := by
  cases hv with | ptr _ _ i hi => exact ⟨i, hi, rfl⟩
theorem natOf_some {v : Value} {n : Nat} (hn : natOf v = some n) : ∃ k, v = .int k (.ofNat n) := by
  unfold natOf at hn
  split at hn
  · simp only [Option.some.injEq] at hn; subst hn; exact ⟨_, rfl⟩
  · cases hn
theorem VR.int_inv {k : IntKind} {n : Int} {u : Value} (hv : VR M (.int k n) u) : u = .int k n := by cases hv; rfl
theorem VR.bool_inv {b : Bool} {u : Value} (hv : VR M (.bool b) u) : u = .bool b := by cases hv; rfl

section
variable {o : Oper} {a : Act} {E : Env} {r : R1} {g : Option (Nat × Bool)}

theorem out_same (_ : SR P M h w) {v u : Value} (hv : VR M v u) (run : (execOp a.eval o).run P.P w = .ok (.value u) w) : OpS P M h w (.val v h) ((execOp a.eval o).run P.P w) :=
  ⟨v, u, rfl, run, hv⟩

theorem s_move (s : SR P M h w) (e : ER M E a.tmps) {x : Operand} (ho : o.op = .move x ∨ o.op = .assign x) (hr : opMove x P E h = some r) :
    OpS P M h w r ((execOp a.eval o).run P.P w) := by
  obtain ⟨v, h1, h2⟩ := ev1_some hr
  rw [one_some h2]
  exact out_same s (evalO_ok e h1) (by rcases ho with ho | ho <;> simp [execOp, ho])
theorem s_pick (s : SR P M h w) (e : ER M E a.tmps) {c x y : Operand} (ho : o.op = .pick c x y) (hr : opPick c x y P E h = some r) :
    OpS P M h w r ((execOp a.eval o).run P.P w) := by
  obtain ⟨v, h1, h2⟩ := ev1_some hr
  cases v with
  | bool t =>
    obtain ⟨u, h3, h4⟩ := ev1_some h2
    rw [one_some h4]
    have hc := (evalO_ok e h1).bool_inv
    cases t with
    | true => exact out_same s (evalO_ok e h3) (by simp [execOp, ho, hc, asBool])
    | false => exact out_same s (evalO_ok e h3) (by simp [execOp, ho, hc, asBool])
  | _ => cases h2
theorem s_nilCheck (s : SR P M h w) (e : ER M E a.tmps) {x : Operand} (ho : o.op = .nilCheck x) (hr : opNilCheck x P E h = some r) :
    OpS P M h w r ((execOp a.eval o).run P.P w) := by
  obtain ⟨v, h1, h2⟩ := ev1_some hr
  have hv := evalO_ok e h1
  split at h2
  · rw [one_some h2]
    generalize hu : a.eval x = u at hv
    refine out_same s hv ?_
    cases hv with
    | ptr b off i hi => simp only [execOp, ho, hu]; rfl
  · rw [one_some h2]
    generalize hu : a.eval x = u at hv
    refine out_same s hv ?_
    cases hv with
    | func f a' a'' c c' ha hc => simp only [execOp, ho, hu]; rfl
  · cases h2
theorem s_extract (s : SR P M h w) (e : ER M E a.tmps) {x : Operand} {i : Nat} (ho : o.op = .extract x i) (hr : opExtract x i P E h = some r) :
    OpS P M h w r ((execOp a.eval o).run P.P w) := by
  obtain ⟨v, h1, h2⟩ := ev1_some hr
  have hv := evalO_ok e h1
  cases v with
  | tuple vs =>
    obtain ⟨v, h3, rfl⟩ := ret1_some h2
    rw [getL_eq] at h3
    generalize hu : a.eval x = u at hv
    cases hv with
    | tuple c c' hc =>
      obtain ⟨y, hy, hvy⟩ := hc.get i v h3
      exact out_same s hvy (by simp [execOp, ho, hu, Instr.extract, hy])
  | _ => cases h2
theorem s_fieldAddr (ok : CxOK P) (s : SR P M h w) (e : ER M E a.tmps) {t : TypeId} {x : Operand} {f : Nat} (ho : o.op = .fieldAddr t x f) (hr : opFieldAddr t x f P E h = some r) :
    OpS P M h w r ((execOp a.eval o).run P.P w) := by
  obtain ⟨v, h1, h2⟩ := ev1_some hr
  have hv := evalO_ok e h1
  cases hp : placeOf v with
  | none => rw [hp] at h2; cases h2
  | some bo =>
    obtain ⟨b, off⟩ := bo
    cases hd : fieldOff P t f with
    | none => rw [hp, hd] at h2; cases h2
    | some d =>
      rw [hp, hd] at h2
      rw [one_some h2]
      rw [placeOf_some hp] at hv
      obtain ⟨i, hi, hu⟩ := hv.at
      refine out_same s (.ptr b (Nat.add off d) i hi) ?_
      unfold fieldOff at hd
      split at hd
      · rename_i fs hds
        rw [getL_eq] at hd
        split at hd
        · rename_i fd hfd
          split at hd
          · cases hd
          · rename_i n hz hn
            cases hd
            have hfd' : fs[f]? = some fd := by simpa using hfd
            simp only [execOp, ho, Instr.fieldAt, Sem.run_bind, run_und ok hds, Result.andThen_ok, hfd', hu, Instr.sureAddr, Sem.run_pure, fieldPlace, run_size ok hn, Result.andThen_ok, if_neg hz, add_off, Nat.add_assoc]
            rfl
          · cases hd
        · cases hd
      · cases hd
theorem idx_out {e : TypeId} {b off i len : Nat} {im : Img} (hb : M b = some im) (hr : idxAddr P h e b off i len = some r) :
    ∃ sz, tsize P e = some sz ∧ i < len ∧ r = .val (.pointer (some ⟨b, off + i * sz, none⟩)) h ∧ VR M (.pointer (some ⟨b, off + i * sz, none⟩)) (.pointer (some ⟨im.blk, im.sh + (off + i * sz), none⟩)) := by
  unfold idxAddr at hr
  split at hr
  · rename_i sz hsz
    obtain ⟨h1, h2⟩ := bc_some hr
    exact ⟨sz, hsz, bltN h1, one_some h2, .ptr _ _ _ hb⟩
  · cases hr
theorem s_indexAddr (ok : CxOK P) (s : SR P M h w) (e : ER M E a.tmps) {t : TypeId} {x i : Operand} (ho : o.op = .indexAddr t x i) (hr : opIndexAddr t x i P E h = some r) :
    OpS P M h w r ((execOp a.eval o).run P.P w) := by
  obtain ⟨v, h1, h2⟩ := ev1_some hr
  obtain ⟨n, h3, h4⟩ := ev1_some h2
  have hv := evalO_ok e h1
  have hn := evalO_ok e h3
  split at h4
  · cases h4
  · rename_i i' hi'
    obtain ⟨k, rfl⟩ := natOf_some hi'
    have hn' := hn.int_inv
    split at h4
    · rename_i el p len c hd
      obtain ⟨pb, po, ps⟩ := p
      generalize hu : a.eval x = u at hv
      cases hv with
      | slice b off _ _ im off' c' hm hoff hl hc hex hroom =>
        obtain ⟨sz, hsz, hlt, rfl, hp⟩ := idx_out hm h4
        refine out_same s hp ?_
        have hoff' : off' = im.sh + po := by
          rcases hoff with q | q
          · exact q
          · omega
        simp only [execOp, ho, hn', hu, Instr.indexAt, asIntOf, Sem.run_bind, Sem.run_pure, Result.andThen_ok, run_und ok hd]
        have hcond : (0 : Int) ≤ Int.ofNat i' ∧ Int.ofNat i' < (len : Int) := ⟨Int.natCast_nonneg _, Int.ofNat_lt.2 hlt⟩
        rw [if_pos hcond]
        simp only [Sem.run_bind, run_size ok hsz, Result.andThen_ok, Sem.run_pure, add_off, Int.ofNat_eq_natCast, Int.toNat_natCast, hoff', Nat.add_assoc]
    · rename_i len el p hd
      obtain ⟨pb, po, ps⟩ := p
      generalize hu : a.eval x = u at hv
      cases hv with
      | ptr b off im hm =>
        obtain ⟨sz, hsz, hlt, rfl, hp⟩ := idx_out hm h4
        refine out_same s hp ?_
        simp only [execOp, ho, hn', hu, Instr.indexAt, Instr.sureAddr, asIntOf, Sem.run_bind, Sem.run_pure, Result.andThen_ok, run_und ok hd]
        have hcond : (0 : Int) ≤ Int.ofNat i' ∧ Int.ofNat i' < (len : Int) := ⟨Int.natCast_nonneg _, Int.ofNat_lt.2 hlt⟩
        rw [if_pos hcond]
        simp only [Sem.run_bind, run_size ok hsz, Result.andThen_ok, Sem.run_pure, add_off, Int.ofNat_eq_natCast, Int.toNat_natCast, Nat.add_assoc]
    · cases h4
theorem s_makeFunc (s : SR P M h w) (e : ER M E a.tmps) {fn : Fn} {first cap : Array Operand} (ho : o.op = .makeFunc fn first cap) (hr : opMkFunc fn first cap P E h = some r) :
    OpS P M h w r ((execOp a.eval o).run P.P w) := by
  unfold opMkFunc at hr
  split at hr
  · split at hr
    · rename_i f _ _ l1 l2 h1 h2
      rw [one_some hr]
      refine out_same s (.func f _ _ _ _ (evalL_ok e h1) (evalL_ok e h2)) ?_
      simp only [execOp, ho, Instr.makeFunc, Sem.run_bind, Sem.run_pure, Result.andThen_ok]
      congr 3 <;> apply Array.ext' <;> simp
    · cases hr
  · cases hr
theorem s_makeInterface (ok : CxOK P) (s : SR P M h w) (e : ER M E a.tmps) {t : TypeId} {x : Operand} (ho : o.op = .makeInterface t x) (hr : opMkIface t x P E h = some r) :
    OpS P M h w r ((execOp a.eval o).run P.P w) := by
  obtain ⟨v, h1, h2⟩ := ev1_some hr
  split at h2
  · cases h2
  · rename_i d hni hd
    rw [one_some h2]
    refine out_same s (.iface t v _ (evalO_ok e h1)) ?_
    simp only [execOp, ho, Instr.makeInterface, Sem.run_bind, run_und ok hd, Result.andThen_ok]
    cases d <;> first | rfl | exact absurd rfl (hni _)
  · cases h2
theorem s_unOp (s : SR P M h w) (e : ER M E a.tmps) {op : UnOp} {t : TypeId} {x : Operand} (ho : o.op = .unOp op t x) (hr : opUn op x P E h = some r) :
    OpS P M h w r ((execOp a.eval o).run P.P w) := by
  obtain ⟨v, h1, h2⟩ := ev1_some hr
  obtain ⟨hc, h3⟩ := bc_some h2
  obtain ⟨u, h4, rfl⟩ := ret1_some h3
  have hv := closed_eq 3 hc (evalO_ok e h1)
  obtain ⟨h5, hcl⟩ := prunV_ok h4
  refine out_same s hcl ?_
  simp only [execOp, ho, hv, Sem.run_bind, h5, Result.andThen_ok, Sem.run_pure]
-- comparisons, sums
theorem run_eqGuard_int (op : BinOp) (t : TypeId) (x y : Operand) (k k' : IntKind) (m n : Int) (w : World) : (eqGuard op t x y (.int k m) (.int k' n)).run P.P w = .ok () w := by
  unfold eqGuard
  cases op <;> rfl
theorem run_binOp_int {op : BinOp} {t : TypeId} {k : IntKind} {m n : Int} {v : Value} (hv : intBin op k m n = some v) (w : World) :
    (binOp op t (.int k m) (.int k n)).run P.P w = .ok v w ∧ ∀ M : Mu, VR M v v := by
  cases op <;> first
    | (cases hv; done)
    | (simp only [intBin, Option.some.injEq] at hv; subst hv; refine ⟨?_, fun M => by first | exact .int _ _ | exact .bool _⟩; simp [binOp, Op.intArith, Op.intCmp])
/-- what '==' and '!=' come to on two values that are no numbers -/
structure EqRun (P : Cx) (t : TypeId) (u v : Value) (r : Bool) : Prop where
  eq : ∀ w, (Op.equal t u v).run P.P w = .ok r w
  guard : ∀ op x y w, (eqGuard op t x y u v).run P.P w = .ok () w
  eql : binOp .eql t u v = (do pure (.bool (← Op.equal t u v)))
  neq : binOp .neq t u v = (do pure (.bool (!(← Op.equal t u v))))
theorem eqP_ok (ok : CxOK P) {t : TypeId} {u v u' v' : Value} {r : Bool} (hu : VR M u u') (hv : VR M v v') (hr : eqP P t u v = some r) : EqRun P t u' v' r := by
  have fin : ∀ {u' v' : Value} {d : TypeDesc} {r : Bool}, desc P t = some d → (∀ (n : Nat) w, (Op.equalIn (n + 1) t u' v').run P.P w = .ok r w) → (∀ w, (Op.equal t u' v').run P.P w = .ok r w) := fun _ h => h 9999
  unfold eqP at hr
  split at hr
  · rename_i e p hd
    simp only [Option.some.injEq] at hr; subst hr
    cases hu; cases hv
    exact ⟨fin hd fun n w => by simp only [Op.equalIn, Sem.run_bind, run_und ok hd, Result.andThen_ok, Sem.run_pure] <;> rfl, fun op x y w => by unfold eqGuard; cases op <;> rfl, rfl, rfl⟩
  · rename_i e p hd
    simp only [Option.some.injEq] at hr; subst hr
    cases hu; cases hv
    exact ⟨fin hd fun n w => by simp only [Op.equalIn, Sem.run_bind, run_und ok hd, Result.andThen_ok, Sem.run_pure] <;> rfl, fun op x y w => by unfold eqGuard; cases op <;> rfl, rfl, rfl⟩
  · rename_i e p q hd
    split at hr
    · rename_i n hn
      obtain ⟨h1, h2⟩ := bc_some hr
      obtain ⟨h3, h4⟩ := bc_and h1
      simp only [Option.some.injEq] at h2; subst h2
      obtain ⟨pb, po, ps⟩ := p
      obtain ⟨qb, qo, qs⟩ := q
      have e1 := beqN h3
      have e2 := beqN h4
      simp only at e1 e2
      subst e1; subst e2
      cases hu with
      | ptr _ _ i hi => cases hv with
        | ptr _ _ i' hi' =>
          rw [hi] at hi'; cases hi'
          exact ⟨fin hd fun n' w => by simp only [Op.equalIn, Sem.run_bind, run_und ok hd, run_size ok hn, Result.andThen_ok]; simp [sameAddr], fun op x y w => by unfold eqGuard; cases op <;> rfl, rfl, rfl⟩
    · cases hr
  · rename_i e p l c hd
    simp only [Option.some.injEq] at hr; subst hr
    cases hu; cases hv
    exact ⟨fin hd fun n w => by simp only [Op.equalIn, Sem.run_bind, run_und ok hd, Result.andThen_ok, Sem.run_pure] <;> rfl, fun op x y w => by unfold eqGuard; cases op <;> rfl, rfl, rfl⟩
  · rename_i e l c p l' c' hd
    simp only [Option.some.injEq] at hr; subst hr
    cases hu; cases hv
    exact ⟨fin hd fun n w => by simp only [Op.equalIn, Sem.run_bind, run_und ok hd, Result.andThen_ok, Sem.run_pure] <;> rfl, fun op x y w => by unfold eqGuard; cases op <;> rfl, rfl, rfl⟩
  · rename_i k e p hd
    simp only [Option.some.injEq] at hr; subst hr
    cases hu; cases hv
    exact ⟨fin hd fun n w => by simp only [Op.equalIn, Sem.run_bind, run_und ok hd, Result.andThen_ok, Sem.run_pure] <;> rfl, fun op x y w => by unfold eqGuard; cases op <;> rfl, rfl, rfl⟩
  · rename_i k e p hd
    simp only [Option.some.injEq] at hr; subst hr
    cases hu; cases hv
    exact ⟨fin hd fun n w => by simp only [Op.equalIn, Sem.run_bind, run_und ok hd, Result.andThen_ok, Sem.run_pure] <;> rfl, fun op x y w => by unfold eqGuard; cases op <;> rfl, rfl, rfl⟩
  · rename_i p q b hd
    simp only [Option.some.injEq] at hr; subst hr
    cases hv
    cases hu
    · exact ⟨fin hd fun n w => by simp only [Op.equalIn, Sem.run_bind, run_und ok hd, Result.andThen_ok, Sem.run_pure] <;> rfl, fun op x y w => by unfold eqGuard; cases op <;> rfl, rfl, rfl⟩
    · exact ⟨fin hd fun n w => by simp only [Op.equalIn, Sem.run_bind, run_und ok hd, Result.andThen_ok, Sem.run_pure] <;> rfl, fun op x y w => by unfold eqGuard; cases op <;> rfl, rfl, rfl⟩
  · rename_i p q b hd
    simp only [Option.some.injEq] at hr; subst hr
    cases hu
    cases hv
    · exact ⟨fin hd fun n w => by simp only [Op.equalIn, Sem.run_bind, run_und ok hd, Result.andThen_ok, Sem.run_pure] <;> rfl, fun op x y w => by unfold eqGuard; cases op <;> rfl, rfl, rfl⟩
    · exact ⟨fin hd fun n w => by simp only [Op.equalIn, Sem.run_bind, run_und ok hd, Result.andThen_ok, Sem.run_pure] <;> rfl, fun op x y w => by unfold eqGuard; cases op <;> rfl, rfl, rfl⟩
  · cases hr
theorem eqA_ok (ok : CxOK P) {op : BinOp} {t : TypeId} {x y : Operand} {u v u' v' r : Value} (hu : VR M u u') (hv : VR M v v') (hr : eqA P op t x y u v = some r) :
    (∀ w, (do eqGuard op t x y u' v'; binOp op t u' v' : Sem Value).run P.P w = .ok r w) ∧ VR M r r := by
  unfold eqA at hr
  rw [bc_eq] at hr
  split at hr
  · rename_i hc
    obtain ⟨h1, h2⟩ := bc_and hc
    rw [closed_eq 10 h1 hu, closed_eq 10 h2 hv]
    obtain ⟨h3, h4⟩ := prunV_ok hr
    exact ⟨h3, h4⟩
  · split at hr
    · rename_i b hb
      simp only [Option.some.injEq] at hr; subst hr
      refine ⟨fun w => ?_, .bool _⟩
      have q := eqP_ok ok hu hv hb
      rw [Sem.run_bind, q.guard, Result.andThen_ok, q.eql, Sem.run_bind, q.eq]; rfl
    · rename_i b hb
      simp only [Option.some.injEq] at hr; subst hr
      refine ⟨fun w => ?_, .bool _⟩
      have q := eqP_ok ok hu hv hb
      rw [Sem.run_bind, q.guard, Result.andThen_ok, q.neq, Sem.run_bind, q.eq]; cases b <;> rfl
    · cases hr
/-- what the table says of signs is so -/
def SyM (P : Cx) (M : Mu) : Prop := ∀ k op kk n b, signed k op kk n P.sy = some b → ∃ i m, M k = some i ∧ i.v = .int kk m ∧ intBin op kk m n = some (.bool b)
theorem SyM.mono {M' : Mu} (sm : SyM P M) (hM : M.le M') : SyM P M' := fun k op kk n b h => let ⟨i, m, h1, h2, h3⟩ := sm k op kk n b h; ⟨i, m, hM _ _ h1, h2, h3⟩
theorem turned_ok {op : BinOp} {kk : IntKind} {m n : Int} {b : Bool} (h : intBin (turned op) kk m n = some (.bool b)) : intBin op kk n m = some (.bool b) := by
  cases op <;> simp only [turned, intBin, Option.some.injEq, Value.bool.injEq, reduceCtorEq] at h ⊢
  · rw [← h]; exact Bool.eq_iff_iff.2 (by simp only [beq_iff_eq]; exact eq_comm)
  · rw [← h]; exact Bool.eq_iff_iff.2 (by simp only [bne_iff_ne]; exact ne_comm)
  all_goals exact h
theorem s_binOp (ok : CxOK P) (sm : SyM P M) (s : SR P M h w) (e : ER M E a.tmps) {op : BinOp} {t t' : TypeId} {x y : Operand} (ho : o.op = .binOp op t x y t') (hr : opBin op t x y P E h = some r) :
    OpS P M h w r ((execOp a.eval o).run P.P w) := by
  obtain ⟨u, h1, h2⟩ := ev1_some hr
  obtain ⟨v, h3, h4⟩ := ev1_some h2
  have hu := evalO_ok e h1
  have hv := evalO_ok e h3
  have slow : ∀ {r}, ret1 h (binSlow op t x y P u v) = some r → OpS P M h w r ((execOp a.eval o).run P.P w) := by
    intro r hr
    obtain ⟨z, h5, rfl⟩ := ret1_some hr
    obtain ⟨h6, h7⟩ := eqA_ok ok hu hv h5
    refine out_same s h7 ?_
    have h8 := h6 w
    simp only [Sem.run_bind] at h8
    simp only [execOp, ho, Sem.run_bind, h8, Result.andThen_ok, Sem.run_pure]
  split at h4
  · rename_i k kk n
    split at h4
    · rename_i b hb
      rw [one_some h4]
      obtain ⟨i, m, g1, g2, g3⟩ := sm _ _ _ _ _ hb
      generalize hex : a.eval x = u at hu
      cases hu with
      | sym _ j _ hj hju _ =>
        rw [g1] at hj; cases hj
        obtain ⟨h6, h7⟩ := run_binOp_int (P := P) (t := t) g3 w
        refine out_same s (h7 M) ?_
        simp only [execOp, ho, hex, hju, g2, hv.int_inv, Sem.run_bind, run_eqGuard_int, h6, Result.andThen_ok, Sem.run_pure]
    · cases h4
  · rename_i kk n k
    split at h4
    · rename_i b hb
      rw [one_some h4]
      obtain ⟨i, m, g1, g2, g3⟩ := sm _ _ _ _ _ hb
      generalize hey : a.eval y = u at hv
      cases hv with
      | sym _ j _ hj hju _ =>
        rw [g1] at hj; cases hj
        obtain ⟨h6, h7⟩ := run_binOp_int (P := P) (t := t) (turned_ok g3) w
        refine out_same s (h7 M) ?_
        simp only [execOp, ho, hey, hju, g2, hu.int_inv, Sem.run_bind, run_eqGuard_int, h6, Result.andThen_ok, Sem.run_pure]
    · cases h4
  · rename_i k m k' n
    rw [bc_eq] at h4
    split at h4
    · rename_i hk
      have hk' : k = k' := of_decide_eq_true hk
      subst hk'
      split at h4
      · rename_i z hz
        rw [one_some h4]
        obtain ⟨h6, h7⟩ := run_binOp_int (P := P) (t := t) hz w
        refine out_same s (h7 M) ?_
        simp only [execOp, ho, hu.int_inv, hv.int_inv, Sem.run_bind, run_eqGuard_int, h6, Result.andThen_ok, Sem.run_pure]
      · exact slow h4
    · exact slow h4
  · exact slow h4
end
end Go.Ev
