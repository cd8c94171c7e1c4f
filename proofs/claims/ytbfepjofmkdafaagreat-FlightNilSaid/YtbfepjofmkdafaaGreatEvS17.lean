/- Outcomes; what is asked of calls and code; the operations of a region (own work). -/
import Derived.Test.YtbfepjofmkdafaaGreatEvS16
namespace Go.Ev
variable {P : Cx} {M : Mu} {h h' : AH} {w w' : World}

def inO {α : Type} (x : α) : Outs α → Prop
  | .fail => False
  | .one a => x = a
  | .more a r => x = a ∨ inO x r
section
variable {α β : Type}
theorem app_ok : ∀ {a r : Outs β}, a.app r ≠ .fail → a ≠ .fail ∧ r ≠ .fail ∧ ∀ x, (inO x a → inO x (a.app r)) ∧ (inO x r → inO x (a.app r)) := by
  intro a
  induction a with
  | fail => intro r hn; exact absurd rfl hn
  | one b =>
    intro r hn
    cases r with
    | fail => exact absurd rfl hn
    | one c => exact ⟨by simp, by simp, fun x => ⟨fun hx => .inl hx, fun hx => .inr hx⟩⟩
    | more c r => exact ⟨by simp, by simp, fun x => ⟨fun hx => .inl hx, fun hx => .inr hx⟩⟩
  | more b a ih =>
    intro r hn
    have hn' : a.app r ≠ .fail := by
      intro q
      apply hn
      show (match a.app r with | .fail => Outs.fail | t => .more b t) = _
      rw [q]
    obtain ⟨h1, h2, h3⟩ := ih hn'
    have he : (Outs.more b a).app r = .more b (a.app r) := by
      show (match a.app r with | .fail => Outs.fail | t => .more b t) = _
      cases hq : a.app r with
      | fail => exact absurd hq hn'
      | _ => rfl
    refine ⟨by simp, h2, fun x => ?_⟩
    rw [he]
    exact ⟨fun hx => hx.elim .inl fun hx => .inr ((h3 x).1 hx), fun hx => .inr ((h3 x).2 hx)⟩
theorem bind_ok : ∀ {o : Outs α} {f : α → Outs β}, o.bind f ≠ .fail → o ≠ .fail ∧ ∀ a, inO a o → f a ≠ .fail ∧ ∀ b, inO b (f a) → inO b (o.bind f) := by
  intro o
  induction o with
  | fail => intro f hn; exact absurd rfl hn
  | one a => intro f hn; exact ⟨by simp, fun x hx => by cases hx; exact ⟨hn, fun b hb => hb⟩⟩
  | more a r ih =>
    intro f hn
    obtain ⟨h1, h2, h3⟩ := app_ok (a := f a) (r := r.bind f) hn
    obtain ⟨h4, h5⟩ := ih h2
    refine ⟨by simp, fun x hx => ?_⟩
    rcases hx with hx | hx
    · subst hx; exact ⟨h1, fun b hb => (h3 b).1 hb⟩
    · obtain ⟨h6, h7⟩ := h5 x hx
      exact ⟨h6, fun b hb => (h3 b).2 (h7 b hb)⟩
theorem inO_one (a : α) : inO a (.one a) := rfl
theorem inO_list {x : α} : ∀ {l : List α}, x ∈ l → inO x (listO l) := by
  intro l
  induction l with
  | nil => intro hx; cases hx
  | cons a r ih =>
    intro hx
    cases r with
    | nil => simp at hx; exact hx
    | cons b r =>
      rcases List.mem_cons.1 hx with q | q
      · exact .inl q
      · exact .inr (ih q)
end

/-- a fence that lets all in -/
def Wd (ρ : Option Nat) : Fence := { Fence.wide with round := ρ }
theorem Wd_depth {ρ : Option Nat} {n : Nat} : (Wd ρ).depth.isSome = true → 1 ≤ n := fun h => by cases h

/-- the marks that ranges over functions leave among an activation's deferred calls -/
def Marks (M : Mu) (h : AH) (w : World) (lo : Nat) (ds : List Deferred) : Prop :=
  ∃ rs : List Nat, ds = rs.map (fun r => ({ target := .collected r, args := #[] } : Deferred)) ∧ rs.Nodup ∧ ∀ r ∈ rs, lo ≤ r ∧ w.heap[r]? = some (.deferred (some [])) ∧ ¬ Held M h r
theorem Marks.nil {lo : Nat} : Marks M h w lo [] := ⟨[], rfl, .nil, fun r hr => by cases hr⟩
theorem Marks.next {M' : Mu} {lo : Nat} {ds : List Deferred} (m : Marks M h w lo ds) (n : Nxt P M h w M' h' w') : Marks M' h' w' lo ds := by
  obtain ⟨rs, h1, h2, h3⟩ := m
  refine ⟨rs, h1, h2, fun r hr => ?_⟩
  obtain ⟨g1, g2, g3⟩ := h3 r hr
  have hlt := (Array.getElem?_eq_some_iff.1 g2).1
  refine ⟨g1, by rw [n.kept r hlt g3]; exact g2, fun hh => ?_⟩
  rcases n.img r hh with q | q
  · exact g3 q
  · omega
/-- only variables of the mask are kept -/
def TRm (M : Mu) (mask : Nat) (T : Tr Value) (t : Array Value) : Prop := TR M T t ∧ ∀ k v, T.get k = some v → mask.testBit k = true
def exOf : EX → Exit
  | .normal => .normal
  | .exit id => .exit id
  | .ret => .ret
/-- what code comes to, from a state; 'lo': the blocks of the activation's own begin there -/
def CPost (P : Cx) (M : Mu) (h : AH) (w : World) (lo sz mask : Nat) (outs : Out) : Exit → Act → World → Prop :=
  fun ex a' w' => ∃ s M', inO s outs ∧ exOf s.e = ex ∧ TRm M' mask s.T a'.tmps ∧ Nxt P M h w M' s.h w' ∧ Marks M' s.h w' lo a'.defers ∧ a'.tmps.size = sz
/-- what a call comes to -/
def VPost (P : Cx) (M : Mu) (h : AH) (w : World) (outs : Outs VH) : Ending → World → Prop :=
  fun e w' => ∃ x M' u, e = .returned u ∧ inO x outs ∧ VR M' x.1 u ∧ Nxt P M h w M' x.2 w'
theorem VPost.sub {outs outs' : Outs VH} (hs : ∀ x, inO x outs → inO x outs') {e : Ending} (v : VPost P M h w outs e w') : VPost P M h w outs' e w' :=
  let ⟨x, M', u, h1, h2, h3, h4⟩ := v; ⟨x, M', u, h1, hs x h2, h3, h4⟩
/-- so many rounds of a loop are through -/
def LN (F : Fence) (k : Nat) (p : Program) (b : Code) (Q : Exit → Act → World → Prop) : Nat → Act → World → Prop
  | 0, _, _ => False
  | j + 1, a, w => b.wpIn F k p (Exit.then (fun a' w' => LN F k p b Q j a' w') Q) a w
/-- a state of an activation -/
structure St (P : Cx) (M : Mu) (h : AH) (w : World) (lo sz mask : Nat) (T : Tr Value) (a : Act) : Prop where
  sr : SR P M h w
  tr : TRm M mask T a.tmps
  mks : Marks M h w lo a.defers
  size : a.tmps.size = sz
  lo : lo ≤ w.heap.size
/-- where a run began: what the signs stood for, and the world -/
structure Kx where
  m0 : Mu
  w0 : World
structure Ctx (P : Cx) (K : Kx) (M : Mu) (h : AH) (w : World) : Prop where
  mu : K.m0.le M
  sy : SyM P K.m0
  held : ∀ x, Held M h x → K.w0.heap.size ≤ x
  below : RowKit.Below K.w0.heap.size K.w0 w
theorem Ctx.sm {K : Kx} (c : Ctx P K M h w) : SyM P M := c.sy.mono c.mu
theorem Ctx.next {K : Kx} {M' : Mu} (c : Ctx P K M h w) (n : Nxt P M h w M' h' w') : Ctx P K M' h' w' :=
  ⟨Mu.le_trans c.mu n.mu, c.sy, fun x hx => by
    rcases n.img x hx with q | q
    · exact c.held x q
    · exact Nat.le_trans c.below.size q,
   ⟨n.os.trans c.below.os, n.tape.trans c.below.tape, n.output.trans c.below.output, Nat.le_trans c.below.size n.size, fun x hx => by
    rw [n.kept x (Nat.lt_of_lt_of_le hx c.below.size) (fun hh => by have := c.held x hh; omega)]; exact c.below.block x hx⟩⟩
/-- a value and what is said of it -/
def Fit1 (v u : Value) : Prop := (v = .chan none ∧ u.oneCell' = true) ∨ u = v
inductive FitL : List Value → List Value → Prop
  | nil : FitL [] []
  | cons (v u : Value) (r s : List Value) (h : Fit1 v u) (hr : FitL r s) : FitL (v :: r) (u :: s)
def Fits (v u : Value) : Prop := (∃ cs us, v = .agg ⟨cs⟩ ∧ u = .agg ⟨us⟩ ∧ FitL cs us) ∨ Fit1 v u
/-- the calls that are not gone into do what the table says -/
def OrcT (P : Cx) (K : Kx) : Prop := ∀ f args res, orcFind f args P.orc = some res → ∀ (M : Mu) (args' : Array Value), K.m0.le M → VRs M args args'.toList → ∀ (w : World) (k : Nat), RowKit.Below K.w0.heap.size K.w0 w →
  CallsIn Fence.wide k P.P f args' w fun e w' => ∃ u, e = .returned u ∧ Fits res u ∧ RowKit.Below w.heap.size w w'
structure RecOK (P : Cx) (K : Kx) (n : Nat) (R : Rec) : Prop where
  call : ∀ (f : FuncId) (args : List Value) (h : AH) (M : Mu) (w : World) (args' : Array Value) (k : Nat), SR P M h w → Ctx P K M h w → VRs M args args'.toList → R.call f args h ≠ .fail →
    CallsIn Fence.wide k P.P f args' w (VPost P M h w (R.call f args h))
  loop : ∀ (b : Code) (ρ : Option Nat) (k mask lo sz : Nat) (T : Tr Value) (h h0 : AH) (M M0 : Mu) (w w0 : World) (a : Act) (outs : Out), lo ≤ w0.heap.size → bndC sz b = true → (ρ = none ∨ noRF b = true) → St P M h w lo sz mask T a → Ctx P K M0 h0 w0 →
    Nxt P M0 h0 w0 M h w → R.loop (.loop b) mask T h ≠ .fail → (∀ s, inO s (R.loop (.loop b) mask T h) → inO s outs) → LN (Wd ρ) k P.P b (CPost P M0 h0 w0 lo sz mask outs) n a w
  yld : ∀ (l : Nat) (args : List Value) (h : AH) (M : Mu) (w : World) (i : Img) (args' : List Value), SR P M h w → Ctx P K M h w → M l = some i → VRs M args args' → R.yld l args h ≠ .fail →
    ∃ f tmps assign body, (Instr.yield i.blk ⟨args'⟩).run P.P w = .ok (.round i.blk f tmps assign body) w ∧ ∀ k, RoundIn Fence.wide k P.P i.blk f tmps assign body w (VPost P M h w (R.yld l args h))

section
variable {o : Oper} {a : Act} {E : Env} {ops : Array Oper}
theorem wanted_ok (e : ER M E a.tmps) {b : Bool} (hb : wantedE E (guardOf ops o) = some b) : Region.wanted o (yielded ops a.tmps) = b := by
  unfold guardOf at hb
  unfold Region.wanted
  cases hg : o.guard with
  | none => rw [hg] at hb; simp only [wantedE, Option.some.injEq] at hb; exact hb
  | some gw =>
    obtain ⟨j, want⟩ := gw
    rw [hg] at hb
    simp only at hb ⊢
    cases hd : (ops[j]?).bind (·.dst) with
    | none => rw [hd] at hb; cases hb
    | some d =>
      rw [hd] at hb
      simp only [wantedE] at hb
      unfold yielded
      rw [hd]
      simp only [Option.bind_some]
      cases hv : E.get d with
      | none => rw [hv] at hb; cases hb
      | some v =>
        rw [hv] at hb
        obtain ⟨u, hu, hvu⟩ := e d v hv
        rw [hu]
        cases hvu with
        | bool b' =>
          simp only [Option.some.injEq] at hb
          subst hb
          cases want <;> cases b' <;> rfl
        | tuple c c' hc =>
          simp only [Option.some.injEq] at hb
          subst hb
          cases want <;> rfl
        | _ => cases hb
theorem flush_cons (mask : Nat) (T : Tr Value) (x : Nat × Value) (r : List (Nat × Value)) :
    flush mask T (x :: r) = if mask.testBit x.1 = true then (flush mask T r).put x.1 (some x.2) else flush mask T r := by
  show Bool.rec (motive := fun _ => Tr Value) (flush mask T r) ((flush mask T r).put x.1 (some x.2)) (Nat.testBit mask x.1) = _
  cases Nat.testBit mask x.1 <;> rfl
theorem flush_ok {mask : Nat} {T : Tr Value} (hT : ∀ k v, T.get k = some v → mask.testBit k = true) : ∀ (l : List (Nat × Value)) (k : Nat) (v : Value),
    (flush mask T l).get k = some v → mask.testBit k = true ∧ getLoc k T l = some v := by
  intro l
  induction l with
  | nil => intro k v hk; exact ⟨hT k v hk, hk⟩
  | cons x r ih =>
    intro k v hk
    rw [flush_cons] at hk
    rw [getLoc_cons]
    by_cases hx : mask.testBit x.1 = true
    · rw [if_pos hx, Tr.get_put] at hk
      by_cases he : k = x.1
      · rw [if_pos he] at hk; rw [if_pos he.symm]; exact ⟨by rw [he]; exact hx, hk⟩
      · rw [if_neg he] at hk; rw [if_neg (Ne.symm he)]; exact ih k v hk
    · rw [if_neg hx] at hk
      obtain ⟨h1, h2⟩ := ih k v hk
      exact ⟨h1, by rw [if_neg (fun q => hx (by rw [q]; exact h1))]; exact h2⟩
theorem ER.flush {mask : Nat} (e : ER M E a.tmps) (hE : ∀ k v, E.all.get k = some v → mask.testBit k = true) : TRm M mask (flush mask E.all E.loc) a.tmps :=
  ⟨fun k v hk => e k v (flush_ok hE E.loc k v hk).2, fun k v hk => (flush_ok hE E.loc k v hk).1⟩
theorem putE_all (E : Env) (d : Option Tmp) (v : Value) : (putE E d v).all = E.all := by cases d <;> rfl
theorem put_size (a : Act) (d : Option Tmp) (v : Value) : (a.put d v).tmps.size = a.tmps.size := by cases d <;> simp [Act.put]
theorem put_defers (a : Act) (d : Option Tmp) (v : Value) : (a.put d v).defers = a.defers := by cases d <;> rfl
theorem undef_ok : VR M undef undef := .tuple _ _ .nil
theorem op_noDefer {g : Option (Option Nat × Bool)} {r : R1} (hr : (compOp P o g).run P E h = some r) : ∀ c, o.op ≠ .defer c := by
  intro c hc
  unfold compOp at hr
  rw [hc] at hr
  cases hr

/-- one operation in a frame, by what the evaluator makes of it -/
theorem op_wp (ok : CxOK P) {K : Kx} {n : Nat} {R : Rec} (rc : RecOK P K n R) (cx : Ctx P K M h w) {ρ : Option Nat} {k : Nat} {g : Option (Option Nat × Bool)} {r : R1} {next : Act → World → Prop} {Q : Exit → Act → World → Prop}
    (s : SR P M h w) (hr : (compOp P o g).run P E h = some r) (hout : OpOut P M h w r ((execOp a.eval o).run P.P w))
    (hval : ∀ v h' M' u w', r = .val v h' ∨ (∃ l, r = .many l ∧ (v, h') ∈ l) → Nxt P M h w M' h' w' → VR M' v u → next (a.put o.dst u) w')
    (hskip : ∀ h' M' w', r = .skip h' → Nxt P M h w M' h' w' → next (a.put o.dst undef) w')
    (henter : ∀ f args h', r = .enter f args h' → R.call f args h' ≠ .fail ∧ ∀ x M' u w', inO x (R.call f args h') → VR M' x.1 u → Nxt P M h w M' x.2 w' → next (a.put o.dst u) w')
    (hyield : ∀ l args h', r = .yield l args h' → R.yld l args h' ≠ .fail ∧ ∀ x M' u w', inO x (R.yld l args h') → VR M' x.1 u → Nxt P M h w M' x.2 w' → next (a.put o.dst u) w') :
    o.wpIn (Wd ρ) k P.P a w next Q := by
  refine ⟨fun _ _ => trivial, ?_⟩
  have hsem : o.semAt (Wd ρ).round a.eval = execOp a.eval o := Oper.semAt_eq _ _ _ (op_noDefer hr)
  rw [hsem]
  generalize hm : (execOp a.eval o).run P.P w = m at hout
  cases hout with
  | val n hv => exact hval _ _ _ _ _ (.inl rfl) n hv
  | skip n => exact hskip _ _ _ rfl n
  | enter ha =>
    rename_i f args args'
    obtain ⟨h1, h2⟩ := henter f args h rfl
    refine ⟨Wd_depth, ?_⟩
    refine (show CallsIn (Wd ρ) (k - 1) P.P f args' w _ from (rc.call f args h M w args' (k - 1) s cx ha h1).mono ?_)
    rintro e w' ⟨x, M', u, rfl, hx, hv, hn⟩
    exact h2 x M' u w' hx hv hn
  | yield hl ha =>
    rename_i l i args args'
    obtain ⟨h1, h2⟩ := hyield l args h rfl
    obtain ⟨f, tmps, assign, body, hrun, hround⟩ := rc.yld l args h M w i args' s cx hl ha h1
    rw [hrun]
    refine ⟨Wd_depth, ?_⟩
    refine (show RoundIn (Wd ρ) (k - 1) P.P i.blk f tmps assign body w _ from (hround (k - 1)).mono ?_)
    rintro e w' ⟨x, M', u, rfl, hx, hv, hn⟩
    exact h2 x M' u w' hx hv hn
  | many hl n hv => exact hval _ _ _ _ _ (.inr ⟨_, rfl, hl⟩) n hv

theorem opsL_nil (R : Rec) (mask : Nat) (E : Env) (h : AH) : opsL P R mask [] E h = .one ⟨.normal, flush mask E.all E.loc, h⟩ := rfl
theorem opsL_cons (R : Rec) (mask : Nat) (c : COp) (l : List COp) (E : Env) (h : AH) :
    opsL P R mask (c :: l) E h = match wantedE E c.guard with
      | none => .fail
      | some false => opsL P R mask l (putE E c.dst undef) h
      | some true => match c.run P E h with
        | none => .fail
        | some x => opsX R (opsL P R mask l) E c.dst x := by
  show opsStep P R c (opsL P R mask l) E h = _
  unfold opsStep
  cases wantedE E c.guard with
  | none => rfl
  | some b => cases b with
    | false => rfl
    | true => cases c.run P E h <;> rfl
theorem opsL_ok (ok : CxOK P) {K : Kx} {n : Nat} {R : Rec} (rc : RecOK P K n R) {ρ : Option Nat} {k lo sz mask : Nat} {M0 : Mu} {h0 : AH} {w0 : World} {outs : Out} (cx0 : Ctx P K M0 h0 w0) (hb : bndO sz ops.toList = true) :
    ∀ (m i : Nat) (E : Env) (M : Mu) (h : AH) (w : World) (a : Act), i + m = ops.size → SR P M h w → ER M E a.tmps → (∀ k v, E.all.get k = some v → mask.testBit k = true) → Marks M h w lo a.defers → a.tmps.size = sz →
      Nxt P M0 h0 w0 M h w → opsL P R mask (compOps P ops (ops.toList.drop i)) E h ≠ .fail → (∀ s, inO s (opsL P R mask (compOps P ops (ops.toList.drop i)) E h) → inO s outs) →
      wpOpsIn (Wd ρ) k P.P ops (CPost P M0 h0 w0 lo sz mask outs) (List.range' i m) a w := by
  intro m
  induction m with
  | zero =>
    intro i E M h w a hi s e hE mk hs nx hnf hsub
    have hd : ops.toList.drop i = [] := List.drop_eq_nil_of_le (by simp; omega)
    rw [hd] at hnf hsub
    exact ⟨_, M, hsub _ rfl, rfl, e.flush hE, nx, mk, hs⟩
  | succ m ih =>
    intro i E M h w a hi s e hE mk hs nx hnf hsub
    have hlt : i < ops.size := by omega
    have hd : ops.toList.drop i = ops[i] :: ops.toList.drop (i + 1) := by
      rw [List.drop_eq_getElem_cons (by simpa using hlt)]; simp
    have hoi : ops[i]? = some ops[i] := by simp [hlt]
    obtain ⟨o, ho⟩ : ∃ o, o = ops[i] := ⟨_, rfl⟩
    rw [← ho] at hd hoi
    have hdst : ∀ d, o.dst = some d → d < sz := by
      have : ∀ (l : List Oper), bndO sz l = true → ∀ x ∈ l, ∀ d, x.dst = some d → d < sz := by
        intro l
        induction l with
        | nil => intro _ x hx; cases hx
        | cons y r ihl =>
          intro hb x hx d hd
          obtain ⟨q1, q2⟩ := bc_and (show bc (match y.dst with | some d => Nat.blt d sz | none => true) (bndO sz r) false = true from hb)
          rcases List.mem_cons.1 hx with q | q
          · subst q; rw [hd] at q1; exact bltN q1
          · exact ihl q2 x q d hd
      exact this _ hb o (by rw [ho]; simp)
    have hdst' : ∀ d, o.dst = some d → d < a.tmps.size := fun d hd => by rw [hs]; exact hdst d hd
    rw [hd] at hnf hsub
    simp only [compOps] at hnf hsub
    rw [opsL_cons, compOp_guard, compOp_dst] at hnf hsub
    rw [List.range'_succ]
    simp only [wpOpsIn, hoi]
    cases hw : wantedE E (guardOf ops o) with
    | none => rw [hw] at hnf; exact absurd rfl hnf
    | some b =>
      rw [hw] at hnf hsub
      rw [wanted_ok e hw]
      cases b with
      | false =>
        simp only [Bool.false_eq_true, if_false]
        refine ⟨fun _ _ => trivial, ?_⟩
        exact ih (i + 1) _ M h w _ (by omega) s (e.put undef_ok hdst') (fun k v hk => hE k v (by rw [putE_all] at hk; exact hk)) (by rw [put_defers]; exact mk) (by rw [put_size]; exact hs) nx hnf hsub
      | true =>
        simp only [if_true]
        simp only at hnf hsub
        cases hr : (compOp P o (guardOf ops o)).run P E h with
        | none => rw [hr] at hnf; exact absurd rfl hnf
        | some r =>
          rw [hr] at hnf hsub
          simp only at hnf hsub
          have go : ∀ (E' : Env) (v u : Value) (M' : Mu) (h' : AH) (w' : World), E' = putE E o.dst v → Nxt P M h w M' h' w' → VR M' v u →
              opsL P R mask (compOps P ops (ops.toList.drop (i + 1))) E' h' ≠ .fail → (∀ s, inO s (opsL P R mask (compOps P ops (ops.toList.drop (i + 1))) E' h') → inO s outs) →
              wpOpsIn (Wd ρ) k P.P ops (CPost P M0 h0 w0 lo sz mask outs) (List.range' (i + 1) m) (a.put o.dst u) w' := by
            intro E' v u M' h' w' hE' hn hv hnf' hsub'
            subst hE'
            exact ih (i + 1) _ M' h' w' _ (by omega) hn.sr ((e.mono hn.mu).put hv hdst') (fun k v hk => hE k v (by rw [putE_all] at hk; exact hk)) (by rw [put_defers]; exact mk.next hn)
              (by rw [put_size]; exact hs) (nx.trans hn) hnf' hsub'
          have cx := cx0.next nx
          refine op_wp ok rc cx s hr (op_ok ok cx.sm s e hr) ?_ ?_ ?_ ?_
          · rintro v h' M' u w' (rfl | ⟨l, rfl, hl⟩) hn hv
            · exact go _ v u M' h' w' rfl hn hv hnf hsub
            · obtain ⟨_, q2⟩ := bind_ok (show (listO l).bind (fun x => opsL P R mask (compOps P ops (ops.toList.drop (i + 1))) (putE E o.dst x.1) x.2) ≠ .fail from hnf)
              obtain ⟨q3, q4⟩ := q2 _ (inO_list hl)
              exact go _ v u M' h' w' rfl hn hv q3 (fun s hs => hsub s (q4 s hs))
          · rintro h' M' w' rfl hn
            exact go _ undef undef M' h' w' rfl hn undef_ok hnf hsub
          · rintro f args h' rfl
            obtain ⟨q1, q2⟩ := bind_ok (show (R.call f args h').bind (fun x => opsL P R mask (compOps P ops (ops.toList.drop (i + 1))) (putE E o.dst x.1) x.2) ≠ .fail from hnf)
            refine ⟨q1, fun x M' u w' hx hv hn => ?_⟩
            obtain ⟨q3, q4⟩ := q2 x hx
            exact go _ x.1 u M' x.2 w' rfl hn hv q3 (fun s hs => hsub s (q4 s hs))
          · rintro l args h' rfl
            obtain ⟨q1, q2⟩ := bind_ok (show (R.yld l args h').bind (fun x => opsL P R mask (compOps P ops (ops.toList.drop (i + 1))) (putE E o.dst x.1) x.2) ≠ .fail from hnf)
            refine ⟨q1, fun x M' u w' hx hv hn => ?_⟩
            obtain ⟨q3, q4⟩ := q2 x hx
            exact go _ x.1 u M' x.2 w' rfl hn hv q3 (fun s hs => hsub s (q4 s hs))
end
end Go.Ev
