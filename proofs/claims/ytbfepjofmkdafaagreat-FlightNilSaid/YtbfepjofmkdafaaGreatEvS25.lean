/- From the evaluator to a call's contract (own work). -/
import Derived.Test.YtbfepjofmkdafaaGreatEvS24M
import Derived.ChangeSame
import Derived.RowKit3
namespace Go.Ev
open Go.RowKit
variable {P : Cx} {M : Mu} {w w' : World}

theorem mkCx_ok {p : Program} {masks : List Nat} {orc : List (FuncId × List Value × Value)} {sy : List (Nat × BinOp × IntKind × Int × Bool)} {atm : List (FuncId × Atom)} {onc : Option FuncId} {memo : List ME} {mmask : Nat} (hm : p.follows .mixedOrders = true)
    (ha : ∀ f a, atomFind f atm = some a → AtmOK p f a) (ho : ∀ f, onc = some f → OnceLaw p f) : CxOK (mkCx p masks orc sy atm onc memo mmask) := by
  refine ⟨ha, ho, fun t i h => ?_, fun f g h => ?_, hm⟩
  · have := ofL_get _ _ _ _ h; simpa [mkCx] using this
  · have := ofL_get _ _ _ _ h; simpa [mkCx] using this
/-- the functions without a body, one by one -/
theorem atms_ok {p : Program} : ∀ {l : List (FuncId × Atom)}, (∀ x ∈ l, AtmOK p x.1 x.2) → ∀ f a, atomFind f l = some a → AtmOK p f a
  | [], _, f, a, h => by cases h
  | x :: r, hl, f, a, h => by
    simp only [atomFind] at h
    cases hb : Nat.beq x.1 f with
    | true =>
      rw [hb] at h
      cases h
      obtain rfl := Nat.eq_of_beq_eq_true hb
      exact hl x (by simp)
    | false =>
      rw [hb] at h
      exact atms_ok (fun y hy => hl y (by simp [hy])) f a h
theorem onc_none {p : Program} : ∀ f, (none : Option FuncId) = some f → OnceLaw p f := fun _ h => by cases h
/-- signs for some values -/
def symMu (vs : List Value) : Mu := fun b => (vs[b]?).map fun v => ⟨0, 0, 0, 0, v⟩
noncomputable def startH (n : Nat) : AH := ⟨.leaf, n, .leaf, 0⟩
theorem startH_get (n b : Nat) : (startH n).get b = none := rfl
theorem start_sr (vs : List Value) (w : World) : SR P (symMu vs) (startH vs.length) w :=
  ⟨(fun b cs e g h => by cases h), (fun b o h => by rw [startH_get] at h; cases h), (fun b b' o o' i i' h => by rw [startH_get] at h; cases h),
   (fun b hb => by unfold symMu; rw [List.getElem?_eq_none hb]; rfl), Nat.zero_le _⟩
theorem start_held (vs : List Value) (x : Nat) : ¬ Held (symMu vs) (startH vs.length) x := by
  rintro ⟨b, o, i, h, _⟩; rw [startH_get] at h; cases h
theorem start_cx (vs : List Value) (w : World) (hsy : SyM P (symMu vs)) : Ctx P ⟨symMu vs, w⟩ (symMu vs) (startH vs.length) w :=
  ⟨Mu.le_refl _, hsy, fun x hx => absurd hx (start_held vs x), ⟨rfl, rfl, rfl, Nat.le_refl _, fun _ _ => rfl⟩⟩
theorem sym_vr {vs : List Value} {k : Nat} {v : Value} (h : vs[k]? = some v) (ho : v.oneCell' = true) : VR (symMu vs) (.chan (some k)) v :=
  .sym k ⟨0, 0, 0, 0, v⟩ v (by unfold symMu; rw [h]; rfl) rfl ho
theorem orcT_nil {K : Kx} (h : P.orc = []) : OrcT P K := fun f args res hf => by rw [h] at hf; cases hf
theorem syM_nil (h : P.sy = []) : SyM P M := fun k op kk n b hs => by rw [h] at hs; cases hs
/-- a run that comes to 'true' alone -/
def allTrue : Outs VH → Bool
  | .fail => false
  | .one (.bool true, _) => true
  | .one _ => false
  | .more (.bool true, _) r => allTrue r
  | .more _ _ => false
theorem allTrue_ok : ∀ {o : Outs VH}, allTrue o = true → o ≠ .fail ∧ ∀ x, inO x o → x.1 = .bool true := by
  intro o
  induction o with
  | fail => intro h; cases h
  | one a =>
    intro h
    obtain ⟨v, h'⟩ := a
    cases v with
    | bool b => cases b with
      | true => exact ⟨by simp, fun x hx => by cases hx; rfl⟩
      | false => cases h
    | _ => cases h
  | more a r ih =>
    intro h
    obtain ⟨v, h'⟩ := a
    cases v with
    | bool b => cases b with
      | true =>
        obtain ⟨_, h2⟩ := ih h
        exact ⟨by simp, fun x hx => by
          rcases hx with q | q
          · rw [q]
          · exact h2 x q⟩
      | false => cases h
    | _ => cases h
/-- a call with signs among its arguments that comes to 'true' -/
theorem run_true (ok : CxOK P) {vs args : List Value} {args' : Array Value} {n : Nat} {f : FuncId} (ot : OrcT P ⟨symMu vs, w⟩) {i : Nat} (mt : MemoT P ⟨symMu vs, w⟩ i) (hsy : SyM P (symMu vs)) (ha : VRs (symMu vs) args args'.toList)
    (he : allTrue (evalCall P i n f args (startH vs.length)) = true) : Calls P.P f args' w fun e w' => e = .returned (.bool true) ∧ Below w.heap.size w w' := by
  obtain ⟨h1, h2⟩ := allTrue_ok he
  refine (eval_ok ok ot mt (start_sr vs w) (start_cx vs w hsy) ha h1).mono ?_
  rintro e w' ⟨x, M', u, rfl, hx, hv, hn⟩
  rw [h2 x hx] at hv
  rw [hv.bool_inv]
  exact ⟨rfl, hn.below (start_held vs)⟩
theorem below_kept {W W' : World} (b : Below W.heap.size W W') (may : MemPlace → Prop) : W.keptBut W' may := by
  refine ⟨b.os, b.output, fun i hi => ?_⟩
  rw [b.block i hi]
  cases W.heap[i]? with
  | none => rfl
  | some o => cases o <;> first | exact ⟨rfl, rfl, rfl, fun _ _ => rfl⟩ | exact .inr ⟨rfl, rfl⟩ | rfl
open Go.ChangeShapes Go.WideShapes in
/-- post_of_same, where blocks of the call's own may be frozen -/
theorem post_of_below {H : Type} {enc : TypeId × Value → H} {P : Program} {f : Func} {s : ChangeSpec} {apart fresh handsOn again : Bool} {W W' : World} {args : Array Value} {v : Value} {ds gs : List (DataW H)} {before pa pv : List MemPlace}
    (hW : DataW.Whole enc P f.params.toList s.vars apart W args.toList ds gs before)
    (hres : ∀ (b : Nat) (sp : Nat → Bool) (hd : Bool), DataW.TrodAll enc P W' b sp hd f.resultTypes.toList (v.resultList f.resultTypes.size) (s.fn H (ds ++ gs)).results [])
    (hargs : ∀ sp : Nat → Bool, (∀ p ∈ before, sp p.block = true) → DataW.TrodAll enc P W' 0 sp true f.params.toList args.toList (s.fn H (ds ++ gs)).args pa)
    (hvars : ∀ sp : Nat → Bool, (∀ p ∈ before, sp p.block = true) → DataW.TrodVars enc P W' sp s.vars (s.fn H (ds ++ gs)).vars pv)
    (hps : before = pa ++ pv) (hk : Below W.heap.size W W')
    (hok : ∀ (j : Nat) (t : TypeId) (r : Value), f.resultTypes[j]? = some t → (v.resultList f.resultTypes.size)[j]? = some r → Value.okWide P W' .any 0 t r) :
    s.post enc P f apart fresh handsOn again W args v W' := by
  have hold : ∀ p ∈ before, (fun b => decide (b < W.heap.size)) p.block = true := fun p hp => by simpa using hW.lt p hp
  have hlt := hW.lt
  refine ⟨ds, gs, before, [], pa, pv, hW, hres _ _ _, hargs _ hold, hvars _ hold, below_kept hk _, fun _ => ?_⟩
  obtain ⟨_, _, _, _, _, hz, hn⟩ := hW
  refine ⟨hok, _, _, ([] ++ pa) ++ pv, ⟨[] ++ pa, pv, trodAll_append (hargs _ (fun _ _ => rfl)) (hres _ _ _), hvars _ (fun _ _ => rfl), rfl, ?_, ?_⟩, ?_⟩
  · intro b off hp
    have hp' : MemPlace.cell b off ∈ before := by rw [hps]; simpa using hp
    rw [hk.frozen (p := ⟨b, off, none⟩) (hlt _ hp')]
    exact hz b off hp'
  · intro ha
    have := hn ha
    rw [hps] at this
    simpa using this
  · intro p hp _
    rw [hps]
    simpa using hp
end Go.Ev
