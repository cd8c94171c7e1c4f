/- Operations that build (own work). -/
import Derived.Test.YtbfepjofmkdafaaGreatEvS6
namespace Go.Ev
variable {P : Cx} {M : Mu} {h h' : AH} {w w' : World}

theorem cellsV_ok {v u : Value} (hv : VR M v u) : VRs M (cellsV v) u.cells.toList := by
  cases hv with
  | agg c c' hc => exact hc
  | bool b => exact .cons _ _ _ _ (.bool b) .nil
  | int k n => exact .cons _ _ _ _ (.int k n) .nil
  | float k n => exact .cons _ _ _ _ (.float k n) .nil
  | string s => exact .cons _ _ _ _ (.string s) .nil
  | ptr0 => exact .cons _ _ _ _ .ptr0 .nil
  | ptr b off i hi => exact .cons _ _ _ _ (.ptr b off i hi) .nil
  | slice0 => exact .cons _ _ _ _ .slice0 .nil
  | slice b off len code i off' c' hm ho hl hc hex hroom => exact .cons _ _ _ _ (.slice b off len code i off' c' hm ho hl hc hex hroom) .nil
  | map0 => exact .cons _ _ _ _ .map0 .nil
  | map b i hi => exact .cons _ _ _ _ (.map b i hi) .nil
  | nilFunc => exact .cons _ _ _ _ .nilFunc .nil
  | nilIface => exact .cons _ _ _ _ .nilIface .nil
  | func f a a' c c' ha hc => exact .cons _ _ _ _ (.func f a a' c c' ha hc) .nil
  | yield l i hi => exact .cons _ _ _ _ (.yield l i hi) .nil
  | iface t v v' hv => exact .cons _ _ _ _ (.iface t v v' hv) .nil
  | tuple c c' hc => exact .cons _ _ _ _ (.tuple c c' hc) .nil
  | sym k i _ hi hu ho =>
    have hc : u.cells = #[u] := by cases u <;> first | rfl | (simp [Value.oneCell'] at ho)
    rw [hc]
    exact .cons _ _ _ _ (.sym k i u hi hu ho) .nil

/-- parts, one by one -/
inductive PRs (M : Mu) : List (Nat × Value) → List (Nat × Value) → Prop
  | nil : PRs M [] []
  | cons (i : Nat) (v v' : Value) (r r' : List (Nat × Value)) (h : VR M v v') (hr : PRs M r r') : PRs M ((i, v) :: r) ((i, v') :: r')
theorem evalParts_ok {E : Env} {a : Act} (e : ER M E a.tmps) : ∀ {xs : List (Nat × Operand)} {vs : List (Nat × Value)}, evalParts E xs = some vs → PRs M vs (xs.map fun (i, x) => (i, a.eval x)) := by
  intro xs
  induction xs with
  | nil => intro vs hx; cases hx; exact .nil
  | cons x r ih =>
    intro vs hx
    obtain ⟨i, x⟩ := x
    simp only [evalParts] at hx
    cases h1 : evalO E x with
    | none => rw [h1] at hx; cases hx
    | some v =>
      rw [h1] at hx
      cases h2 : evalParts E r with
      | none => rw [h2] at hx; cases hx
      | some l => rw [h2] at hx; cases hx; exact .cons _ _ _ _ _ (evalO_ok e h1) (ih h2)

theorem foldl_set : ∀ (vs : List Value) (off s : Nat) (cells : Array Value), off + s + vs.length ≤ cells.size →
    ((vs.zipIdx s).foldl (fun cs (c, j) => cs.setIfInBounds (off + j) c) cells).toList = cells.toList.take (off + s) ++ vs ++ cells.toList.drop (off + s + vs.length) := by
  intro vs
  induction vs with
  | nil => intro off s cells _; simp
  | cons v r ih =>
    intro off s cells hl
    simp only [List.length_cons] at hl
    rw [List.zipIdx_cons, List.foldl_cons, ih off (s + 1) _ (by simp; omega)]
    simp only [Array.toList_setIfInBounds]
    have hlen : off + s < cells.toList.length := by simp; omega
    rw [show off + (s + 1) = (off + s) + 1 from by omega, List.take_add_one, List.take_set_of_le (Nat.le_refl _), List.getElem?_set_self hlen, List.drop_set_of_lt (by omega)]
    simp only [Option.toList_some, List.append_assoc, List.cons_append, List.nil_append, List.length_cons]
    rw [show off + s + 1 + r.length = off + s + (r.length + 1) from by omega]
theorem splice_ok {l l' n n' r : List Value} {off : Nat} (hl : VRs M l l') (hn : VRs M n n') (hr : spliceL off n l = some r) :
    VRs M r (l'.take off ++ n' ++ l'.drop (off + n'.length)) ∧ off + n'.length ≤ l'.length := by
  obtain ⟨e, h1⟩ := spliceL_spec _ _ _ _ hr
  rw [hl.length, hn.length] at h1
  refine ⟨?_, h1⟩
  rw [e, hn.length]
  exact ((hl.take off).app hn).app (hl.drop _)
theorem fill_ok {place place' : Nat → Option (Nat × Nat)} (hp : ∀ i x, place i = some x → place' i = some x) : ∀ {ps ps' : List (Nat × Value)} {cells r : List Value} {cells' : Array Value},
    PRs M ps ps' → VRs M cells cells'.toList → fillA place cells ps = some r → ∃ r', Instr.fill place' cells' ps' = some r' ∧ VRs M r r'.toList := by
  intro ps
  induction ps with
  | nil => intro ps' cells r cells' hps hc hr; cases hps; cases hr; exact ⟨cells', rfl, hc⟩
  | cons x rest ih =>
    intro ps' cells r cells' hps hc hr
    cases hps with
    | cons i v v' _ rest' hv hrest =>
      simp only [fillA] at hr
      cases hpl : place i with
      | none => rw [hpl] at hr; cases hr
      | some os =>
        obtain ⟨off, sz⟩ := os
        rw [hpl] at hr
        obtain ⟨h1, h2⟩ := bc_some hr
        cases hs : spliceL off (cellsV v) cells with
        | none => rw [hs] at h2; cases h2
        | some cs =>
          rw [hs] at h2
          have hcv := cellsV_ok hv
          obtain ⟨h3, h4⟩ := splice_ok hc hcv hs
          have hlen : v'.cells.size = sz := by
            have := beqN h1
            rw [lenL_eq, hcv.length] at this
            simpa using this
          have hsz : ¬ (v'.cells.size ≠ sz ∨ off + v'.cells.size > cells'.size) := by
            simp only [Array.length_toList] at h4
            omega
          simp only [Instr.fill, hp i _ hpl]
          simp only [ne_eq, Bool.or_eq_true, decide_eq_true_eq]
          rw [if_neg hsz]
          refine ih hrest ?_ h2
          have hz : (v'.cells.zipIdx.foldl (fun cs (x : Value × Nat) => cs.setIfInBounds (off + x.2) x.1) cells').toList =
              cells'.toList.take off ++ v'.cells.toList ++ cells'.toList.drop (off + v'.cells.toList.length) := by
            have := foldl_set v'.cells.toList off 0 cells' (by simp only [Array.length_toList] at h4 ⊢; omega)
            rw [← Array.foldl_toList, Array.toList_zipIdx]
            simpa using this
          rw [hz]
          exact h3

theorem fieldsOK_places (ok : CxOK P) : ∀ {fs : List Field}, fieldsOK P fs = true →
    ∃ places, fs.mapM (fun f => (P.P.info? f.type).map fun i => (f.offset, i.size)) = some places ∧ ∀ i x, structPlace P fs i = some x → places[i]? = some x := by
  intro fs
  induction fs with
  | nil => intro _; exact ⟨[], rfl, fun i x hx => by simp [structPlace, getL_eq] at hx⟩
  | cons f r ih =>
    intro hf
    simp only [fieldsOK] at hf
    cases ht : tsize P f.type with
    | none => rw [ht] at hf; cases hf
    | some n =>
      rw [ht] at hf
      obtain ⟨pl, h1, h2⟩ := ih hf
      obtain ⟨i, hi, hin⟩ := tsize_info ht
      refine ⟨(f.offset, n) :: pl, by simp [info_of ok hi, h1, hin], fun k x hx => ?_⟩
      cases k with
      | zero => simp [structPlace, getL_eq, ht] at hx; simp [hx]
      | succ k =>
        have : structPlace P r k = some x := by simpa [structPlace, getL_eq] using hx
        simpa using h2 k x this
theorem build_ok (ok : CxOK P) {t : TypeId} {ps ps' : List (Nat × Value)} {v : Value} (hps : PRs M ps ps') (hb : buildA P t ps = some v) :
    ∃ cells, P.P.built t ps' = some cells ∧ VR M v (.agg cells) := by
  unfold buildA at hb
  cases hz : tzero P t with
  | none => rw [hz] at hb; cases hb
  | some z =>
    rw [hz] at hb
    simp only at hb
    obtain ⟨zv, h1, h2, h3⟩ := tzero_of ok hz
    -- the row of the table
    have hinfo : ∃ it, P.P.info? t = some it ∧ it.zero = some zv := by
      unfold tzero tzeroV at hz
      cases hi : P.ty.get t with
      | none => simp [hi] at hz
      | some it =>
        refine ⟨it, info_of ok hi, ?_⟩
        have := h1 default
        simp only [zeroValue, typeInfo, Sem.run_bind, run_program, Result.andThen_ok, info_of ok hi] at this
        cases hz0 : it.zero with
        | none => simp [hz0] at this
        | some q => simp [hz0] at this; rw [this]
    obtain ⟨it, hit, hzero⟩ := hinfo
    have hzc : VRs M z zv.cells.toList := by rw [h2]; exact h3 M
    unfold Program.built
    split at hb
    · rename_i fs hd
      obtain ⟨hf, h4⟩ := bc_some hb
      obtain ⟨places, hp1, hp2⟩ := fieldsOK_places ok hf
      split at h4
      · rename_i l hl
        simp only [Option.some.injEq] at h4; subst h4
        obtain ⟨r', hr1, hr2⟩ := fill_ok (place' := (places.toArray[·]?)) (fun i x hx => by simpa using hp2 i x hx) hps hzc hl
        refine ⟨r', ?_, .agg _ _ hr2⟩
        simp only [hit, desc_of ok hd, hzero, hp1]
        exact hr1
      · cases h4
    · rename_i n e hd
      split at hb
      · rename_i sz hsz
        obtain ⟨ie, hie, hisz⟩ := tsize_info hsz
        split at hb
        · rename_i l hl
          simp only [Option.some.injEq] at hb; subst hb
          obtain ⟨r', hr1, hr2⟩ := fill_ok (place' := fun i => some (i * ie.size, ie.size)) (fun i x hx => by rw [hisz]; exact hx) hps hzc hl
          refine ⟨r', ?_, .agg _ _ hr2⟩
          simp only [hit, desc_of ok hd, hzero, info_of ok hie]
          exact hr1
        · cases hb
      · cases hb
    · cases hb
section
variable {o : Oper} {a : Act} {E : Env} {r : R1}
theorem s_build (ok : CxOK P) (s : SR P M h w) (e : ER M E a.tmps) {t : TypeId} {ps : Array (Nat × Operand)} (ho : o.op = .build t ps) (hr : opBuild t ps P E h = some r) :
    OpS P M h w r ((execOp a.eval o).run P.P w) := by
  unfold opBuild at hr
  split at hr
  · rename_i l hl
    obtain ⟨v, h1, rfl⟩ := ret1_some hr
    obtain ⟨cells, h2, h3⟩ := build_ok ok (evalParts_ok e hl) h1
    refine out_same s h3 ?_
    have := run_build (P := P.P) w t (ps.map fun (i, x) => (i, a.eval x)) cells (by simpa using h2)
    simp only [execOp, ho, Sem.run_bind, this, Result.andThen_ok, Sem.run_pure]
  · cases hr
end
end Go.Ev
