/- Indexing; maps (own work). -/
import Derived.Test.YtbfepjofmkdafaaGreatEvS10
namespace Go.Ev
variable {P : Cx} {M : Mu} {h h' : AH} {w w' : World}

theorem byte_get {s : ByteArray} {i : Nat} {b : UInt8} (hb : s.data.toList[i]? = some b) : s[i]? = some b := by
  have h1 : i < s.data.toList.length := (List.getElem?_eq_some_iff.1 hb).1
  have h2 : i < s.size := by simpa using h1
  rw [getElem?_pos s i h2]
  have h3 := (List.getElem?_eq_some_iff.1 hb).2
  rw [← h3]; rfl
section
variable {o : Oper} {a : Act} {E : Env} {r : R1}
theorem s_index (ok : CxOK P) (s : SR P M h w) (e : ER M E a.tmps) {t : TypeId} {x i : Operand} (ho : o.op = .index t x i) (hr : opIndex t x i P E h = some r) :
    OpS P M h w r ((execOp a.eval o).run P.P w) := by
  obtain ⟨v, h1, h2⟩ := ev1_some hr
  obtain ⟨n, h3, h4⟩ := ev1_some h2
  have hv := evalO_ok e h1
  have hn := evalO_ok e h3
  split at h4
  · rename_i i' hi'
    obtain ⟨k, rfl⟩ := natOf_some hi'
    have hn' := hn.int_inv
    obtain ⟨z, h5, rfl⟩ := ret1_some h4
    unfold indexV at h5
    split at h5
    · rename_i len el cs hd
      split at h5
      · rename_i sz hsz
        obtain ⟨h6, h7⟩ := bc_some h5
        generalize hu : a.eval x = u at hv
        cases hv with
        | agg c c' hc =>
          obtain ⟨u, hu1, hu2⟩ := partA_ok ok (cs' := ⟨c'⟩) hc h7 w
          refine out_same s hu2 ?_
          have hcond : (0 : Int) ≤ Int.ofNat i' ∧ Int.ofNat i' < (len : Int) := ⟨Int.natCast_nonneg _, Int.ofNat_lt.2 (bltN h6)⟩
          simp only [execOp, ho, hn', hu, Instr.index, asIntOf, Sem.run_bind, Sem.run_pure, Result.andThen_ok, run_und ok hd]
          rw [if_pos hcond]
          have hu1' : (part el ⟨c'⟩ (i' * sz)).run P.P w = .ok u w := hu1
          simp only [Sem.run_bind, run_size ok hsz, Result.andThen_ok, Int.ofNat_eq_natCast, Int.toNat_natCast, hu1']
      · cases h5
    · rename_i st hd
      rw [getL_eq] at h5
      split at h5
      · rename_i b hb
        simp only [Option.some.injEq] at h5; subst h5
        generalize hu : a.eval x = u at hv
        cases hv
        refine out_same s (.int _ _) ?_
        simp only [execOp, ho, hn', hu, Instr.index, asIntOf, Sem.run_bind, Sem.run_pure, Result.andThen_ok, run_und ok hd]
        have hcond : (0 : Int) ≤ Int.ofNat i' := Int.natCast_nonneg _
        rw [if_pos hcond, Int.ofNat_eq_natCast, Int.toNat_natCast, byte_get hb]
        rfl
      · cases h5
    · cases h5
  · cases h4
end

-- maps
theorem ERs.length {l l' : List MapEntry} (hl : ERs M l l') : l.length = l'.length := by
  induction hl with
  | nil => rfl
  | cons _ _ _ _ _ _ ih => simp [ih]
theorem ERs.get {l l' : List MapEntry} (hl : ERs M l l') : ∀ (k : Nat) (x : MapEntry), l[k]? = some x → ∃ y, l'[k]? = some y ∧ ER1 M x y := by
  induction hl with
  | nil => intro k x hx; simp at hx
  | cons e e' r r' he _ ih =>
    intro k x hx
    cases k with
    | zero => simp at hx; subst hx; exact ⟨e', by simp, he⟩
    | succ k => simpa using ih k x (by simpa using hx)
theorem ERs.app {a a' b b' : List MapEntry} (ha : ERs M a a') (hb : ERs M b b') : ERs M (a ++ b) (a' ++ b') := by
  induction ha with
  | nil => exact hb
  | cons e e' r r' he _ ih => exact .cons _ _ _ _ he ih
theorem modL_ok {f f' : MapEntry → MapEntry} (hf : ∀ x y, ER1 M x y → ER1 M (f x) (f' y)) {l l' : List MapEntry} (hl : ERs M l l') : ∀ n, ERs M (modL f n l) (l'.modify n f') := by
  induction hl with
  | nil => intro n; cases n <;> exact .nil
  | cons e e' r r' he hr ih =>
    intro n
    cases n with
    | zero => exact .cons _ _ _ _ (hf _ _ he) hr
    | succ n => exact .cons _ _ _ _ he (ih n)
theorem delL_ok {l l' : List MapEntry} (hl : ERs M l l') : ∀ n, ERs M (delL n l) (l'.eraseIdx n) := by
  induction hl with
  | nil => intro n; cases n <;> exact .nil
  | cons e e' r r' he hr ih =>
    intro n
    cases n with
    | zero => exact hr
    | succ n => exact .cons _ _ _ _ he (ih n)
theorem findNow_ok {kind : TypeDesc} {k : Value} : ∀ {l l' : List MapEntry} (_ : ERs M l l') (_ : ∀ x ∈ l, ∃ n, closedV n x.key = true) (i : Nat) (q : Option (Nat × Value)),
    Instr.findNow kind k l i = some q → ∃ q', Instr.findNow kind k l' i = some q' ∧ (match q, q' with | none, none => True | some (a, v), some (b, u) => a = b ∧ VR M v u | _, _ => False) := by
  intro l l' hl
  induction hl with
  | nil => intro _ i q hq; cases hq; exact ⟨none, rfl, trivial⟩
  | cons e e' r r' he hr ih =>
    intro hc i q hq
    have hk : e'.key = e.key := by
      obtain ⟨n, hn⟩ := hc e (by simp)
      exact closed_eq n hn he.1
    simp only [Instr.findNow] at hq ⊢
    rw [hk]
    cases hs : Instr.sameNow kind k e.key with
    | none => rw [hs] at hq; cases hq
    | some b =>
      rw [hs] at hq
      cases b with
      | true => simp only [Option.some.injEq] at hq; subst hq; exact ⟨some (i, e'.val), rfl, rfl, he.2.1⟩
      | false => exact ih (fun x hx => hc x (by simp [hx])) (i + 1) q hq
def FR (M : Mu) : Option (Nat × Value) → Option (Nat × Value) → Prop
  | none, none => True
  | some (a, v), some (b, u) => a = b ∧ VR M v u
  | _, _ => False
theorem prun_bind {α β : Type} (P : Cx) (f : α → Sem β) : ∀ (n : Nat) (s : Sem α) (q : β), prun P n (s.bind f) = some q → ∃ a m, prun P n s = some a ∧ prun P m (f a) = some q := by
  intro n
  induction n with
  | zero => intro s q h; cases h
  | succ n ih =>
    intro s q h
    cases s with
    | pure a => exact ⟨a, n + 1, rfl, h⟩
    | program k =>
      obtain ⟨a, m, h1, h2⟩ := ih (k P.P) q h
      exact ⟨a, m, h1, h2⟩
    | _ => cases h
theorem findAsking_ok {kt : TypeId} {k : Value} {l l' : List MapEntry} (hl : ERs M l l') : (∀ x ∈ l, closedV 10 x.key = true) → ∀ (i n : Nat) (q : Option (Nat × Value)),
    prun P n (Instr.findAsking kt k l i) = some q → ∃ q', (∀ w, (Instr.findAsking kt k l' i).run P.P w = .ok q' w) ∧ FR M q q' := by
  induction hl with
  | nil =>
    intro _ i n q hq
    have := prun_ok P _ _ _ hq
    cases n with
    | zero => cases hq
    | succ n => cases hq; exact ⟨none, fun _ => rfl, trivial⟩
  | cons e e' r r' he hr ih =>
    intro hc i n q hq
    have hk : e'.key = e.key := closed_eq 10 (hc e (by simp)) he.1
    obtain ⟨b, m, h1, h2⟩ := prun_bind P _ n (Op.equal kt k e.key) q hq
    have h1' := prun_ok P _ _ _ h1
    cases b with
    | true =>
      cases m with
      | zero => cases h2
      | succ m =>
        cases h2
        refine ⟨some (i, e'.val), fun w => ?_, rfl, he.2.1⟩
        simp only [Instr.findAsking, Sem.run_bind, hk, h1', Result.andThen_ok, if_true, Sem.run_pure]
    | false =>
      obtain ⟨q', h3, h4⟩ := ih (fun x hx => hc x (by simp [hx])) (i + 1) m q h2
      refine ⟨q', fun w => ?_, h4⟩
      simp only [Instr.findAsking, Sem.run_bind, hk, h1', Result.andThen_ok, Bool.false_eq_true, if_false, h3]
theorem findK_ok {b : Bool} {kt : TypeId} {k : Value} {l l' : List MapEntry} {q : Option (Nat × Value)} (hl : ERs M l l') (hc : ∀ x ∈ l, closedV 10 x.key = true) (hq : findK P b kt k l = some q) :
    closedV 10 k = true ∧ (∀ w, (Instr.checkKey b 10000 kt k).run P.P w = .ok () w) ∧ ∃ q', (∀ w, (Instr.findKey kt k l').run P.P w = .ok q' w) ∧ FR M q q' := by
  obtain ⟨h1, h2⟩ := bc_some hq
  split at h2
  · rename_i u hu
    refine ⟨h1, fun w => prun_ok P _ _ _ hu w, ?_⟩
    obtain ⟨d, m, h3, h4⟩ := prun_bind P _ _ (underlying kt) q h2
    have h3' := prun_ok P _ _ _ h3
    cases hf : Instr.findNow d k l 0 with
    | none =>
      rw [hf] at h4
      obtain ⟨q', h5, h6⟩ := findAsking_ok hl hc 0 m q h4
      refine ⟨q', fun w => ?_, h6⟩
      have hn : Instr.findNow d k l' 0 = none := by
        cases hf' : Instr.findNow d k l' 0 with
        | none => rfl
        | some z =>
          exfalso
          have : ∀ {l l' : List MapEntry} (_ : ERs M l l') (_ : ∀ x ∈ l, closedV 10 x.key = true) (i : Nat), Instr.findNow d k l i = none → Instr.findNow d k l' i = none := by
            intro l l' hl
            induction hl with
            | nil => intro _ i h; cases h
            | cons e e' r r' he _ ih =>
              intro hc i h
              have hk : e'.key = e.key := closed_eq 10 (hc e (by simp)) he.1
              simp only [Instr.findNow] at h ⊢
              rw [hk]
              cases hs : Instr.sameNow d k e.key with
              | none => rfl
              | some b =>
                rw [hs] at h
                cases b with
                | true => cases h
                | false => exact ih (fun x hx => hc x (by simp [hx])) (i + 1) h
          rw [this hl hc 0 hf] at hf'
          cases hf'
      simp only [Instr.findKey, Sem.run_bind, h3', Result.andThen_ok, hn, h5]
    | some z =>
      rw [hf] at h4
      cases m with
      | zero => cases h4
      | succ m =>
        cases h4
        obtain ⟨q', h5, h6⟩ := findNow_ok hl (fun x hx => ⟨10, hc x hx⟩) 0 q hf
        refine ⟨q', fun w => ?_, ?_⟩
        · simp only [Instr.findKey, Sem.run_bind, h3', Result.andThen_ok, h5, Sem.run_pure]
        · cases q with
          | none => cases q' with
            | none => trivial
            | some y => exact h6
          | some y => cases q' with
            | none => exact h6
            | some y' => exact h6
  · cases h2
theorem noEntry_eq {l : List MapEntry} {l' : Array MapEntry} (hl : ERs M l l'.toList) : l'.isEmpty = noEntry l := by
  have := hl.length
  cases l with
  | nil => simp at this; simp [noEntry, Array.isEmpty, ← this]
  | cons x r =>
    have hne : l'.size ≠ 0 := by simp at this; omega
    simp [noEntry, Array.isEmpty, hne]
section
variable {o : Oper} {a : Act} {E : Env} {r : R1}
theorem s_lookup (ok : CxOK P) (s : SR P M h w) (e : ER M E a.tmps) {t : TypeId} {x y : Operand} {b : Bool} (ho : o.op = .lookup t x y b) (hr : opLookup t x y b P E h = some r) :
    OpS P M h w r ((execOp a.eval o).run P.P w) := by
  obtain ⟨m, h1, h2⟩ := ev1_some hr
  obtain ⟨k, h3, h4⟩ := ev1_some h2
  have hm := evalO_ok e h1
  have hk := evalO_ok e h3
  obtain ⟨z, h5, rfl⟩ := ret1_some h4
  unfold lookupA at h5
  split at h5
  · rename_i kt et hd
    -- the entries
    have key : ∀ (es : List MapEntry) (es' : Array MapEntry), ERs M es es'.toList → (∀ x ∈ es, closedV 10 x.key = true) →
        (match findK P (noEntry es) kt k es with
          | none => none
          | some (some (_, v)) => some (bc b (.tuple #[v, .bool true]) v)
          | some none => match tzeroV P et with
            | some z => some (bc b (.tuple #[z, .bool false]) z)
            | none => none : Option Value) = some z →
        (∀ f : Array MapEntry → Sem Value, (f es').run P.P w = (do
            Instr.checkKey es'.isEmpty 10000 kt (a.eval y)
            let (v, okk) ← match ← Instr.findKey kt (a.eval y) es'.toList with
              | some (_, v) => pure (v, true)
              | none => pure (← zeroValue et, false)
            pure (if b then .tuple #[v, .bool okk] else v) : Sem Value).run P.P w → ∃ u, (f es').run P.P w = .ok u w ∧ VR M z u) := by
      intro es es' hes hcl hz f hf
      cases hfk : findK P (noEntry es) kt k es with
      | none => rw [hfk] at hz; cases hz
      | some q =>
        rw [hfk] at hz
        obtain ⟨hck, g1, q', g2, g3⟩ := findK_ok hes hcl hfk
        have hke := closed_eq 10 hck hk
        rw [hf, hke, noEntry_eq hes]
        simp only [Sem.run_bind, g1, Result.andThen_ok, g2]
        cases q with
        | some iv =>
          obtain ⟨i, v⟩ := iv
          cases q' with
          | none => exact g3.elim
          | some ju =>
            obtain ⟨j, u⟩ := ju
            simp only [Option.some.injEq] at hz; subst hz
            cases b with
            | true => exact ⟨_, rfl, .tuple _ _ (.cons _ _ _ _ g3.2 (.cons _ _ _ _ (.bool true) .nil))⟩
            | false => exact ⟨_, rfl, g3.2⟩
        | none =>
          cases q' with
          | some ju => exact g3.elim
          | none =>
            cases hzv : tzeroV P et with
            | none => rw [hzv] at hz; cases hz
            | some zv =>
              rw [hzv] at hz
              obtain ⟨g4, g5⟩ := tzeroV_of ok hzv
              simp only [Option.some.injEq] at hz; subst hz
              simp only [Sem.run_bind, g4, Result.andThen_ok, Sem.run_pure]
              cases b with
              | true => exact ⟨_, rfl, .tuple _ _ (.cons _ _ _ _ (closed_refl 4 g5) (.cons _ _ _ _ (.bool false) .nil))⟩
              | false => exact ⟨_, rfl, closed_refl 4 g5⟩
    generalize hu : a.eval x = u at hm
    have hrun : ∀ (es : List MapEntry) (es' : Array MapEntry), ERs M es es'.toList → (∀ x ∈ es, closedV 10 x.key = true) →
        (match findK P (noEntry es) kt k es with
          | none => none
          | some (some (_, v)) => some (bc b (.tuple #[v, .bool true]) v)
          | some none => match tzeroV P et with
            | some z => some (bc b (.tuple #[z, .bool false]) z)
            | none => none : Option Value) = some z →
        (Instr.lookup t u (a.eval y) b).run P.P w = (do
            Instr.checkKey es'.isEmpty 10000 kt (a.eval y)
            let (v, okk) ← match ← Instr.findKey kt (a.eval y) es'.toList with
              | some (_, v) => pure (v, true)
              | none => pure (← zeroValue et, false)
            pure (if b then .tuple #[v, .bool okk] else v) : Sem Value).run P.P w → OpS P M h w (.val z h) ((execOp a.eval o).run P.P w) := by
      intro es es' g1 g2 g3 g4
      obtain ⟨u', g5, g6⟩ := key es es' g1 g2 g3 (fun _ => Instr.lookup t u (a.eval y) b) g4
      refine out_same s g6 ?_
      simp only [execOp, ho, hu, Sem.run_bind, g5, Result.andThen_ok, Sem.run_pure]
    cases hm with
    | map0 =>
      refine hrun [] #[] .nil (fun x hx => by cases hx) h5 ?_
      simp only [Instr.lookup, Sem.run_bind, run_und ok hd, Result.andThen_ok, Sem.run_pure]
      rfl
    | map bm i hi =>
      simp only at h5
      cases hg : h.get bm with
      | none => rw [hg] at h5; cases h5
      | some ob =>
        rw [hg] at h5
        cases ob with
        | map es clock =>
          obtain ⟨j, hj, es', q1, q2, q3⟩ := s.obj _ _ hg
          rw [hi] at hj; cases hj
          refine hrun es es' q2 q3 h5 ?_
          have hgo : (getObj i.blk).run P.P w = .ok (.map es' clock) w := by simp [getObj, Sem.run, q1]
          simp only [Instr.lookup, Sem.run_bind, run_und ok hd, Result.andThen_ok, hgo, Sem.run_pure]
          rfl
        | _ => cases h5
    | _ => cases h5
  · cases h5
end
end Go.Ev
