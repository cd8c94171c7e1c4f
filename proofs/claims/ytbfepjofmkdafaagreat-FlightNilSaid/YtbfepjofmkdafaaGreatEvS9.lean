/- Slices of slices, arrays, strings (own work). -/
import Derived.Test.YtbfepjofmkdafaaGreatEvS8
namespace Go.Ev
variable {P : Cx} {M : Mu} {h h' : AH} {w w' : World}

theorem run_bound {v : Value} {n y : Nat} {code : BoundsCode} (hv : natOf v = some n) (hn : n ≤ y) (w : World) : (Instr.sliceBound v y code).run P.P w = .ok n w := by
  obtain ⟨k, rfl⟩ := natOf_some hv
  have hc : (0 : Int) ≤ Int.ofNat n ∧ Int.ofNat n ≤ (y : Int) := ⟨Int.natCast_nonneg _, Int.ofNat_le.2 hn⟩
  simp only [Instr.sliceBound, asIntOf, Sem.run_bind, Sem.run_pure, Result.andThen_ok]
  rw [if_pos hc]; rfl
/-- an operand that may be missing -/
inductive OVR (M : Mu) : Option Value → Option Value → Prop
  | none : OVR M none none
  | some (v u : Value) (h : VR M v u) : OVR M (some v) (some u)
theorem optL_ok {E : Env} {a : Act} (e : ER M E a.tmps) {x : Option Operand} {q : Option Value} (hx : optL E x = some q) : OVR M q (x.map a.eval) := by
  cases x with
  | none => cases hx; exact .none
  | some x =>
    simp only [optL] at hx
    cases h1 : evalO E x with
    | none => rw [h1] at hx; cases hx
    | some v => rw [h1] at hx; cases hx; exact .some _ _ (evalO_ok e h1)
theorem natOf_VR {v u : Value} {n : Nat} (hv : VR M v u) (hn : natOf v = some n) : natOf u = some n := by
  obtain ⟨k, rfl⟩ := natOf_some hn
  rw [hv.int_inv]; exact hn
theorem natD_run {q q' : Option Value} {d n y : Nat} {code : BoundsCode} (hq : OVR M q q') (hn : natD q d = some n) (hy : n ≤ y) (w : World) :
    ((match q' with | some v => Instr.sliceBound v y code | none => pure d : Sem Nat)).run P.P w = .ok n w := by
  cases hq with
  | none => cases hn; rfl
  | some v u hv => exact run_bound (natOf_VR hv hn) hy w
theorem run_bounds {lo lo' hi hi' : Option Value} {b : Bool} {len cap hh l : Nat} (hlo : OVR M lo lo') (hhi : OVR M hi hi')
    (hhh : natD hi len = some hh) (hl : natD lo 0 = some l) (h1 : hh ≤ cap) (h2 : l ≤ hh) (w : World) :
    (Instr.sliceBounds b len cap lo' hi' none).run P.P w = .ok (l, hh, cap) w := by
  unfold Instr.sliceBounds
  simp only [Sem.run_bind, Sem.run_pure, Result.andThen_ok]
  cases hhi with
  | none =>
    cases hhh
    cases hlo with
    | none => cases hl; simp
    | some v u hv => simp [run_bound (P := P) (natOf_VR hv hl) h2]
  | some v u hv =>
    cases hlo with
    | none => cases hl; simp [run_bound (P := P) (natOf_VR hv hhh) h1]
    | some v' u' hv' => simp [run_bound (P := P) (natOf_VR hv hhh) h1, run_bound (P := P) (natOf_VR hv' hl) h2]
theorem run_bounds3 {lo lo' : Option Value} {hi hi' mx mx' : Value} {b : Bool} {len cap hh l m : Nat} (hlo : OVR M lo lo') (hhi : VR M hi hi') (hmx : VR M mx mx')
    (hm : natOf mx = some m) (hhh : natOf hi = some hh) (hl : natD lo 0 = some l) (h0 : m ≤ cap) (h1 : hh ≤ m) (h2 : l ≤ hh) (w : World) :
    (Instr.sliceBounds b len cap lo' (some hi') (some mx')).run P.P w = .ok (l, hh, m) w := by
  unfold Instr.sliceBounds
  cases hlo with
  | none => cases hl; simp [run_bound (P := P) (natOf_VR hmx hm) h0, run_bound (P := P) (natOf_VR hhi hhh) h1]
  | some v u hv => simp [run_bound (P := P) (natOf_VR hmx hm) h0, run_bound (P := P) (natOf_VR hhi hhh) h1, run_bound (P := P) (natOf_VR hv hl) h2]

/-- the slice that comes of a slice -/
theorem sliceB_ok (s : SR P M h w) {base : Option Addr} {base' : Option Addr} {len code c' e sz l hh m m' : Nat} {ex : Bool} {r : Value} (hsz : tsize P e = some sz)
    (hv : VR M (.slice base len code) (.slice base' len c')) (hr : sliceB h base e sz l hh m ex = some r)
    (hmc : m ≤ code / 2) (h1 : hh ≤ m) (h2 : l ≤ hh) (hx : ex = true → m' = m) (hnx : ex = false → m = code / 2 ∧ m' = c' ∧ code % 2 = 0 ∧ base ≠ none) (hm' : m' ≤ c') :
    VR M r (.slice (if m' = l then base' else base'.map (·.add (l * sz))) (hh - l) (m' - l)) := by
  cases hv with
  | slice0 =>
    simp only [sliceB, sliceNil, Option.some.injEq] at hr; subst hr
    have : m = 0 := by omega
    have : m' = 0 := by omega
    have e1 : Nat.sub hh l = 0 := by show hh - l = 0; omega
    have e2 : Nat.sub m l = 0 := by show m - l = 0; omega
    rw [e1, e2, show hh - l = 0 by omega, show m' - l = 0 by omega]
    simp only [Option.map_none, ite_self]
    exact .slice0
  | slice b off _ _ i off' _ hm ho hl hc hex hroom =>
    simp only [sliceB] at hr
    cases ex with
    | true =>
      have hmm := hx rfl
      subst hmm
      have hr : bc (Nat.beq m' l) (some (.slice (some ⟨b, off, none⟩) (Nat.sub hh l) (mkCap 0 true))) (sliceAt b off l hh m' sz true) = some r := hr
      rw [bc_eq] at hr
      split at hr
      · rename_i he
        have he' := beqN he
        simp only [Option.some.injEq] at hr; subst hr
        rw [if_pos he', show Nat.sub hh l = hh - l from rfl, show m' - l = 0 by omega]
        exact VR.slice_exact (n := 0) hm (.inr ⟨by omega, rfl⟩) (by omega)
      · rename_i he
        have he' : m' ≠ l := fun q => he (by rw [q]; exact Nat.beq_refl l)
        simp only [sliceAt, Option.some.injEq] at hr; subst hr
        rw [if_neg he', Option.map_some, add_off]
        refine VR.slice_exact (n := m' - l) hm (.inl ?_) (by show hh - l ≤ m' - l; omega)
        show off' + l * sz = i.sh + (off + l * sz)
        rcases ho with q | ⟨q1, q2⟩ <;> omega
    | false =>
      obtain ⟨g1, g2, g3, _⟩ := hnx rfl
      subst g2
      have hr : bc (rowOf h b e) (sliceAt b off l hh m sz false) none = some r := hr
      obtain ⟨hrow, hr2⟩ := bc_some hr
      simp only [sliceAt, Option.some.injEq] at hr2; subst hr2
      have hisz : i.sz = sz := by
        unfold rowOf at hrow
        split at hrow
        · rename_i cs e' g hg
          have := beqN hrow
          subst this
          obtain ⟨j, hj, c, lo, hi, _, _, h3, _⟩ := s.obj _ _ hg
          rw [hm] at hj; cases hj
          rw [hsz] at h3; cases h3; rfl
        · cases hrow
      have hr0 := hroom g3
      rw [hisz] at hr0
      by_cases he : m' = l
      · rw [if_pos he]
        refine .slice b _ _ _ i off' _ hm (.inr ⟨by show hh - l = 0; omega, by omega⟩) ?_ ?_ ?_ ?_
        · rw [mkCap_half]; show hh - l ≤ m - l; omega
        · rw [mkCap_half]; show m - l ≤ m' - l; omega
        · intro q; rw [mkCap_even] at q; omega
        · intro _; rw [show m' - l = 0 by omega, Nat.zero_mul]; have := Nat.le_trans (Nat.le_add_right off' (m' * sz)) hr0; omega
      · rw [if_neg he, Option.map_some, add_off]
        refine .slice b _ _ _ i (off' + l * sz) _ hm (.inl ?_) ?_ ?_ ?_ ?_
        · show off' + l * sz = i.sh + (off + l * sz)
          rcases ho with q | ⟨q1, q2⟩ <;> omega
        · rw [mkCap_half]; show hh - l ≤ m - l; omega
        · rw [mkCap_half]; show m - l ≤ m' - l; omega
        · intro q; rw [mkCap_even] at q; omega
        · intro _
          rw [hisz]
          have : m' * sz = l * sz + (m' - l) * sz := by rw [← Nat.add_mul]; congr 1; omega
          omega
section
variable {o : Oper} {a : Act} {E : Env} {r : R1}
theorem arr_ok {n el : Nat} {b off : Nat} {i : Img} {lo lo' hi hi' : Option Value} (hb : M b = some i) (hlo : OVR M lo lo') (hhi : OVR M hi hi') (hr : sliceArr P h n el ⟨b, off, none⟩ lo hi = some r) :
    ∃ v l hh sz, r = .val v h ∧ tsize P el = some sz ∧ (∀ b w, (Instr.sliceBounds b n n lo' hi' none).run P.P w = .ok (l, hh, n) w) ∧
      VR M v (.slice (some (if n = l then ⟨i.blk, i.sh + off, none⟩ else (⟨i.blk, i.sh + off, none⟩ : Addr).add (l * sz))) (hh - l) (n - l)) := by
  unfold sliceArr at hr
  split at hr
  · rename_i hh l sz h1 h2 h3
    obtain ⟨q1, q2⟩ := bc_some hr
    obtain ⟨q3, q4⟩ := bc_some q2
    refine ⟨_, l, hh, sz, one_some q4, h3, fun b w => run_bounds hlo hhi h1 h2 (bleN q1) (bleN q3) w, ?_⟩
    have e1 := bleN q1
    have e2 := bleN q3
    by_cases he : n = l
    · rw [if_pos he, show Nat.beq n l = true by rw [he]; exact Nat.beq_refl l]
      exact VR.slice_exact (n := n - l) hb (.inl rfl) (by show hh - l ≤ n - l; omega)
    · have : Nat.beq n l = false := by cases hq : Nat.beq n l with | false => rfl | true => exact absurd (beqN hq) he
      rw [if_neg he, this, add_off]
      exact VR.slice_exact (n := n - l) hb (.inl (by show i.sh + off + l * sz = i.sh + (off + l * sz); omega)) (by show hh - l ≤ n - l; omega)
  · cases hr
theorem s_slice (ok : CxOK P) (s : SR P M h w) (e : ER M E a.tmps) {t : TypeId} {x : Operand} {lo hi mx : Option Operand} (ho : o.op = .slice t x lo hi mx) (hr : opSlice t x lo hi mx P E h = some r) :
    OpS P M h w r ((execOp a.eval o).run P.P w) := by
  obtain ⟨v, h1, h2⟩ := ev1_some hr
  have hv := evalO_ok e h1
  split at h2
  · rename_i lo1 hi1 mx1 hlo hhi hmx
    have rlo := optL_ok e hlo
    have rhi := optL_ok e hhi
    have rmx := optL_ok e hmx
    have hexec : (execOp a.eval o).run P.P w = ((Instr.sliceAt t (a.eval x) (lo.map a.eval) (hi.map a.eval) (mx.map a.eval)).run P.P w).andThen fun v w' => .ok (.value v) w' := by
      simp only [execOp, ho, Sem.run_bind, Sem.run_pure]
    split at h2
    · rename_i n el p hd
      obtain ⟨pb, po, ps⟩ := p
      split at h2
      · generalize hu : a.eval x = u at hv hexec
        cases hv with
        | ptr b off i hi' =>
          generalize mx.map a.eval = mn at rmx hexec
          cases rmx
          obtain ⟨v, l, hh, sz, rfl, hsz, hbd, hvr⟩ := arr_ok hi' rlo rhi h2
          refine out_same s hvr ?_
          rw [hexec]
          simp only [Instr.sliceAt, Sem.run_bind, run_und ok hd, Result.andThen_ok, Instr.sureAddr, Sem.run_pure]
          rw [hbd]
          simp only [Result.andThen_ok, run_size ok hsz]
      · cases h2
    · rename_i at_ p hd
      obtain ⟨pb, po, ps⟩ := p
      split at h2
      · rename_i n el hd2
        generalize hu : a.eval x = u at hv hexec
        cases hv with
        | ptr b off i hi' =>
          generalize mx.map a.eval = mn at rmx hexec
          cases rmx
          obtain ⟨v, l, hh, sz, rfl, hsz, hbd, hvr⟩ := arr_ok hi' rlo rhi h2
          refine out_same s hvr ?_
          rw [hexec]
          simp only [Instr.sliceAt, Instr.slice, Sem.run_bind, run_und ok hd, run_und ok hd2, Result.andThen_ok, asAddr, Sem.run_pure, hbd, run_size ok hsz]
      · cases h2
    · rename_i hna hnp
      obtain ⟨rv, hrv, rfl⟩ := ret1_some h2
      have hsl : ∀ d, desc P t = some d → (∀ n e, d ≠ .array n e) → (Instr.sliceAt t (a.eval x) (lo.map a.eval) (hi.map a.eval) (mx.map a.eval)).run P.P w =
          (Instr.slice t (a.eval x) (lo.map a.eval) (hi.map a.eval) (mx.map a.eval)).run P.P w := by
        intro d hd hne
        cases d with
        | array n e => exact absurd rfl (hne n e)
        | _ => simp only [Instr.sliceAt, Sem.run_bind, run_und ok hd, Result.andThen_ok]
      unfold sliceA at hrv
      split at hrv
      · rename_i st hd
        split at hrv
        · rename_i hh l q1 q2
          obtain ⟨q3, q4⟩ := bc_some hrv
          obtain ⟨q5, q6⟩ := bc_some q4
          simp only [Option.some.injEq] at q6; subst q6
          refine out_same s (.string _) ?_
          rw [hexec, hsl _ hd (by simp)]
          generalize hu : a.eval x = u at hv
          cases hv
          generalize mx.map a.eval = mn at rmx
          cases rmx
          simp only [Instr.slice, Sem.run_bind, run_und ok hd, Result.andThen_ok, Option.isSome_none, Bool.false_eq_true, if_false, run_bounds rlo rhi q1 q2 (bleN q3) (bleN q5)]
          rfl
        · cases hrv
      · rename_i el base len code hd
        split at hrv
        · rename_i sz hh l hsz q1 q2
          generalize hu : a.eval x = u at hv hexec hsl
          obtain ⟨base', c', rfl⟩ : ∃ base' c', u = .slice base' len c' := by cases hv <;> exact ⟨_, _, rfl⟩
          have hcc : code / 2 ≤ c' := by cases hv <;> omega
          have hsl' := hsl _ hd (by simp)
          split at hrv
          · obtain ⟨q3, q4⟩ := bc_some hrv
            obtain ⟨q5, q6⟩ := bc_some q4
            generalize mx.map a.eval = mn at rmx hexec hsl'
            cases rmx
            have hb3 : hh ≤ code / 2 := bleN q3
            have key := sliceB_ok (m' := c') s hsz hv q6 (Nat.le_refl _) hb3 (bleN q5) (fun hx => by
                cases hv with
                | slice0 => rfl
                | slice b off _ _ i off' _ hm ho hl hc hex hroom => exact hex (beqN hx)) (fun hx => by
                cases hv with
                | slice0 => cases hx
                | slice b off _ _ i off' _ hm ho hl hc hex hroom =>
                  refine ⟨rfl, rfl, ?_, by simp⟩
                  have : ¬ code % 2 = 1 := fun q => by
                    have e1 : Nat.beq (Nat.mod code 2) 1 = true := by show Nat.beq (code % 2) 1 = true; rw [q]; rfl
                    have e2 : exactC (some ⟨b, off, none⟩) code = Nat.beq (Nat.mod code 2) 1 := rfl
                    rw [e2, e1] at hx; cases hx
                  omega) (Nat.le_refl _)
            refine out_same s key ?_
            rw [hexec, hsl']
            simp only [Instr.slice, Sem.run_bind, run_und ok hd, Result.andThen_ok, run_bounds rlo rhi q1 q2 (Nat.le_trans hb3 hcc) (bleN q5), run_size ok hsz, Sem.run_pure]
          · rename_i mv
            split at hrv
            · rename_i m hv2 hm1
              obtain ⟨q3, q4⟩ := bc_some hrv
              obtain ⟨q5, q6⟩ := bc_some q4
              obtain ⟨q7, q8⟩ := bc_some q6
              generalize mx.map a.eval = mn at rmx hexec hsl'
              generalize hi.map a.eval = hin at rhi hexec hsl'
              cases rmx with
              | some _ mu hmu =>
                cases rhi with
                | some _ hiu hhiu =>
                  have key := sliceB_ok (m' := m) s hsz hv q8 (bleN q3) (bleN q5) (bleN q7) (fun _ => rfl) (fun hx => by cases hx) (Nat.le_trans (bleN q3) hcc)
                  refine out_same s key ?_
                  rw [hexec, hsl']
                  simp only [Instr.slice, Sem.run_bind, run_und ok hd, Result.andThen_ok, run_bounds3 rlo hhiu hmu hm1 q1 q2 (Nat.le_trans (bleN q3) hcc) (bleN q5) (bleN q7), run_size ok hsz, Sem.run_pure]
            · cases hrv
        · cases hrv
      · cases hrv
  · cases h2
end
end Go.Ev
