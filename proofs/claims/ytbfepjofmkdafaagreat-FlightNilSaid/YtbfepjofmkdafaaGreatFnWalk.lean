/- FlightNil comes to true, whatever it is handed; older memory stands (own work). -/
import Derived.Test.YtbfepjofmkdafaaGreatEvS25
import Derived.Test.YtbfepjofmkdafaaGreatFnCx
import Derived.Test.YtbfepjofmkdafaaGreatOnce
import Derived.Test.YtbfepjofmkdafaaGreatFnR0
import Derived.Test.YtbfepjofmkdafaaGreatFnR1
import Derived.Test.YtbfepjofmkdafaaGreatFnR2
import Derived.Test.YtbfepjofmkdafaaGreatFnR3
import Derived.Test.YtbfepjofmkdafaaGreatFnR4
import Derived.Test.YtbfepjofmkdafaaGreatFnR5
import Derived.Test.YtbfepjofmkdafaaGreatFnR6
import Derived.Test.YtbfepjofmkdafaaGreatFnR7
import Derived.Test.YtbfepjofmkdafaaGreatFnR8
import Derived.Test.YtbfepjofmkdafaaGreatFnR9
import Derived.Test.YtbfepjofmkdafaaGreatFnRun
import Derived.WalkKit
import Derived.ProofKit
namespace Go.Proofs.YtbfepjofmkdafaaGreat
open Go.ChangeShapes Go.WideShapes Go.ChangeAt Go.RowKit Go.Ev
theorem cut_walk (s : ByteArray) (hs : s.size ≤ maxLen) (w : World) :
    Calls Tryz.prog 15 #[.string s, .int .i64 40] w fun e w' => ∃ u, e = .returned (.string u) ∧ Below w.heap.size w w' := by
  go_enter Tryz.func15, Tryz.ntmps15
  go_wp2
  all_goals (go_ret; exact ⟨_, rfl, Below.refl _ _⟩)
theorem atoms_fn : ∀ x ∈ FnAtoms, AtmOK Tryz.prog x.1 x.2 := by
  intro x hx
  simp only [FnAtoms, List.mem_cons, List.not_mem_nil, or_false] at hx
  rcases hx with rfl | rfl | rfl | rfl | rfl | rfl | rfl
  · exact ⟨_, Tryz.func131, by kernel_rfl, by kernel_rfl, by kernel_rfl, by kernel_rfl⟩
  · exact ⟨_, Tryz.func150, by kernel_rfl, by kernel_rfl, by kernel_rfl, by kernel_rfl⟩
  · exact ⟨_, Tryz.func151, by kernel_rfl, by kernel_rfl, by kernel_rfl, by kernel_rfl⟩
  · exact ⟨_, Tryz.func160, by kernel_rfl, by kernel_rfl, by kernel_rfl, by kernel_rfl⟩
  · exact ⟨_, Tryz.func259, by kernel_rfl, by kernel_rfl, by kernel_rfl, by kernel_rfl⟩
  · exact ⟨_, Tryz.func364, by kernel_rfl, by kernel_rfl, by kernel_rfl, by kernel_rfl⟩
  · exact ⟨_, Tryz.func462, by kernel_rfl, by kernel_rfl, by kernel_rfl, by kernel_rfl⟩
theorem cx_fn : CxOK FnCx := mkCx_ok (by kernel_rfl) (atms_ok atoms_fn) (fun f h => by cases h; exact once_law)
theorem orc_fn (a : Int) (s : ByteArray) (hs : s.size ≤ maxLen) (w0 : World) : OrcT FnCx ⟨symMu [.int .i64 a, .string s], w0⟩ := by
  intro f args res hf M args' hM ha w k hb
  have hf' : bc (bc (Nat.beq 15 f) (veq.all 6 [.chan (some 1), .int .i64 40] args) false) (some (Value.chan none)) none = some res := hf
  cases hc : bc (Nat.beq 15 f) (veq.all 6 [.chan (some 1), .int .i64 40] args) false with
  | false => rw [hc] at hf'; cases hf'
  | true =>
    rw [hc] at hf'; cases hf'
    obtain ⟨h1, h2⟩ := bc_and hc
    obtain rfl := Nat.eq_of_beq_eq_true h1
    obtain rfl := veqs_eq (veq_eq 6) h2
    obtain ⟨l⟩ := args'
    cases ha with
    | cons _ u _ _ q1 q2 => cases q2 with
      | cons _ z _ _ q3 q4 =>
        cases q4
        obtain rfl := q3.int_inv
        cases q1 with
        | sym _ i _ hi hu ho =>
          have hm : M 1 = some ⟨0, 0, 0, 0, .string s⟩ := hM 1 _ rfl
          rw [hm] at hi; cases hi; cases hu
          refine callsIn_wide.2 ((cut_walk s hs w).mono ?_)
          rintro e w' ⟨y, rfl, hy⟩
          exact ⟨_, rfl, .inr (.inl ⟨rfl, rfl⟩), hy⟩
theorem memo_fn {K : Kx} (ot : OrcT FnCx K) : MemoT FnCx K 10 :=
  have m0 := memoT_succ (memoT_zero (K := K) (P := FnCx)) (e := Fnm0) rfl (memo_ok cx_fn ot memoT_zero Fnr0)
  have m1 := memoT_succ m0 (e := Fnm1) rfl (memo_ok cx_fn ot m0 Fnr1)
  have m2 := memoT_succ m1 (e := Fnm2) rfl (memo_ok cx_fn ot m1 Fnr2)
  have m3 := memoT_succ m2 (e := Fnm3) rfl (memo_ok cx_fn ot m2 Fnr3)
  have m4 := memoT_succ m3 (e := Fnm4) rfl (memo_ok cx_fn ot m3 Fnr4)
  have m5 := memoT_succ m4 (e := Fnm5) rfl (memo_ok cx_fn ot m4 Fnr5)
  have m6 := memoT_succ m5 (e := Fnm6) rfl (memo_ok cx_fn ot m5 Fnr6)
  have m7 := memoT_succ m6 (e := Fnm7) rfl (memo_ok cx_fn ot m6 Fnr7)
  have m8 := memoT_succ m7 (e := Fnm8) rfl (memo_ok cx_fn ot m7 Fnr8)
  memoT_succ m8 (e := Fnm9) rfl (memo_ok cx_fn ot m8 Fnr9)
theorem walk_fn (a : Int) (s : ByteArray) (hs : s.size ≤ maxLen) (W : World) :
    Calls Tryz.prog 4 #[.int .i64 a, .string s] W fun e W' => e = .returned (.bool true) ∧ Below W.heap.size W W' :=
  run_true cx_fn (vs := [.int .i64 a, .string s]) (args := [.chan (some 0), .chan (some 1)]) (orc_fn a s hs W) (memo_fn (orc_fn a s hs W)) (syM_nil rfl)
    (.cons _ _ _ _ (sym_vr (vs := [.int .i64 a, .string s]) rfl rfl) (.cons _ _ _ _ (sym_vr (vs := [.int .i64 a, .string s]) rfl rfl) .nil)) FnRun
#print axioms walk_fn
end Go.Proofs.YtbfepjofmkdafaaGreat
