/- The closed facts of the row, one by one (own work; the list is the builder's own). -/
import Derived.Test.YtbfepjofmkdafaaGreatFlightNilFa
import Derived.Test.YtbfepjofmkdafaaGreatFlightNilFb
import Derived.Test.YtbfepjofmkdafaaGreatLaid
import Derived.Test.YtbfepjofmkdafaaGreatFlightNilNamed
namespace Go.Proofs.YtbfepjofmkdafaaGreat.flightNilFacts
open Go
set_option linter.unusedVariables false
theorem f1 : (fun (P : Program) (f : FuncId) (fn : Func) (s : ChangeSpec) (c : OpenClaim) => (laidOutB P : Bool)) Tryz.prog 4 Tryz.f4 Rows.flightNilSpec Rows.flightNilRow = true := laidAll
theorem f12 : (fun (P : Program) (f : FuncId) (fn : Func) (s : ChangeSpec) (c : OpenClaim) => ((c.named == P.varsNamed f) : Bool)) Tryz.prog 4 Tryz.f4 Rows.flightNilSpec Rows.flightNilRow = true := by
  show (Rows.flightNilRow.named == Tryz.prog.varsNamed 4) = true
  rw [flightNilNamed.named]
  rfl
theorem f9 : (fun (P : Program) (f : FuncId) (fn : Func) (s : ChangeSpec) (c : OpenClaim) => ((c.inPlace == P.inPlace f) : Bool)) Tryz.prog 4 Tryz.f4 Rows.flightNilSpec Rows.flightNilRow = true := by
  show (Rows.flightNilRow.inPlace == Tryz.prog.inPlace 4) = true
  rw [flightNilNamed.inPlace]
  exact beq_self_eq_true _
theorem f10 : (fun (P : Program) (f : FuncId) (fn : Func) (s : ChangeSpec) (c : OpenClaim) => ((c.unfollowed == P.unfollowed f) : Bool)) Tryz.prog 4 Tryz.f4 Rows.flightNilSpec Rows.flightNilRow = true := by
  show (Rows.flightNilRow.unfollowed == Tryz.prog.unfollowed 4) = true
  rw [flightNilNamed.unfollowed]
  rfl
theorem f11 : (fun (P : Program) (f : FuncId) (fn : Func) (s : ChangeSpec) (c : OpenClaim) => ((c.recurses == P.recurses f) : Bool)) Tryz.prog 4 Tryz.f4 Rows.flightNilSpec Rows.flightNilRow = true := by
  show (Rows.flightNilRow.recurses == Tryz.prog.recurses 4) = true
  rw [flightNilNamed.recurses]
  rfl
theorem and_intro {a b : Bool} (ha : a = true) (hb : b = true) : (a && b) = true := by rw [ha, hb]; rfl
set_option maxRecDepth 100000 in
theorem all : joinedFacts Tryz.prog 4 Tryz.f4 Rows.flightNilSpec Rows.flightNilRow = true := by
  unfold joinedFacts
  exact (and_intro (and_intro (and_intro (and_intro (and_intro (and_intro (and_intro (and_intro (and_intro (and_intro (and_intro (and_intro (and_intro (and_intro (and_intro (and_intro (and_intro (and_intro (and_intro (and_intro (and_intro (and_intro (and_intro (and_intro (and_intro (and_intro (and_intro (and_intro (and_intro (and_intro (and_intro f0 f1) f2) f3) f4) f5) f6) f7) f8) f9) f10) f11) f12) f13) f14) f15) f16) f17) f18) f19) f20) f21) f22) f23) f24) f25) f26) f27) f28) f29) f30) f31)
end Go.Proofs.YtbfepjofmkdafaaGreat.flightNilFacts
