/- The closed facts of the row, one by one (own work; the list is the builder's own). -/
import Derived.Test.YtbfepjofmkdafaaGreatRows
import Derived.JoinedOf
import Derived.KernelRfl
namespace Go.Proofs.YtbfepjofmkdafaaGreat.flightNilFacts
open Go
set_option linter.unusedVariables false
theorem f0 : (fun (P : Program) (f : FuncId) (fn : Func) (s : ChangeSpec) (c : OpenClaim) => (c.wf (OpenSpec.ofChange s) : Bool)) Tryz.prog 4 Tryz.f4 Rows.flightNilSpec Rows.flightNilRow = true := by kernel_rfl
theorem f2 : (fun (P : Program) (f : FuncId) (fn : Func) (s : ChangeSpec) (c : OpenClaim) => (mapsRowed P : Bool)) Tryz.prog 4 Tryz.f4 Rows.flightNilSpec Rows.flightNilRow = true := by kernel_rfl
theorem f3 : (fun (P : Program) (f : FuncId) (fn : Func) (s : ChangeSpec) (c : OpenClaim) => (fn.params.all (P.readableRec ·) : Bool)) Tryz.prog 4 Tryz.f4 Rows.flightNilSpec Rows.flightNilRow = true := by kernel_rfl
theorem f4 : (fun (P : Program) (f : FuncId) (fn : Func) (s : ChangeSpec) (c : OpenClaim) => (namedTie P c.named s.vars : Bool)) Tryz.prog 4 Tryz.f4 Rows.flightNilSpec Rows.flightNilRow = true := by kernel_rfl
theorem f5 : (fun (P : Program) (f : FuncId) (fn : Func) (s : ChangeSpec) (c : OpenClaim) => ((c.stops == []) : Bool)) Tryz.prog 4 Tryz.f4 Rows.flightNilSpec Rows.flightNilRow = true := by kernel_rfl
theorem f6 : (fun (P : Program) (f : FuncId) (fn : Func) (s : ChangeSpec) (c : OpenClaim) => ((P.stops == []) : Bool)) Tryz.prog 4 Tryz.f4 Rows.flightNilSpec Rows.flightNilRow = true := by kernel_rfl
theorem f7 : (fun (P : Program) (f : FuncId) (fn : Func) (s : ChangeSpec) (c : OpenClaim) => ((c.knobs == []) : Bool)) Tryz.prog 4 Tryz.f4 Rows.flightNilSpec Rows.flightNilRow = true := by kernel_rfl
theorem f8 : (fun (P : Program) (f : FuncId) (fn : Func) (s : ChangeSpec) (c : OpenClaim) => ((P.stopKnobs == []) : Bool)) Tryz.prog 4 Tryz.f4 Rows.flightNilSpec Rows.flightNilRow = true := by kernel_rfl
end Go.Proofs.YtbfepjofmkdafaaGreat.flightNilFacts
