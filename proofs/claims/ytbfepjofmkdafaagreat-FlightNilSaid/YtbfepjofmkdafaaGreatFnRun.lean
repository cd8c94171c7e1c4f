/- The run, the known calls taken for known: a closed fact for the kernel (own work). -/
import Derived.Test.YtbfepjofmkdafaaGreatFnCx
namespace Go.Proofs.YtbfepjofmkdafaaGreat
open Go.Ev
theorem FnRun : allTrue (evalCall FnCx 10 100000 4 [.chan (some 0), .chan (some 1)] (startH 2)) = true := by kernel_rfl
end Go.Proofs.YtbfepjofmkdafaaGreat
