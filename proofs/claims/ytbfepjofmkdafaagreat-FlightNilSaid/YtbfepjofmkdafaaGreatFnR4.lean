/- A known call is what its entry says: a closed fact for the kernel (own work). -/
import Derived.Test.YtbfepjofmkdafaaGreatFnCx
namespace Go.Proofs.YtbfepjofmkdafaaGreat
open Go.Ev
theorem Fnr4 : memoRun FnCx 4 100000 Fnm4 = true := by kernel_rfl
end Go.Proofs.YtbfepjofmkdafaaGreat
