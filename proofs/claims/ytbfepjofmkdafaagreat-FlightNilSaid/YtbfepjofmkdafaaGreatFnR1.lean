/- A known call is what its entry says: a closed fact for the kernel (own work). -/
import Derived.Test.YtbfepjofmkdafaaGreatFnCx
namespace Go.Proofs.YtbfepjofmkdafaaGreat
open Go.Ev
theorem Fnr1 : memoRun FnCx 1 100000 Fnm1 = true := by kernel_rfl
end Go.Proofs.YtbfepjofmkdafaaGreat
