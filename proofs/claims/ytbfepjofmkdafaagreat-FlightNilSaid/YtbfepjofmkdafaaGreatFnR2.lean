/- A known call is what its entry says: a closed fact for the kernel (own work). -/
import Derived.Test.YtbfepjofmkdafaaGreatFnCx
namespace Go.Proofs.YtbfepjofmkdafaaGreat
open Go.Ev
theorem Fnr2 : memoRun FnCx 2 100000 Fnm2 = true := by kernel_rfl
end Go.Proofs.YtbfepjofmkdafaaGreat
