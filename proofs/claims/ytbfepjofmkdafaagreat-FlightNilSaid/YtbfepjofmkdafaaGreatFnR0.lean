/- A known call is what its entry says: a closed fact for the kernel (own work). -/
import Derived.Test.YtbfepjofmkdafaaGreatFnCx
namespace Go.Proofs.YtbfepjofmkdafaaGreat
open Go.Ev
theorem Fnr0 : memoRun FnCx 0 100000 Fnm0 = true := by kernel_rfl
end Go.Proofs.YtbfepjofmkdafaaGreat
