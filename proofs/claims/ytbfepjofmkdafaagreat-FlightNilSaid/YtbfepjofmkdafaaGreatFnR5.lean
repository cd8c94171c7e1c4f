/- A known call is what its entry says: a closed fact for the kernel (own work). -/
import Derived.Test.YtbfepjofmkdafaaGreatFnCx
namespace Go.Proofs.YtbfepjofmkdafaaGreat
open Go.Ev
theorem Fnr5 : memoRun FnCx 5 100000 Fnm5 = true := by kernel_rfl
end Go.Proofs.YtbfepjofmkdafaaGreat
