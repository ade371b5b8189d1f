/- What the law FnBanks computes is true at every input; no condition beyond the row's own. -/
import Derived.Test.YtcgpomicgbmdlaaBf
namespace Go.Proofs.Ytcgpomicgbmdlaa.Pure
open Go.RowKit Go.Proofs.Ytcgpomicgbmdlaa.PFnBanks Go.Proofs.YtcgpomicgbmdlaaW.PrintWords Go.Proofs.YtcgpomicgbmdlaaW.PrintLast

/-- What the law's text computes answers true at every input. -/
theorem FnBanks : laws_FnBanks.Pure := Bk.main_

end Go.Proofs.Ytcgpomicgbmdlaa.Pure
