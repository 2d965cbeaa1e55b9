/- NodeBusy: closed facts of the statement over the program, by the kernel. -/
import Derived.Test.YtohmaikcmaapjaaGreatRows
import Derived.WalkKit
import Derived.ProofKit
namespace Go.Proofs.YtohmaikcmaapjaaGreat.nodeBusy
set_option maxRecDepth 100000
theorem fact_laidOut : laidOutB Tryz.pinned.checked.prog = true := by kernel_rfl
theorem fact_mapsRowed : mapsRowed Tryz.pinned.checked.prog = true := by kernel_rfl
end Go.Proofs.YtohmaikcmaapjaaGreat.nodeBusy
