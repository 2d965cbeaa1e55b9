/- NodeBusy: closed facts of the statement over the program, by the kernel. -/
import Derived.Test.YtohmaikcmaapjaaGreatRows
import Derived.WalkKit
import Derived.ProofKit
namespace Go.Proofs.YtohmaikcmaapjaaGreat.nodeBusy
set_option maxRecDepth 100000
theorem fact_recu : (Rows.nodeBusyRow.recurses == Program.recurses Tryz.pinned.checked.prog 3) = true := by kernel_rfl
theorem fact_named : (Rows.nodeBusyRow.named == Program.varsNamed Tryz.pinned.checked.prog 3) = true := by kernel_rfl
end Go.Proofs.YtohmaikcmaapjaaGreat.nodeBusy
