/- Proved: the published check sums that furlonglaw1.SumKnown names are what the program reckons; no conditions. -/
import Derived.Test.YtajgngijmmkemaaPSumKnownx1
namespace Go.Proofs.Ytajgngijmmkemaa.Pure
open Go.RowKit Go.Proofs.Ytajgngijmmkemaa.PSumKnown Go.Proofs.YtajgngijmmkemaaW.PrintWords Go.Proofs.YtajgngijmmkemaaW.PrintLast

theorem SumKnown : furlonglaw1_SumKnown.Pure := by
  exact ⟨600, by decide +kernel⟩

end Go.Proofs.Ytajgngijmmkemaa.Pure
