/- NodeBusy: runs of the interpreter, a case each: written by a program. -/
import Derived.Test.YtohmaikcmaapjaaGreatLBusy
namespace Go.Proofs.YtohmaikcmaapjaaGreat.LI
set_option maxRecDepth 100000
set_option maxHeartbeats 0
theorem bF2 : runB false [((fv 1), (fv 3), false), ((fv 4), (.c (.ofNat 4294967295)), true), ((.c (.ofNat 0)), (fv 4), true), ((fv 3), (.c (.ofNat 4294967295)), true), ((.c (.ofNat 0)), (fv 3), true), ((fv 2), (.c (.ofNat 4294967295)), true), ((.c (.ofNat 0)), (fv 2), true), ((fv 1), (.c (.ofNat 4294967295)), true), ((.c (.ofNat 0)), (fv 1), true)] = true := by decide +kernel
theorem bF6 : runB false [((.c (.ofNat 0)), (fv 3), false), ((fv 2), (.c (.ofNat 4294967295)), true), ((.c (.ofNat 0)), (fv 2), true), ((fv 1), (.c (.ofNat 4294967295)), true), ((.c (.ofNat 0)), (fv 1), true)] = true := by decide +kernel
theorem bF10 : runB false [((.c (.ofNat 0)), (fv 1), false)] = true := by decide +kernel
theorem bT3 : runB true [(yN, (fv 2), false), ((.c (.ofNat 4294967295)), (fv 1), true), ((fv 2), yN, true), (yN, (fv 4), false), ((.c (.ofNat 4294967295)), (fv 3), true), ((fv 2), (fv 4), true), ((fv 1), (fv 3), true), ((fv 4), (.c (.ofNat 4294967295)), true), ((.c (.ofNat 0)), (fv 4), true), ((fv 3), (.c (.ofNat 4294967295)), true), ((.c (.ofNat 0)), (fv 3), true), ((fv 2), (.c (.ofNat 4294967295)), true), ((.c (.ofNat 0)), (fv 2), true), ((fv 1), (.c (.ofNat 4294967295)), true), ((.c (.ofNat 0)), (fv 1), true)] = true := by decide +kernel
theorem bT7 : runB true [((fv 1), (fv 3), false), ((fv 4), (.c (.ofNat 4294967295)), true), ((.c (.ofNat 0)), (fv 4), true), ((fv 3), (.c (.ofNat 4294967295)), true), ((.c (.ofNat 0)), (fv 3), true), ((fv 2), (.c (.ofNat 4294967295)), true), ((.c (.ofNat 0)), (fv 2), true), ((fv 1), (.c (.ofNat 4294967295)), true), ((.c (.ofNat 0)), (fv 1), true)] = true := by decide +kernel
theorem bT11 : runB true [((.c (.ofNat 0)), (fv 3), false), ((fv 2), (.c (.ofNat 4294967295)), true), ((.c (.ofNat 0)), (fv 2), true), ((fv 1), (.c (.ofNat 4294967295)), true), ((.c (.ofNat 0)), (fv 1), true)] = true := by decide +kernel
theorem bT15 : runB true [((.c (.ofNat 0)), (fv 1), false)] = true := by decide +kernel
end Go.Proofs.YtohmaikcmaapjaaGreat.LI
