/- NodeBusy: runs of the interpreter, a case each: written by a program. -/
import Derived.Test.YtohmaikcmaapjaaGreatLBusy
namespace Go.Proofs.YtohmaikcmaapjaaGreat.LI
set_option maxRecDepth 100000
set_option maxHeartbeats 0
theorem bF1 : runB false [((fv 2), (fv 4), false), ((fv 1), (fv 3), true), ((fv 4), (.c (.ofNat 4294967295)), true), ((.c (.ofNat 0)), (fv 4), true), ((fv 3), (.c (.ofNat 4294967295)), true), ((.c (.ofNat 0)), (fv 3), true), ((fv 2), (.c (.ofNat 4294967295)), true), ((.c (.ofNat 0)), (fv 2), true), ((fv 1), (.c (.ofNat 4294967295)), true), ((.c (.ofNat 0)), (fv 1), true)] = true := by decide +kernel
theorem bF5 : runB false [((fv 3), (.c (.ofNat 4294967295)), false), ((.c (.ofNat 0)), (fv 3), true), ((fv 2), (.c (.ofNat 4294967295)), true), ((.c (.ofNat 0)), (fv 2), true), ((fv 1), (.c (.ofNat 4294967295)), true), ((.c (.ofNat 0)), (fv 1), true)] = true := by decide +kernel
theorem bF9 : runB false [((fv 1), (.c (.ofNat 4294967295)), false), ((.c (.ofNat 0)), (fv 1), true)] = true := by decide +kernel
theorem bT2 : runB true [((fv 4), yN, false), ((.c (.ofNat 4294967295)), (fv 1), false), ((fv 2), yN, false), (yN, (fv 4), true), ((.c (.ofNat 4294967295)), (fv 3), true), ((fv 2), (fv 4), true), ((fv 1), (fv 3), true), ((fv 4), (.c (.ofNat 4294967295)), true), ((.c (.ofNat 0)), (fv 4), true), ((fv 3), (.c (.ofNat 4294967295)), true), ((.c (.ofNat 0)), (fv 3), true), ((fv 2), (.c (.ofNat 4294967295)), true), ((.c (.ofNat 0)), (fv 2), true), ((fv 1), (.c (.ofNat 4294967295)), true), ((.c (.ofNat 0)), (fv 1), true)] = true := by decide +kernel
theorem bT6 : runB true [((fv 2), (fv 4), false), ((fv 1), (fv 3), true), ((fv 4), (.c (.ofNat 4294967295)), true), ((.c (.ofNat 0)), (fv 4), true), ((fv 3), (.c (.ofNat 4294967295)), true), ((.c (.ofNat 0)), (fv 3), true), ((fv 2), (.c (.ofNat 4294967295)), true), ((.c (.ofNat 0)), (fv 2), true), ((fv 1), (.c (.ofNat 4294967295)), true), ((.c (.ofNat 0)), (fv 1), true)] = true := by decide +kernel
theorem bT10 : runB true [((fv 3), (.c (.ofNat 4294967295)), false), ((.c (.ofNat 0)), (fv 3), true), ((fv 2), (.c (.ofNat 4294967295)), true), ((.c (.ofNat 0)), (fv 2), true), ((fv 1), (.c (.ofNat 4294967295)), true), ((.c (.ofNat 0)), (fv 1), true)] = true := by decide +kernel
theorem bT14 : runB true [((fv 1), (.c (.ofNat 4294967295)), false), ((.c (.ofNat 0)), (fv 1), true)] = true := by decide +kernel
end Go.Proofs.YtohmaikcmaapjaaGreat.LI
