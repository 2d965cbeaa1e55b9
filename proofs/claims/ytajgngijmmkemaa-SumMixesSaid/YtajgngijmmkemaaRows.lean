/-
  No cell of these rows narrows 'for every input' (looked for: loops, veiled, ifaces, maps, wideKeys, modest, calm, conditions, laid).
  DERIVED. THE GIVEN ROWS OF THIS SEAT. 8 by the template 'for every input the law returns true; each argument reads behind the call as it read before'; 0 by the template 'total and deterministic' (their statements: YtajgngijmmkemaaTotals.lean).
  GIVEN WITH THE SEED: the statements are not yours to turn. If you find one false, say at which input.
  Laid BY PROGRAM, IN A SANDBOX (cutbox-rows.mjs): the forced cells as the released guide's own fill.sh prints them over the translation 66c8e231366027c1… (all of the seat's roots in one cut). By AI agents, Wed Nov 11 2026. No macro, syntax, notation, axiom, sorry.
-/
import Derived.Test.YtajgngijmmkemaaChecked
import GoSem.Claim
import GoSem.ClaimJoined
import GoSem.ClaimMapViews
import Derived.JoinedTies
import Derived.KernelRfl
namespace Go.Proofs.Ytajgngijmmkemaa
/- THE CELL 'sum', in the pinned program and in every row, IS THE sha256 OF THE DUMP (.gsa) THAT YtajgngijmmkemaaProg.lean LOADS. Nothing in Lean hashes anything: it is a label: what it is worth is what the hold of that sum in a sandbox is worth. -/
noncomputable def Try.pinned : Pinned := { name := "ytajgngijmmkemaa", sum := "66c8e231366027c1868b545f94cd6dcd2e4b6706dd60f9d67ae4abbb7ae50a98", checked := Try.checked }
namespace Rows
def none {H : Type} : Left H := { results := [], args := [] }

/-- 'furlonglaw1.SumKnown': WHATEVER THE INPUT: true; the input reads as it did. -/
def sumKnownSpec : ChangeSpec := { name := "sumKnown", fn := fun _ => fun
  | [] => { results := [.lit (.bool true)], args := [] }
  | _ => none }
def sumKnownRow : OpenClaim := { program := "ytajgngijmmkemaa", sum := "66c8e231366027c1868b545f94cd6dcd2e4b6706dd60f9d67ae4abbb7ae50a98", func := "furlong/furlonglaw1.SumKnown", spec := "sumKnown", apart := false }
def SumKnownSaid : Prop := sumKnownRow.holds Try.pinned (OpenSpec.ofChange sumKnownSpec)

/-- ITS FALSE NEIGHBOUR: 'it returns false'. Refute it at one input. -/
def sumKnownWrong : ChangeSpec := { name := "sumKnown", fn := fun _ => fun
  | [] => { results := [.lit (.bool false)], args := [] }
  | _ => none }
def SumKnownWrongFalsely : Prop := sumKnownRow.holds Try.pinned (OpenSpec.ofChange sumKnownWrong)

/-- 'furlonglaw1.Sums': WHATEVER THE INPUT: true; the input reads as it did. -/
def sumsSpec : ChangeSpec := { name := "sums", fn := fun _ => fun
  | [d1, d2] => { results := [.lit (.bool true)], args := [d1, d2] }
  | _ => none }
def sumsRow : OpenClaim := { program := "ytajgngijmmkemaa", sum := "66c8e231366027c1868b545f94cd6dcd2e4b6706dd60f9d67ae4abbb7ae50a98", func := "furlong/furlonglaw1.Sums", spec := "sums", apart := false }
def SumsSaid : Prop := sumsRow.holds Try.pinned (OpenSpec.ofChange sumsSpec)

/-- ITS FALSE NEIGHBOUR: 'it returns false'. Refute it at one input. -/
def sumsWrong : ChangeSpec := { name := "sums", fn := fun _ => fun
  | [d1, d2] => { results := [.lit (.bool false)], args := [d1, d2] }
  | _ => none }
def SumsWrongFalsely : Prop := sumsRow.holds Try.pinned (OpenSpec.ofChange sumsWrong)

/-- 'furlonglaw1.SumParts': WHATEVER THE INPUT: true; the input reads as it did. -/
def sumPartsSpec : ChangeSpec := { name := "sumParts", fn := fun _ => fun
  | [d1, d2, d3, d4] => { results := [.lit (.bool true)], args := [d1, d2, d3, d4] }
  | _ => none }
def sumPartsRow : OpenClaim := { program := "ytajgngijmmkemaa", sum := "66c8e231366027c1868b545f94cd6dcd2e4b6706dd60f9d67ae4abbb7ae50a98", func := "furlong/furlonglaw1.SumParts", spec := "sumParts", apart := false }
def SumPartsSaid : Prop := sumPartsRow.holds Try.pinned (OpenSpec.ofChange sumPartsSpec)

/-- ITS FALSE NEIGHBOUR: 'it returns false'. Refute it at one input. -/
def sumPartsWrong : ChangeSpec := { name := "sumParts", fn := fun _ => fun
  | [d1, d2, d3, d4] => { results := [.lit (.bool false)], args := [d1, d2, d3, d4] }
  | _ => none }
def SumPartsWrongFalsely : Prop := sumPartsRow.holds Try.pinned (OpenSpec.ofChange sumPartsWrong)

/-- 'furlonglaw1.SumMixes': WHATEVER THE INPUT: true; the input reads as it did. -/
def sumMixesSpec : ChangeSpec := { name := "sumMixes", fn := fun _ => fun
  | [d1, d2] => { results := [.lit (.bool true)], args := [d1, d2] }
  | _ => none }
def sumMixesRow : OpenClaim := { program := "ytajgngijmmkemaa", sum := "66c8e231366027c1868b545f94cd6dcd2e4b6706dd60f9d67ae4abbb7ae50a98", func := "furlong/furlonglaw1.SumMixes", spec := "sumMixes", apart := false }
def SumMixesSaid : Prop := sumMixesRow.holds Try.pinned (OpenSpec.ofChange sumMixesSpec)

/-- ITS FALSE NEIGHBOUR: 'it returns false'. Refute it at one input. -/
def sumMixesWrong : ChangeSpec := { name := "sumMixes", fn := fun _ => fun
  | [d1, d2] => { results := [.lit (.bool false)], args := [d1, d2] }
  | _ => none }
def SumMixesWrongFalsely : Prop := sumMixesRow.holds Try.pinned (OpenSpec.ofChange sumMixesWrong)

/-- 'furlonglaw1.SumRows': WHATEVER THE INPUT: true; the input reads as it did. -/
def sumRowsSpec : ChangeSpec := { name := "sumRows", fn := fun _ => fun
  | [d] => { results := [.lit (.bool true)], args := [d] }
  | _ => none }
def sumRowsRow : OpenClaim := { program := "ytajgngijmmkemaa", sum := "66c8e231366027c1868b545f94cd6dcd2e4b6706dd60f9d67ae4abbb7ae50a98", func := "furlong/furlonglaw1.SumRows", spec := "sumRows", apart := false }
def SumRowsSaid : Prop := sumRowsRow.holds Try.pinned (OpenSpec.ofChange sumRowsSpec)

/-- ITS FALSE NEIGHBOUR: 'it returns false'. Refute it at one input. -/
def sumRowsWrong : ChangeSpec := { name := "sumRows", fn := fun _ => fun
  | [d] => { results := [.lit (.bool false)], args := [d] }
  | _ => none }
def SumRowsWrongFalsely : Prop := sumRowsRow.holds Try.pinned (OpenSpec.ofChange sumRowsWrong)

/-- 'furlonglaw9.Frames': WHATEVER THE INPUT: true; the input reads as it did. -/
def framesSpec : ChangeSpec := { name := "frames", fn := fun _ => fun
  | [d1, d2, d3] => { results := [.lit (.bool true)], args := [d1, d2, d3] }
  | _ => none }
def framesRow : OpenClaim := { program := "ytajgngijmmkemaa", sum := "66c8e231366027c1868b545f94cd6dcd2e4b6706dd60f9d67ae4abbb7ae50a98", func := "furlong/furlonglaw9.Frames", spec := "frames", apart := false }
def FramesSaid : Prop := framesRow.holds Try.pinned (OpenSpec.ofChange framesSpec)

/-- ITS FALSE NEIGHBOUR: 'it returns false'. Refute it at one input. -/
def framesWrong : ChangeSpec := { name := "frames", fn := fun _ => fun
  | [d1, d2, d3] => { results := [.lit (.bool false)], args := [d1, d2, d3] }
  | _ => none }
def FramesWrongFalsely : Prop := framesRow.holds Try.pinned (OpenSpec.ofChange framesWrong)

/-- 'furlonglaw9.FrameBack': WHATEVER THE INPUT: true; the input reads as it did. -/
def frameBackSpec : ChangeSpec := { name := "frameBack", fn := fun _ => fun
  | [d1, d2, d3, d4] => { results := [.lit (.bool true)], args := [d1, d2, d3, d4] }
  | _ => none }
def frameBackRow : OpenClaim := { program := "ytajgngijmmkemaa", sum := "66c8e231366027c1868b545f94cd6dcd2e4b6706dd60f9d67ae4abbb7ae50a98", func := "furlong/furlonglaw9.FrameBack", spec := "frameBack", apart := false }
def FrameBackSaid : Prop := frameBackRow.holds Try.pinned (OpenSpec.ofChange frameBackSpec)

/-- ITS FALSE NEIGHBOUR: 'it returns false'. Refute it at one input. -/
def frameBackWrong : ChangeSpec := { name := "frameBack", fn := fun _ => fun
  | [d1, d2, d3, d4] => { results := [.lit (.bool false)], args := [d1, d2, d3, d4] }
  | _ => none }
def FrameBackWrongFalsely : Prop := frameBackRow.holds Try.pinned (OpenSpec.ofChange frameBackWrong)

/-- 'furlonglaw9.FrameSizes': WHATEVER THE INPUT: true; the input reads as it did. -/
def frameSizesSpec : ChangeSpec := { name := "frameSizes", fn := fun _ => fun
  | [d] => { results := [.lit (.bool true)], args := [d] }
  | _ => none }
def frameSizesRow : OpenClaim := { program := "ytajgngijmmkemaa", sum := "66c8e231366027c1868b545f94cd6dcd2e4b6706dd60f9d67ae4abbb7ae50a98", func := "furlong/furlonglaw9.FrameSizes", spec := "frameSizes", apart := false }
def FrameSizesSaid : Prop := frameSizesRow.holds Try.pinned (OpenSpec.ofChange frameSizesSpec)

/-- ITS FALSE NEIGHBOUR: 'it returns false'. Refute it at one input. -/
def frameSizesWrong : ChangeSpec := { name := "frameSizes", fn := fun _ => fun
  | [d] => { results := [.lit (.bool false)], args := [d] }
  | _ => none }
def FrameSizesWrongFalsely : Prop := frameSizesRow.holds Try.pinned (OpenSpec.ofChange frameSizesWrong)

/- THE SECOND FORM. 'bulk': how many values and letters a reading holds, each counted each time it is reached (what is shared counts as often as it is met; a slice's spare places count too). A statement '..UptoSaid' is the law's where the arguments, and the package variables that the reading takes, are together of bulk at most 1048576: NARROWER than '..Said'. Prove '..Said' where nothing that the law and all that it calls make is longer than what came in: it says more and counts as full. Else prove '..UptoSaid'. A law counts once. -/
mutual
def uptoBulk {H : Type} : DataW H → Nat
  | .lit (.string bytes) => bytes.length + 1
  | .lit _ => 1
  | .nil => 1
  | .ptr d => uptoBulk d + 1
  | .slice elems spare => uptoBulkAll elems + uptoBulkAll spare + 1
  | .agg parts => uptoBulkAll parts + 1
  | .iface _ d => uptoBulk d + 1
  | .map entries => uptoBulkEntries entries + 1
  | .held _ => 1
def uptoBulkAll {H : Type} : List (DataW H) → Nat
  | [] => 0
  | d :: r => uptoBulk d + uptoBulkAll r
def uptoBulkEntries {H : Type} : List (Lit × DataW H) → Nat
  | [] => 0
  | x :: r => uptoBulkEntry x + uptoBulkEntries r
def uptoBulkEntry {H : Type} : Lit × DataW H → Nat
  | (.string bytes, d) => bytes.length + uptoBulk d + 1
  | (_, d) => uptoBulk d + 1
 end
def uptoSmall : (H : Type) → List (DataW H) → Bool := fun _ ds => decide (uptoBulkAll ds ≤ 1048576)
def OpenSpec.upto (s : _root_.Go.ChangeSpec) : _root_.Go.OpenSpec := { _root_.Go.OpenSpec.ofChange s with cond := some uptoSmall }

/-- 'furlonglaw1.SumKnown', WHERE WHAT IT READS IS OF BULK AT MOST 1048576: true; the input reads as it did. -/
def sumKnownUptoRow : OpenClaim := { program := "ytajgngijmmkemaa", sum := "66c8e231366027c1868b545f94cd6dcd2e4b6706dd60f9d67ae4abbb7ae50a98", func := "furlong/furlonglaw1.SumKnown", spec := "sumKnown", apart := false, narrowed := true }
def SumKnownUptoSaid : Prop := sumKnownUptoRow.holds Try.pinned (OpenSpec.upto sumKnownSpec)

/-- 'furlonglaw1.Sums', WHERE WHAT IT READS IS OF BULK AT MOST 1048576: true; the input reads as it did. -/
def sumsUptoRow : OpenClaim := { program := "ytajgngijmmkemaa", sum := "66c8e231366027c1868b545f94cd6dcd2e4b6706dd60f9d67ae4abbb7ae50a98", func := "furlong/furlonglaw1.Sums", spec := "sums", apart := false, narrowed := true }
def SumsUptoSaid : Prop := sumsUptoRow.holds Try.pinned (OpenSpec.upto sumsSpec)

/-- 'furlonglaw1.SumParts', WHERE WHAT IT READS IS OF BULK AT MOST 1048576: true; the input reads as it did. -/
def sumPartsUptoRow : OpenClaim := { program := "ytajgngijmmkemaa", sum := "66c8e231366027c1868b545f94cd6dcd2e4b6706dd60f9d67ae4abbb7ae50a98", func := "furlong/furlonglaw1.SumParts", spec := "sumParts", apart := false, narrowed := true }
def SumPartsUptoSaid : Prop := sumPartsUptoRow.holds Try.pinned (OpenSpec.upto sumPartsSpec)

/-- 'furlonglaw1.SumMixes', WHERE WHAT IT READS IS OF BULK AT MOST 1048576: true; the input reads as it did. -/
def sumMixesUptoRow : OpenClaim := { program := "ytajgngijmmkemaa", sum := "66c8e231366027c1868b545f94cd6dcd2e4b6706dd60f9d67ae4abbb7ae50a98", func := "furlong/furlonglaw1.SumMixes", spec := "sumMixes", apart := false, narrowed := true }
def SumMixesUptoSaid : Prop := sumMixesUptoRow.holds Try.pinned (OpenSpec.upto sumMixesSpec)

/-- 'furlonglaw1.SumRows', WHERE WHAT IT READS IS OF BULK AT MOST 1048576: true; the input reads as it did. -/
def sumRowsUptoRow : OpenClaim := { program := "ytajgngijmmkemaa", sum := "66c8e231366027c1868b545f94cd6dcd2e4b6706dd60f9d67ae4abbb7ae50a98", func := "furlong/furlonglaw1.SumRows", spec := "sumRows", apart := false, narrowed := true }
def SumRowsUptoSaid : Prop := sumRowsUptoRow.holds Try.pinned (OpenSpec.upto sumRowsSpec)

/-- 'furlonglaw9.Frames', WHERE WHAT IT READS IS OF BULK AT MOST 1048576: true; the input reads as it did. -/
def framesUptoRow : OpenClaim := { program := "ytajgngijmmkemaa", sum := "66c8e231366027c1868b545f94cd6dcd2e4b6706dd60f9d67ae4abbb7ae50a98", func := "furlong/furlonglaw9.Frames", spec := "frames", apart := false, narrowed := true }
def FramesUptoSaid : Prop := framesUptoRow.holds Try.pinned (OpenSpec.upto framesSpec)

/-- 'furlonglaw9.FrameBack', WHERE WHAT IT READS IS OF BULK AT MOST 1048576: true; the input reads as it did. -/
def frameBackUptoRow : OpenClaim := { program := "ytajgngijmmkemaa", sum := "66c8e231366027c1868b545f94cd6dcd2e4b6706dd60f9d67ae4abbb7ae50a98", func := "furlong/furlonglaw9.FrameBack", spec := "frameBack", apart := false, narrowed := true }
def FrameBackUptoSaid : Prop := frameBackUptoRow.holds Try.pinned (OpenSpec.upto frameBackSpec)

/-- 'furlonglaw9.FrameSizes', WHERE WHAT IT READS IS OF BULK AT MOST 1048576: true; the input reads as it did. -/
def frameSizesUptoRow : OpenClaim := { program := "ytajgngijmmkemaa", sum := "66c8e231366027c1868b545f94cd6dcd2e4b6706dd60f9d67ae4abbb7ae50a98", func := "furlong/furlonglaw9.FrameSizes", spec := "frameSizes", apart := false, narrowed := true }
def FrameSizesUptoSaid : Prop := frameSizesUptoRow.holds Try.pinned (OpenSpec.upto frameSizesSpec)

end Rows
end Go.Proofs.Ytajgngijmmkemaa
