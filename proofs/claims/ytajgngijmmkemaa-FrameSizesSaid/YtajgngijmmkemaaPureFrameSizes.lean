/- Proved: a frame has as many sectors as its text with twelve bytes more fills, at every size, and what may not be is refused (furlonglaw9.FrameSizes); no conditions. -/
import Derived.Test.YtajgngijmmkemaaTells
import Derived.Test.YtajgngijmmkemaaSizesWalk
namespace Go.Proofs.Ytajgngijmmkemaa.Pure
open Go.RowKit Go.Proofs.Ytajgngijmmkemaa.PFrames Go.Proofs.Ytajgngijmmkemaa.PFrameSizes Go.Proofs.YtajgngijmmkemaaW.PrintWords Go.Proofs.YtajgngijmmkemaaW.PrintLast
open Tells FrameLaw

theorem masked (x : Int) : 0 ≤ Go.bits .and .i64 x 16383 ∧ Go.bits .and .i64 x 16383 ≤ 16383 := by
  show 0 ≤ IntKind.i64.wrap (((BitVec.ofInt 64 x) &&& (BitVec.ofInt 64 16383)).toNat : Int) ∧ IntKind.i64.wrap (((BitVec.ofInt 64 x) &&& (BitVec.ofInt 64 16383)).toNat : Int) ≤ 16383
  have h : ((BitVec.ofInt 64 x) &&& (BitVec.ofInt 64 16383)).toNat ≤ 16383 := by
    rw [BitVec.toNat_and, show (BitVec.ofInt 64 16383).toNat = 16383 from rfl]
    exact Nat.and_le_right
  rw [IntKind.wrap_i64]
  omega

theorem FrameSizes : furlonglaw9_FrameSizes.Pure := by
  intro a0 _
  refine ⟨100000, ?_⟩
  have hm := masked a0
  unfold furlonglaw9_FrameSizes.f
  generalize Go.bits .and .i64 a0 16383 = m at hm
  have hn : (((strOfNums (List.replicate m.toNat 0)).size : Nat) : Int) = m := by rw [size_nums, List.length_replicate]; omega
  rw [awakes _ (by omega), put_tells _ _ _ (by omega), put_tells (-1) _ _ (by omega), put_tells 4294967296 _ _ (by omega)]
  simp only [Option.bind_some, if_true, furlonglaw0_Num.f, sectors_tells]
  have p1 : putR (-1) ⟨#[]⟩ = (⟨#[]⟩, 900) := by unfold putR; rw [if_pos (Or.inl (by omega))]
  have p2 : putR 4294967296 ⟨#[]⟩ = (⟨#[]⟩, 900) := by unfold putR; rw [if_pos (Or.inr (Or.inl (by omega)))]
  rw [if_pos hm.1, if_pos (by omega), p1, p2]
  by_cases h : m > 8192
  · have p3 : putR 7 (strOfNums (List.replicate m.toNat 0)) = (⟨#[]⟩, 900) := by unfold putR; rw [if_pos (Or.inr (Or.inr (by omega)))]
    have hs : sectors m = 0 := by unfold sectors; rw [if_pos (Or.inr h)]
    rw [if_pos h, p3, hs]
    simp [Lib.toList_data]
  · have p3 : putR 7 (strOfNums (List.replicate m.toNat 0)) = (frameOf 7 (strOfNums (List.replicate m.toNat 0)), 0) := by unfold putR; rw [if_neg (by omega)]
    have hz := frame_size 7 (strOfNums (List.replicate m.toNat 0)) (by omega)
    rw [hn] at hz
    have hs := sectors_of m hm.1 (by omega)
    have e1 : wrap64 (Int.tdiv (wrap64 ((wrap64 ((wrap64 (m + 12)) + 64)) - 1)) 64) = sectors m := by rw [Int.add_comm m 12]; exact sectors_go m hm.1 (by omega)
    have e2 : wrap64 (sectors m * 64) = sectors m * 64 := by rw [hs]; unfold wrap64; omega
    rw [if_neg h, p3, e1, e2, hz]
    simp

end Go.Proofs.Ytajgngijmmkemaa.Pure
