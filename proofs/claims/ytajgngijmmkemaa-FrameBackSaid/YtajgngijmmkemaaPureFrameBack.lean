/- Proved: a frame that is put comes back, whatever stands behind it; under another number, or cut, it is none; and it is laid as the document says (furlonglaw9.FrameBack), for every number and texts; no conditions. -/
import Derived.Test.YtajgngijmmkemaaTells
import Derived.Test.YtajgngijmmkemaaFrameThere
import Derived.Test.YtajgngijmmkemaaBackWalk
namespace Go.Proofs.Ytajgngijmmkemaa.Pure
open Go.RowKit Go.Proofs.Ytajgngijmmkemaa.PFrames Go.Proofs.Ytajgngijmmkemaa.PFrameBack Go.Proofs.YtajgngijmmkemaaW.PrintWords Go.Proofs.YtajgngijmmkemaaW.PrintLast
open Tells FrameLaw

namespace BackParts
theorem low32 (x : Int) : 0 ≤ Go.bits .and .i64 x 4294967295 ∧ Go.bits .and .i64 x 4294967295 ≤ 4294967295 := by
  show 0 ≤ IntKind.i64.wrap (((BitVec.ofInt 64 x) &&& (BitVec.ofInt 64 4294967295)).toNat : Int) ∧ IntKind.i64.wrap (((BitVec.ofInt 64 x) &&& (BitVec.ofInt 64 4294967295)).toNat : Int) ≤ 4294967295
  have h : ((BitVec.ofInt 64 x) &&& (BitVec.ofInt 64 4294967295)).toNat ≤ 4294967295 := by
    rw [BitVec.toNat_and, show (BitVec.ofInt 64 4294967295).toNat = 4294967295 from rfl]
    exact Nat.and_le_right
  rw [IntKind.wrap_i64]
  omega

theorem wrap_u64 (n : Int) : IntKind.u64.wrap n = n % 18446744073709551616 := by simp [IntKind.wrap, IntKind.bits, IntKind.signed]

/-- Where the rest of the law begins. -/
theorem rest (k : Nat) (hk : 99999 ≤ k) (tail : ByteArray) (ht : tail.size ≤ 140737488351232) (cut : Int) (n : Int) (h0 : 0 ≤ n) (h1 : n ≤ 4294967295) (d : ByteArray) (hd : d.size ≤ 8192) :
    furlonglaw9_FrameBack.j0 k tail cut n d (frameOf n d) false = some true := by
  obtain ⟨k, rfl⟩ : ∃ m, k = m + 1 := ⟨k - 1, by omega⟩
  have k6 : 6 ≤ k := by omega
  have k9 : 90001 ≤ k := by omega
  have d0 : (0 : Int) ≤ (d.size : Int) := by omega
  have d1 : (d.size : Int) ≤ 4294967295 := by omega
  have q1 : 6 + d.size ≤ 140737488351232 := by omega
  have q2 : (6 + d.size) * 10 < k := by omega
  have hz := frame_size n d hd
  have hs := sectors_of (d.size : Int) (by omega) (by omega)
  have hA : 12 + d.size ≤ (frameOf n d).size ∧ (frameOf n d).size ≤ 8300 := by omega
  have hu : IntKind.u64.wrap ((frameOf n d).size : Int) = ((frameOf n d).size : Int) := by rw [wrap_u64]; omega
  have hc0 : 0 ≤ IntKind.u64.wrap cut ∧ IntKind.u64.wrap cut < 18446744073709551616 := by rw [wrap_u64]; omega
  generalize hcu : IntKind.u64.wrap cut = u at hc0
  have ht0 : wrap64 (Int.tmod u ((frameOf n d).size : Int)) = u % ((frameOf n d).size : Int) := by
    rw [Int.tmod_eq_emod_of_nonneg hc0.1]
    have a1 := Int.emod_nonneg u (show ((frameOf n d).size : Int) ≠ 0 by omega)
    have a2 := Int.emod_lt_of_pos u (show 0 < ((frameOf n d).size : Int) by omega)
    unfold wrap64; omega
  have a1 := Int.emod_nonneg u (show ((frameOf n d).size : Int) ≠ 0 by omega)
  have a2 := Int.emod_lt_of_pos u (show 0 < ((frameOf n d).size : Int) by omega)
  generalize u % ((frameOf n d).size : Int) = c at a1 a2 ht0
  have hwd : wrap64 (12 + (d.size : Int)) = 12 + (d.size : Int) := by unfold wrap64; omega
  have hh : ((be4 n ++ be2 (d.size : Int)) ++ d).size = 6 + d.size := by simp only [ByteArray.size_append, be4_size, be2_size]
  have z1 : (be4 n ++ be2 (d.size : Int)).size = 6 := by simp only [ByteArray.size_append, be4_size, be2_size]
  have z2 : ((⟨#[70, 82]⟩ : ByteArray) ++ (be4 n ++ be2 (d.size : Int))).size = 8 := by
    simp only [ByteArray.size_append, be4_size, be2_size]; rfl
  have z3 : (((⟨#[70, 82]⟩ : ByteArray) ++ (be4 n ++ be2 (d.size : Int))) ++ be4 (crcOf ((be4 n ++ be2 (d.size : Int)) ++ d))).size = 12 := by
    rw [ByteArray.size_append, z2, be4_size]
  have hcr := crc_range ((be4 n ++ be2 (d.size : Int)) ++ d)
  have g1 : getR (frameOf n d ++ tail) n = (d, ((frameOf n d).size : Int), true) := by rw [get_frame n d hd tail n, if_neg (by omega), if_pos rfl]
  have g2 : getR (frameOf n d) (Go.bits .xor .i64 n 1) = no3 := by
    have h := get_frame n d hd ⟨#[]⟩ (Go.bits .xor .i64 n 1)
    have he : frameOf n d ++ (⟨#[]⟩ : ByteArray) = frameOf n d := by apply ext; rw [ByteArray.data_append]; simp
    rw [he] at h
    rw [h]
    by_cases c1 : Go.bits .xor .i64 n 1 < 0 ∨ Go.bits .xor .i64 n 1 > 4294967295
    · rw [if_pos c1]
    · rw [if_neg c1, if_neg (fun e => xor_other n h0 h1 (frame_inj _ n d c1 h0 h1 e))]
  have g3 : getR ((frameOf n d).extract 0 c.toNat) n = no3 := get_cut n d hd c.toNat ((Int.toNat_lt a1).2 a2) n
  have g4 : ((frameOf n d).extract 0 (12 + (d.size : Int)).toNat).toList = ((((⟨#[70, 82]⟩ : ByteArray) ++ (be4 n ++ be2 (d.size : Int))) ++ be4 (crcOf ((be4 n ++ be2 (d.size : Int)) ++ d))) ++ d).toList := by
    rw [Lib.toList_data, Lib.toList_data]
    exact front_there n d
  simp only [furlonglaw9_FrameBack.j0, Bool.false_eq_true, if_false]
  rw [ref_be4 n h0 h1 k k6, ref_be2 _ d0 d1 k k6]
  simp only [Option.bind_some]
  rw [get_tells _ n k k9, get_tells _ (Go.bits .xor .i64 n 1) k k9, g1, g2]
  simp only [Option.bind_some]
  rw [hu, hcu, ht0, get_tells _ n k k9, g3, Option.bind_some]
  have hq : furlongref1_Sum.f k ((be4 n ++ be2 (d.size : Int)) ++ d) = some (crcOf ((be4 n ++ be2 (d.size : Int)) ++ d)) := by
    apply ref_sum_tells
    · rw [hh]; exact q1
    · rw [hh]; exact q2
  rw [hq]
  simp only [Option.bind_some]
  rw [ref_be4 _ hcr.1 hcr.2 k k6]
  simp only [Option.bind_some]
  rw [hwd, g4, z1, z2, z3, be4_size, be2_size, be4_size]
  clear hz hs hu ht0 hc0 hcu hwd hh z1 z2 z3 hcr g1 g2 g3 g4 q1 q2 k6 k9
  rw [if_pos (by omega), if_pos (by omega), if_neg (by omega), if_pos (by omega), if_pos (by omega), if_pos (by omega), if_pos (by omega), if_pos (by omega), if_pos (by omega), if_pos (by omega), if_pos (by omega)]
  rw [if_pos rfl]
  simp only [if_true, no3, Bool.false_eq_true, if_false, Bool.not_false]
end BackParts

open BackParts in
theorem FrameBack : furlonglaw9_FrameBack.Pure := by
  intro a0 a1 a2 a3 _ _ h2 _
  refine ⟨100000, ?_⟩
  have hk := low32 a0
  unfold furlonglaw9_FrameBack.f
  generalize Go.bits .and .i64 a0 4294967295 = n at hk
  have hm : 0 ≤ mn (a1.size : Int) 8192 ∧ mn (a1.size : Int) 8192 ≤ (a1.size : Int) ∧ mn (a1.size : Int) 8192 ≤ 8192 := by
    unfold mn; split <;> omega
  generalize mn (a1.size : Int) 8192 = m at hm
  have hd : (a1.extract 0 m.toNat).size ≤ 8192 := by rw [ByteArray.size_extract]; omega
  generalize a1.extract 0 m.toNat = d at hd
  have hz := frame_size n d hd
  have hs := sectors_of (d.size : Int) (by omega) (by omega)
  have hp : putR n d = (frameOf n d, 0) := by unfold putR; rw [if_neg (by omega)]
  have hw : wrap64 (12 + (d.size : Int)) = 12 + (d.size : Int) := by unfold wrap64; omega
  have hw2 : wrap64 (sectors (d.size : Int) * 64) = sectors (d.size : Int) * 64 := by unfold wrap64; omega
  have n1 : ¬ ((frameOf n d).size : Int) < 12 + (d.size : Int) := by omega
  have n2 : ((frameOf n d).size : Int) % 64 = 0 := by omega
  have he : (((frameOf n d).size : Int) != sectors (d.size : Int) * 64) = false := by rw [hz]; simp
  rw [awakes _ (by decide), put_tells n d _ (by decide), hp]
  rw [Option.bind_some, if_pos rfl, if_pos hm.1, if_pos hm.2.1, Option.bind_some]
  unfold furlonglaw0_Num.f
  rw [Option.bind_some, if_pos rfl, hw, if_neg n1, if_pos n2, sectors_tells, Option.bind_some, hw2, he]
  exact rest 100000 (by decide) a2 h2 a3 n hk.1 hk.2 d hd

end Go.Proofs.Ytajgngijmmkemaa.Pure
