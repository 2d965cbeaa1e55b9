/- Proved: bytes that come one by one have the sum of the text so far, and nothing that comes leaves it (furlonglaw1.SumRows), for every text; no conditions. -/
import Derived.Test.YtajgngijmmkemaaPSumRowsx1
import Derived.Test.YtajgngijmmkemaaCrc
namespace Go.Proofs.Ytajgngijmmkemaa.Pure
open Go.RowKit Go.Proofs.Ytajgngijmmkemaa.PSumRows Go.Proofs.YtajgngijmmkemaaW.PrintWords Go.Proofs.YtajgngijmmkemaaW.PrintLast
open Crc (run sumFrom)

namespace RowsParts
theorem more_tells (s : ByteArray) (hs : s.size ≤ 140737488351232) (c : BitVec 32) (k : Nat) (hk : s.size * 10 < k) :
    crc_more.f k (c.toNat : Int) s = some ((run s.data.toList c).toNat : Int) := by
  have h := Crc.loops_run s hs (fun k x i => crc_more.l0 k x s (s.size : Int) i) (fun k x i j => crc_more.l1 k x s (s.size : Int) i j)
    (fun k x i => by simp only [crc_more.l0]; by_cases h : i < (s.size : Int) <;> simp [h]) (fun k x i j => by simp only [crc_more.l1]) s.size k 0 c (by omega) hk
  rw [List.drop_zero] at h
  exact h

theorem sum_tells (s : ByteArray) (hs : s.size ≤ 140737488351232) (k : Nat) (hk : s.size * 10 < k) :
    crc_Sum.f k s = some ((sumFrom 0 s.data.toList).toNat : Int) := by
  have h := more_tells s hs 4294967295#32 k hk
  rw [show ((4294967295#32 : BitVec 32).toNat : Int) = 4294967295 from rfl] at h
  unfold crc_Sum.f
  rw [h]
  simp only [Option.bind_some]
  rw [Crc.not_u32, Crc.wrap64_toNat]
  rfl

/-- The sum that goes on, from a sum that is one. -/
theorem goes_on (s : ByteArray) (hs : s.size ≤ 140737488351232) (c : BitVec 32) (k : Nat) (hk : s.size * 10 < k) :
    crc_More.f k (c.toNat : Int) s = some (((sumFrom c s.data.toList).toNat : Int), 0) := by
  unfold crc_More.f
  have := c.isLt
  rw [if_neg (by omega), if_neg (by omega), show ((c.toNat : Int) % 4294967296) = (c.toNat : Int) by omega, Crc.not_u32, more_tells s hs _ k hk]
  simp only [Option.bind_some]
  rw [Crc.not_u32, Crc.wrap64_toNat]
  rfl

theorem awakes (k : Nat) (hk : 600 ≤ k) : furlonglaw1_awake.f k = some true :=
  at_rounds (fun j => furlonglaw1_awake.mono j) hk (show furlonglaw1_awake.f 600 = some true by decide +kernel)

theorem one_byte (s : ByteArray) (i : Nat) : (s.extract i (i + 1)).data.toList = (s.data.toList.drop i).take 1 := by
  simp [ByteArray.data_extract, Array.toList_extract, List.extract_eq_take_drop]
theorem first_bytes (s : ByteArray) (i : Nat) : (s.extract 0 i).data.toList = s.data.toList.take i := by
  simp [ByteArray.data_extract, Array.toList_extract, List.extract_eq_take_drop]
theorem next_sum (l : List UInt8) (i : Nat) : sumFrom (sumFrom 0 (l.take i)) ((l.drop i).take 1) = sumFrom 0 (l.take (i + 1)) := by
  rw [Crc.sum_append]
  congr 1
  rw [List.take_add]

theorem rows (s : ByteArray) : ∀ (n k i : Nat), i + n = 300 → i ≤ s.size → 2 * n + 4000 ≤ k →
    furlonglaw1_SumRows.l0 k s ((sumFrom 0 (s.data.toList.take i)).toNat : Int) (i : Int) = some true := by
  intro n
  induction n with
  | zero =>
    intro k i hi hz hk
    obtain ⟨k, rfl⟩ : ∃ m, k = m + 2 := ⟨k - 2, by omega⟩
    have hd : decide ((i : Int) < 300) = false := by simp; omega
    simp only [furlonglaw1_SumRows.l0]
    rw [hd]
    simp only [furlonglaw1_SumRows.j1, Bool.false_eq_true, if_false, ite_self]
  | succ n ih =>
    intro k i hi hz hk
    obtain ⟨k, rfl⟩ : ∃ m, k = m + 2 := ⟨k - 2, by omega⟩
    have hd : decide ((i : Int) < 300) = true := by simp; omega
    have hw : wrap64 ((i : Int) + 1) = ((i + 1 : Nat) : Int) := by unfold wrap64; omega
    simp only [furlonglaw1_SumRows.l0]
    by_cases hlt : (i : Int) < (s.size : Int)
    · rw [if_pos hlt, hd]
      simp only [furlonglaw1_SumRows.j1, if_true]
      rw [hw, if_pos (by omega), if_pos (by omega), if_pos (by omega)]
      simp only [Int.toNat_natCast]
      have z1 : (s.extract i (i + 1)).size ≤ 1 := by simp; omega
      have z2 : (s.extract 0 (i + 1)).size ≤ i + 1 := by simp; omega
      rw [goes_on (s.extract i (i + 1)) (by omega) _ k (by omega), goes_on ⟨#[]⟩ (by decide) _ k (by show 0 * 10 < k; omega), sum_tells (s.extract 0 (i + 1)) (by omega) k (by omega),
        one_byte, first_bytes, next_sum]
      have he : sumFrom (sumFrom 0 (s.data.toList.take i)) (⟨#[]⟩ : ByteArray).data.toList = sumFrom 0 (s.data.toList.take i) := by
        simp [sumFrom, run]
      simp only [Option.bind_some, furlonglaw0_Num.f, if_true, he]
      rw [if_pos (by omega)]
      exact ih k (i + 1) (by omega) (by omega) (by omega)
    · rw [if_neg hlt]
      simp only [furlonglaw1_SumRows.j1, Bool.false_eq_true, if_false]
end RowsParts

open RowsParts in
theorem SumRows : furlonglaw1_SumRows.Pure := by
  intro s _
  refine ⟨5000, ?_⟩
  have h := rows s 300 5000 0 (by omega) (by omega) (by omega)
  unfold furlonglaw1_SumRows.f
  rw [awakes _ (by omega)]
  simp only [Option.bind_some, if_true]
  rw [show (sumFrom 0 (List.take 0 s.data.toList)) = 0#32 by simp [sumFrom, run]] at h
  exact h

end Go.Proofs.Ytajgngijmmkemaa.Pure
