/- Proved: for every text and every number the program's sum and its sum that goes on are the document's own answer's, errors too (furlonglaw1.Sums); no conditions. -/
import Derived.Test.YtajgngijmmkemaaPSumsx1
import Derived.Test.YtajgngijmmkemaaCrc
namespace Go.Proofs.Ytajgngijmmkemaa.Pure
open Go.RowKit Go.Proofs.Ytajgngijmmkemaa.PSums Go.Proofs.YtajgngijmmkemaaW.PrintWords Go.Proofs.YtajgngijmmkemaaW.PrintLast
open Crc (run sumFrom)

namespace SumsParts
theorem more_tells (s : ByteArray) (hs : s.size ≤ 140737488351232) (c : BitVec 32) (k : Nat) (hk : s.size * 10 < k) :
    crc_more.f k (c.toNat : Int) s = some ((run s.data.toList c).toNat : Int) := by
  have h := Crc.loops_run s hs (fun k x i => crc_more.l0 k x s (s.size : Int) i) (fun k x i j => crc_more.l1 k x s (s.size : Int) i j)
    (fun k x i => by simp only [crc_more.l0]; by_cases h : i < (s.size : Int) <;> simp [h]) (fun k x i j => by simp only [crc_more.l1]) s.size k 0 c (by omega) hk
  rw [List.drop_zero] at h
  exact h

theorem ref_more_tells (s : ByteArray) (hs : s.size ≤ 140737488351232) (c : BitVec 32) (k : Nat) (hk : s.size * 10 < k) :
    furlongref1_more.f k (c.toNat : Int) s = some ((run s.data.toList c).toNat : Int) := by
  have h := Crc.loops_run s hs (fun k x i => furlongref1_more.l0 k x s i) (fun k x i j => furlongref1_more.l1 k x s i j)
    (fun k x i => by simp only [furlongref1_more.l0]) (fun k x i j => by simp only [furlongref1_more.l1]) s.size k 0 c (by omega) hk
  rw [List.drop_zero] at h
  exact h

theorem sum_tells (s : ByteArray) (hs : s.size ≤ 140737488351232) (k : Nat) (hk : s.size * 10 < k) :
    crc_Sum.f k s = some ((sumFrom 0 s.data.toList).toNat : Int) := by
  have h := more_tells s hs 4294967295#32 k hk
  rw [show ((4294967295#32 : BitVec 32).toNat : Int) = 4294967295 from rfl] at h
  unfold crc_Sum.f
  rw [h]
  simp only [Option.bind_some]
  rw [Crc.not_u32, Crc.wrap64_toNat]
  rfl

theorem ref_sum_tells (s : ByteArray) (hs : s.size ≤ 140737488351232) (k : Nat) (hk : s.size * 10 < k) :
    furlongref1_Sum.f k s = some ((sumFrom 0 s.data.toList).toNat : Int) := by
  have h := ref_more_tells s hs 4294967295#32 k hk
  rw [show ((4294967295#32 : BitVec 32).toNat : Int) = 4294967295 from rfl] at h
  unfold furlongref1_Sum.f
  rw [h]
  simp only [Option.bind_some]
  rw [Crc.not_u32, Crc.wrap64_toNat]
  rfl

/-- A number that is a sum, as 32 bits. -/
theorem as_bits (n : Int) (h0 : 0 ≤ n) (h1 : n ≤ 4294967295) : n = ((BitVec.ofNat 32 n.toNat).toNat : Int) := by
  rw [BitVec.toNat_ofNat]
  omega

theorem goes_on (s : ByteArray) (hs : s.size ≤ 140737488351232) (n : Int) (k : Nat) (hk : s.size * 10 < k) :
    ∃ r, crc_More.f k n s = some r ∧ furlongref1_More.f k n s = some r := by
  unfold crc_More.f furlongref1_More.f
  by_cases h0 : n < 0
  · rw [if_pos h0, if_pos h0]; exact ⟨_, rfl, rfl⟩
  rw [if_neg h0, if_neg h0]
  by_cases h1 : n > 4294967295
  · rw [if_pos h1, if_pos h1]; exact ⟨_, rfl, rfl⟩
  rw [if_neg h1, if_neg h1]
  have hb := as_bits n (by omega) (by omega)
  have hm : n % 4294967296 = n := by omega
  generalize BitVec.ofNat 32 n.toNat = c at hb
  rw [hm, hb, Crc.not_u32, more_tells s hs _ k hk, ref_more_tells s hs _ k hk]
  exact ⟨_, rfl, rfl⟩

theorem awakes (k : Nat) (hk : 600 ≤ k) : furlonglaw1_awake.f k = some true :=
  at_rounds (fun j => furlonglaw1_awake.mono j) hk (show furlonglaw1_awake.f 600 = some true by decide +kernel)
end SumsParts

open SumsParts in
theorem Sums : furlonglaw1_Sums.Pure := by
  intro s n hs _
  refine ⟨s.size * 10 + 600, ?_⟩
  obtain ⟨r, h1, h2⟩ := goes_on s hs n (s.size * 10 + 600) (by omega)
  unfold furlonglaw1_Sums.f
  rw [h1, h2, sum_tells s hs _ (by omega), ref_sum_tells s hs _ (by omega), awakes _ (by omega)]
  simp only [Option.bind_some, if_true, furlonglaw0_Num.f]

end Go.Proofs.Ytajgngijmmkemaa.Pure
