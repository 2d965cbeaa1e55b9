/- Contracts of the check sum's functions at known answers, out of the printed ones. -/
import Derived.Test.YtajgngijmmkemaaPSumPartsx1
import Derived.Test.YtajgngijmmkemaaCrc
namespace Go.Proofs.Ytajgngijmmkemaa.SumCalls
open Go.RowKit Go.Proofs.Ytajgngijmmkemaa.PSumParts Go.Proofs.YtajgngijmmkemaaW.PrintWords Go.Proofs.YtajgngijmmkemaaW.PrintLast Go.Proofs.YtajgngijmmkemaaW.PrintMore
open Crc (run sumFrom)

/-- A text's sum as a number. -/
def sumOf (l : List UInt8) : Int := ((sumFrom 0 l).toNat : Int)
theorem sumOf_range (l : List UInt8) : 0 ≤ sumOf l ∧ sumOf l ≤ 4294967295 := by
  unfold sumOf; have := (sumFrom 0 l).isLt; omega

theorem more_tells (s : ByteArray) (hs : s.size ≤ 140737488351232) (c : BitVec 32) (k : Nat) (hk : s.size * 10 < k) :
    crc_more.f k (c.toNat : Int) s = some ((run s.data.toList c).toNat : Int) := by
  have h := Crc.loops_run s hs (fun k x i => crc_more.l0 k x s (s.size : Int) i) (fun k x i j => crc_more.l1 k x s (s.size : Int) i j)
    (fun k x i => by simp only [crc_more.l0]; by_cases h : i < (s.size : Int) <;> simp [h]) (fun k x i j => by simp only [crc_more.l1]) s.size k 0 c (by omega) hk
  rw [List.drop_zero] at h
  exact h

theorem sum_calls (s : ByteArray) (hs : s.size ≤ 140737488351232) (w : World) :
    Calls Try.prog 11 #[.string s] w fun e w' => e = .returned (.int .i64 (sumOf s.data.toList)) ∧ Drawn0 w w' := by
  refine crc_Sum.calls (s.size * 10 + 1) s _ w ?_
  have h := more_tells s hs 4294967295#32 (s.size * 10 + 1) (by omega)
  rw [show ((4294967295#32 : BitVec 32).toNat : Int) = 4294967295 from rfl] at h
  unfold crc_Sum.f
  rw [h]
  simp only [Option.bind_some]
  rw [Crc.not_u32, Crc.wrap64_toNat]
  rfl

theorem goes_on_calls (l : List UInt8) (s : ByteArray) (hs : s.size ≤ 140737488351232) (w : World) :
    Calls Try.prog 13 #[.int .i64 (sumOf l), .string s] w fun e w' => e = .returned (.tuple #[.int .i64 (sumOf (l ++ s.data.toList)), .int .i64 0]) ∧ Drawn0 w w' := by
  refine crc_More.calls (s.size * 10 + 1) (sumOf l) s _ _ w ?_
  have := sumOf_range l
  unfold crc_More.f
  rw [if_neg (by omega), if_neg (by omega), show (sumOf l % 4294967296) = sumOf l by omega]
  unfold sumOf
  rw [Crc.not_u32, more_tells s hs _ _ (by omega)]
  simp only [Option.bind_some]
  rw [Crc.not_u32, Crc.wrap64_toNat, ← Crc.sum_append]
  rfl

theorem awake_calls (w : World) : Calls Try.prog 16 #[] w fun e w' => e = .returned (.bool true) ∧ Drawn0 w w' :=
  furlonglaw1_awake.calls 600 true w (by decide +kernel)
theorem num_calls (n : Int) (w : World) : Calls Try.prog 12 #[.int .i64 n] w fun e w' => e = .returned (.int .i64 n) ∧ Drawn0 w w' :=
  furlonglaw0_Num.calls n n w rfl
end Go.Proofs.Ytajgngijmmkemaa.SumCalls
