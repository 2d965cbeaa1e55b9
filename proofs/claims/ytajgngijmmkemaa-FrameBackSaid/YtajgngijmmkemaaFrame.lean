/- Plain laws on frames, with no program in sight: how a frame is laid, what Put and Get tell. -/
import Derived.Test.YtajgngijmmkemaaCrc
import Derived.Lib.Bytes
namespace Go.Proofs.Ytajgngijmmkemaa.FrameLaw
open Go.RowKit Go.Proofs.YtajgngijmmkemaaW.PrintWords Go.Proofs.Ytajgngijmmkemaa.Crc

def be4 (x : Int) : ByteArray := strOfNums [x / 16777216 % 256, x / 65536 % 256, x / 256 % 256, x % 256]
def be2 (x : Int) : ByteArray := strOfNums [x / 256 % 256, x % 256]
def crcOf (s : ByteArray) : Int := ((sumFrom 0 s.data.toList).toNat : Int)
def sectors (n : Int) : Int := if n < 0 ∨ n > 8192 then 0 else (n + 75) / 64
def mark : ByteArray := ⟨#[70, 82]⟩
def pad (n : Nat) : Nat := (sectors n * 64 - (12 + n)).toNat
/-- A frame, but for the bytes 0 behind it. -/
def front (lsn : Int) (d : ByteArray) : ByteArray := ((mark ++ (be4 lsn ++ be2 d.size)) ++ be4 (crcOf ((be4 lsn ++ be2 d.size) ++ d))) ++ d
def frameOf (lsn : Int) (d : ByteArray) : ByteArray := front lsn d ++ strOfNums (List.replicate (pad d.size) 0)
def putR (lsn : Int) (d : ByteArray) : ByteArray × Int := if lsn < 0 ∨ lsn > 4294967295 ∨ (d.size : Int) > 8192 then (⟨#[]⟩, 900) else (frameOf lsn d, 0)
def lenAt (s : ByteArray) : Int := bt s 6 * 256 + bt s 7
def no3 : ByteArray × Int × Bool := (⟨#[]⟩, 0, false)
def getR (s : ByteArray) (lsn : Int) : ByteArray × Int × Bool :=
  if (s.size : Int) < 12 then no3
  else if sectors (lenAt s) * 64 = 0 ∨ sectors (lenAt s) * 64 > (s.size : Int) then no3
  else if (putR lsn (s.extract 12 (12 + lenAt s).toNat)).2 = 0 ∧ (putR lsn (s.extract 12 (12 + lenAt s).toNat)).1.data.toList = (s.extract 0 (sectors (lenAt s) * 64).toNat).data.toList
  then (s.extract 12 (12 + lenAt s).toNat, sectors (lenAt s) * 64, true) else no3

theorem size_nums (xs : List Int) : (strOfNums xs).size = xs.length := by simp [strOfNums, ByteArray.size]
theorem be4_size (x : Int) : (be4 x).size = 4 := size_nums _
theorem be2_size (x : Int) : (be2 x).size = 2 := size_nums _
theorem mark_size : mark.size = 2 := rfl
theorem front_size (lsn : Int) (d : ByteArray) : (front lsn d).size = 12 + d.size := by
  simp only [front, ByteArray.size_append, be4_size, be2_size, mark_size]
theorem sectors_of (n : Int) (h0 : 0 ≤ n) (h1 : n ≤ 8192) : sectors n = (n + 75) / 64 := by unfold sectors; rw [if_neg (by omega)]
theorem pad_of (n : Nat) (h : n ≤ 8192) : (pad n : Int) = sectors n * 64 - (12 + n) ∧ pad n < 64 := by
  unfold pad; rw [sectors_of n (by omega) (by omega)]; omega
theorem frame_size (lsn : Int) (d : ByteArray) (h : d.size ≤ 8192) : ((frameOf lsn d).size : Int) = sectors d.size * 64 := by
  have := pad_of d.size h
  simp only [frameOf, ByteArray.size_append, front_size, size_nums, List.length_replicate]
  omega
theorem crc_range (s : ByteArray) : 0 ≤ crcOf s ∧ crcOf s ≤ 4294967295 := by
  unfold crcOf; have := (sumFrom 0 s.data.toList).isLt; omega
theorem bt_range' (s : ByteArray) (i : Int) : 0 ≤ bt s i ∧ bt s i ≤ 255 := bt_range s i
theorem len_range (s : ByteArray) : 0 ≤ lenAt s ∧ lenAt s ≤ 65535 := by
  unfold lenAt; have := bt_range s 6; have := bt_range s 7; omega

/-- x & 255 and a number joined out of two bytes, as the walk spells them. -/
theorem and255 (x : Int) (h0 : 0 ≤ x) (h1 : x < 4294967296) : Go.bits .and .i64 x 255 = x % 256 := by
  have hk : ∀ n : Int, 0 ≤ n → n < 2 ^ 32 → IntKind.i64.wrap n = n := fun n a b => by rw [IntKind.wrap_i64]; omega
  have := bits_mask .i64 32 (by decide) hk 8 (by decide) x h0 (by omega)
  exact this
theorem or_bytes (s : ByteArray) : Go.bits .or .i64 (wrap64 ((wrap64 (bt s 6)) * 256)) (wrap64 (bt s 7)) = lenAt s := by
  have hk : ∀ n : Int, 0 ≤ n → n < 2 ^ 32 → IntKind.i64.wrap n = n := fun n a b => by rw [IntKind.wrap_i64]; omega
  have h6 := bt_range s 6
  have h7 := bt_range s 7
  have w6 : wrap64 ((wrap64 (bt s 6)) * 256) = bt s 6 * 256 := by unfold wrap64; omega
  have w7 : wrap64 (bt s 7) = bt s 7 := by unfold wrap64; omega
  rw [w6, w7]
  exact bits_join .i64 32 (by decide) hk 8 (bt s 6 * 256) (bt s 7) (by omega) (by omega) (by omega) (by omega) (by omega) (by omega)
/-- The Go text's way to the sectors. -/
theorem sectors_go (n : Int) (h0 : 0 ≤ n) (h1 : n ≤ 8192) : wrap64 (Int.tdiv (wrap64 ((wrap64 ((wrap64 (12 + n)) + 64)) - 1)) 64) = sectors n := by
  rw [sectors_of n h0 h1]
  have e : wrap64 ((wrap64 ((wrap64 (12 + n)) + 64)) - 1) = n + 75 := by unfold wrap64; omega
  rw [e, Int.tdiv_eq_ediv_of_nonneg (by omega)]
  unfold wrap64
  omega

/-- What is put begins with the mark. -/
theorem frame_mark (lsn : Int) (d : ByteArray) : (frameOf lsn d).data.toList.take 2 = [70, 82] := by
  simp only [frameOf, front, ByteArray.append_assoc, ByteArray.data_append, Array.toList_append]
  rfl
theorem put_mark (lsn : Int) (d : ByteArray) (h : (putR lsn d).2 = 0) : (putR lsn d).1.data.toList.take 2 = [70, 82] := by
  unfold putR at h ⊢
  by_cases c : lsn < 0 ∨ lsn > 4294967295 ∨ (d.size : Int) > 8192
  · rw [if_pos c] at h; cases h
  · rw [if_neg c]; exact frame_mark lsn d
/-- Where a text does not begin with the mark nothing is got. -/
theorem get_unmarked (s : ByteArray) (lsn : Int) (h : ¬ s.data.toList.take 2 = [70, 82]) : getR s lsn = no3 := by
  unfold getR
  by_cases c1 : (s.size : Int) < 12
  · rw [if_pos c1]
  rw [if_neg c1]
  by_cases c2 : sectors (lenAt s) * 64 = 0 ∨ sectors (lenAt s) * 64 > (s.size : Int)
  · rw [if_pos c2]
  rw [if_neg c2]
  by_cases c3 : (putR lsn (s.extract 12 (12 + lenAt s).toNat)).2 = 0 ∧ (putR lsn (s.extract 12 (12 + lenAt s).toNat)).1.data.toList = (s.extract 0 (sectors (lenAt s) * 64).toNat).data.toList
  · exfalso
    have hm := put_mark lsn _ c3.1
    rw [c3.2, ByteArray.data_extract, Array.toList_extract, List.extract_eq_take_drop, List.drop_zero, List.take_take] at hm
    have hr := len_range s
    have : 2 ≤ (sectors (lenAt s) * 64).toNat - 0 := by
      have hs : sectors (lenAt s) * 64 ≠ 0 := fun e => c2 (Or.inl e)
      have : 0 ≤ sectors (lenAt s) := by unfold sectors; split <;> omega
      omega
    rw [Nat.min_eq_left this] at hm
    exact h hm
  · rw [if_neg c3]

end Go.Proofs.Ytajgngijmmkemaa.FrameLaw
