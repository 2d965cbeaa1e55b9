/- Plain laws on frames: a frame that is put comes back, whatever stands behind; of another number or cut it is none. -/
import Derived.Test.YtajgngijmmkemaaFrame
namespace Go.Proofs.Ytajgngijmmkemaa.FrameLaw
open Go.RowKit Go.Proofs.YtajgngijmmkemaaW.PrintWords Go.Proofs.Ytajgngijmmkemaa.Crc

theorem bt_getD (s : ByteArray) (i : Nat) : bt s (i : Int) = ((s.data.toList.getD i 0).toNat : Int) := by
  unfold bt
  simp only [Int.toNat_natCast]
  by_cases h : i < s.size
  · rw [dif_pos h, List.getD_eq_getElem?_getD, List.getElem?_eq_getElem (by simpa using h)]; rfl
  · rw [dif_neg h, List.getD_eq_getElem?_getD, List.getElem?_eq_none (by simp; omega)]; rfl

def b8 (x : Int) : UInt8 := UInt8.ofNat (x % 256).toNat
theorem b8_toNat (x : Int) : ((b8 x).toNat : Int) = x % 256 := by
  unfold b8
  rw [UInt8.toNat_ofNat']
  omega
def crcHead (k : Int) (d : ByteArray) : Int := crcOf ((be4 k ++ be2 d.size) ++ d)
/-- A frame's first twelve bytes. -/
def twelve (k : Int) (d : ByteArray) : List UInt8 :=
  [70, 82, b8 (k / 16777216), b8 (k / 65536), b8 (k / 256), b8 k, b8 ((d.size : Int) / 256), b8 (d.size : Int),
   b8 (crcHead k d / 16777216), b8 (crcHead k d / 65536), b8 (crcHead k d / 256), b8 (crcHead k d)]
theorem front_list (k : Int) (d : ByteArray) : (front k d).data.toList = twelve k d ++ d.data.toList := by
  simp [front, be4, be2, strOfNums, mark, twelve, b8, crcHead, ByteArray.data_append]
theorem frame_list (k : Int) (d : ByteArray) : (frameOf k d).data.toList = twelve k d ++ d.data.toList ++ List.replicate (pad d.size) 0 := by
  unfold frameOf
  rw [ByteArray.data_append, Array.toList_append, front_list]
  simp [strOfNums]
theorem twelve_length (k : Int) (d : ByteArray) : (twelve k d).length = 12 := rfl

/-- The length that stands in a frame, with anything behind. -/
theorem len_of (s : ByteArray) (k : Int) (d : ByteArray) (hd : d.size ≤ 8192) (r : List UInt8) (h : s.data.toList = twelve k d ++ r) : lenAt s = d.size := by
  unfold lenAt
  have h6 := bt_getD s 6
  have h7 := bt_getD s 7
  rw [h] at h6 h7
  have e6 : (twelve k d ++ r).getD 6 0 = b8 ((d.size : Int) / 256) := rfl
  have e7 : (twelve k d ++ r).getD 7 0 = b8 (d.size : Int) := rfl
  rw [e6, b8_toNat] at h6
  rw [e7, b8_toNat] at h7
  have g6 : bt s 6 = (d.size : Int) / 256 % 256 := h6
  have g7 : bt s 7 = (d.size : Int) % 256 := h7
  omega

theorem ext (a b : ByteArray) (h : a.data.toList = b.data.toList) : a = b := by
  cases a; cases b; simp at h; simp [h]

theorem list_size (s : ByteArray) : s.data.toList.length = s.size := by simp
theorem extract_list (s : ByteArray) (a b : Nat) : (s.extract a b).data.toList = (s.data.toList.drop a).take (b - a) := by
  rw [ByteArray.data_extract, Array.toList_extract, List.extract_eq_take_drop]

/-- What Get makes of a frame of number k with anything behind, asked at number n. -/
theorem get_frame (k : Int) (d : ByteArray) (hd : d.size ≤ 8192) (tail : ByteArray) (n : Int) :
    getR (frameOf k d ++ tail) n = if n < 0 ∨ n > 4294967295 then no3 else if frameOf n d = frameOf k d then (d, ((frameOf k d).size : Int), true) else no3 := by
  have hz := frame_size k d hd
  have hs := sectors_of (d.size : Int) (by omega) (by omega)
  have hl : (frameOf k d ++ tail).data.toList = twelve k d ++ (d.data.toList ++ (List.replicate (pad d.size) 0 ++ tail.data.toList)) := by
    rw [ByteArray.data_append, Array.toList_append, frame_list]; simp only [List.append_assoc]
  have hlen := len_of _ k d hd _ hl
  have hsz : (frameOf k d ++ tail).size = (frameOf k d).size + tail.size := ByteArray.size_append
  unfold getR
  rw [hlen, if_neg (by omega), if_neg (by omega)]
  have ed : (frameOf k d ++ tail).extract 12 (12 + (d.size : Int)).toNat = d := by
    apply ext
    rw [extract_list, hl]
    have : (12 + (d.size : Int)).toNat - 12 = d.data.toList.length := by rw [list_size]; omega
    rw [this, List.drop_append_of_le_length (by rw [twelve_length]; omega), List.drop_of_length_le (by rw [twelve_length]; omega), List.nil_append, List.take_append_of_le_length (by omega), List.take_length]
  have es : ((frameOf k d ++ tail).extract 0 (sectors (d.size : Int) * 64).toNat).data.toList = (frameOf k d).data.toList := by
    rw [extract_list, List.drop_zero, ByteArray.data_append, Array.toList_append]
    have : (sectors (d.size : Int) * 64).toNat - 0 = (frameOf k d).data.toList.length := by rw [list_size]; omega
    rw [this, List.take_append_of_le_length (by omega), List.take_length]
  rw [ed, es]
  by_cases c : n < 0 ∨ n > 4294967295
  · have hp : putR n d = (⟨#[]⟩, 900) := by unfold putR; rw [if_pos (by omega)]
    rw [if_pos c, hp, if_neg (by simp)]
  · have hp : putR n d = (frameOf n d, 0) := by unfold putR; rw [if_neg (by omega)]
    rw [if_neg c, hp]
    by_cases e : frameOf n d = frameOf k d
    · rw [if_pos ⟨rfl, by rw [e]⟩, if_pos e, hz]
    · rw [if_neg (fun h => e (ext _ _ h.2)), if_neg e]

/-- Frames of two numbers differ. -/
theorem frame_inj (n k : Int) (d : ByteArray) (hn : ¬ (n < 0 ∨ n > 4294967295)) (h0 : 0 ≤ k) (h1 : k ≤ 4294967295) (h : frameOf n d = frameOf k d) : n = k := by
  have hl : (frameOf n d).data.toList = (frameOf k d).data.toList := by rw [h]
  rw [frame_list, frame_list] at hl
  simp only [twelve, List.cons_append, List.cons.injEq] at hl
  obtain ⟨_, _, e0, e1, e2, e3, _⟩ := hl
  have g0 := b8_toNat (n / 16777216)
  have g1 := b8_toNat (n / 65536)
  have g2 := b8_toNat (n / 256)
  have g3 := b8_toNat n
  rw [e0, b8_toNat] at g0
  rw [e1, b8_toNat] at g1
  rw [e2, b8_toNat] at g2
  rw [e3, b8_toNat] at g3
  omega

/-- A number with its lowest bit turned is another one. -/
theorem xor_other (k : Int) (h0 : 0 ≤ k) (h1 : k ≤ 4294967295) : Go.bits .xor .i64 k 1 ≠ k := by
  obtain ⟨a, rfl⟩ := Int.eq_ofNat_of_zero_le h0
  show IntKind.i64.wrap (((BitVec.ofInt 64 (a : Int)) ^^^ (BitVec.ofInt 64 1)).toNat : Int) ≠ (a : Int)
  have ha : (BitVec.ofInt 64 (a : Int)).toNat = a := by rw [BitVec.ofInt_natCast, BitVec.toNat_ofNat]; omega
  have h64 : a < 2 ^ 32 := by omega
  rw [BitVec.toNat_xor, ha, show (BitVec.ofInt 64 1).toNat = 1 from rfl, IntKind.wrap_i64]
  have hlt : a ^^^ 1 < 2 ^ 32 := Nat.xor_lt_two_pow h64 (by decide)
  intro h
  have e : a ^^^ 1 = a := by omega
  have h2 : (a ^^^ 1) % 2 = a % 2 := by rw [e]
  have h3 : (a ^^^ 1).testBit 0 = a.testBit 0 := by rw [e]
  rw [Nat.testBit_xor] at h3
  cases hb : a.testBit 0 <;> rw [hb] at h3 <;> simp at h3

/-- A frame that is cut is none. -/
theorem get_cut (k : Int) (d : ByteArray) (hd : d.size ≤ 8192) (c : Nat) (hc : c < (frameOf k d).size) (n : Int) : getR ((frameOf k d).extract 0 c) n = no3 := by
  have hz := frame_size k d hd
  have hs := sectors_of (d.size : Int) (by omega) (by omega)
  have hsz : ((frameOf k d).extract 0 c).size = c := by rw [ByteArray.size_extract]; omega
  unfold getR
  by_cases c1 : (((frameOf k d).extract 0 c).size : Int) < 12
  · rw [if_pos c1]
  have hl : ((frameOf k d).extract 0 c).data.toList = twelve k d ++ ((d.data.toList ++ List.replicate (pad d.size) 0).take (c - 12)) := by
    rw [extract_list, List.drop_zero, frame_list, List.append_assoc, List.take_append, twelve_length, List.take_of_length_le (by rw [twelve_length]; omega)]
    rfl
  rw [if_neg c1, len_of _ k d hd _ hl, if_pos (Or.inr (by omega))]

/-- A frame's beginning. -/
theorem front_there (n : Int) (d : ByteArray) : ((frameOf n d).extract 0 (12 + (d.size : Int)).toNat).data.toList = (front n d).data.toList := by
  have e : (12 + (d.size : Int)).toNat - 0 = (twelve n d ++ d.data.toList).length := by rw [List.length_append, twelve_length, list_size]; omega
  rw [front_list, extract_list, List.drop_zero, frame_list, e, List.take_append_of_le_length (Nat.le_refl _), List.take_length]

end Go.Proofs.Ytajgngijmmkemaa.FrameLaw
