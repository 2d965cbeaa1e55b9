/- What the printed functions of the frame's texts tell, in the words of the plain laws. -/
import Derived.Test.YtajgngijmmkemaaPFramesx3
import Derived.Test.YtajgngijmmkemaaFrame
namespace Go.Proofs.Ytajgngijmmkemaa.Tells
open Go.RowKit Go.Proofs.Ytajgngijmmkemaa.PFrames Go.Proofs.YtajgngijmmkemaaW.PrintWords Go.Proofs.YtajgngijmmkemaaW.PrintLast Go.Proofs.YtajgngijmmkemaaW.PrintMore
open Crc (run sumFrom)
open FrameLaw

theorem more_tells (s : ByteArray) (hs : s.size ≤ 140737488351232) (c : BitVec 32) (k : Nat) (hk : s.size * 10 < k) :
    crc_more.f k (c.toNat : Int) s = some ((run s.data.toList c).toNat : Int) := by
  have h := Crc.loops_run s hs (fun k x i => crc_more.l0 k x s (s.size : Int) i) (fun k x i j => crc_more.l1 k x s (s.size : Int) i j)
    (fun k x i => by simp only [crc_more.l0]; by_cases h : i < (s.size : Int) <;> simp [h]) (fun k x i j => by simp only [crc_more.l1]) s.size k 0 c (by omega) hk
  rw [List.drop_zero] at h
  exact h

theorem ref_more_tells (s : ByteArray) (hs : s.size ≤ 140737488351232) (c : BitVec 32) (k : Nat) (hk : s.size * 10 < k) :
    furlongref1_more.f k (c.toNat : Int) s = some ((run s.data.toList c).toNat : Int) := by
  have h := Crc.loops_run s hs (fun k x i => furlongref1_more.l0 k x s i) (fun k x i j => furlongref1_more.l1 k x s i j)
    (fun k x i => by simp only [furlongref1_more.l0]) (fun k x i j => by simp only [furlongref1_more.l1]) s.size k 0 c (by omega) hk
  rw [List.drop_zero] at h
  exact h

theorem sum_tells (s : ByteArray) (hs : s.size ≤ 140737488351232) (k : Nat) (hk : s.size * 10 < k) : crc_Sum.f k s = some (crcOf s) := by
  have h := more_tells s hs 4294967295#32 k hk
  rw [show ((4294967295#32 : BitVec 32).toNat : Int) = 4294967295 from rfl] at h
  unfold crc_Sum.f
  rw [h]
  simp only [Option.bind_some]
  rw [Crc.not_u32, Crc.wrap64_toNat]
  rfl

theorem ref_sum_tells (s : ByteArray) (hs : s.size ≤ 140737488351232) (k : Nat) (hk : s.size * 10 < k) : furlongref1_Sum.f k s = some (crcOf s) := by
  have h := ref_more_tells s hs 4294967295#32 k hk
  rw [show ((4294967295#32 : BitVec 32).toNat : Int) = 4294967295 from rfl] at h
  unfold furlongref1_Sum.f
  rw [h]
  simp only [Option.bind_some]
  rw [Crc.not_u32, Crc.wrap64_toNat]
  rfl

theorem num4 (x : Int) (k : Nat) (hk : 6 ≤ k) : frame_Num.f k x 4 = some (be4 x) := by
  obtain ⟨k, rfl⟩ : ∃ m, k = m + 5 := ⟨k - 5, by omega⟩
  unfold frame_Num.f be4
  simp [frame_Num.l0, wrap64, shr, List.replicate]
  rfl
theorem num2 (x : Int) (k : Nat) (hk : 6 ≤ k) : frame_Num.f k x 2 = some (be2 x) := by
  obtain ⟨k, rfl⟩ : ∃ m, k = m + 5 := ⟨k - 5, by omega⟩
  unfold frame_Num.f be2
  simp [frame_Num.l0, wrap64, shr, List.replicate]
  rfl
theorem ref_be4 (x : Int) (h0 : 0 ≤ x) (h1 : x ≤ 4294967295) (k : Nat) (hk : 6 ≤ k) : furlongref8_Be.f k x 4 = some (be4 x) := by
  obtain ⟨k, rfl⟩ : ∃ m, k = m + 5 := ⟨k - 5, by omega⟩
  have e0 := and255 x h0 (by omega)
  have e1 := and255 (x / 256) (by omega) (by omega)
  have e2 := and255 (x / 256 / 256) (by omega) (by omega)
  have e3 := and255 (x / 256 / 256 / 256) (by omega) (by omega)
  unfold furlongref8_Be.f be4
  simp only [furlongref8_Be.l0]
  simp [wrap64, List.replicate, e0, e1, e2, e3]
  congr 1
  simp
  omega
theorem ref_be2 (x : Int) (h0 : 0 ≤ x) (h1 : x ≤ 4294967295) (k : Nat) (hk : 6 ≤ k) : furlongref8_Be.f k x 2 = some (be2 x) := by
  obtain ⟨k, rfl⟩ : ∃ m, k = m + 5 := ⟨k - 5, by omega⟩
  have e0 := and255 x h0 (by omega)
  have e1 := and255 (x / 256) (by omega) (by omega)
  unfold furlongref8_Be.f be2
  simp only [furlongref8_Be.l0]
  simp [wrap64, List.replicate, e0, e1]

theorem sectors_tells (n : Int) : frame_Sectors.f n = some (sectors n) := by
  unfold frame_Sectors.f
  by_cases h0 : n < 0
  · rw [if_pos h0]; unfold sectors; rw [if_pos (Or.inl h0)]
  rw [if_neg h0]
  by_cases h1 : n > 8192
  · rw [if_pos h1]; unfold sectors; rw [if_pos (Or.inr h1)]
  rw [if_neg h1, sectors_go n (by omega) (by omega)]
theorem ref_sectors_tells (n : Int) : furlongref8_Sectors.f n = some (sectors n) := by
  unfold furlongref8_Sectors.f
  by_cases h0 : n < 0
  · rw [if_pos h0]; unfold sectors; rw [if_pos (Or.inl h0)]
  rw [if_neg h0]
  by_cases h1 : n > 8192
  · rw [if_pos h1]; unfold sectors; rw [if_pos (Or.inr h1)]
  rw [if_neg h1, sectors_go n (by omega) (by omega)]

/-- A text of at most 8192 bytes is put. -/
theorem put_in (lsn : Int) (d : ByteArray) (hd : d.size ≤ 8192) (k : Nat) (hk : 90000 ≤ k) : frame_Put.j0 k lsn d false = some (frameOf lsn d, 0) := by
  obtain ⟨k, rfl⟩ : ∃ m, k = m + 1 := ⟨k - 1, by omega⟩
  have hp := pad_of d.size hd
  have hh : ((be4 lsn ++ be2 (d.size : Int)) ++ d).size = 6 + d.size := by simp only [ByteArray.size_append, be4_size, be2_size]
  have hs := sectors_of (d.size : Int) (by omega) (by omega)
  have hf : ((((((⟨#[70, 82]⟩ : ByteArray) ++ (be4 lsn ++ be2 (d.size : Int))) ++ be4 (crcOf ((be4 lsn ++ be2 (d.size : Int)) ++ d))) ++ d)).size : Int) = 12 + d.size := by
    have h : ((front lsn d).size : Int) = 12 + d.size := by rw [front_size]; omega
    exact h
  have hw : wrap64 ((wrap64 (sectors (d.size : Int) * 64)) - (12 + (d.size : Int))) = (pad d.size : Int) := by unfold wrap64; omega
  simp only [frame_Put.j0, Bool.false_eq_true, if_false]
  rw [num4 lsn k (by omega), num2 _ k (by omega)]
  simp only [Option.bind_some]
  rw [sum_tells _ (by rw [hh]; omega) k (by rw [hh]; omega)]
  simp only [Option.bind_some]
  rw [num4 _ k (by omega)]
  simp only [Option.bind_some, sectors_tells]
  rw [hf, hw]
  have z1 : (be4 lsn ++ be2 (d.size : Int)).size = 6 := by simp only [ByteArray.size_append, be4_size, be2_size]
  have z2 : ((⟨#[70, 82]⟩ : ByteArray) ++ (be4 lsn ++ be2 (d.size : Int))).size = 8 := by
    simp only [ByteArray.size_append, be4_size, be2_size]; rfl
  have z3 : (((⟨#[70, 82]⟩ : ByteArray) ++ (be4 lsn ++ be2 (d.size : Int))) ++ be4 (crcOf ((be4 lsn ++ be2 (d.size : Int)) ++ d))).size = 12 := by
    rw [ByteArray.size_append, z2, be4_size]
  rw [z1, z2, z3, be4_size, be2_size, be4_size, size_nums, List.length_replicate]
  rw [if_pos (by omega), if_pos (by omega), if_pos (by omega), if_pos (by omega), if_pos (by omega), if_pos (by omega), if_pos (by omega), if_pos (by simp only [Int.toNat_natCast]; omega)]
  rfl
theorem ref_put_in (lsn : Int) (hl : 0 ≤ lsn) (hl' : lsn ≤ 4294967295) (d : ByteArray) (hd : d.size ≤ 8192) (k : Nat) (hk : 90000 ≤ k) : furlongref8_PutFrame.j0 k lsn d false = some (frameOf lsn d, 0) := by
  obtain ⟨k, rfl⟩ : ∃ m, k = m + 1 := ⟨k - 1, by omega⟩
  have hp := pad_of d.size hd
  have hh : ((be4 lsn ++ be2 (d.size : Int)) ++ d).size = 6 + d.size := by simp only [ByteArray.size_append, be4_size, be2_size]
  have hs := sectors_of (d.size : Int) (by omega) (by omega)
  have hf : ((((((⟨#[70, 82]⟩ : ByteArray) ++ (be4 lsn ++ be2 (d.size : Int))) ++ be4 (crcOf ((be4 lsn ++ be2 (d.size : Int)) ++ d))) ++ d)).size : Int) = 12 + d.size := by
    have h : ((front lsn d).size : Int) = 12 + d.size := by rw [front_size]; omega
    exact h
  have hw : (64 - ((12 + (d.size : Int)) % 64)) % 64 = (pad d.size : Int) := by omega
  have hc := crc_range ((be4 lsn ++ be2 (d.size : Int)) ++ d)
  simp only [furlongref8_PutFrame.j0, Bool.false_eq_true, if_false]
  rw [ref_be4 lsn hl hl' k (by omega), ref_be2 _ (by omega) (by omega) k (by omega)]
  simp only [Option.bind_some]
  rw [ref_sum_tells _ (by rw [hh]; omega) k (by rw [hh]; omega)]
  simp only [Option.bind_some]
  rw [ref_be4 _ hc.1 hc.2 k (by omega)]
  simp only [Option.bind_some]
  rw [hf, hw]
  have z1 : (be4 lsn ++ be2 (d.size : Int)).size = 6 := by simp only [ByteArray.size_append, be4_size, be2_size]
  have z2 : ((⟨#[70, 82]⟩ : ByteArray) ++ (be4 lsn ++ be2 (d.size : Int))).size = 8 := by
    simp only [ByteArray.size_append, be4_size, be2_size]; rfl
  have z3 : (((⟨#[70, 82]⟩ : ByteArray) ++ (be4 lsn ++ be2 (d.size : Int))) ++ be4 (crcOf ((be4 lsn ++ be2 (d.size : Int)) ++ d))).size = 12 := by
    rw [ByteArray.size_append, z2, be4_size]
  rw [z1, z2, z3, be4_size, be2_size, be4_size, size_nums, List.length_replicate]
  rw [if_pos (by omega), if_pos (by omega), if_pos (by omega), if_pos (by omega), if_pos (by omega), if_pos (by omega), if_pos (by omega), if_pos (by simp only [Int.toNat_natCast]; omega)]
  rfl

theorem put_tells (lsn : Int) (d : ByteArray) (k : Nat) (hk : 90000 ≤ k) : frame_Put.f k lsn d = some (putR lsn d) := by
  unfold frame_Put.f putR
  have no : frame_Put.j0 k lsn d true = some ((⟨#[]⟩ : ByteArray), 900) := by
    obtain ⟨k, rfl⟩ : ∃ m, k = m + 1 := ⟨k - 1, by omega⟩
    simp only [frame_Put.j0, if_true]
  by_cases h0 : lsn < 0
  · rw [if_pos h0, if_pos (Or.inl h0), no]
  by_cases h1 : lsn > 4294967295
  · rw [if_neg h0, if_pos h1, if_pos (Or.inr (Or.inl h1)), no]
  by_cases h2 : (d.size : Int) > 8192
  · rw [if_neg h0, if_neg h1, if_pos (Or.inr (Or.inr h2)), decide_eq_true h2, no]
  · rw [if_neg h0, if_neg h1, if_neg (by omega), decide_eq_false h2, put_in lsn d (by omega) k hk]

theorem ref_put_tells (lsn : Int) (d : ByteArray) (k : Nat) (hk : 90000 ≤ k) : furlongref8_PutFrame.f k lsn d = some (putR lsn d) := by
  unfold furlongref8_PutFrame.f putR
  have no : furlongref8_PutFrame.j0 k lsn d true = some ((⟨#[]⟩ : ByteArray), 900) := by
    obtain ⟨k, rfl⟩ : ∃ m, k = m + 1 := ⟨k - 1, by omega⟩
    simp only [furlongref8_PutFrame.j0, if_true]
  by_cases h0 : lsn < 0
  · rw [if_pos h0, if_pos (Or.inl h0), no]
  by_cases h1 : lsn > 4294967295
  · rw [if_neg h0, if_pos h1, if_pos (Or.inr (Or.inl h1)), no]
  by_cases h2 : (d.size : Int) > 8192
  · rw [if_neg h0, if_neg h1, if_pos (Or.inr (Or.inr h2)), decide_eq_true h2, no]
  · rw [if_neg h0, if_neg h1, if_neg (by omega), decide_eq_false h2, ref_put_in lsn (by omega) (by omega) d (by omega) k hk]

/-- Sectors that are some lie beyond the text. -/
theorem sectors_over (n : Int) (h0 : 0 ≤ n) (h : ¬ sectors n * 64 = 0) : 12 + n ≤ sectors n * 64 ∧ n ≤ 8192 := by
  unfold sectors at h ⊢
  by_cases c : n < 0 ∨ n > 8192
  · rw [if_pos c] at h; exact absurd rfl h
  · rw [if_neg c]; omega

theorem get_in (s : ByteArray) (lsn : Int) (k : Nat) (hk : 90001 ≤ k) (h1 : ¬ sectors (lenAt s) * 64 = 0) (h2 : ¬ sectors (lenAt s) * 64 > (s.size : Int)) :
    frame_Get.j0 k s lsn (lenAt s) (sectors (lenAt s) * 64) false =
      some (if (putR lsn (s.extract 12 (12 + lenAt s).toNat)).2 = 0 ∧ (putR lsn (s.extract 12 (12 + lenAt s).toNat)).1.data.toList = (s.extract 0 (sectors (lenAt s) * 64).toNat).data.toList
        then (s.extract 12 (12 + lenAt s).toNat, sectors (lenAt s) * 64, true) else no3) := by
  obtain ⟨k, rfl⟩ : ∃ m, k = m + 1 := ⟨k - 1, by omega⟩
  have hr := len_range s
  have ho := sectors_over (lenAt s) hr.1 h1
  have hw : wrap64 (12 + lenAt s) = 12 + lenAt s := by unfold wrap64; omega
  simp only [frame_Get.j0, Bool.false_eq_true, if_false]
  rw [hw, if_pos (by omega), if_pos (by omega), put_tells lsn _ k (by omega)]
  simp only [Option.bind_some, Lib.toList_data]
  generalize putR lsn (s.extract 12 (12 + lenAt s).toNat) = q
  by_cases c1 : q.2 = 0
  · rw [if_pos c1, if_pos (by omega), if_pos (by omega)]
    by_cases c2 : q.1.data.toList = (s.extract 0 (sectors (lenAt s) * 64).toNat).data.toList
    · rw [if_pos c2, if_pos ⟨c1, c2⟩]
    · rw [if_neg c2, if_neg (fun h => c2 h.2)]; rfl
  · rw [if_neg c1, if_neg (fun h => c1 h.1)]; rfl

theorem get_tells (s : ByteArray) (lsn : Int) (k : Nat) (hk : 90001 ≤ k) : frame_Get.f k s lsn = some (getR s lsn) := by
  have no : frame_Get.j0 k s lsn (lenAt s) (sectors (lenAt s) * 64) true = some no3 := by
    obtain ⟨k, rfl⟩ : ∃ m, k = m + 1 := ⟨k - 1, by omega⟩
    simp only [frame_Get.j0, if_true]; rfl
  have hr := len_range s
  have hs : wrap64 (sectors (lenAt s) * 64) = sectors (lenAt s) * 64 := by
    unfold sectors; unfold wrap64; split <;> omega
  unfold frame_Get.f getR
  by_cases c1 : (s.size : Int) < 12
  · rw [if_pos c1, if_pos c1]; rfl
  rw [if_neg c1, if_neg c1, if_pos (by omega), if_pos (by omega), if_pos (by omega), or_bytes, sectors_tells]
  simp only [Option.bind_some]
  rw [hs]
  by_cases c2 : sectors (lenAt s) * 64 = 0
  · rw [if_pos c2, if_pos (Or.inl c2), no]
  rw [if_neg c2]
  by_cases c3 : sectors (lenAt s) * 64 > (s.size : Int)
  · rw [if_pos (Or.inr c3), decide_eq_true c3, no]
  rw [if_neg (by omega), decide_eq_false c3]
  exact get_in s lsn k hk c2 c3

theorem ref_get_in (s : ByteArray) (lsn : Int) (k : Nat) (hk : 90001 ≤ k) (h1 : ¬ sectors (lenAt s) * 64 = 0) (h2 : ¬ sectors (lenAt s) * 64 > (s.size : Int)) :
    furlongref8_GetFrame.j1 k s lsn (lenAt s) (sectors (lenAt s) * 64) false =
      some (if (putR lsn (s.extract 12 (12 + lenAt s).toNat)).2 = 0 ∧ (putR lsn (s.extract 12 (12 + lenAt s).toNat)).1.data.toList = (s.extract 0 (sectors (lenAt s) * 64).toNat).data.toList
        then (s.extract 12 (12 + lenAt s).toNat, sectors (lenAt s) * 64, true) else no3) := by
  obtain ⟨k, rfl⟩ : ∃ m, k = m + 1 := ⟨k - 1, by omega⟩
  have hr := len_range s
  have ho := sectors_over (lenAt s) hr.1 h1
  have hw : wrap64 (12 + lenAt s) = 12 + lenAt s := by unfold wrap64; omega
  simp only [furlongref8_GetFrame.j1, Bool.false_eq_true, if_false]
  rw [hw, if_pos (by omega), if_pos (by omega), ref_put_tells lsn _ k (by omega)]
  simp only [Option.bind_some, Lib.toList_data]
  generalize putR lsn (s.extract 12 (12 + lenAt s).toNat) = q
  by_cases c1 : q.2 = 0
  · rw [if_pos c1, if_pos (by omega), if_pos (by omega)]
    by_cases c2 : q.1.data.toList = (s.extract 0 (sectors (lenAt s) * 64).toNat).data.toList
    · rw [if_pos c2.symm, if_pos ⟨c1, c2⟩]
    · rw [if_neg (fun h => c2 h.symm), if_neg (fun h => c2 h.2)]; rfl
  · rw [if_neg c1, if_neg (fun h => c1 h.1)]; rfl

theorem ref_get_tells (s : ByteArray) (lsn : Int) (k : Nat) (hk : 90002 ≤ k) : furlongref8_GetFrame.f k s lsn = some (getR s lsn) := by
  obtain ⟨k, rfl⟩ : ∃ m, k = m + 1 := ⟨k - 1, by omega⟩
  have no : furlongref8_GetFrame.j0 (k + 1) s lsn true = some no3 := by
    simp only [furlongref8_GetFrame.j0, if_true]; rfl
  have no1 : furlongref8_GetFrame.j1 k s lsn (lenAt s) (sectors (lenAt s) * 64) true = some no3 := by
    obtain ⟨k, rfl⟩ : ∃ m, k = m + 1 := ⟨k - 1, by omega⟩
    simp only [furlongref8_GetFrame.j1, if_true]; rfl
  have hr := len_range s
  have hs : wrap64 (sectors (lenAt s) * 64) = sectors (lenAt s) * 64 := by
    unfold sectors; unfold wrap64; split <;> omega
  unfold furlongref8_GetFrame.f
  by_cases c1 : (s.size : Int) < 12
  · rw [if_pos c1, no]; unfold getR; rw [if_pos c1]
  rw [if_neg c1, if_pos (by omega), if_pos (by omega)]
  have he : (s.extract 0 2).toList = s.data.toList.take 2 := by
    rw [Lib.toList_data, ByteArray.data_extract, Array.toList_extract, List.extract_eq_take_drop, List.drop_zero]
  rw [he]
  by_cases cm : s.data.toList.take 2 = [70, 82]
  · have hb : (s.data.toList.take 2 != ([70, 82] : List UInt8)) = false := by rw [cm]; rfl
    rw [hb]
    simp only [furlongref8_GetFrame.j0, Bool.false_eq_true, if_false]
    rw [if_pos (by omega), if_pos (by omega), or_bytes, ref_sectors_tells]
    simp only [Option.bind_some]
    rw [hs]
    unfold getR
    rw [if_neg c1]
    by_cases c2 : sectors (lenAt s) * 64 = 0
    · rw [if_pos c2, if_pos (Or.inl c2), no1]
    rw [if_neg c2]
    by_cases c3 : sectors (lenAt s) * 64 > (s.size : Int)
    · rw [if_pos (Or.inr c3), decide_eq_true (show (s.size : Int) < sectors (lenAt s) * 64 from c3), no1]
    rw [if_neg (by omega), decide_eq_false (show ¬ (s.size : Int) < sectors (lenAt s) * 64 from c3)]
    exact ref_get_in s lsn k (by omega) c2 c3
  · have hb : (s.data.toList.take 2 != ([70, 82] : List UInt8)) = true := by rw [bne_iff_ne]; exact cm
    rw [hb, no, get_unmarked s lsn cm]

theorem awakes (k : Nat) (hk : 90000 ≤ k) : furlonglaw9_awake.f k = some true :=
  at_rounds (fun j => furlonglaw9_awake.mono j) hk (at_rounds (fun j => furlonglaw9_awake.mono j) (by decide : 1000 ≤ 90000) (show furlonglaw9_awake.f 1000 = some true by decide +kernel))
end Go.Proofs.Ytajgngijmmkemaa.Tells
