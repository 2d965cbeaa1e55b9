/- Plain laws of the check sum, with no program in sight: rounds on 32 bits; a printed pair of loops comes to them. -/
import Derived.Test.YtajgngijmmkemaaWWords
import Derived.Laws.BitsLemmas
namespace Go.Proofs.Ytajgngijmmkemaa.Crc
open Go.RowKit Go.Proofs.YtajgngijmmkemaaW.PrintWords

/-- One bit's round. -/
def rnd (c : BitVec 32) : BitVec 32 := if c.getLsbD 0 then (c >>> 1) ^^^ 3988292384#32 else c >>> 1
/-- So many rounds. -/
def rnds : Nat → BitVec 32 → BitVec 32
  | 0, c => c
  | n + 1, c => rnds n (rnd c)
/-- A byte's turn. -/
def byteB (c : BitVec 32) (b : UInt8) : BitVec 32 := rnds 8 (c ^^^ BitVec.ofNat 32 b.toNat)
/-- A text's. -/
def run (l : List UInt8) (c : BitVec 32) : BitVec 32 := l.foldl byteB c
/-- The sum of a text behind one of sum c. -/
def sumFrom (c : BitVec 32) (l : List UInt8) : BitVec 32 := ~~~ (run l (~~~ c))

theorem run_append (a b : List UInt8) (c : BitVec 32) : run (a ++ b) c = run b (run a c) := List.foldl_append ..
theorem sum_append (a b : List UInt8) : sumFrom (sumFrom 0 a) b = sumFrom 0 (a ++ b) := by
  unfold sumFrom; rw [BitVec.not_not, run_append]

theorem of_toNat (a : BitVec 32) : BitVec.ofInt 32 (a.toNat : Int) = a := by
  rw [BitVec.ofInt_natCast]; simp
theorem wrap_toNat (a : BitVec 32) : IntKind.u32.wrap (a.toNat : Int) = (a.toNat : Int) := by
  rw [IntKind.wrap_u32]; have := a.isLt; omega
theorem xor_u32 (a b : BitVec 32) : Go.bits .xor .u32 (a.toNat : Int) (b.toNat : Int) = ((a ^^^ b).toNat : Int) := by
  show IntKind.u32.wrap (((BitVec.ofInt 32 (a.toNat : Int)) ^^^ (BitVec.ofInt 32 (b.toNat : Int))).toNat : Int) = _
  rw [of_toNat, of_toNat, wrap_toNat]
theorem and_u32 (a b : BitVec 32) : Go.bits .and .u32 (a.toNat : Int) (b.toNat : Int) = ((a &&& b).toNat : Int) := by
  show IntKind.u32.wrap (((BitVec.ofInt 32 (a.toNat : Int)) &&& (BitVec.ofInt 32 (b.toNat : Int))).toNat : Int) = _
  rw [of_toNat, of_toNat, wrap_toNat]
theorem half_u32 (a : BitVec 32) : (a.toNat : Int) / (2 : Int) = ((a >>> 1).toNat : Int) := by
  simp [BitVec.toNat_ushiftRight, Nat.shiftRight_eq_div_pow]
theorem low_one (a : BitVec 32) : (Go.bits .and .u32 (a.toNat : Int) 1 = 1) ↔ a.getLsbD 0 = true := by
  have h := and_u32 a 1#32
  rw [show ((1#32 : BitVec 32).toNat : Int) = 1 from rfl] at h
  rw [h, BitVec.toNat_and, show (1#32 : BitVec 32).toNat = 1 from rfl, Nat.and_one_is_mod, BitVec.getLsbD, Nat.testBit_zero]
  simp; omega
theorem not_u32 (a : BitVec 32) : Go.bits .xor .u32 4294967295 (a.toNat : Int) = ((~~~ a).toNat : Int) := by
  have h := xor_u32 4294967295#32 a
  rw [show ((4294967295#32 : BitVec 32).toNat : Int) = 4294967295 from rfl] at h
  rw [h, show (4294967295#32 : BitVec 32) = BitVec.allOnes 32 from rfl, BitVec.allOnes_xor]
theorem wrap64_toNat (a : BitVec 32) : wrap64 (a.toNat : Int) = (a.toNat : Int) := by
  unfold wrap64; have := a.isLt; omega

/-- The byte at a place of a text, as 32 bits. -/
theorem bt_u32 (s : ByteArray) (i : Nat) (h : i < s.size) : (bt s i) % 4294967296 = ((BitVec.ofNat 32 (s[i]'h).toNat).toNat : Int) := by
  unfold bt
  simp only [Int.toNat_natCast, h, dif_pos, BitVec.toNat_ofNat]
  rfl

/-- Two loops, one in the other, that go by these equations come to a text's run. -/
theorem loops_run (s : ByteArray) (hs : s.size ≤ 140737488351232) (l0 : Nat → Int → Int → Option Int) (l1 : Nat → Int → Int → Int → Option Int)
    (e0 : ∀ k x i, l0 (k + 1) x i = if i < (s.size : Int) then (if 0 ≤ i then l1 k (Go.bits .xor .u32 x ((bt s i) % 4294967296)) i 0 else none) else some x)
    (e1 : ∀ k x i j, l1 (k + 1) x i j = if j < 8 then (if (Go.bits .and .u32 x 1) = 1 then l1 k (Go.bits .xor .u32 (x / 2) 3988292384) i (wrap64 (j + 1)) else l1 k (x / 2) i (wrap64 (j + 1))) else l0 k x (wrap64 (i + 1))) :
    ∀ (n k i : Nat) (c : BitVec 32), i + n = s.size → n * 10 < k → l0 k (c.toNat : Int) (i : Int) = some ((run (s.data.toList.drop i) c).toNat : Int) := by
  -- the inner loop: from round j on
  have inner : ∀ (m k i : Nat) (c : BitVec 32), m ≤ 8 → l1 (k + m + 1) (c.toNat : Int) (i : Int) ((8 - m : Nat) : Int) = l0 k ((rnds m c).toNat : Int) (wrap64 ((i : Int) + 1)) := by
    intro m
    induction m with
    | zero =>
      intro k i c _
      rw [e1, if_neg (by omega)]
      rfl
    | succ m ih =>
      intro k i c hm
      have hw : wrap64 (((8 - (m + 1) : Nat) : Int) + 1) = ((8 - m : Nat) : Int) := by unfold wrap64; omega
      rw [e1, if_pos (by omega), hw]
      by_cases hb : c.getLsbD 0 = true
      · rw [if_pos ((low_one c).2 hb), half_u32, show (3988292384 : Int) = ((3988292384#32 : BitVec 32).toNat : Int) from rfl, xor_u32,
          show k + (m + 1) = k + m + 1 from rfl, ih k i _ (by omega)]
        simp only [rnds, rnd, hb, if_true]
      · rw [if_neg (fun h => hb ((low_one c).1 h)), half_u32, show k + (m + 1) = k + m + 1 from rfl, ih k i _ (by omega)]
        simp only [rnds, rnd, hb, if_false, Bool.false_eq_true]
  intro n
  induction n with
  | zero =>
    intro k i c hi hk
    obtain ⟨k, rfl⟩ : ∃ m, k = m + 1 := ⟨k - 1, by omega⟩
    rw [e0, if_neg (by omega), List.drop_of_length_le (by simp; omega)]
    rfl
  | succ n ih =>
    intro k i c hi hk
    have hlt : i < s.size := by omega
    obtain ⟨k, rfl⟩ : ∃ m, k = m + 1 := ⟨k - 1, by omega⟩
    obtain ⟨k, rfl⟩ : ∃ m, k = m + 8 + 1 := ⟨k - 9, by omega⟩
    have hw : wrap64 ((i : Int) + 1) = ((i + 1 : Nat) : Int) := by unfold wrap64; omega
    rw [e0, if_pos (by omega), if_pos (by omega), bt_u32 s i hlt, xor_u32]
    have := inner 8 k i (c ^^^ BitVec.ofNat 32 (s[i]'hlt).toNat) (by omega)
    rw [show ((8 - 8 : Nat) : Int) = 0 from rfl] at this
    rw [this, hw, ih k (i + 1) _ (by omega) (by omega)]
    have hd : s.data.toList.drop i = s[i]'hlt :: s.data.toList.drop (i + 1) := by
      rw [List.drop_eq_getElem_cons (by simpa using hlt)]; rfl
    rw [hd]; rfl

end Go.Proofs.Ytajgngijmmkemaa.Crc
