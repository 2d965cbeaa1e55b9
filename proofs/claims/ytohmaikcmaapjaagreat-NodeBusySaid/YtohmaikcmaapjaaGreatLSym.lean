/- The domain of numbers known by their bounds: what it says is so. -/
import Derived.Test.YtohmaikcmaapjaaGreatLSymD
import Derived.IntWalk
namespace Go.Proofs.YtohmaikcmaapjaaGreat.LI

theorem wrap_nat (k : IntKind) (n : Nat) (h : n < lim k) : k.wrap (n : Int) = n := by
  cases k <;> simp only [lim] at h
  · exact IntWalk.i8_in _ (by omega)
  · exact IntWalk.i16_in _ (by omega)
  · exact IntWalk.i32_in _ (by omega)
  · exact IntWalk.i64_in _ (by omega)
  · exact IntWalk.u8_in _ (by omega)
  · exact IntWalk.u16_in _ (by omega)
  · exact IntWalk.u32_in _ (by omega)
  · exact IntWalk.u64_in _ (by omega)
theorem wrap_in (k : IntKind) (n : Int) (h : k.min ≤ n) (h' : n ≤ k.max) : k.wrap n = n := by
  cases k <;> simp [IntKind.min, IntKind.max, IntKind.signed, IntKind.bits] at h h'
  · exact IntWalk.i8_in _ (by omega)
  · exact IntWalk.i16_in _ (by omega)
  · exact IntWalk.i32_in _ (by omega)
  · exact IntWalk.i64_in _ (by omega)
  · exact IntWalk.u8_in _ (by omega)
  · exact IntWalk.u16_in _ (by omega)
  · exact IntWalk.u32_in _ (by omega)
  · exact IntWalk.u64_in _ (by omega)
theorem wrap_range (k : IntKind) (n : Int) : k.min ≤ k.wrap n ∧ k.wrap n ≤ k.max := by
  have hb : (0 : Int) < 2 ^ k.bits := by cases k <;> simp [IntKind.bits]
  have h0 := Int.emod_nonneg n (Int.ne_of_gt hb)
  have h1 := Int.emod_lt_of_pos n hb
  unfold IntKind.wrap IntKind.min IntKind.max
  cases k <;> simp [IntKind.signed, IntKind.bits] at h0 h1 ⊢ <;> (try split) <;> omega
theorem lim_pow (k : IntKind) : ∃ j, lim k = 2 ^ j ∧ j ≤ k.bits := by
  cases k
  · exact ⟨7, rfl, by decide⟩
  · exact ⟨15, rfl, by decide⟩
  · exact ⟨31, rfl, by decide⟩
  · exact ⟨63, rfl, by decide⟩
  · exact ⟨8, rfl, by decide⟩
  · exact ⟨16, rfl, by decide⟩
  · exact ⟨32, rfl, by decide⟩
  · exact ⟨64, rfl, by decide⟩
theorem ofInt_nat (k : IntKind) (n : Nat) (h : n < lim k) : (BitVec.ofInt k.bits (n : Int)).toNat = n := by
  obtain ⟨j, h1, h2⟩ := lim_pow k
  have : n < 2 ^ k.bits := Nat.lt_of_lt_of_le (h1 ▸ h) (Nat.pow_le_pow_right (by decide) h2)
  rw [show BitVec.ofInt k.bits (n : Int) = BitVec.ofNat k.bits n from BitVec.ofInt_natCast _ _, BitVec.toNat_ofNat, Nat.mod_eq_of_lt this]
theorem pow_min (m n : Nat) : (2 : Int) ^ (Nat.min n m) = ((2 ^ (Nat.min n m) : Nat) : Int) := by simp

theorem natBin_ok {k : IntKind} {m n : Nat} {op : BinOp} {r : Int} (h : natBin k m n op = some r) : goBin op k (m : Int) (n : Int) = some r := by
  cases op <;> simp only [natBin, reduceCtorEq] at h
  case add =>
    obtain ⟨h1, h2⟩ := cond_some h; cases h2
    have h1 : m + n < lim k := by simpa [Nat.blt_eq] using h1
    simp only [goBin, Option.some.injEq]
    exact wrap_nat k (m + n) h1
  case sub =>
    obtain ⟨h1, h2⟩ := cond_some h; cases h2
    simp only [Bool.and_eq_true, Nat.blt_eq] at h1
    obtain ⟨h1, h3⟩ := h1
    have h1 := Nat.le_of_ble_eq_true h1
    simp only [goBin, Option.some.injEq]
    have : ((m : Int) - n) = ((m - n : Nat) : Int) := by omega
    rw [this]; exact wrap_nat k (m - n) (by omega)
  case mul =>
    obtain ⟨h1, h2⟩ := cond_some h; cases h2
    have h1 : m * n < lim k := by simpa [Nat.blt_eq] using h1
    simp only [goBin, Option.some.injEq]
    exact wrap_nat k (m * n) h1
  case quo =>
    obtain ⟨h1, h2⟩ := cond_some h; cases h2
    simp only [Bool.and_eq_true, Nat.blt_eq] at h1
    obtain ⟨h1, h3⟩ := h1
    simp only [goBin]
    rw [if_neg (by omega)]
    have : (m : Int).tdiv n = ((m / n : Nat) : Int) := rfl
    rw [this, wrap_nat k (m / n) (Nat.lt_of_le_of_lt (Nat.div_le_self _ _) h3)]; rfl
  case rem =>
    obtain ⟨h1, h2⟩ := cond_some h; cases h2
    simp only [Nat.blt_eq] at h1
    simp only [goBin]
    rw [if_neg (by omega)]; rfl
  case and =>
    obtain ⟨h1, h2⟩ := cond_some h; cases h2
    simp only [Bool.and_eq_true, Nat.blt_eq] at h1
    simp only [goBin, Option.some.injEq]
    rw [BitVec.toNat_and, ofInt_nat k m h1.1, ofInt_nat k n h1.2]
    exact wrap_nat k (m &&& n) (Nat.lt_of_le_of_lt Nat.and_le_left h1.1)
  case or =>
    obtain ⟨h1, h2⟩ := cond_some h; cases h2
    simp only [Bool.and_eq_true, Nat.blt_eq] at h1
    simp only [goBin, Option.some.injEq]
    rw [BitVec.toNat_or, ofInt_nat k m h1.1, ofInt_nat k n h1.2]
    obtain ⟨j, q1, q2⟩ := lim_pow k
    rw [q1] at h1
    exact wrap_nat k (m ||| n) (q1 ▸ Nat.or_lt_two_pow h1.1 h1.2)
  case xor =>
    obtain ⟨h1, h2⟩ := cond_some h; cases h2
    simp only [Bool.and_eq_true, Nat.blt_eq] at h1
    simp only [goBin, Option.some.injEq]
    rw [BitVec.toNat_xor, ofInt_nat k m h1.1, ofInt_nat k n h1.2]
    obtain ⟨j, q1, q2⟩ := lim_pow k
    rw [q1] at h1
    exact wrap_nat k (m ^^^ n) (q1 ▸ Nat.xor_lt_two_pow h1.1 h1.2)
  case shl =>
    obtain ⟨h1, h2⟩ := cond_some h; cases h2
    simp only [Bool.and_eq_true, Nat.blt_eq] at h1
    obtain ⟨h1, h3⟩ := h1
    have h3 := Nat.le_of_ble_eq_true h3
    simp only [goBin]
    rw [if_neg (by omega)]
    have e : Nat.min (n : Int).toNat k.bits = n := by simp [Nat.min_eq_left h3]
    rw [e]
    have : (m : Int) * 2 ^ n = ((m * 2 ^ n : Nat) : Int) := by simp
    rw [this]; exact congrArg some (wrap_nat k (m * 2 ^ n) h1)
  case shr =>
    obtain ⟨h1, h2⟩ := cond_some h; cases h2
    have h3 := Nat.le_of_ble_eq_true h1
    simp only [goBin]
    rw [if_neg (by omega)]
    have e : Nat.min (n : Int).toNat k.bits = n := by simp [Nat.min_eq_left h3]
    rw [e]
    have : (2 : Int) ^ n = ((2 ^ n : Nat) : Int) := by simp
    rw [this]
    exact congrArg some (Int.ofNat_fdiv m (2 ^ n)).symm
theorem fastBin_ok {op : BinOp} {k : IntKind} {a b c : Int} (h : fastBin op k a b = some c) : goBin op k a b = some c := by
  unfold fastBin at h
  split at h
  · split at h
    · cases h; rename_i h1; exact natBin_ok h1
    · exact h
  · exact h
theorem natCmp_ok {m n : Nat} {op : BinOp} {t : Bool} (h : natCmp m n op = some t) : goCmp op (m : Int) (n : Int) = some t := by
  cases op <;> simp only [natCmp, reduceCtorEq, Option.some.injEq] at h <;> subst h <;> simp only [goCmp, Option.some.injEq]
  · rw [Bool.eq_iff_iff, Nat.beq_eq]; simp; omega
  · rw [Bool.eq_iff_iff]; simp only [Bool.not_eq_true', bne_iff_ne, ne_eq]
    rw [← Bool.not_eq_true, Nat.beq_eq]; omega
  · rw [Bool.eq_iff_iff]; simp [Nat.blt_eq]
  · rw [Bool.eq_iff_iff]; simp [Nat.ble_eq]
  · rw [Bool.eq_iff_iff]; simp [Nat.blt_eq]
  · rw [Bool.eq_iff_iff]; simp [Nat.ble_eq]
theorem fastCmp_ok {op : BinOp} {a b : Int} {t : Bool} (h : fastCmp op a b = some t) : goCmp op a b = some t := by
  unfold fastCmp at h
  split at h
  · exact natCmp_ok h
  · exact h
theorem fastConv_ok (k : IntKind) (a : Int) : fastConv k a = k.wrap a := by
  unfold fastConv
  split
  · rename_i m
    cases h : Nat.blt m (lim k)
    · rfl
    · rw [Nat.blt_eq] at h
      exact (wrap_nat k m h).symm
  · rfl
end Go.Proofs.YtohmaikcmaapjaaGreat.LI
