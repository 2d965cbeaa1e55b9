/- The domain of numbers known by their bounds: what it says is so. -/
import Derived.Test.YtohmaikcmaapjaaGreatLSym
import Derived.Laws.Strings
namespace Go.Proofs.YtohmaikcmaapjaaGreat.LI

def clamp (l h x : Int) : Int := imax l (cond (decide (imax l h ≤ x)) (imax l h) x)
theorem imax_le (a b : Int) : a ≤ imax a b ∧ b ≤ imax a b := by unfold imax; by_cases h : a ≤ b <;> simp [h] <;> omega
theorem clamp_bound (l h x : Int) : l ≤ clamp l h x ∧ clamp l h x ≤ imax l h := by
  have h1 := imax_le l h
  unfold clamp
  by_cases h2 : imax l h ≤ x
  · simp only [h2, decide_true, cond_true]
    have := imax_le l (imax l h)
    refine ⟨this.1, ?_⟩
    unfold imax at *; by_cases h3 : l ≤ h <;> simp [h3] at * <;> omega
  · simp only [h2, decide_false, cond_false]
    refine ⟨(imax_le l x).1, ?_⟩
    have h4 : x < imax l h := by omega
    unfold imax at *; by_cases h3 : l ≤ h <;> by_cases h5 : l ≤ x <;> simp [h3, h5] at * <;> omega
theorem clamp_id {l h x : Int} (h1 : l ≤ x) (h2 : x ≤ h) : clamp l h x = x := by
  unfold clamp imax
  have : l ≤ h := by omega
  simp only [this, decide_true, cond_true]
  by_cases h3 : h ≤ x
  · have : x = h := by omega
    subst this; simp [this, h1]
  · simp [h3, h1]

section
variable (ρ : Nat → List Int → Int) (crcF : List UInt8 → Int)
mutual
def N.val : N → Int
  | .c n => n
  | .v i l h => clamp l h (ρ i [])
  | .b op k x y l h => clamp l h ((goBin op k (N.val x) (N.val y)).getD 0)
  | .w k x => k.wrap (N.val x)
  | .p x => ((N.val x).toNat : Int)
  | .f i s l h => clamp l h (ρ i (NL.vals s))
  | .crc s => crcF (NL.bytes s)
def NL.bytes : NL → List UInt8
  | .nil => []
  | .cons x r => UInt8.ofNat (N.val x).toNat :: NL.bytes r
def NL.vals : NL → List Int
  | .nil => []
  | .cons x r => N.val x :: NL.vals r
end
end

theorem intEq_eq {a b : Int} (h : intEq a b = true) : a = b := by
  unfold intEq at h
  split at h
  · rw [Nat.eq_of_beq_eq_true h]
  · rw [Nat.eq_of_beq_eq_true h]
  · cases h
theorem binEq_eq {a b : BinOp} (h : binEq a b = true) : a = b := by cases a <;> cases b <;> first | rfl | (simp [binEq] at h)
mutual
theorem N.same_eq : ∀ (a b : N), N.same a b = true → a = b
  | .c a, b, h => by
    cases b <;> simp only [N.same, Bool.false_eq_true] at h
    rw [intEq_eq h]
  | .v i l q, b, h => by
    cases b <;> simp only [N.same, Bool.false_eq_true, Bool.and_eq_true] at h
    rw [Nat.eq_of_beq_eq_true h.1.1, intEq_eq h.1.2, intEq_eq h.2]
  | .b op k x y l q, b, h => by
    cases b <;> simp only [N.same, Bool.false_eq_true, Bool.and_eq_true] at h
    obtain ⟨⟨⟨⟨⟨h1, h2⟩, h3⟩, h4⟩, h5⟩, h6⟩ := h
    rw [binEq_eq h1, kindEq_eq h2, N.same_eq x _ h3, N.same_eq y _ h4, intEq_eq h5, intEq_eq h6]
  | .w k x, b, h => by
    cases b <;> simp only [N.same, Bool.false_eq_true, Bool.and_eq_true] at h
    rw [kindEq_eq h.1, N.same_eq x _ h.2]
  | .p x, b, h => by
    cases b <;> simp only [N.same, Bool.false_eq_true] at h
    rw [N.same_eq x _ h]
  | .f i s l q, b, h => by
    cases b <;> simp only [N.same, Bool.false_eq_true, Bool.and_eq_true] at h
    rw [Nat.eq_of_beq_eq_true h.1.1.1, NL.same_eq s _ h.1.1.2, intEq_eq h.1.2, intEq_eq h.2]
  | .crc s, b, h => by
    cases b <;> simp only [N.same, Bool.false_eq_true] at h
    rw [NL.same_eq s _ h]
theorem NL.same_eq : ∀ (a b : NL), NL.same a b = true → a = b
  | .nil, b, h => by cases b <;> simp only [NL.same, Bool.false_eq_true] at h; rfl
  | .cons x r, b, h => by
    cases b <;> simp only [NL.same, Bool.false_eq_true, Bool.and_eq_true] at h
    rw [N.same_eq x _ h.1, NL.same_eq r _ h.2]
end

section
variable {ρ : Nat → List Int → Int} {crcF : List UInt8 → Int} (hcrc : ∀ l, 0 ≤ crcF l ∧ crcF l ≤ 4294967295)
include hcrc
theorem N.bound : ∀ (x : N), x.lo ≤ x.val ρ crcF ∧ x.val ρ crcF ≤ x.hi
  | .c n => by simp only [N.lo, N.hi, N.val]; omega
  | .v i l h => by simp only [N.lo, N.hi, N.val]; exact clamp_bound _ _ _
  | .b op k x y l h => by simp only [N.lo, N.hi, N.val]; exact clamp_bound _ _ _
  | .w k x => by simp only [N.lo, N.hi, N.val]; exact wrap_range _ _
  | .p x => by
    have h1 := N.bound x
    have h2 := imax_le 0 x.hi
    simp only [N.lo, N.hi, N.val]; omega
  | .f i s l h => by simp only [N.lo, N.hi, N.val]; exact clamp_bound _ _ _
  | .crc s => by simp only [N.lo, N.hi, N.val]; exact hcrc _
end
theorem ile_iff {a b : Int} : ile a b = true ↔ a ≤ b := by unfold ile; simp

theorem kmin_le (k : IntKind) : k.min ≤ 0 ∧ 0 ≤ k.max := by cases k <;> simp [IntKind.min, IntKind.max, IntKind.signed, IntKind.bits]
theorem kmax_lt (k : IntKind) : k.max < 2 ^ k.bits := by cases k <;> simp [IntKind.max, IntKind.signed, IntKind.bits]

theorem bounds_ok {op : BinOp} {k : IntKind} {lx hx ly hy l h a b : Int} (hb : bounds op k lx hx ly hy = some (l, h)) (ha1 : lx ≤ a) (ha2 : a ≤ hx) (hb1 : ly ≤ b) (hb2 : b ≤ hy) :
    ∃ r, goBin op k a b = some r ∧ l ≤ r ∧ r ≤ h := by
  cases op <;> simp only [bounds, reduceCtorEq] at hb
  case add =>
    obtain ⟨h1, h2⟩ := cond_some hb; cases h2
    simp only [Bool.and_eq_true, ile_iff] at h1
    exact ⟨a + b, by simp only [goBin]; rw [wrap_in k _ (by omega) (by omega)], by omega, by omega⟩
  case sub =>
    obtain ⟨h1, h2⟩ := cond_some hb; cases h2
    simp only [Bool.and_eq_true, ile_iff] at h1
    exact ⟨a - b, by simp only [goBin]; rw [wrap_in k _ (by omega) (by omega)], by omega, by omega⟩
  case mul =>
    cases hz : (intEq lx 0 && intEq hx 0) with
    | true =>
      rw [hz] at hb; cases hb
      simp only [Bool.and_eq_true] at hz
      have e1 := intEq_eq hz.1
      have e2 := intEq_eq hz.2
      have : a = 0 := by omega
      subst this
      exact ⟨0, by simp only [goBin, Int.zero_mul]; rw [wrap_in k _ (kmin_le k).1 (kmin_le k).2], by omega, by omega⟩
    | false =>
    rw [hz, cond_false] at hb
    obtain ⟨h1, h2⟩ := cond_some hb; cases h2
    simp only [Bool.and_eq_true, ile_iff] at h1
    obtain ⟨⟨h1, h3⟩, h4⟩ := h1
    have q1 : lx * ly ≤ a * b := Int.mul_le_mul ha1 hb1 h3 (by omega)
    have q2 : a * b ≤ hx * hy := Int.mul_le_mul ha2 hb2 (by omega) (by omega)
    have q3 : 0 ≤ lx * ly := Int.mul_nonneg h1 h3
    exact ⟨a * b, by simp only [goBin]; rw [wrap_in k _ (by have := (kmin_le k).1; omega) (by omega)], q1, q2⟩
  case and =>
    obtain ⟨h1, h2⟩ := cond_some hb; cases h2
    simp only [Bool.and_eq_true, ile_iff] at h1
    obtain ⟨⟨h1, h3⟩, h4⟩ := h1
    have h1 := intEq_eq h1
    have hbe : b = ly := by omega
    obtain ⟨n, hn⟩ := Int.eq_ofNat_of_zero_le h3
    have hlt : n < 2 ^ k.bits := by
      have := kmax_lt k
      have q : ((2 ^ k.bits : Nat) : Int) = 2 ^ k.bits := by simp
      omega
    have hbn : (BitVec.ofInt k.bits b).toNat = n := by
      rw [hbe, hn, show BitVec.ofInt k.bits (n : Int) = BitVec.ofNat k.bits n from BitVec.ofInt_natCast _ _, BitVec.toNat_ofNat, Nat.mod_eq_of_lt hlt]
    have hle : (BitVec.ofInt k.bits a &&& BitVec.ofInt k.bits b).toNat ≤ n := by rw [BitVec.toNat_and, hbn]; exact Nat.and_le_right
    refine ⟨((BitVec.ofInt k.bits a &&& BitVec.ofInt k.bits b).toNat : Int), ?_, by omega, by omega⟩
    simp only [goBin]
    rw [wrap_in k _ (by have := (kmin_le k).1; omega) (by omega)]
  case shr =>
    obtain ⟨h1, h2⟩ := cond_some hb; cases h2
    simp only [Bool.and_eq_true, ile_iff] at h1
    have h3 := intEq_eq h1.1
    have hbe : b = ly := by omega
    have hp : (0 : Int) < 2 ^ Nat.min ly.toNat k.bits := Int.pow_pos (by decide)
    refine ⟨a.fdiv (2 ^ Nat.min ly.toNat k.bits), ?_, ?_, ?_⟩
    · simp only [goBin]; rw [hbe, if_neg (by omega)]
    · rw [Int.fdiv_eq_ediv_of_nonneg _ (by omega), Int.fdiv_eq_ediv_of_nonneg _ (by omega)]; exact Int.ediv_le_ediv hp ha1
    · rw [Int.fdiv_eq_ediv_of_nonneg _ (by omega), Int.fdiv_eq_ediv_of_nonneg _ (by omega)]; exact Int.ediv_le_ediv hp ha2
  case shl =>
    obtain ⟨h1, h2⟩ := cond_some hb; cases h2
    simp only [Bool.and_eq_true, ile_iff] at h1
    obtain ⟨⟨⟨h1, h4⟩, h5⟩, h6⟩ := h1
    have h3 := intEq_eq h1
    have hbe : b = ly := by omega
    have hp : (0 : Int) < 2 ^ Nat.min ly.toNat k.bits := Int.pow_pos (by decide)
    have q1 : lx * 2 ^ Nat.min ly.toNat k.bits ≤ a * 2 ^ Nat.min ly.toNat k.bits := Int.mul_le_mul_of_nonneg_right ha1 (by omega)
    have q2 : a * 2 ^ Nat.min ly.toNat k.bits ≤ hx * 2 ^ Nat.min ly.toNat k.bits := Int.mul_le_mul_of_nonneg_right ha2 (by omega)
    have q3 : 0 ≤ lx * 2 ^ Nat.min ly.toNat k.bits := Int.mul_nonneg h5 (by omega)
    refine ⟨a * 2 ^ Nat.min ly.toNat k.bits, ?_, q1, q2⟩
    simp only [goBin]; rw [hbe, if_neg (by omega), wrap_in k _ (by have := (kmin_le k).1; omega) (by omega)]
  case rem =>
    obtain ⟨h1, h2⟩ := cond_some hb; cases h2
    simp only [Bool.and_eq_true, ile_iff] at h1
    obtain ⟨⟨h1, h4⟩, h5⟩ := h1
    have h3 := intEq_eq h1
    have hbe : b = ly := by omega
    refine ⟨a.tmod b, ?_, Int.tmod_nonneg _ (by omega), ?_⟩
    · simp only [goBin]; rw [if_neg (by omega)]
    · have := Int.tmod_lt_of_pos a (show 0 < b by omega); omega
  case quo =>
    obtain ⟨h1, h2⟩ := cond_some hb; cases h2
    simp only [Bool.and_eq_true, ile_iff] at h1
    obtain ⟨⟨⟨h1, h4⟩, h5⟩, h6⟩ := h1
    have h3 := intEq_eq h1
    have hbe : b = ly := by omega
    subst hbe
    rw [Int.tdiv_eq_ediv_of_nonneg h5, Int.tdiv_eq_ediv_of_nonneg (show 0 ≤ hx by omega)]
    have q1 := Int.ediv_le_ediv (show 0 < b by omega) ha1
    have q2 := Int.ediv_le_ediv (show 0 < b by omega) ha2
    have q3 : 0 ≤ lx / b := Int.ediv_nonneg h5 (by omega)
    have q4 : hx / b ≤ hx := Int.ediv_le_self _ (by omega)
    refine ⟨a.tdiv b, ?_, by rw [Int.tdiv_eq_ediv_of_nonneg (by omega)]; exact q1, by rw [Int.tdiv_eq_ediv_of_nonneg (by omega)]; exact q2⟩
    simp only [goBin]; rw [if_neg (by omega), wrap_in k _ (by rw [Int.tdiv_eq_ediv_of_nonneg (by omega)]; have := (kmin_le k).1; omega) (by rw [Int.tdiv_eq_ediv_of_nonneg (by omega)]; omega)]

theorem total_ok {op : BinOp} {k : IntKind} {ly hy a b : Int} (ht : total op ly hy = true) (hb1 : ly ≤ b) (hb2 : b ≤ hy) : ∃ r, goBin op k a b = some r ∧ k.min ≤ r ∧ r ≤ k.max := by
  have hw := fun n => wrap_range k n
  cases op <;> simp only [total, Bool.false_eq_true, Bool.or_eq_true, ile_iff] at ht
  · exact ⟨_, rfl, (hw _).1, (hw _).2⟩
  · exact ⟨_, rfl, (hw _).1, (hw _).2⟩
  · exact ⟨_, rfl, (hw _).1, (hw _).2⟩
  · exact ⟨k.wrap (a.tdiv b), by simp only [goBin]; rw [if_neg (by omega)], (hw _).1, (hw _).2⟩
  · exact ⟨_, rfl, (hw _).1, (hw _).2⟩
  · exact ⟨_, rfl, (hw _).1, (hw _).2⟩
  · exact ⟨_, rfl, (hw _).1, (hw _).2⟩
  · exact ⟨k.wrap (a * 2 ^ (Nat.min b.toNat k.bits)), by simp only [goBin]; rw [if_neg (by omega)], (hw _).1, (hw _).2⟩
  · exact ⟨_, rfl, (hw _).1, (hw _).2⟩
theorem boundCmp_ok {op : BinOp} {lx hx ly hy a b : Int} {t : Bool} (hb : boundCmp op lx hx ly hy = some t) (ha1 : lx ≤ a) (ha2 : a ≤ hx) (hb1 : ly ≤ b) (hb2 : b ≤ hy) : goCmp op a b = some t := by
  cases op <;> simp only [boundCmp, reduceCtorEq, Bool.cond_eq_ite, ile_iff, decide_eq_true_eq, Bool.or_eq_true] at hb <;> (repeat' split at hb) <;> cases hb <;> simp only [goCmp, Option.some.injEq, beq_eq_false_iff_ne, bne_iff_ne, decide_eq_true_eq, decide_eq_false_iff_not, ne_eq] <;> omega
section
variable {ρ : Nat → List Int → Int} {crcF : List UInt8 → Int} (hcrc : ∀ l, 0 ≤ crcF l ∧ crcF l ≤ 4294967295)
include hcrc
theorem symBin_ok {op : BinOp} {k : IntKind} {x y z : N} (h : symBin op k x y = some z) : goBin op k (x.val ρ crcF) (y.val ρ crcF) = some (z.val ρ crcF) := by
  unfold symBin at h
  split at h
  · rename_i l u hb
    obtain ⟨r, h1, h2, h3⟩ := bounds_ok hb (N.bound hcrc x).1 (N.bound hcrc x).2 (N.bound hcrc y).1 (N.bound hcrc y).2
    rw [h1]
    cases he : intEq l u
    · rw [he] at h; cases h
      simp only [N.val, h1, Option.getD_some]
      rw [clamp_id h2 h3]
    · rw [he] at h; cases h
      simp only [N.val]
      have := intEq_eq he
      congr 1; omega
  · obtain ⟨ht, h⟩ := cond_some h
    cases h
    obtain ⟨r, h1, h2, h3⟩ := total_ok (k := k) (a := x.val ρ crcF) ht (N.bound hcrc y).1 (N.bound hcrc y).2
    rw [h1]
    simp only [N.val, h1, Option.getD_some]
    rw [clamp_id h2 h3]
theorem binN_ok {op : BinOp} {k : IntKind} {x y z : N} (h : binN op k x y = some z) : goBin op k (x.val ρ crcF) (y.val ρ crcF) = some (z.val ρ crcF) := by
  unfold binN at h
  split at h
  · split at h
    · cases h; rename_i h1; simpa only [N.val] using fastBin_ok h1
    · cases h
  · cases hs : (isSub op && N.same x y) with
    | false => rw [hs] at h; exact symBin_ok hcrc h
    | true =>
      rw [hs] at h; cases h
      simp only [Bool.and_eq_true] at hs
      rw [N.same_eq _ _ hs.2]
      cases op <;> simp only [isSub, Bool.false_eq_true, false_and] at hs
      simp only [goBin, Int.sub_self, N.val]
      rw [wrap_in k _ (kmin_le k).1 (kmin_le k).2]
theorem cmpN_ok {F : Facts} (hF : ∀ f ∈ F, f.2.2 = true ↔ f.1.val ρ crcF ≤ f.2.1.val ρ crcF) {op : BinOp} {x y : N} {t : Bool} (h : cmpN F op x y = some t) : goCmp op (x.val ρ crcF) (y.val ρ crcF) = some t := by
  have leOk : ∀ (F : Facts) (x y : N) (t : Bool), (∀ f ∈ F, f.2.2 = true ↔ f.1.val ρ crcF ≤ f.2.1.val ρ crcF) → leFact x y F = some t → (t = true ↔ x.val ρ crcF ≤ y.val ρ crcF) := by
    intro F
    induction F with
    | nil => intro x y t _ h; cases h
    | cons f F ih =>
      intro x y t hF h
      simp only [leFact, Bool.cond_eq_ite] at h
      split at h
      · rename_i hs
        simp only [Bool.and_eq_true] at hs
        rw [N.same_eq _ _ hs.1, N.same_eq _ _ hs.2]
        cases h
        exact hF f (by simp)
      · exact ih x y t (fun f hf => hF f (by simp [hf])) h
  have bothOk : ∀ (p q : Option Bool) (t : Bool), bothO p q = some t → (∀ u, p = some u → (u = true ↔ x.val ρ crcF ≤ y.val ρ crcF)) → (∀ u, q = some u → (u = true ↔ y.val ρ crcF ≤ x.val ρ crcF)) → (t = true ↔ x.val ρ crcF = y.val ρ crcF) := by
    intro p q t h hp hq
    unfold bothO at h
    split at h <;> cases h
    · have := hp false rfl; simp at this; constructor <;> intro h1 <;> simp at * <;> omega
    · have := hq false rfl; simp at this; constructor <;> intro h1 <;> simp at * <;> omega
    · have h1 := (hp true rfl).1 rfl; have h2 := (hq true rfl).1 rfl; simp; omega
  unfold cmpN at h
  split at h
  · simpa only [N.val] using fastCmp_ok h
  · unfold symCmp at h
    split at h
    · cases h; rename_i h1
      exact boundCmp_ok h1 (N.bound hcrc x).1 (N.bound hcrc x).2 (N.bound hcrc y).1 (N.bound hcrc y).2
    · simp only [Bool.cond_eq_ite] at h
      split at h
      · rename_i hs
        rw [N.same_eq _ _ hs]
        cases op <;> simp only [sameCmp, reduceCtorEq, Option.some.injEq] at h <;> subst h <;> simp [goCmp]
      · unfold factOf at h
        split at h
        · have := leOk F _ _ _ hF h
          simp only [goCmp, Option.some.injEq]
          rw [Bool.eq_iff_iff, this]; simp
        · have := leOk F _ _ _ hF h
          simp only [goCmp, Option.some.injEq]
          rw [Bool.eq_iff_iff, this]; simp
        · cases hl : leFact y x F with
          | none => rw [hl] at h; cases h
          | some u =>
            rw [hl] at h; cases h
            have := leOk F _ _ _ hF hl
            simp only [goCmp, Option.some.injEq]
            rw [Bool.eq_iff_iff]; simp only [Bool.not_eq_true', decide_eq_true_eq]
            rw [← Bool.not_eq_true, this]; omega
        · cases hl : leFact x y F with
          | none => rw [hl] at h; cases h
          | some u =>
            rw [hl] at h; cases h
            have := leOk F _ _ _ hF hl
            simp only [goCmp, Option.some.injEq]
            rw [Bool.eq_iff_iff]; simp only [Bool.not_eq_true', decide_eq_true_eq]
            rw [← Bool.not_eq_true, this]; omega
        · have hb := bothOk (leFact x y F) (leFact y x F) t h
          simp only [goCmp, Option.some.injEq]
          rw [Bool.eq_iff_iff, hb (fun u hu => leOk F _ _ _ hF hu) (fun u hu => leOk F _ _ _ hF hu)]; simp
        · cases hl : bothO (leFact x y F) (leFact y x F) with
          | none => rw [hl] at h; cases h
          | some u =>
            rw [hl] at h; cases h
            have hb := bothOk (leFact x y F) (leFact y x F) u hl
            simp only [goCmp, Option.some.injEq]
            rw [Bool.eq_iff_iff]; simp only [Bool.not_eq_true', bne_iff_ne, ne_eq]
            rw [← Bool.not_eq_true, hb (fun u hu => leOk F _ _ _ hF hu) (fun u hu => leOk F _ _ _ hF hu)]
        · cases h
theorem convN_ok (k : IntKind) (x : N) : (convN k x).val ρ crcF = k.wrap (x.val ρ crcF) := by
  unfold convN
  split
  · simp only [N.val]; exact fastConv_ok _ _
  · cases hc : (ile k.min x.lo && ile x.hi k.max)
    · simp only [cond_false, N.val]
    · simp only [Bool.and_eq_true, ile_iff] at hc
      simp only [cond_true]
      have := N.bound (ρ := ρ) hcrc x
      rw [wrap_in k _ (by omega) (by omega)]
theorem byteN_ok (x : N) : (byteN x).val ρ crcF = ((UInt8.ofNat (x.val ρ crcF).toNat).toNat : Int) := by
  have hb : ∀ m : Nat, m < 256 → ((UInt8.ofNat m).toNat : Int) = m := fun m hm => by simp [UInt8.toNat_ofNat']; omega
  have hm : ∀ m : Nat, ((UInt8.ofNat m).toNat : Int) = ((m % 256 : Nat) : Int) := fun m => by simp [UInt8.toNat_ofNat']
  unfold byteN
  split
  · rename_i n
    cases hc : Nat.blt n 256
    · simp only [cond_false, N.val]
      exact (hm n).symm
    · rw [Nat.blt_eq] at hc
      simp only [cond_true, N.val]
      exact (hb n hc).symm
  · cases hc : (ile 0 x.lo && ile x.hi 255)
    · simp only [cond_false, N.val]
      rw [hm, IntKind.wrap_u8]; omega
    · simp only [Bool.and_eq_true, ile_iff] at hc
      simp only [cond_true]
      have := N.bound (ρ := ρ) hcrc x
      rw [hb _ (by omega)]; omega
end
/-- What a text of such numbers stands for. -/
def textOf (ρ : Nat → List Int → Int) (crcF : List UInt8 → Int) (l : List N) : ByteArray := ⟨(l.map fun i => UInt8.ofNat (i.val ρ crcF).toNat).toArray⟩
theorem lenN_eq : ∀ l : List N, lenN l = l.length
  | [] => rfl
  | _ :: l => by simp [lenN, lenN_eq l]
theorem catN_eq : ∀ a b : List N, catN a b = a ++ b
  | [], _ => rfl
  | x :: a, b => by simp [catN, catN_eq a b]
theorem dropN_eq : ∀ (l : List N) (n : Nat), dropN l n = l.drop n
  | l, 0 => by cases l <;> rfl
  | [], _ + 1 => rfl
  | _ :: l, n + 1 => by simp [dropN, dropN_eq l n]
theorem takeN_eq : ∀ (l : List N) (n : Nat), takeN l n = l.take n
  | l, 0 => by cases l <;> rfl
  | [], _ + 1 => rfl
  | _ :: l, n + 1 => by simp [takeN, takeN_eq l n]
theorem nthN_eq : ∀ (l : List N) (n : Nat) (h : n < l.length), nthN l n = l[n]
  | [], n, h => by simp at h
  | _ :: _, 0, _ => rfl
  | _ :: l, n + 1, h => by simpa [nthN] using nthN_eq l n (by simpa using h)
theorem ofB_eq {ρ : Nat → List Int → Int} {crcF : List UInt8 → Int} : ∀ l : List UInt8, (ofB l).map (fun i => UInt8.ofNat (i.val ρ crcF).toNat) = l
  | [] => rfl
  | b :: l => by
    simp only [ofB, List.map_cons, ofB_eq l, N.val]
    congr 1
    exact UInt8.toNat_inj.1 (by simp)
theorem eqN_ok {ρ : Nat → List Int → Int} {crcF : List UInt8 → Int} (hcrc : ∀ l, 0 ≤ crcF l ∧ crcF l ≤ 4294967295) : ∀ (a b : List N) (t : Bool), eqN a b = some t →
    ((a.map fun i => UInt8.ofNat (i.val ρ crcF).toNat) == (b.map fun i => UInt8.ofNat (i.val ρ crcF).toNat)) = t
  | [], [], t, h => by cases h; rfl
  | [], _ :: _, t, h => by cases h; rfl
  | _ :: _, [], t, h => by cases h; rfl
  | x :: a, y :: b, t, h => by
    simp only [eqN] at h
    split at h
    · rename_i hc
      have := cmpN_ok (ρ := ρ) (crcF := crcF) hcrc (F := []) (by simp) hc
      rw [byteN_ok hcrc, byteN_ok hcrc] at this
      simp only [goCmp, Option.some.injEq, beq_iff_eq] at this
      have he : UInt8.ofNat (x.val ρ crcF).toNat = UInt8.ofNat (y.val ρ crcF).toNat := UInt8.toNat_inj.1 (by omega)
      have ih := eqN_ok (ρ := ρ) hcrc a b t h
      rw [List.map_cons, List.map_cons, he]
      rw [← ih]
      simp
    · rename_i hc
      have := cmpN_ok (ρ := ρ) (crcF := crcF) hcrc (F := []) (by simp) hc
      rw [byteN_ok hcrc, byteN_ok hcrc] at this
      simp only [goCmp, Option.some.injEq, beq_eq_false_iff_ne] at this
      cases h
      rw [List.map_cons, List.map_cons]
      have he : UInt8.ofNat (x.val ρ crcF).toNat ≠ UInt8.ofNat (y.val ρ crcF).toNat := fun he => this (by rw [he])
      simp [he]
    · cases h
theorem symDom_ok {tc : Nat → Code → LCode N (List N) → Prop} {ρ : Nat → List Int → Int} {crcF : List UInt8 → Int} (hcrc : ∀ l, 0 ≤ crcF l ∧ crcF l ≤ 4294967295) {F : Facts} (hF : ∀ f ∈ F, f.2.2 = true ↔ f.1.val ρ crcF ≤ f.2.1.val ρ crcF) : (symDom F).Ok (N.val ρ crcF) ⟨textOf ρ crcF, tc⟩ where
  ofInt n := by simp only [symDom, N.val]
  toInt i n h := by
    simp only [symDom] at h
    cases i <;> simp only [toIntN, reduceCtorEq, Option.some.injEq] at h
    subst h; simp only [N.val]
  bin op k a b c h := binN_ok hcrc h
  cmp op a b t h := cmpN_ok hcrc hF h
  conv k a c h := by cases h; exact convN_ok hcrc k a
  sOf s := by
    simp only [symDom, textOf, ofB_eq]
  sLen s := by simp only [symDom, textOf, lenN_eq, ByteArray.size]; simp
  sCat a b := by
    simp only [symDom, textOf, catN_eq]
    apply ByteArray.ext
    simp
  sCut s l h h1 h2 := by
    simp only [symDom, textOf, takeN_eq, dropN_eq]
    apply ByteArray.ext
    simp [ByteArray.data_extract, List.map_drop, List.map_take]
  sAt s n h := by
    have hn : n < s.length := by simpa [textOf, ByteArray.size] using h
    simp only [symDom]
    rw [byteN_ok hcrc, nthN_eq s n hn]
    show _ = (((textOf ρ crcF s)[n]).toNat : Int)
    have : (textOf ρ crcF s)[n] = UInt8.ofNat (s[n].val ρ crcF).toNat := by
      show (textOf ρ crcF s).data[n] = _
      simp [textOf]
    rw [this]
  sEq a b t h := by
    have := eqN_ok (ρ := ρ) (crcF := crcF) hcrc a b t h
    rw [ByteArray.toList_eq, ByteArray.toList_eq]
    simpa [textOf] using this
  sMk l := by simp only [symDom, textOf]
end Go.Proofs.YtohmaikcmaapjaaGreat.LI
