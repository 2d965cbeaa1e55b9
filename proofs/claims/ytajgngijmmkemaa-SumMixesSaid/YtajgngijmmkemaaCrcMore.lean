/- Plain laws of the check sum: a byte that is another one turns the sum; sums of texts of one length go together as their bits do. -/
import Derived.Test.YtajgngijmmkemaaCrc
namespace Go.Proofs.Ytajgngijmmkemaa.Crc
open Go.RowKit Go.Proofs.YtajgngijmmkemaaW.PrintWords

theorem rnd_top (c : BitVec 32) : (rnd c).getLsbD 31 = c.getLsbD 0 := by
  unfold rnd
  by_cases h : c.getLsbD 0 = true
  · rw [if_pos h, BitVec.getLsbD_xor, BitVec.getLsbD_ushiftRight, h, BitVec.getLsbD_of_ge c (1 + 31) (by decide)]
    decide
  · rw [if_neg h, BitVec.getLsbD_ushiftRight, BitVec.getLsbD_of_ge c (1 + 31) (by decide)]
    simpa using h

theorem rnd_inj (c d : BitVec 32) (h : rnd c = rnd d) : c = d := by
  have h0 : c.getLsbD 0 = d.getLsbD 0 := by rw [← rnd_top, ← rnd_top, h]
  have hs : c >>> 1 = d >>> 1 := by
    unfold rnd at h
    rw [h0] at h
    by_cases hd : d.getLsbD 0 = true
    · rw [if_pos hd, if_pos hd] at h
      have := congrArg (· ^^^ 3988292384#32) h
      simpa [BitVec.xor_assoc] using this
    · rw [if_neg hd, if_neg hd] at h; exact h
  apply BitVec.eq_of_getLsbD_eq
  intro i hi
  rcases Nat.eq_zero_or_pos i with rfl | hp
  · exact h0
  · have := congrArg (fun x => x.getLsbD (i - 1)) hs
    simp only [BitVec.getLsbD_ushiftRight] at this
    rw [show 1 + (i - 1) = i by omega] at this
    exact this

theorem rnds_inj : ∀ (n : Nat) (c d : BitVec 32), rnds n c = rnds n d → c = d
  | 0, _, _, h => h
  | n + 1, c, d, h => rnd_inj c d (rnds_inj n _ _ h)

theorem byte_state (c d : BitVec 32) (b : UInt8) (h : byteB c b = byteB d b) : c = d := by
  have := rnds_inj 8 _ _ h
  have := congrArg (· ^^^ BitVec.ofNat 32 b.toNat) this
  simpa [BitVec.xor_assoc] using this

theorem byte_byte (c : BitVec 32) (a b : UInt8) (h : byteB c a = byteB c b) : a = b := by
  have h1 := rnds_inj 8 _ _ h
  have h2 := congrArg (c ^^^ ·) h1
  simp only [← BitVec.xor_assoc, BitVec.xor_self, BitVec.zero_xor] at h2
  have h3 := congrArg BitVec.toNat h2
  rw [BitVec.toNat_ofNat, BitVec.toNat_ofNat] at h3
  have ha := a.toNat_lt
  have hb := b.toNat_lt
  apply UInt8.toNat_inj.1
  omega

theorem run_state : ∀ (l : List UInt8) (c d : BitVec 32), run l c = run l d → c = d
  | [], _, _, h => h
  | b :: l, c, d, h => byte_state c d b (run_state l _ _ h)

theorem run_set : ∀ (l : List UInt8) (j : Nat) (hj : j < l.length) (b : UInt8) (c : BitVec 32), b ≠ l[j] → run (l.set j b) c ≠ run l c
  | a :: l, 0, _, b, c, hb, h => hb (byte_byte c b a (run_state l _ _ h))
  | a :: l, j + 1, hj, b, c, hb, h => run_set l j (by simpa using hj) b (byteB c a) hb h

/-- A text of which one byte is another one has another sum. -/
theorem sum_set (l : List UInt8) (j : Nat) (hj : j < l.length) (b : UInt8) (hb : b ≠ l[j]) : sumFrom 0 (l.set j b) ≠ sumFrom 0 l := by
  unfold sumFrom
  intro h
  have := congrArg (~~~ ·) h
  simp only [BitVec.not_not] at this
  exact run_set l j hj b _ hb this

/-! The rounds are linear. -/
theorem rnd_xor (c d : BitVec 32) : rnd (c ^^^ d) = rnd c ^^^ rnd d := by
  have hz : ∀ x : BitVec 32, rnd x = (x >>> 1) ^^^ (if x.getLsbD 0 then 3988292384#32 else 0#32) := by
    intro x; unfold rnd; split <;> simp
  rw [hz, hz, hz, BitVec.ushiftRight_xor_distrib, BitVec.getLsbD_xor]
  generalize c >>> 1 = a
  generalize d >>> 1 = b
  generalize 3988292384#32 = p
  have hb : ∀ u v : Bool, a ^^^ b ^^^ (if (u ^^ v) = true then p else 0#32) = a ^^^ (if u = true then p else 0#32) ^^^ (b ^^^ (if v = true then p else 0#32)) := by
    intro u v
    apply BitVec.eq_of_getLsbD_eq
    intro i hi
    cases u <;> cases v <;> simp only [BitVec.getLsbD_xor, Bool.xor_true, Bool.xor_false, Bool.not_true, Bool.not_false, if_true, Bool.false_eq_true, if_false, BitVec.getLsbD_zero] <;>
      cases a.getLsbD i <;> cases b.getLsbD i <;> cases p.getLsbD i <;> rfl
  exact hb _ _
theorem rnds_xor : ∀ (n : Nat) (c d : BitVec 32), rnds n (c ^^^ d) = rnds n c ^^^ rnds n d
  | 0, _, _ => rfl
  | n + 1, c, d => by simp only [rnds]; rw [rnd_xor, rnds_xor n]

/-- Three texts of which the last is the two first ones' bits against each other. -/
theorem run_mix : ∀ (x y z : List UInt8), x.length = z.length → y.length = z.length → (∀ i, z.getD i 0 = x.getD i 0 ^^^ y.getD i 0) → ∀ c d e f : BitVec 32, c = d ^^^ e ^^^ f →
    run z c = run x d ^^^ run y e ^^^ run (List.replicate z.length 0) f
  | [], [], [], _, _, _, c, d, e, f, h => h
  | a :: x, b :: y, g :: z, hx, hy, hi, c, d, e, f, h => by
    have h0 : g = a ^^^ b := hi 0
    have hb : byteB c g = byteB d a ^^^ byteB e b ^^^ byteB f 0 := by
      unfold byteB
      rw [← rnds_xor, ← rnds_xor]
      congr 1
      rw [h, h0]
      have hz : BitVec.ofNat 32 (a ^^^ b).toNat = BitVec.ofNat 32 a.toNat ^^^ BitVec.ofNat 32 b.toNat := by
        apply BitVec.eq_of_toNat_eq
        rw [BitVec.toNat_xor, BitVec.toNat_ofNat, BitVec.toNat_ofNat, BitVec.toNat_ofNat, UInt8.toNat_xor]
        have ha := a.toNat_lt
        have hb := b.toNat_lt
        rw [Nat.mod_eq_of_lt (show a.toNat < 2 ^ 32 by omega), Nat.mod_eq_of_lt (show b.toNat < 2 ^ 32 by omega)]
        exact Nat.mod_eq_of_lt (Nat.lt_of_lt_of_le (Nat.xor_lt_two_pow (n := 8) ha hb) (by decide))
      rw [hz]
      generalize BitVec.ofNat 32 a.toNat = u
      generalize BitVec.ofNat 32 b.toNat = v
      have hw : BitVec.ofNat 32 (0 : UInt8).toNat = 0#32 := rfl
      rw [hw]
      apply BitVec.eq_of_getLsbD_eq
      intro i hi
      simp only [BitVec.getLsbD_xor, BitVec.getLsbD_zero]
      cases d.getLsbD i <;> cases e.getLsbD i <;> cases f.getLsbD i <;> cases u.getLsbD i <;> cases v.getLsbD i <;> rfl
    exact run_mix x y z (by simpa using hx) (by simpa using hy) (fun i => hi (i + 1)) _ _ _ _ hb
  | [], [], _ :: _, h, _, _, _, _, _, _, _ => by cases h
  | [], _ :: _, [], _, h, _, _, _, _, _, _ => by cases h
  | [], _ :: _, _ :: _, h, _, _, _, _, _, _, _ => by cases h
  | _ :: _, [], [], h, _, _, _, _, _, _, _ => by cases h
  | _ :: _, [], _ :: _, _, h, _, _, _, _, _, _ => by cases h
  | _ :: _, _ :: _, [], h, _, _, _, _, _, _, _ => by cases h

theorem sum_mix (x y z : List UInt8) (hx : x.length = z.length) (hy : y.length = z.length) (hi : ∀ i, z.getD i 0 = x.getD i 0 ^^^ y.getD i 0) :
    sumFrom 0 z = sumFrom 0 x ^^^ sumFrom 0 y ^^^ sumFrom 0 (List.replicate z.length 0) := by
  unfold sumFrom
  rw [run_mix x y z hx hy hi _ (~~~ 0) (~~~ 0) (~~~ 0) (by decide)]
  generalize run x (~~~ 0) = p
  generalize run y (~~~ 0) = q
  generalize run (List.replicate z.length 0) (~~~ 0) = r
  apply BitVec.eq_of_getLsbD_eq
  intro i hi
  simp only [BitVec.getLsbD_not, BitVec.getLsbD_xor, hi, decide_true, Bool.true_and]
  cases p.getLsbD i <;> cases q.getLsbD i <;> cases r.getLsbD i <;> rfl

end Go.Proofs.Ytajgngijmmkemaa.Crc
