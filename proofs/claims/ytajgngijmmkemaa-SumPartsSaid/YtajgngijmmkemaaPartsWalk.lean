/- The walk of furlonglaw1.SumParts, at every text and every number. -/
import Derived.Test.YtajgngijmmkemaaSumCalls
import Derived.Test.YtajgngijmmkemaaCrcMore
import Derived.Lib.Bytes
namespace Go.Proofs.Ytajgngijmmkemaa.PartsWalk
open Go.RowKit Go.Proofs.YtajgngijmmkemaaW.PrintWords Go.Proofs.YtajgngijmmkemaaW.PrintLast Go.Proofs.YtajgngijmmkemaaW.PrintMore
open SumCalls

theorem bytes_free (W : World) (e : TypeId) (s : ByteArray) (j : Nat) (hj : j < s.size) : (Lib.bytesWorld W e s).frozen? ⟨W.heap.size, j, none⟩ = false := by
  unfold World.frozen?
  rw [Lib.bytesWorld_at_new]
  have : s.size ≤ (Lib.bytesCells W e s).size := by unfold Lib.bytesCells; simp
  simp
  omega

/-- A slice that is read, behind a store into it. -/
theorem reads_set {w : World} {b n : Nat} {xs : List Int} (h : ReadsInt w .u8 (some ⟨b, 0, none⟩) n xs) (j : Nat) (hj : j < n) (v : Int) :
    ReadsInt ((w.setCell ⟨b, j, none⟩ (.int .u8 v)).drew) .u8 (some ⟨b, 0, none⟩) n (xs.set j v) := by
  obtain ⟨h1, h2, h3⟩ := h
  refine ⟨by rw [List.length_set]; exact h1, h2, fun hp => ⟨_, rfl, fun i hi => ?_⟩⟩
  obtain ⟨ad, he, hc⟩ := h3 hp
  injection he with he
  subst he
  have hci := hc i hi
  rw [add_plain] at hci ⊢
  rw [World.cell?_drew]
  by_cases e : j = i
  · subst e
    rw [World.cell?_setCell_same' w ⟨b, j, none⟩ _ (by rw [hci]; rfl)]
    simp [List.getD_eq_getElem?_getD, h1, hj]
  · refine (World.cell?_setCell_other w ⟨b, j, none⟩ ⟨b, i, none⟩ _ (by intro h; injection h with _ h _; exact e h)).trans ?_
    rw [hci]
    simp [List.getD_eq_getElem?_getD, List.getElem?_set_ne e]

/-- A byte with one bit turned. -/
theorem turned (a : UInt8) (q : Nat) (hq : q ≤ 7) : ∃ v : UInt8, Go.bits .xor .u8 ((a.toNat : Nat) : Int) (2 ^ q % 256) = (v.toNat : Int) ∧ v ≠ a := by
  have ha := a.toNat_lt
  have hp : 2 ^ q < 2 ^ 8 := Nat.pow_lt_pow_right (by decide) (by omega)
  have hx : a.toNat ^^^ 2 ^ q < 2 ^ 8 := Nat.xor_lt_two_pow ha hp
  have h2 : ((2 : Int) ^ q % 256) = ((2 ^ q : Nat) : Int) := by
    have : ((2 : Int) ^ q) = ((2 ^ q : Nat) : Int) := by simp
    rw [this, Int.emod_eq_of_lt (Int.natCast_nonneg _) (by omega)]
  refine ⟨UInt8.ofNat (a.toNat ^^^ 2 ^ q), ?_, ?_⟩
  · rw [h2]
    show IntKind.u8.wrap (((BitVec.ofInt 8 (a.toNat : Int)) ^^^ (BitVec.ofInt 8 ((2 ^ q : Nat) : Int))).toNat : Int) = _
    rw [IntKind.wrap_u8, BitVec.toNat_xor, BitVec.ofInt_natCast, BitVec.ofInt_natCast, BitVec.toNat_ofNat, BitVec.toNat_ofNat, Nat.mod_eq_of_lt (show a.toNat < 2 ^ 8 from ha), Nat.mod_eq_of_lt hp,
      UInt8.toNat_ofNat', Nat.mod_eq_of_lt (show a.toNat ^^^ 2 ^ q < 2 ^ 8 from hx)]
    omega
  · intro h
    have h3 := congrArg UInt8.toNat h
    rw [UInt8.toNat_ofNat', Nat.mod_eq_of_lt (show a.toNat ^^^ 2 ^ q < 2 ^ 8 from hx)] at h3
    have h4 : (a.toNat ^^^ 2 ^ q).testBit q = a.toNat.testBit q := by rw [h3]
    rw [Nat.testBit_xor, Nat.testBit_two_pow_self] at h4
    cases hb : a.toNat.testBit q <;> rw [hb] at h4 <;> cases h4

/-- The sum of the text with the turned byte is another one. -/
theorem sum_turned (s : ByteArray) (j : Nat) (hj : j < s.size) (v : UInt8) (hv : v ≠ s.data[j]'hj) : sumOf (strOfNums ((bytesOf s).set j (v.toNat : Int))).data.toList ≠ sumOf s.data.toList := by
  have he : (strOfNums ((bytesOf s).set j (v.toNat : Int))).data.toList = s.data.toList.set j v := by
    unfold strOfNums bytesOf
    simp only [List.map_set, List.map_map]
    congr 1
    · conv => rhs; rw [← List.map_id s.data.toList]
      apply List.map_congr_left
      intro a _
      simp
    · simp
  rw [he]
  unfold sumOf
  intro h
  exact absurd (BitVec.eq_of_toNat_eq (by omega)) (Crc.sum_set s.data.toList j (by rw [data_length]; exact hj) v (by simpa using hv))

set_option maxHeartbeats 1000000 in
set_option maxRecDepth 100000 in
theorem walk (s : ByteArray) (cut at_ bit : Int) (w : World) (hs : s.size ≤ 140737488351232) (hn1 : s.toList.isEmpty = false) (hn : 0 < s.size) :
    Calls Try.prog 5 #[.string s, .int .i64 cut, .int .i64 at_, .int .i64 bit] w fun e w' => e = .returned (.bool true) ∧ Below w.heap.size w w' := by
  obtain ⟨q, hq, hq7⟩ : ∃ q : Nat, Go.bits .and .i64 bit 7 = (q : Int) ∧ q ≤ 7 := by
    have h : ((BitVec.ofInt 64 bit) &&& (BitVec.ofInt 64 7)).toNat ≤ 7 := by
      rw [BitVec.toNat_and, show (BitVec.ofInt 64 7).toNat = 7 from rfl]
      exact Nat.and_le_right
    refine ⟨((BitVec.ofInt 64 bit) &&& (BitVec.ofInt 64 7)).toNat, ?_, h⟩
    show IntKind.i64.wrap (((BitVec.ofInt 64 bit) &&& (BitVec.ofInt 64 7)).toNat : Int) = _
    rw [IntKind.wrap_i64]
    omega
  have hq0 : 0 ≤ (q : Int) := by omega
  have hq8 : (q : Int) ≤ 8 := by omega
  obtain ⟨k, hk, hkl⟩ : ∃ k : Nat, wrap64 ((IntKind.u64.wrap cut).tmod (↑s.size + 1)) = (k : Int) ∧ k ≤ s.size := by
    have hc : IntKind.u64.wrap cut = cut % 18446744073709551616 := by simp [IntKind.wrap, IntKind.bits, IntKind.signed]
    have h0 : 0 ≤ IntKind.u64.wrap cut := by rw [hc]; omega
    have a1 := Int.emod_nonneg (IntKind.u64.wrap cut) (show (s.size : Int) + 1 ≠ 0 by omega)
    have a2 := Int.emod_lt_of_pos (IntKind.u64.wrap cut) (show 0 < (s.size : Int) + 1 by omega)
    rw [Int.tmod_eq_emod_of_nonneg h0]
    generalize IntKind.u64.wrap cut % ((s.size : Int) + 1) = x at a1 a2
    exact ⟨x.toNat, by unfold wrap64; omega, by omega⟩
  obtain ⟨j, hj, hjl⟩ : ∃ j : Nat, wrap64 ((IntKind.u64.wrap at_).tmod ↑s.size) = (j : Int) ∧ j < s.size := by
    have hc : IntKind.u64.wrap at_ = at_ % 18446744073709551616 := by simp [IntKind.wrap, IntKind.bits, IntKind.signed]
    have h0 : 0 ≤ IntKind.u64.wrap at_ := by rw [hc]; omega
    have a1 := Int.emod_nonneg (IntKind.u64.wrap at_) (show (s.size : Int) ≠ 0 by omega)
    have a2 := Int.emod_lt_of_pos (IntKind.u64.wrap at_) (show 0 < (s.size : Int) by omega)
    rw [Int.tmod_eq_emod_of_nonneg h0]
    generalize IntKind.u64.wrap at_ % (s.size : Int) = x at a1 a2
    exact ⟨x.toNat, by unfold wrap64; omega, by omega⟩
  have hkd : (k : Int) ≤ (s.size : Int) := by omega
  have hll : List.take k s.data.toList ++ List.take (s.size - k) (List.drop k s.data.toList) = s.data.toList := by
    rw [List.take_of_length_le (l := List.drop k s.data.toList) (by simp), List.take_append_drop]
  have hne : (s = ByteArray.empty) = False := eq_false (fun h => by rw [h] at hn; exact absurd hn (by decide))
  have kb := fun W => print_bytes (P := Try.prog) 9 32 5 Try.underlying9 Try.underlying32 Try.underlying5 s W
  go_enter Try.func5, Try.ntmps5
  go_wp2_with (first | (go_at_call 16; (with_reducible refine (awake_calls _).mono ?_); rintro e w' ⟨rfl, ⟨nd1, rfl⟩⟩))
  simp only [hk]
  have z1 : (s.extract 0 k).size ≤ 140737488351232 := by rw [ByteArray.size_extract]; omega
  have z2 : (s.extract k s.size).size ≤ 140737488351232 := by rw [ByteArray.size_extract]; omega
  go_quiet (first | (go_at_call 11; (with_reducible refine (sum_calls (s.extract 0 k) z1 _).mono ?_); rintro e w' ⟨rfl, ⟨nd, rfl⟩⟩; (first | exact ⟨rfl, _, World.drewN_drewN _ _ _⟩ | exact ⟨rfl, _, Eq.trans (World.drewN_drewN _ _ _) (congrArg (World.drewN _) (Nat.add_assoc _ _ _))⟩)) | (go_at_call 13; (with_reducible refine (goes_on_calls (List.take k s.data.toList) (s.extract k s.size) z2 _).mono ?_); rintro e w' ⟨rfl, ⟨nd, rfl⟩⟩; (first | exact ⟨rfl, _, World.drewN_drewN _ _ _⟩ | exact ⟨rfl, _, Eq.trans (World.drewN_drewN _ _ _) (congrArg (World.drewN _) (Nat.add_assoc _ _ _))⟩)))
  have hr := sumOf_range s.data.toList
  have hr1 := hr.1
  have hr2 := hr.2
  have hd1 : decide (sumOf s.data.toList < 0) = false := decide_eq_false (by omega)
  have hd2 : decide (4294967295 < sumOf s.data.toList) = false := decide_eq_false (by omega)
  clear hr
  try simp only [hll]
  go_wp2_with (first | (go_at_call 12; (with_reducible refine (num_calls _ _).mono ?_); rintro e w' ⟨rfl, ⟨nd2, rfl⟩⟩) | (go_at_call 11; (with_reducible refine (sum_calls s hs _).mono ?_); rintro e w' ⟨rfl, ⟨nd3, rfl⟩⟩))
  simp only [hj]
  have hW : Below w.heap.size w (Lib.bytesWorld (w.drewN (nd1 + nq + nd2 + nd3)) 5 s) := bytes_below (pw_below_drewN (Below.refl _ _) _) (Nat.le_refl _) 5 s
  have hcell := Lib.bytesWorld_cell (w.drewN (nd1 + nq + nd2 + nd3)) 5 s j hjl
  have hfree := bytes_free (w.drewN (nd1 + nq + nd2 + nd3)) 5 s j hjl
  have hreads := bytes_reads (w.drewN (nd1 + nq + nd2 + nd3)) 5 s (by omega)
  simp only [World.heap_drewN] at hcell hfree hreads
  generalize Lib.bytesWorld (w.drewN (nd1 + nq + nd2 + nd3)) 5 s = W1 at hW hcell hfree hreads ⊢
  obtain ⟨v, hv, hva⟩ := turned (s.data[j]'hjl) q hq7
  have kc := fun c => string_of_reads (c := c) Try.underlying32 Try.underlying5 Try.underlying9 (reads_set hreads j hjl (v.toNat : Int))
  have z3 : (strOfNums ((bytesOf s).set j (v.toNat : Int))).size ≤ 140737488351232 := by
    have : (strOfNums ((bytesOf s).set j (v.toNat : Int))).size = s.size := by
      have h1 : ∀ xs : List Int, (strOfNums xs).size = xs.length := fun xs => by simp only [strOfNums, ByteArray.size, List.size_toArray, List.length_map]
      rw [h1, List.length_set, bytesOf_length]
    rw [this]; exact hs
  have hst := sum_turned s j hjl v hva
  have hsb := bne_iff_ne.2 hst
  have hW2 : Below w.heap.size w (W1.setCell ⟨w.heap.size, j, none⟩ (.int .u8 (v.toNat : Int))) := hW.setCell (Nat.le_refl _) _
  clear hst
  go_region
  try simp only [hv]
  go_wp2_with (go_at_call 11; (with_reducible refine (sum_calls (strOfNums ((bytesOf s).set j (v.toNat : Int))) z3 _).mono ?_); rintro e w' ⟨rfl, ⟨nd4, rfl⟩⟩)
  go_ret
  exact ⟨by simp, pw_below_drewN hW2 _⟩

/-- Of the empty text. -/
theorem walk_empty (cut at_ bit : Int) (w : World) :
    Calls Try.prog 5 #[.string ⟨#[]⟩, .int .i64 cut, .int .i64 at_, .int .i64 bit] w fun e w' => e = .returned (.bool true) ∧ Below w.heap.size w w' := by
  have z0 : (⟨#[]⟩ : ByteArray).size ≤ 140737488351232 := by decide
  go_enter Try.func5, Try.ntmps5
  go_wp2_with (first | (go_at_call 16; (with_reducible refine (awake_calls _).mono ?_); rintro e w' ⟨rfl, ⟨nd1, rfl⟩⟩))
  go_quiet (first | (go_at_call 11; (refine (sum_calls ⟨#[]⟩ z0 _).mono ?_); rintro e w' ⟨rfl, ⟨nd, rfl⟩⟩; (first | exact ⟨rfl, _, World.drewN_drewN _ _ _⟩ | exact ⟨rfl, _, Eq.trans (World.drewN_drewN _ _ _) (congrArg (World.drewN _) (Nat.add_assoc _ _ _))⟩)) | (go_at_call 13; (refine (goes_on_calls [] ⟨#[]⟩ z0 _).mono ?_); rintro e w' ⟨rfl, ⟨nd, rfl⟩⟩; (first | exact ⟨rfl, _, World.drewN_drewN _ _ _⟩ | exact ⟨rfl, _, Eq.trans (World.drewN_drewN _ _ _) (congrArg (World.drewN _) (Nat.add_assoc _ _ _))⟩)))
  have hr := sumOf_range []
  have hr1 := hr.1
  have hr2 := hr.2
  have hd1 : decide (sumOf [] < 0) = false := decide_eq_false (by omega)
  have hd2 : decide (4294967295 < sumOf []) = false := decide_eq_false (by omega)
  clear hr
  go_wp2_with (first | (go_at_call 12; (with_reducible refine (num_calls _ _).mono ?_); rintro e w' ⟨rfl, ⟨nd2, rfl⟩⟩) | (go_at_call 11; (refine (sum_calls ⟨#[]⟩ z0 _).mono ?_); rintro e w' ⟨rfl, ⟨nd3, rfl⟩⟩))
  go_ret
  exact ⟨by simp, pw_below_drewN (Below.refl _ _) _⟩

theorem all (s : ByteArray) (cut at_ bit : Int) (w : World) (hs : s.size ≤ 140737488351232) :
    Calls Try.prog 5 #[.string s, .int .i64 cut, .int .i64 at_, .int .i64 bit] w fun e w' => e = .returned (.bool true) ∧ Below w.heap.size w w' := by
  rcases Nat.eq_zero_or_pos s.size with h | h
  · have he : s = ⟨#[]⟩ := by
      cases s with
      | mk d => have hd : d = #[] := Array.eq_empty_of_size_eq_zero h
                rw [hd]
    rw [he]
    exact walk_empty cut at_ bit w
  · have hl : s.toList ≠ [] := by
      intro hn
      rw [Lib.toList_data] at hn
      have h2 := data_length s
      rw [hn] at h2
      simp at h2
      omega
    have h1 : s.toList.isEmpty = false := by simpa using hl
    exact walk s cut at_ bit w hs h1 h
end Go.Proofs.Ytajgngijmmkemaa.PartsWalk
