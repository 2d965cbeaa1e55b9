/- A drawn region: whatever the order, the slots and the memory come out as in the interpreter's own. -/
import Derived.Test.YtohmaikcmaapjaaGreatLTrC
import Derived.Laws.Strings
namespace Go.Proofs.YtohmaikcmaapjaaGreat.LI
variable {I S : Type}

section same
variable {γ : I → Int} {σ : Sg I S} {D : Dom I S} {φ : Phi} {K : Nat → Prop}
theorem same_list {n : Nat} (ih : ∀ (a b : LV I S) (x : Value), same D n a b = true → VRel γ σ φ K a x → VRel γ σ φ K b x) : ∀ (a b : List (LV I S)) (x : List Value), a.length = b.length → ((a.zip b).all fun p => same D n p.1 p.2) = true → VRels γ σ φ K a x → VRels γ σ φ K b x
  | [], [], _, _, _, h => by cases h; exact .nil
  | [], _ :: _, _, hl, _, _ => by simp at hl
  | _ :: _, [], _, hl, _, _ => by simp at hl
  | p :: a, q :: b, _, hl, hs, h => by
    cases h with
    | cons _ x _ l h1 h2 =>
      simp only [List.zip_cons_cons, List.all_cons, Bool.and_eq_true] at hs
      exact .cons _ _ _ _ (ih p q x hs.1 h1) (same_list ih a b l (by simpa using hl) hs.2 h2)
theorem same_sound (hD : D.Ok γ σ) : ∀ (n : Nat) (a b : LV I S) (x : Value), same D n a b = true → VRel γ σ φ K a x → VRel γ σ φ K b x := by
  intro n
  induction n with
  | zero =>
    intro a b x hs hv
    cases a <;> cases b <;> simp only [same, Bool.and_eq_true, reduceCtorEq, Bool.false_eq_true] at hs
    case und.und => exact hv
    case bool.bool a b => cases a <;> cases b <;> simp_all
    case int.int j m k n =>
      obtain ⟨h1, h2⟩ := hs
      cases kindEq_eq h1
      cases hv
      have : γ m = γ n := by
        cases hc : D.cmp .eql m n with
        | none => simp [hc] at h2
        | some t =>
          simp [hc] at h2
          subst h2
          have := hD.cmp _ _ _ _ hc
          simpa [goCmp] using this
      rw [this]; exact .int _ _
    case str.str s t =>
      cases hv
      have : σ s = σ t := by
        cases hc : D.sEq s t with
        | none => simp [hc] at hs
        | some q =>
          simp [hc] at hs
          subst hs
          have := hD.sEq _ _ _ hc
          simp at this
          rw [ByteArray.toList_eq, ByteArray.toList_eq] at this
          exact ByteArray.ext (Array.toList_inj.1 this)
      rw [this]; exact .str _
    case nilp.nilp => exact hv
    case ptr.ptr => obtain ⟨h1, h2⟩ := hs; cases Nat.eq_of_beq_eq_true h1; cases Nat.eq_of_beq_eq_true h2; exact hv
    case nils.nils => exact hv
    case slice.slice b1 o1 l1 c1 e1 s1 b2 o2 l2 c2 e2 s2 =>
      obtain ⟨⟨⟨⟨⟨h1, h2⟩, h3⟩, h4⟩, h5⟩, h6⟩ := hs
      cases Nat.eq_of_beq_eq_true h1; cases Nat.eq_of_beq_eq_true h2; cases Nat.eq_of_beq_eq_true h3; cases Nat.eq_of_beq_eq_true h4; cases Nat.eq_of_beq_eq_true h6
      have : e1 = e2 := by cases e1 <;> cases e2 <;> simp_all
      subst this; exact hv
    case nilm.nilm => exact hv
    case map.map => cases Nat.eq_of_beq_eq_true hs; exact hv
    case nilf.nilf => exact hv
  | succ n ih =>
    intro a b x hs hv
    cases a <;> cases b <;> simp only [same, Bool.and_eq_true, reduceCtorEq, Bool.false_eq_true] at hs
    case und.und => exact hv
    case bool.bool a b => cases a <;> cases b <;> simp_all
    case int.int j m k n =>
      obtain ⟨h1, h2⟩ := hs
      cases kindEq_eq h1
      cases hv
      have : γ m = γ n := by
        cases hc : D.cmp .eql m n with
        | none => simp [hc] at h2
        | some t =>
          simp [hc] at h2
          subst h2
          have := hD.cmp _ _ _ _ hc
          simpa [goCmp] using this
      rw [this]; exact .int _ _
    case str.str s t =>
      cases hv
      have : σ s = σ t := by
        cases hc : D.sEq s t with
        | none => simp [hc] at hs
        | some q =>
          simp [hc] at hs
          subst hs
          have := hD.sEq _ _ _ hc
          simp at this
          rw [ByteArray.toList_eq, ByteArray.toList_eq] at this
          exact ByteArray.ext (Array.toList_inj.1 this)
      rw [this]; exact .str _
    case nilp.nilp => exact hv
    case ptr.ptr => obtain ⟨h1, h2⟩ := hs; cases Nat.eq_of_beq_eq_true h1; cases Nat.eq_of_beq_eq_true h2; exact hv
    case nils.nils => exact hv
    case slice.slice b1 o1 l1 c1 e1 s1 b2 o2 l2 c2 e2 s2 =>
      obtain ⟨⟨⟨⟨⟨h1, h2⟩, h3⟩, h4⟩, h5⟩, h6⟩ := hs
      cases Nat.eq_of_beq_eq_true h1; cases Nat.eq_of_beq_eq_true h2; cases Nat.eq_of_beq_eq_true h3; cases Nat.eq_of_beq_eq_true h4; cases Nat.eq_of_beq_eq_true h6
      have : e1 = e2 := by cases e1 <;> cases e2 <;> simp_all
      subst this; exact hv
    case nilm.nilm => exact hv
    case map.map => cases Nat.eq_of_beq_eq_true hs; exact hv
    case nilf.nilf => exact hv
    case agg.agg l m =>
      cases hv with
      | agg _ c' h => exact .agg _ _ (same_list ih _ _ _ (by have := Nat.eq_of_beq_eq_true hs.1; rwa [len?_eq, len?_eq] at this) hs.2 h)
    case tuple.tuple l m =>
      cases hv with
      | tuple _ c' h => exact .tuple _ _ (same_list ih _ _ _ (by have := Nat.eq_of_beq_eq_true hs.1; rwa [len?_eq, len?_eq] at this) hs.2 h)
end same

section lists
theorem bit_eq (m i : Nat) : bit m i = m.testBit i := by
  have : Nat.land (Nat.shiftRight m i) 1 = (1 &&& (m >>> i)) := Nat.and_comm _ _
  unfold bit Nat.testBit
  rw [this]
  rw [Nat.one_and_eq_mod_two]
  rcases Nat.mod_two_eq_zero_or_one (m >>> i) with h | h <;> rw [h] <;> rfl
theorem dstIn_iff {j : LOper I S} {l : List Nat} : dstIn j l = true ↔ ∃ d, j.dst = some d ∧ d ∈ l := by
  unfold dstIn
  cases j.dst with
  | none => simp
  | some d => simp [memN_iff]
end lists

/-- Masks: what must come ahead. -/
def maskOf (acc : Array Nat) (o : Oper) : Nat := o.after.foldl (fun s e => if Region.binds .any e then s ||| 2 ^ e.on ||| acc.getD e.on 0 else s) 0
theorem maskOf_bit (acc : Array Nat) (o : Oper) (j : Nat) (h : (maskOf acc o).testBit j = true) : ∃ e ∈ o.after, Region.binds .any e = true ∧ (j = e.on ∨ (acc.getD e.on 0).testBit j = true) := by
  unfold maskOf at h
  rw [← Array.foldl_toList] at h
  have : ∀ (l : List Edge) (s : Nat), (l.foldl (fun s e => if Region.binds .any e then s ||| 2 ^ e.on ||| acc.getD e.on 0 else s) s).testBit j = true →
      s.testBit j = true ∨ ∃ e ∈ l, Region.binds .any e = true ∧ (j = e.on ∨ (acc.getD e.on 0).testBit j = true) := by
    intro l
    induction l with
    | nil => intro s h; exact .inl h
    | cons e l ih =>
      intro s h
      rw [List.foldl_cons] at h
      rcases ih _ h with h1 | ⟨e', he, hb⟩
      · by_cases hb : Region.binds .any e = true
        · rw [if_pos hb, Nat.testBit_or, Nat.testBit_or, Bool.or_eq_true, Bool.or_eq_true] at h1
          rcases h1 with (h1 | h1) | h1
          · exact .inl h1
          · refine .inr ⟨e, by simp, hb, .inl ?_⟩
            rw [Nat.testBit_two_pow] at h1
            exact (of_decide_eq_true h1).symm
          · exact .inr ⟨e, by simp, hb, .inr h1⟩
        · rw [if_neg hb] at h1; exact .inl h1
      · exact .inr ⟨e', by simp [he], hb⟩
  rcases this _ _ h with h1 | ⟨e, he, hb⟩
  · simp at h1
  · exact ⟨e, by simpa using he, hb⟩
theorem before_fold : ∀ (l : List Oper) (acc : Array Nat), let r := l.foldl (fun acc o => acc.push (maskOf acc o)) acc
    r.size = acc.size + l.length ∧ (∀ i, i < acc.size → r[i]? = acc[i]?) ∧ ∀ i, i < l.length → ∃ o acc', l[i]? = some o ∧ acc'.size = acc.size + i ∧ (∀ j, j < acc.size + i → r[j]? = acc'[j]?) ∧ r[acc.size + i]? = some (maskOf acc' o)
  | [], acc => ⟨by simp, fun i hi => by simp, fun i hi => by simp at hi⟩
  | o :: l, acc => by
    obtain ⟨h1, h2, h3⟩ := before_fold l (acc.push (maskOf acc o))
    simp only [List.foldl_cons]
    simp only [Array.size_push] at h1 h2 h3
    refine ⟨by simp [h1]; omega, fun i hi => ?_, fun i hi => ?_⟩
    · rw [h2 i (by omega), Array.getElem?_push, if_neg (by omega)]
    · cases i with
      | zero =>
        refine ⟨o, acc, by simp, by simp, fun j hj => ?_, ?_⟩
        · rw [h2 j (by omega), Array.getElem?_push, if_neg (by omega)]
        · rw [Nat.add_zero, h2 _ (by omega), Array.getElem?_push, if_pos rfl]
      | succ i =>
        obtain ⟨o', acc', q1, q2, q3, q4⟩ := h3 i (by simpa using hi)
        exact ⟨o', acc', by simpa using q1, by omega, fun j hj => q3 j (by omega), by rw [← q4]; congr 1; omega⟩
theorem before_get (ops : Array Oper) (i j : Nat) (h : ((Region.before ops).getD i 0).testBit j = true) :
    ∃ o, ops[i]? = some o ∧ ∃ e ∈ o.after, Region.binds .any e = true ∧ (j = e.on ∨ ((Region.before ops).getD e.on 0).testBit j = true) := by
  have hb : Region.before ops = ops.toList.foldl (fun acc o => acc.push (maskOf acc o)) #[] := by
    unfold Region.before; rw [← Array.foldl_toList]; rfl
  obtain ⟨h1, _, h3⟩ := before_fold ops.toList #[]
  rw [← hb] at h1 h3
  simp only [List.size_toArray, List.length_nil, Nat.zero_add, Array.length_toList] at h1 h3
  rcases Nat.lt_or_ge i ops.size with hi | hi
  · obtain ⟨o, acc', q1, q2, q3, q4⟩ := h3 i hi
    refine ⟨o, by simpa using q1, ?_⟩
    rw [Array.getD_eq_getD_getElem?, q4] at h
    obtain ⟨e, he, hb1, hb2⟩ := maskOf_bit acc' o j h
    refine ⟨e, he, hb1, hb2.imp id fun hb2 => ?_⟩
    rcases Nat.lt_or_ge e.on acc'.size with hlt | hge
    · rw [Array.getD_eq_getD_getElem?, q3 _ (by omega)]
      rwa [Array.getD_eq_getD_getElem?] at hb2
    · rw [Array.getD_eq_getD_getElem?, Array.getElem?_eq_none hge] at hb2
      simp at hb2
  · rw [Array.getD_eq_getD_getElem?, Array.getElem?_eq_none (by omega)] at h
    simp at h
end Go.Proofs.YtohmaikcmaapjaaGreat.LI
