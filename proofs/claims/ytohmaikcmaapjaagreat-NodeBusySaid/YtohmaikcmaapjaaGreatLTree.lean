/- Cases by comparisons not known ahead: a tree of them, each leaf a run; calls that leave the memory alone. -/
import Derived.Test.YtohmaikcmaapjaaGreatLCrc2
namespace Go.Proofs.YtohmaikcmaapjaaGreat.LI
open Go.Proofs
inductive Tree where
  | leaf
  | node (x y : N) (l r : Tree)
  | bad (l : List Nat)
/-- Facts in a ring, one of them strict: they do not hold. -/
def edgeT (f : N × N × Bool) : N × N × Bool := cond f.2.2 (f.1, f.2.1, false) (f.2.1, f.1, true)
def link (a b : N) : Bool := N.same a b || ile a.hi b.lo
def ring (F : Facts) (s : N) : List Nat → N → Bool → Bool
  | [], c, t => t && link c s
  | i :: l, c, t => match nth F i with
    | some f => link c (edgeT f).1 && ring F s l (edgeT f).2.1 (t || (edgeT f).2.2)
    | none => false
def ring0 (F : Facts) : List Nat → Bool
  | [] => false
  | i :: l => match nth F i with
    | some f => ring F (edgeT f).1 l (edgeT f).2.1 (edgeT f).2.2
    | none => false
noncomputable def check (run : Facts → Bool) (t : Tree) : Facts → Bool := Tree.rec (motive := fun _ => Facts → Bool) run (fun x y _ _ l r F => cK (l ((x, y, true) :: F)) (r ((x, y, false) :: F)) false) (fun l F => ring0 F l) t
/-- The facts hold. -/
def Hold (ρ : Nat → List Int → Int) (F : Facts) : Prop := ∀ f ∈ F, f.2.2 = true ↔ f.1.val ρ crcFn ≤ f.2.1.val ρ crcFn
theorem nth_mem {α : Type} : ∀ {l : List α} {i : Nat} {x : α}, nth l i = some x → x ∈ l
  | _ :: _, 0, _, h => by cases h; exact List.mem_cons_self ..
  | _ :: _, _ + 1, _, h => List.mem_cons_of_mem _ (nth_mem h)
theorem link_le {ρ : Nat → List Int → Int} {a b : N} (h : link a b = true) : a.val ρ crcFn ≤ b.val ρ crcFn := by
  simp only [link, Bool.or_eq_true, ile_iff] at h
  rcases h with h | h
  · rw [N.same_eq a b h]; exact Int.le_refl _
  · exact Int.le_trans (N.bound (ρ := ρ) crcFn_range a).2 (Int.le_trans h (N.bound (ρ := ρ) crcFn_range b).1)
theorem edge_le {ρ : Nat → List Int → Int} {F : Facts} (hF : Hold ρ F) {f : N × N × Bool} (hf : f ∈ F) : (edgeT f).1.val ρ crcFn ≤ (edgeT f).2.1.val ρ crcFn ∧ ((edgeT f).2.2 = true → (edgeT f).1.val ρ crcFn < (edgeT f).2.1.val ρ crcFn) := by
  obtain ⟨x, y, b⟩ := f
  have := hF _ hf
  cases b
  · simp only [edgeT, cond_false]
    simp only [Bool.false_eq_true, false_iff] at this
    exact ⟨by omega, fun _ => by omega⟩
  · simp only [edgeT, cond_true]
    exact ⟨this.1 rfl, fun h => by cases h⟩
theorem ring_no {ρ : Nat → List Int → Int} {F : Facts} (hF : Hold ρ F) (s : N) : ∀ (l : List Nat) (c : N) (t : Bool), s.val ρ crcFn ≤ c.val ρ crcFn → (t = true → s.val ρ crcFn < c.val ρ crcFn) → ring F s l c t = true → False
  | [], c, t, h1, h2, h => by
    simp only [ring, Bool.and_eq_true] at h
    have := h2 h.1
    have := link_le (ρ := ρ) h.2
    omega
  | i :: l, c, t, h1, h2, h => by
    simp only [ring] at h
    split at h
    · rename_i f hf
      simp only [Bool.and_eq_true] at h
      have q1 := link_le (ρ := ρ) h.1
      obtain ⟨q2, q3⟩ := edge_le hF (nth_mem hf)
      refine ring_no hF s l _ _ (by omega) (fun ht => ?_) h.2
      simp only [Bool.or_eq_true] at ht
      rcases ht with ht | ht
      · have := h2 ht; omega
      · have := q3 ht; omega
    · cases h
theorem ring0_no {ρ : Nat → List Int → Int} {F : Facts} (hF : Hold ρ F) {l : List Nat} (h : ring0 F l = true) : False := by
  cases l with
  | nil => cases h
  | cons i l =>
    simp only [ring0] at h
    split at h
    · rename_i f hf
      obtain ⟨q2, q3⟩ := edge_le hF (nth_mem hf)
      exact ring_no hF _ l _ _ q2 q3 h
    · cases h
theorem check_sound {ρ : Nat → List Int → Int} {Q : Prop} {run : Facts → Bool} (hrun : ∀ F, run F = true → Hold ρ F → Q) : ∀ (t : Tree) (F : Facts), check run t F = true → Hold ρ F → Q
  | .leaf, F, h, hF => hrun F h hF
  | .bad l, F, h, hF => (ring0_no hF (l := l) h).elim
  | .node x y l r, F, h, hF => by
    have h' : cK (check run l ((x, y, true) :: F)) (check run r ((x, y, false) :: F)) false = true := h
    rw [cK_eq] at h'
    cases hl : check run l ((x, y, true) :: F) with
    | false => rw [hl] at h'; cases h'
    | true =>
      rw [hl] at h'
      by_cases hle : x.val ρ crcFn ≤ y.val ρ crcFn
      · refine check_sound hrun l _ hl fun f hf => ?_
        rcases List.mem_cons.1 hf with rfl | hf
        · simp [hle]
        · exact hF f hf
      · refine check_sound hrun r _ h' fun f hf => ?_
        rcases List.mem_cons.1 hf with rfl | hf
        · simp [hle]
        · exact hF f hf

/-- The old blocks lie as they lay. -/
structure Keep (w w' : World) : Prop where
  size : w.heap.size ≤ w'.heap.size
  block : ∀ r, r < w.heap.size → w'.heap[r]? = w.heap[r]?
  os : w'.os = w.os
  tape : w'.tape = w.tape
  output : w'.output = w.output
/-- The call answers so at any world. -/
def PureRet (P : Program) (f : Nat) (args : Array Value) (r : Value) : Prop := ∀ w, ∃ nx w1, (callFunc f args).run P w = .ok nx w1 ∧
  ((nx = .value r ∧ Keep w w1) ∨ ∃ g xs, nx = .enter g xs ∧ Calls P g xs w1 fun e w'' => e = .returned r ∧ Keep w w'')
section
variable {I S : Type} {γ : I → Int} {σ : Sg I S} {P : Program}
theorem pure_ret {cf : CallF I S} (hcf : CallOk P γ σ cf) {f : Nat} {args : List (LV I S)} {v : LV I S} {h' : H I S} (hc : cf (.fn f) args ⟨.leaf, 0⟩ = some (v, h')) {args' : Array Value} (hargs : ∀ φ, VRels γ σ φ (fun _ => False) args args'.toList) {r : Value}
    (hv : ∀ φ K x, VRel γ σ φ K v x → x = r) : PureRet P f args' r := by
  intro w
  have hr0 : Rel γ σ (fun _ => ⟨0, 0, 0⟩) (⟨.leaf, 0⟩ : H I S) w := ⟨fun b o hb => by simp [Tr.get_leaf] at hb, fun b o hb => by simp [Tr.get_leaf] at hb, fun b o b' o' hb => by simp [Tr.get_leaf] at hb⟩
  have ha := (hargs (fun _ => ⟨0, 0, 0⟩)).mono (K' := (⟨.leaf, 0⟩ : H I S).ids) (fun b hb => hb.elim) (φ' := fun _ => ⟨0, 0, 0⟩) (fun _ _ => rfl)
  obtain ⟨nx, w1, hrun, hres⟩ := (hcf (.fn f) args _ v h' hc).2 _ w args' hr0 ha
  have turn : ∀ v' w', Post γ σ (fun _ => ⟨0, 0, 0⟩) (⟨.leaf, 0⟩ : H I S) w v h' v' w' → v' = r ∧ Keep w w' := by
    rintro v' w' ⟨φ', q1, q2, q3⟩
    exact ⟨hv _ _ _ q1, q3.size, fun r hlt => q3.frame r hlt fun b o hb => by simp [Tr.get_leaf] at hb, q3.os, q3.tape, q3.output⟩
  refine ⟨nx, w1, hrun, ?_⟩
  rcases hres with ⟨v', e, hp⟩ | ⟨g, xs, e, hp⟩
  · obtain ⟨e', k⟩ := turn _ _ hp; exact .inl ⟨by rw [e, e'], k⟩
  · exact .inr ⟨g, xs, e, Calls.mono hp fun e w'' ⟨v', he, hq⟩ => by obtain ⟨e', k⟩ := turn _ _ hq; exact ⟨by rw [he, e'], k⟩⟩
/-- A call that answers so, for the interpreter. -/
theorem PureRet.does {f : Nat} {args : List (LV I S)} {h : H I S} {v : LV I S} (hp : ∀ φ (args' : Array Value), VRels γ σ φ h.ids args args'.toList → ∃ r, PureRet P f args' r ∧ VRel γ σ φ h.ids v r) : CallDoes P γ σ f args h v h := by
  refine ⟨Nat.le_refl _, fun φ w args' hr hargs => ?_⟩
  obtain ⟨r, h1, h2⟩ := hp φ args' hargs
  obtain ⟨nx, w1, hrun, hres⟩ := h1 w
  have turn : ∀ w', Keep w w' → Post γ σ φ h w v h r w' := fun w' k => by
    obtain ⟨k1, k2⟩ := hr.keep (w' := w') k.size k.block k.os k.tape k.output
    exact ⟨φ, h2, k1, k2⟩
  refine ⟨nx, w1, hrun, ?_⟩
  rcases hres with ⟨e, k⟩ | ⟨g, xs, e, hc⟩
  · exact .inl ⟨r, e, turn _ k⟩
  · exact .inr ⟨g, xs, e, Calls.mono hc fun e w'' ⟨he, k⟩ => ⟨r, he, turn _ k⟩⟩
end
end Go.Proofs.YtohmaikcmaapjaaGreat.LI
