/- furlongref1's On and cross: false where the place lies outside. -/
import Derived.Test.YtohmaikcmaapjaaGreatLGeo3
namespace Go.Proofs.YtohmaikcmaapjaaGreat.LI
open Go.Proofs
set_option maxRecDepth 100000
theorem ptArr {tc : Nat → Code → LCode N (List N) → Prop} {ρ : Nat → List Int → Int} {φ : Phi} {K : Nat → Prop} {x y : N} {v : Value} (h : VRel (N.val ρ crcFn) (sg ρ tc) φ K (.agg [.int .i64 x, .int .i64 y]) v) : v = ptV (x.val ρ crcFn) (y.val ρ crcFn) := by
  cases h with
  | agg _ c' h =>
  generalize hl : c'.toList = l at h
  cases h with
  | cons _ p _ l' h1 h2 =>
  cases h2 with
  | cons _ q _ l'' h3 h4 =>
  cases h4
  cases h1
  cases h3
  rw [arr2 hl]; rfl
theorem arr3 {c : Array Value} {a b d : Value} (h : c.toList = [a, b, d]) : c = #[a, b, d] := by apply Array.toList_inj.1; simpa using h
theorem o98_ok {tc : Nat → Code → LCode N (List N) → Prop} {ρ : Nat → List Int → Int} (ht : TurnOk ρ) : OvFOk Tryz.prog (N.val ρ crcFn) (sg ρ tc) 98 o98 := by
  intro args h v h' ho
  unfold o98 at ho
  split at ho
  · rename_i ax ay bx y cx cy
    obtain ⟨hc, ho⟩ := cond_some ho
    simp only [Bool.and_eq_true] at hc
    obtain ⟨⟨⟨⟨⟨c1, c2⟩, c3⟩, c4⟩, c5⟩, c6⟩ := hc
    have hargs : ∀ φ (args' : Array Value), VRels (N.val ρ crcFn) (sg ρ tc) φ h.ids [.agg [.int .i64 ax, .int .i64 ay], .agg [.int .i64 bx, .int .i64 y], .agg [.int .i64 cx, .int .i64 cy]] args'.toList →
        args' = #[ptV (ax.val ρ crcFn) (ay.val ρ crcFn), ptV (bx.val ρ crcFn) (y.val ρ crcFn), ptV (cx.val ρ crcFn) (cy.val ρ crcFn)] := by
      intro φ args' ha
      generalize hl : args'.toList = l at ha
      cases ha with
      | cons _ p _ l' h1 h2 =>
      cases h2 with
      | cons _ q _ l'' h3 h4 =>
      cases h4 with
      | cons _ r _ l3 h5 h6 =>
      cases h6
      rw [ptArr h1, ptArr h3, ptArr h5] at hl
      exact arr3 hl
    cases hs : (N.same ax bx && N.same ay y) with
    | true =>
      rw [hs] at ho; cases ho
      simp only [Bool.and_eq_true] at hs
      refine PureRet.does fun φ args' ha => ?_
      rw [hargs φ args' ha, N.same_eq _ _ hs.1, N.same_eq _ _ hs.2]
      have z1 := VRel.int (γ := N.val ρ crcFn) (σ := sg ρ tc) (φ := φ) (K := h.ids) .i64 (.c (.ofNat 0))
      exact ⟨_, turn_zero _ _ _ _ (in64_ok c3) (in64_ok c4) (in64_ok c5) (in64_ok c6), by simp only [N.val] at z1; exact z1⟩
    | false =>
      rw [hs] at ho; cases ho
      refine PureRet.does fun φ args' ha => ?_
      rw [hargs φ args' ha]
      refine ⟨_, ht _ _ _ _ _ _ (in64_ok c1) (in64_ok c2) (in64_ok c3) (in64_ok c4) (in64_ok c5) (in64_ok c6), ?_⟩
      have e1 := VRel.int (γ := N.val ρ crcFn) (σ := sg ρ tc) (φ := φ) (K := h.ids) .i64 (.f 208 (.cons ax (.cons ay (.cons bx (.cons y (.cons cx (.cons cy .nil)))))) mn mx)
      simp only [N.val, NL.vals] at e1
      exact e1
  · cases ho
theorem ovT_ok {tc : Nat → Code → LCode N (List N) → Prop} {ρ : Nat → List Int → Int} (hs : TurnOk ρ) {F : Facts} : ∀ f o, (ovT F).get f = some o → OvFOk Tryz.prog (N.val ρ crcFn) (sg ρ tc) f o := by
  intro f o h
  unfold ovT at h
  rw [Tr.get_set] at h
  split at h
  · rename_i e; subst e; cases h; exact o98_ok hs
  · simp [Tr.get_leaf] at h
theorem tFalse_inv {v : LV N (List N)} (h : tFalse v = true) : v = .bool false := by
  unfold tFalse at h
  split at h
  · rfl
  · cases h
/-- Outside: strictly beyond both ends in one of the two directions. -/
def Beyond (p0 p1 a0 a1 b0 b1 : Int) : Prop := (p0 < a0 ∧ p0 < b0) ∨ (a0 < p0 ∧ b0 < p0) ∨ (p1 < a1 ∧ p1 < b1) ∨ (a1 < p1 ∧ b1 < p1)
theorem on_out (a0 a1 b0 b1 c0 c1 : Int) (h0 : I64 a0) (h1 : I64 a1) (h2 : I64 b0) (h3 : I64 b1) (h4 : I64 c0) (h5 : I64 c1) (ho : Beyond a0 a1 b0 b1 c0 c1) : PureRet Tryz.prog 97 #[ptV a0 a1, ptV b0 b1, ptV c0 c1] (.bool false) := by
  obtain ⟨ρ, hs, hρ⟩ := turn_there fun i _ => if i = 0 then a0 else if i = 1 then a1 else if i = 2 then b0 else if i = 3 then b1 else if i = 4 then c0 else c1
  have e0 : ρ 0 [] = a0 := hρ 0 [] (by decide)
  have e1 : ρ 1 [] = a1 := hρ 1 [] (by decide)
  have e2 : ρ 2 [] = b0 := hρ 2 [] (by decide)
  have e3 : ρ 3 [] = b1 := hρ 3 [] (by decide)
  have e4 : ρ 4 [] = c0 := hρ 4 [] (by decide)
  have e5 : ρ 5 [] = c1 := hρ 5 [] (by decide)
  have v0 : (fv 0).val ρ crcFn = a0 := (fv_val (e0 ▸ h0)).trans e0
  have v1 : (fv 1).val ρ crcFn = a1 := (fv_val (e1 ▸ h1)).trans e1
  have v2 : (fv 2).val ρ crcFn = b0 := (fv_val (e2 ▸ h2)).trans e2
  have v3 : (fv 3).val ρ crcFn = b1 := (fv_val (e3 ▸ h3)).trans e3
  have v4 : (fv 4).val ρ crcFn = c0 := (fv_val (e4 ▸ h4)).trans e4
  have v5 : (fv 5).val ρ crcFn = c1 := (fv_val (e5 ▸ h5)).trans e5
  have main : ∀ (t : Tree) (F0 : Facts), check (fun F => valT (runG ovT F 97 [fP 0, fP 2, fP 4]) tFalse) t F0 = true → Hold ρ F0 → PureRet Tryz.prog 97 #[ptV a0 a1, ptV b0 b1, ptV c0 c1] (.bool false) := by
    intro t F0 hck hF0
    refine check_sound (ρ := ρ) (run := fun F => valT (runG ovT F 97 [fP 0, fP 2, fP 4]) tFalse) ?_ t F0 hck hF0
    intro F hrun hF
    obtain ⟨v, m, hr, htt⟩ := valT_some hrun
    cases tFalse_inv htt
    refine pure_ret (runG_ok (ρ := ρ) hF (ovT_ok hs)) hr (fun φ => ?_) (fun φ K z hz => by cases hz; rfl)
    have q0 := fP_rel (tc := tcF F) (ρ := ρ) (φ := φ) (K := fun _ => False) 0 (e0 ▸ h0) (e1 ▸ h1)
    have q2 := fP_rel (tc := tcF F) (ρ := ρ) (φ := φ) (K := fun _ => False) 2 (e2 ▸ h2) (e3 ▸ h3)
    have q4 := fP_rel (tc := tcF F) (ρ := ρ) (φ := φ) (K := fun _ => False) 4 (e4 ▸ h4) (e5 ▸ h5)
    rw [e0, e1] at q0
    rw [e2, e3] at q2
    rw [e4, e5] at q4
    exact .cons _ _ _ _ q0 (.cons _ _ _ _ q2 (.cons _ _ _ _ q4 .nil))
  rcases ho with ho | ho | ho | ho
  · exact main _ _ onXlo_check (by intro f hf; simp only [FXlo, List.mem_cons, List.not_mem_nil, or_false] at hf; rcases hf with rfl | rfl <;> simp [v0, v2, v4] <;> omega)
  · exact main _ _ onXhi_check (by intro f hf; simp only [FXhi, List.mem_cons, List.not_mem_nil, or_false] at hf; rcases hf with rfl | rfl <;> simp [v0, v2, v4] <;> omega)
  · exact main _ _ onYlo_check (by intro f hf; simp only [FYlo, List.mem_cons, List.not_mem_nil, or_false] at hf; rcases hf with rfl | rfl <;> simp [v1, v3, v5] <;> omega)
  · exact main _ _ onYhi_check (by intro f hf; simp only [FYhi, List.mem_cons, List.not_mem_nil, or_false] at hf; rcases hf with rfl | rfl <;> simp [v1, v3, v5] <;> omega)
end Go.Proofs.YtohmaikcmaapjaaGreat.LI
