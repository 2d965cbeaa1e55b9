/- furlongref1's cross of a place with a stretch that it lies outside of: false. -/
import Derived.Test.YtohmaikcmaapjaaGreatLGeo4
namespace Go.Proofs.YtohmaikcmaapjaaGreat.LI
open Go.Proofs
set_option maxRecDepth 100000
noncomputable section
def ltB (D : Dom N (List N)) (a b : N) : Bool := match D.cmp .lss a b with
  | some true => true
  | _ => false
def outB (D : Dom N (List N)) (px py cx cy dx dy : N) : Bool := (ltB D px cx && ltB D px dx) || (ltB D cx px && ltB D dx px) || (ltB D py cy && ltB D py dy) || (ltB D cy py && ltB D dy py)
def o97 (D : Dom N (List N)) : OvF N (List N) := fun args h => match args with
  | [.agg [.int .i64 px, .int .i64 py], .agg [.int .i64 cx, .int .i64 cy], .agg [.int .i64 dx, .int .i64 dy]] =>
    cond (in64 px && in64 py && in64 cx && in64 cy && in64 dx && in64 dy && outB D px py cx cy dx dy) (some (.bool false, h)) none
  | _ => none
def ovC (F : Facts) : Tr (OvF N (List N)) := Tr.set (Tr.set .leaf 98 o98) 97 (o97 (symDom F))
theorem crossXlo_check : check (fun F => valT (runG ovC F 34 [fP 0, fP 0, fP 2, fP 4]) tFalse) .leaf FXlo = true := by decide +kernel
theorem crossXhi_check : check (fun F => valT (runG ovC F 34 [fP 0, fP 0, fP 2, fP 4]) tFalse) .leaf FXhi = true := by decide +kernel
theorem crossYlo_check : check (fun F => valT (runG ovC F 34 [fP 0, fP 0, fP 2, fP 4]) tFalse) .leaf FYlo = true := by decide +kernel
theorem crossYhi_check : check (fun F => valT (runG ovC F 34 [fP 0, fP 0, fP 2, fP 4]) tFalse) .leaf FYhi = true := by decide +kernel
end
theorem ltB_ok {ρ : Nat → List Int → Int} {F : Facts} (hF : Hold ρ F) {a b : N} (h : ltB (symDom F) a b = true) : a.val ρ crcFn < b.val ρ crcFn := by
  unfold ltB at h
  split at h
  · rename_i hc
    have := (symDom_ok (tc := tcF F) crcFn_range hF).cmp _ _ _ _ hc
    simpa [goCmp] using this
  · cases h
theorem outB_ok {ρ : Nat → List Int → Int} {F : Facts} (hF : Hold ρ F) {px py cx cy dx dy : N} (h : outB (symDom F) px py cx cy dx dy = true) : Beyond (px.val ρ crcFn) (py.val ρ crcFn) (cx.val ρ crcFn) (cy.val ρ crcFn) (dx.val ρ crcFn) (dy.val ρ crcFn) := by
  simp only [outB, Bool.or_eq_true, Bool.and_eq_true] at h
  rcases h with ((h | h) | h) | h
  · exact .inl ⟨ltB_ok hF h.1, ltB_ok hF h.2⟩
  · exact .inr (.inl ⟨ltB_ok hF h.1, ltB_ok hF h.2⟩)
  · exact .inr (.inr (.inl ⟨ltB_ok hF h.1, ltB_ok hF h.2⟩))
  · exact .inr (.inr (.inr ⟨ltB_ok hF h.1, ltB_ok hF h.2⟩))
theorem o97_ok {tc : Nat → Code → LCode N (List N) → Prop} {ρ : Nat → List Int → Int} {F : Facts} (hF : Hold ρ F) : OvFOk Tryz.prog (N.val ρ crcFn) (sg ρ tc) 97 (o97 (symDom F)) := by
  intro args h v h' ho
  unfold o97 at ho
  split at ho
  · rename_i px py cx cy dx dy
    obtain ⟨hc, ho⟩ := cond_some ho
    cases ho
    simp only [Bool.and_eq_true] at hc
    obtain ⟨⟨⟨⟨⟨⟨c1, c2⟩, c3⟩, c4⟩, c5⟩, c6⟩, c7⟩ := hc
    refine PureRet.does fun φ args' ha => ?_
    have : args' = #[ptV (px.val ρ crcFn) (py.val ρ crcFn), ptV (cx.val ρ crcFn) (cy.val ρ crcFn), ptV (dx.val ρ crcFn) (dy.val ρ crcFn)] := by
      generalize hl : args'.toList = l at ha
      cases ha with
      | cons _ p _ l' h1 h2 =>
      cases h2 with
      | cons _ q _ l'' h3 h4 =>
      cases h4 with
      | cons _ r _ l3 h5 h6 =>
      cases h6
      rw [ptArr h1, ptArr h3, ptArr h5] at hl
      exact arr3 hl
    rw [this]
    exact ⟨_, on_out _ _ _ _ _ _ (in64_ok c1) (in64_ok c2) (in64_ok c3) (in64_ok c4) (in64_ok c5) (in64_ok c6) (outB_ok hF c7), .bool false⟩
  · cases ho
theorem ovC_ok {tc : Nat → Code → LCode N (List N) → Prop} {ρ : Nat → List Int → Int} (hs : TurnOk ρ) {F : Facts} (hF : Hold ρ F) : ∀ f o, (ovC F).get f = some o → OvFOk Tryz.prog (N.val ρ crcFn) (sg ρ tc) f o := by
  intro f o h
  unfold ovC at h
  rw [Tr.get_set] at h
  split at h
  · rename_i e; subst e; cases h; exact o97_ok hF
  · rw [Tr.get_set] at h
    split at h
    · rename_i e; subst e; cases h; exact o98_ok hs
    · simp [Tr.get_leaf] at h
theorem arr4 {c : Array Value} {a b d e : Value} (h : c.toList = [a, b, d, e]) : c = #[a, b, d, e] := by apply Array.toList_inj.1; simpa using h
theorem cross_out (a0 a1 b0 b1 c0 c1 : Int) (h0 : I64 a0) (h1 : I64 a1) (h2 : I64 b0) (h3 : I64 b1) (h4 : I64 c0) (h5 : I64 c1) (ho : Beyond a0 a1 b0 b1 c0 c1) : PureRet Tryz.prog 34 #[ptV a0 a1, ptV a0 a1, ptV b0 b1, ptV c0 c1] (.bool false) := by
  obtain ⟨ρ, hs, hρ⟩ := turn_there fun i _ => if i = 0 then a0 else if i = 1 then a1 else if i = 2 then b0 else if i = 3 then b1 else if i = 4 then c0 else c1
  have e0 : ρ 0 [] = a0 := hρ 0 [] (by decide)
  have e1 : ρ 1 [] = a1 := hρ 1 [] (by decide)
  have e2 : ρ 2 [] = b0 := hρ 2 [] (by decide)
  have e3 : ρ 3 [] = b1 := hρ 3 [] (by decide)
  have e4 : ρ 4 [] = c0 := hρ 4 [] (by decide)
  have e5 : ρ 5 [] = c1 := hρ 5 [] (by decide)
  have v0 : (fv 0).val ρ crcFn = a0 := (fv_val (e0 ▸ h0)).trans e0
  have v1 : (fv 1).val ρ crcFn = a1 := (fv_val (e1 ▸ h1)).trans e1
  have v2 : (fv 2).val ρ crcFn = b0 := (fv_val (e2 ▸ h2)).trans e2
  have v3 : (fv 3).val ρ crcFn = b1 := (fv_val (e3 ▸ h3)).trans e3
  have v4 : (fv 4).val ρ crcFn = c0 := (fv_val (e4 ▸ h4)).trans e4
  have v5 : (fv 5).val ρ crcFn = c1 := (fv_val (e5 ▸ h5)).trans e5
  have main : ∀ (t : Tree) (F0 : Facts), check (fun F => valT (runG ovC F 34 [fP 0, fP 0, fP 2, fP 4]) tFalse) t F0 = true → Hold ρ F0 → PureRet Tryz.prog 34 #[ptV a0 a1, ptV a0 a1, ptV b0 b1, ptV c0 c1] (.bool false) := by
    intro t F0 hck hF0
    refine check_sound (ρ := ρ) (run := fun F => valT (runG ovC F 34 [fP 0, fP 0, fP 2, fP 4]) tFalse) ?_ t F0 hck hF0
    intro F hrun hF
    obtain ⟨v, m, hr, htt⟩ := valT_some hrun
    cases tFalse_inv htt
    refine pure_ret (runG_ok (ρ := ρ) hF (ovC_ok hs hF)) hr (fun φ => ?_) (fun φ K z hz => by cases hz; rfl)
    have q0 := fP_rel (tc := tcF F) (ρ := ρ) (φ := φ) (K := fun _ => False) 0 (e0 ▸ h0) (e1 ▸ h1)
    have q2 := fP_rel (tc := tcF F) (ρ := ρ) (φ := φ) (K := fun _ => False) 2 (e2 ▸ h2) (e3 ▸ h3)
    have q4 := fP_rel (tc := tcF F) (ρ := ρ) (φ := φ) (K := fun _ => False) 4 (e4 ▸ h4) (e5 ▸ h5)
    rw [e0, e1] at q0
    rw [e2, e3] at q2
    rw [e4, e5] at q4
    exact .cons _ _ _ _ q0 (.cons _ _ _ _ q0 (.cons _ _ _ _ q2 (.cons _ _ _ _ q4 .nil)))
  rcases ho with ho | ho | ho | ho
  · exact main _ _ crossXlo_check (by intro f hf; simp only [FXlo, List.mem_cons, List.not_mem_nil, or_false] at hf; rcases hf with rfl | rfl <;> simp [v0, v2, v4] <;> omega)
  · exact main _ _ crossXhi_check (by intro f hf; simp only [FXhi, List.mem_cons, List.not_mem_nil, or_false] at hf; rcases hf with rfl | rfl <;> simp [v0, v2, v4] <;> omega)
  · exact main _ _ crossYlo_check (by intro f hf; simp only [FYlo, List.mem_cons, List.not_mem_nil, or_false] at hf; rcases hf with rfl | rfl <;> simp [v1, v3, v5] <;> omega)
  · exact main _ _ crossYhi_check (by intro f hf; simp only [FYhi, List.mem_cons, List.not_mem_nil, or_false] at hf; rcases hf with rfl | rfl <;> simp [v1, v3, v5] <;> omega)
noncomputable def o34 (D : Dom N (List N)) : OvF N (List N) := fun args h => match args with
  | [.agg [.int .i64 px, .int .i64 py], .agg [.int .i64 qx, .int .i64 qy], .agg [.int .i64 cx, .int .i64 cy], .agg [.int .i64 dx, .int .i64 dy]] =>
    cond (N.same px qx && N.same py qy && (in64 px && in64 py && in64 cx && in64 cy && in64 dx && in64 dy && outB D px py cx cy dx dy)) (some (.bool false, h)) none
  | _ => none
theorem o34_ok {tc : Nat → Code → LCode N (List N) → Prop} {ρ : Nat → List Int → Int} {F : Facts} (hF : Hold ρ F) : OvFOk Tryz.prog (N.val ρ crcFn) (sg ρ tc) 34 (o34 (symDom F)) := by
  intro args h v h' ho
  unfold o34 at ho
  split at ho
  · rename_i px py qx qy cx cy dx dy
    obtain ⟨hc, ho⟩ := cond_some ho
    cases ho
    simp only [Bool.and_eq_true] at hc
    obtain ⟨⟨d1, d2⟩, ⟨⟨⟨⟨⟨⟨c1, c2⟩, c3⟩, c4⟩, c5⟩, c6⟩, c7⟩⟩ := hc
    refine PureRet.does fun φ args' ha => ?_
    have : args' = #[ptV (px.val ρ crcFn) (py.val ρ crcFn), ptV (qx.val ρ crcFn) (qy.val ρ crcFn), ptV (cx.val ρ crcFn) (cy.val ρ crcFn), ptV (dx.val ρ crcFn) (dy.val ρ crcFn)] := by
      generalize hl : args'.toList = l at ha
      cases ha with
      | cons _ p _ l' h1 h2 =>
      cases h2 with
      | cons _ q _ l'' h3 h4 =>
      cases h4 with
      | cons _ r _ l3 h5 h6 =>
      cases h6 with
      | cons _ u _ l4 h7 h8 =>
      cases h8
      rw [ptArr h1, ptArr h3, ptArr h5, ptArr h7] at hl
      exact arr4 hl
    rw [this, ← N.same_eq _ _ d1, ← N.same_eq _ _ d2]
    exact ⟨_, cross_out _ _ _ _ _ _ (in64_ok c1) (in64_ok c2) (in64_ok c3) (in64_ok c4) (in64_ok c5) (in64_ok c6) (outB_ok hF c7), .bool false⟩
  · cases ho
end Go.Proofs.YtohmaikcmaapjaaGreat.LI
