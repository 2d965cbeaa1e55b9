/- furlongref1's turn: some number; of twice the same point: 0. -/
import Derived.Test.YtohmaikcmaapjaaGreatLGeo
namespace Go.Proofs.YtohmaikcmaapjaaGreat.LI
open Go.Proofs
set_option maxRecDepth 100000
noncomputable section
def o172 : OvF N (List N) := fun args h => match args with
  | [.int .i64 x, .int .i64 y] => cond (in64 x && in64 y) (match x with
    | .c (.ofNat 0) => some (.tuple [.int .i64 (.c (.ofNat 0)), .agg [.int .u64 (.c (.ofNat 0)), .int .u64 (.c (.ofNat 0))]], h)
    | x => some (.tuple [.int .i64 (.f 322 (.cons x (.cons y .nil)) mn mx), .agg [.int .u64 (.f 323 (.cons x (.cons y .nil)) 0 um), .int .u64 (.f 324 (.cons x (.cons y .nil)) 0 um)]], h)) none
  | _ => none
def ovS (_ : Facts) : Tr (OvF N (List N)) := Tr.set .leaf 172 o172
def tInt : LV N (List N) → Bool
  | .int .i64 s => in64 s
  | _ => false
def tNull : LV N (List N) → Bool
  | .int .i64 (.c (.ofNat 0)) => true
  | _ => false
def treeTurn : Tree := (.node (.f 322 (.cons (.b .sub .i64 (fv 2) (fv 0) (.negSucc 9223372036854775807) (.ofNat 9223372036854775807)) (.cons (.b .sub .i64 (fv 5) (fv 1) (.negSucc 9223372036854775807) (.ofNat 9223372036854775807)) .nil)) (.negSucc 9223372036854775807) (.ofNat 9223372036854775807)) (.f 322 (.cons (.b .sub .i64 (fv 3) (fv 1) (.negSucc 9223372036854775807) (.ofNat 9223372036854775807)) (.cons (.b .sub .i64 (fv 4) (fv 0) (.negSucc 9223372036854775807) (.ofNat 9223372036854775807)) .nil)) (.negSucc 9223372036854775807) (.ofNat 9223372036854775807)) (.node (.f 322 (.cons (.b .sub .i64 (fv 3) (fv 1) (.negSucc 9223372036854775807) (.ofNat 9223372036854775807)) (.cons (.b .sub .i64 (fv 4) (fv 0) (.negSucc 9223372036854775807) (.ofNat 9223372036854775807)) .nil)) (.negSucc 9223372036854775807) (.ofNat 9223372036854775807)) (.f 322 (.cons (.b .sub .i64 (fv 2) (fv 0) (.negSucc 9223372036854775807) (.ofNat 9223372036854775807)) (.cons (.b .sub .i64 (fv 5) (fv 1) (.negSucc 9223372036854775807) (.ofNat 9223372036854775807)) .nil)) (.negSucc 9223372036854775807) (.ofNat 9223372036854775807)) (.node (.f 323 (.cons (.b .sub .i64 (fv 2) (fv 0) (.negSucc 9223372036854775807) (.ofNat 9223372036854775807)) (.cons (.b .sub .i64 (fv 5) (fv 1) (.negSucc 9223372036854775807) (.ofNat 9223372036854775807)) .nil)) (.ofNat 0) (.ofNat 18446744073709551615)) (.f 323 (.cons (.b .sub .i64 (fv 3) (fv 1) (.negSucc 9223372036854775807) (.ofNat 9223372036854775807)) (.cons (.b .sub .i64 (fv 4) (fv 0) (.negSucc 9223372036854775807) (.ofNat 9223372036854775807)) .nil)) (.ofNat 0) (.ofNat 18446744073709551615)) (.node (.f 323 (.cons (.b .sub .i64 (fv 3) (fv 1) (.negSucc 9223372036854775807) (.ofNat 9223372036854775807)) (.cons (.b .sub .i64 (fv 4) (fv 0) (.negSucc 9223372036854775807) (.ofNat 9223372036854775807)) .nil)) (.ofNat 0) (.ofNat 18446744073709551615)) (.f 323 (.cons (.b .sub .i64 (fv 2) (fv 0) (.negSucc 9223372036854775807) (.ofNat 9223372036854775807)) (.cons (.b .sub .i64 (fv 5) (fv 1) (.negSucc 9223372036854775807) (.ofNat 9223372036854775807)) .nil)) (.ofNat 0) (.ofNat 18446744073709551615)) (.node (.f 324 (.cons (.b .sub .i64 (fv 2) (fv 0) (.negSucc 9223372036854775807) (.ofNat 9223372036854775807)) (.cons (.b .sub .i64 (fv 5) (fv 1) (.negSucc 9223372036854775807) (.ofNat 9223372036854775807)) .nil)) (.ofNat 0) (.ofNat 18446744073709551615)) (.f 324 (.cons (.b .sub .i64 (fv 3) (fv 1) (.negSucc 9223372036854775807) (.ofNat 9223372036854775807)) (.cons (.b .sub .i64 (fv 4) (fv 0) (.negSucc 9223372036854775807) (.ofNat 9223372036854775807)) .nil)) (.ofNat 0) (.ofNat 18446744073709551615)) (.node (.f 324 (.cons (.b .sub .i64 (fv 3) (fv 1) (.negSucc 9223372036854775807) (.ofNat 9223372036854775807)) (.cons (.b .sub .i64 (fv 4) (fv 0) (.negSucc 9223372036854775807) (.ofNat 9223372036854775807)) .nil)) (.ofNat 0) (.ofNat 18446744073709551615)) (.f 324 (.cons (.b .sub .i64 (fv 2) (fv 0) (.negSucc 9223372036854775807) (.ofNat 9223372036854775807)) (.cons (.b .sub .i64 (fv 5) (fv 1) (.negSucc 9223372036854775807) (.ofNat 9223372036854775807)) .nil)) (.ofNat 0) (.ofNat 18446744073709551615)) .leaf .leaf) (.node (.f 324 (.cons (.b .sub .i64 (fv 3) (fv 1) (.negSucc 9223372036854775807) (.ofNat 9223372036854775807)) (.cons (.b .sub .i64 (fv 4) (fv 0) (.negSucc 9223372036854775807) (.ofNat 9223372036854775807)) .nil)) (.ofNat 0) (.ofNat 18446744073709551615)) (.f 324 (.cons (.b .sub .i64 (fv 2) (fv 0) (.negSucc 9223372036854775807) (.ofNat 9223372036854775807)) (.cons (.b .sub .i64 (fv 5) (fv 1) (.negSucc 9223372036854775807) (.ofNat 9223372036854775807)) .nil)) (.ofNat 0) (.ofNat 18446744073709551615)) .leaf .leaf)) .leaf) (.node (.f 323 (.cons (.b .sub .i64 (fv 3) (fv 1) (.negSucc 9223372036854775807) (.ofNat 9223372036854775807)) (.cons (.b .sub .i64 (fv 4) (fv 0) (.negSucc 9223372036854775807) (.ofNat 9223372036854775807)) .nil)) (.ofNat 0) (.ofNat 18446744073709551615)) (.f 323 (.cons (.b .sub .i64 (fv 2) (fv 0) (.negSucc 9223372036854775807) (.ofNat 9223372036854775807)) (.cons (.b .sub .i64 (fv 5) (fv 1) (.negSucc 9223372036854775807) (.ofNat 9223372036854775807)) .nil)) (.ofNat 0) (.ofNat 18446744073709551615)) .leaf .leaf)) .leaf) .leaf)
theorem turn_check : check (fun F => valT (runG ovS F 98 [fP 0, fP 2, fP 4]) tInt) treeTurn [] = true := by decide +kernel
theorem turn0_check : check (fun F => valT (runG ovS F 98 [fP 0, fP 0, fP 4]) tNull) .leaf [] = true := by decide +kernel
end
theorem o172_ok {tc : Nat → Code → LCode N (List N) → Prop} {ρ : Nat → List Int → Int} (hs : SignedOk ρ) : OvFOk Tryz.prog (N.val ρ crcFn) (sg ρ tc) 172 o172 := by
  intro args h v h' ho
  unfold o172 at ho
  split at ho
  · rename_i x y
    obtain ⟨hc, ho⟩ := cond_some ho
    simp only [Bool.and_eq_true] at hc
    have hx := in64_ok (ρ := ρ) hc.1
    have hy := in64_ok (ρ := ρ) hc.2
    have hargs : ∀ φ (args' : Array Value), VRels (N.val ρ crcFn) (sg ρ tc) φ h.ids [.int .i64 x, .int .i64 y] args'.toList → args' = #[.int .i64 (x.val ρ crcFn), .int .i64 (y.val ρ crcFn)] := by
      intro φ args' ha
      generalize hl : args'.toList = l at ha
      cases ha with
      | cons _ p _ l' h1 h2 =>
      cases h2 with
      | cons _ q _ l'' h3 h4 =>
      cases h4
      cases h1
      cases h3
      exact arr2 hl
    split at ho
    · cases ho
      refine PureRet.does fun φ args' ha => ?_
      rw [hargs φ args' ha]
      have z1 := VRel.int (γ := N.val ρ crcFn) (σ := sg ρ tc) (φ := φ) (K := h.ids) .i64 (.c (.ofNat 0))
      have z2 := VRel.int (γ := N.val ρ crcFn) (σ := sg ρ tc) (φ := φ) (K := h.ids) .u64 (.c (.ofNat 0))
      simp only [N.val] at z1 z2 ⊢
      exact ⟨_, signed_zero _ hy, .tuple _ _ (.cons _ _ _ _ z1 (.cons _ _ _ _ (.agg _ _ (.cons _ _ _ _ z2 (.cons _ _ _ _ z2 .nil))) .nil))⟩
    · cases ho
      refine PureRet.does fun φ args' ha => ?_
      rw [hargs φ args' ha]
      refine ⟨_, hs _ _ hx hy, ?_⟩
      have e1 := VRel.int (γ := N.val ρ crcFn) (σ := sg ρ tc) (φ := φ) (K := h.ids) .i64 (.f 322 (.cons x (.cons y .nil)) mn mx)
      have e2 := VRel.int (γ := N.val ρ crcFn) (σ := sg ρ tc) (φ := φ) (K := h.ids) .u64 (.f 323 (.cons x (.cons y .nil)) 0 um)
      have e3 := VRel.int (γ := N.val ρ crcFn) (σ := sg ρ tc) (φ := φ) (K := h.ids) .u64 (.f 324 (.cons x (.cons y .nil)) 0 um)
      simp only [N.val, NL.vals] at e1 e2 e3
      exact .tuple _ _ (.cons _ _ _ _ e1 (.cons _ _ _ _ (.agg _ _ (.cons _ _ _ _ e2 (.cons _ _ _ _ e3 .nil))) .nil))
  · cases ho
theorem ovS_ok {tc : Nat → Code → LCode N (List N) → Prop} {ρ : Nat → List Int → Int} (hs : SignedOk ρ) {F : Facts} : ∀ f o, (ovS F).get f = some o → OvFOk Tryz.prog (N.val ρ crcFn) (sg ρ tc) f o := by
  intro f o h
  unfold ovS at h
  rw [Tr.get_set] at h
  split at h
  · rename_i e; subst e; cases h; exact o172_ok hs
  · simp [Tr.get_leaf] at h
def ptV (x y : Int) : Value := .agg #[.int .i64 x, .int .i64 y]
theorem fP_rel {tc : Nat → Code → LCode N (List N) → Prop} {ρ : Nat → List Int → Int} {φ : Phi} {K : Nat → Prop} (i : Nat) (h0 : I64 (ρ i [])) (h1 : I64 (ρ (i + 1) [])) : VRel (N.val ρ crcFn) (sg ρ tc) φ K (fP i) (ptV (ρ i []) (ρ (i + 1) [])) := by
  have e0 := VRel.int (γ := N.val ρ crcFn) (σ := sg ρ tc) (φ := φ) (K := K) .i64 (fv i)
  have e1 := VRel.int (γ := N.val ρ crcFn) (σ := sg ρ tc) (φ := φ) (K := K) .i64 (fv (i + 1))
  rw [fv_val h0] at e0
  rw [fv_val h1] at e1
  exact .agg _ _ (.cons _ _ _ _ e0 (.cons _ _ _ _ e1 .nil))
theorem tInt_inv {v : LV N (List N)} (h : tInt v = true) : ∃ s, v = .int .i64 s ∧ in64 s = true := by
  unfold tInt at h
  split at h
  · exact ⟨_, rfl, h⟩
  · cases h
theorem tNull_inv {v : LV N (List N)} (h : tNull v = true) : v = .int .i64 (.c (.ofNat 0)) := by
  unfold tNull at h
  split at h
  · rfl
  · cases h
theorem turn_ret (a0 a1 b0 b1 c0 c1 : Int) (h0 : I64 a0) (h1 : I64 a1) (h2 : I64 b0) (h3 : I64 b1) (h4 : I64 c0) (h5 : I64 c1) : ∃ r, I64 r ∧ PureRet Tryz.prog 98 #[ptV a0 a1, ptV b0 b1, ptV c0 c1] (.int .i64 r) := by
  obtain ⟨ρ, hs, hρ⟩ := signed_there fun i _ => if i = 0 then a0 else if i = 1 then a1 else if i = 2 then b0 else if i = 3 then b1 else if i = 4 then c0 else c1
  have e0 : ρ 0 [] = a0 := hρ 0 [] (by decide)
  have e1 : ρ 1 [] = a1 := hρ 1 [] (by decide)
  have e2 : ρ 2 [] = b0 := hρ 2 [] (by decide)
  have e3 : ρ 3 [] = b1 := hρ 3 [] (by decide)
  have e4 : ρ 4 [] = c0 := hρ 4 [] (by decide)
  have e5 : ρ 5 [] = c1 := hρ 5 [] (by decide)
  refine check_sound (ρ := ρ) (run := fun F => valT (runG ovS F 98 [fP 0, fP 2, fP 4]) tInt) ?_ treeTurn [] turn_check (hold_nil _)
  intro F hrun hF
  obtain ⟨v, m, hr, ht⟩ := valT_some hrun
  obtain ⟨s, rfl, hs'⟩ := tInt_inv ht
  refine ⟨s.val ρ crcFn, in64_ok hs', pure_ret (runG_ok (ρ := ρ) hF (ovS_ok hs)) hr (fun φ => ?_) (fun φ K z hz => by cases hz; rfl)⟩
  have q0 := fP_rel (tc := tcF F) (ρ := ρ) (φ := φ) (K := fun _ => False) 0 (e0 ▸ h0) (e1 ▸ h1)
  have q2 := fP_rel (tc := tcF F) (ρ := ρ) (φ := φ) (K := fun _ => False) 2 (e2 ▸ h2) (e3 ▸ h3)
  have q4 := fP_rel (tc := tcF F) (ρ := ρ) (φ := φ) (K := fun _ => False) 4 (e4 ▸ h4) (e5 ▸ h5)
  rw [e0, e1] at q0
  rw [e2, e3] at q2
  rw [e4, e5] at q4
  exact .cons _ _ _ _ q0 (.cons _ _ _ _ q2 (.cons _ _ _ _ q4 .nil))
theorem turn_zero (a0 a1 c0 c1 : Int) (h0 : I64 a0) (h1 : I64 a1) (h4 : I64 c0) (h5 : I64 c1) : PureRet Tryz.prog 98 #[ptV a0 a1, ptV a0 a1, ptV c0 c1] (.int .i64 0) := by
  obtain ⟨ρ, hs, hρ⟩ := signed_there fun i _ => if i = 0 then a0 else if i = 1 then a1 else if i = 4 then c0 else c1
  have e0 : ρ 0 [] = a0 := hρ 0 [] (by decide)
  have e1 : ρ 1 [] = a1 := hρ 1 [] (by decide)
  have e4 : ρ 4 [] = c0 := hρ 4 [] (by decide)
  have e5 : ρ 5 [] = c1 := hρ 5 [] (by decide)
  refine check_sound (ρ := ρ) (run := fun F => valT (runG ovS F 98 [fP 0, fP 0, fP 4]) tNull) ?_ .leaf [] turn0_check (hold_nil _)
  intro F hrun hF
  obtain ⟨v, m, hr, ht⟩ := valT_some hrun
  cases tNull_inv ht
  refine pure_ret (runG_ok (ρ := ρ) hF (ovS_ok hs)) hr (fun φ => ?_) (fun φ K z hz => by cases hz; simp only [N.val]; rfl)
  have q0 := fP_rel (tc := tcF F) (ρ := ρ) (φ := φ) (K := fun _ => False) 0 (e0 ▸ h0) (e1 ▸ h1)
  have q4 := fP_rel (tc := tcF F) (ρ := ρ) (φ := φ) (K := fun _ => False) 4 (e4 ▸ h4) (e5 ▸ h5)
  rw [e0, e1] at q0
  rw [e4, e5] at q4
  exact .cons _ _ _ _ q0 (.cons _ _ _ _ q0 (.cons _ _ _ _ q4 .nil))
/-- What the uninterpreted numbers stand for: turn's. -/
def TurnOk (ρ : Nat → List Int → Int) : Prop := ∀ a0 a1 b0 b1 c0 c1, I64 a0 → I64 a1 → I64 b0 → I64 b1 → I64 c0 → I64 c1 → PureRet Tryz.prog 98 #[ptV a0 a1, ptV b0 b1, ptV c0 c1] (.int .i64 (clamp mn mx (ρ 208 [a0, a1, b0, b1, c0, c1])))
theorem turn_there (ρ0 : Nat → List Int → Int) : ∃ ρ : Nat → List Int → Int, TurnOk ρ ∧ ∀ i l, i < 200 → ρ i l = ρ0 i l := by
  have key : ∀ l : List Int, ∃ r : Int, ∀ a0 a1 b0 b1 c0 c1, l = [a0, a1, b0, b1, c0, c1] → I64 a0 → I64 a1 → I64 b0 → I64 b1 → I64 c0 → I64 c1 → I64 r ∧ PureRet Tryz.prog 98 #[ptV a0 a1, ptV b0 b1, ptV c0 c1] (.int .i64 r) := by
    intro l
    by_cases h : ∃ a0 a1 b0 b1 c0 c1, l = [a0, a1, b0, b1, c0, c1] ∧ I64 a0 ∧ I64 a1 ∧ I64 b0 ∧ I64 b1 ∧ I64 c0 ∧ I64 c1
    · obtain ⟨a0, a1, b0, b1, c0, c1, rfl, h0, h1, h2, h3, h4, h5⟩ := h
      obtain ⟨r, q⟩ := turn_ret a0 a1 b0 b1 c0 c1 h0 h1 h2 h3 h4 h5
      exact ⟨r, fun _ _ _ _ _ _ e _ _ _ _ _ _ => by cases e; exact q⟩
    · exact ⟨0, fun a0 a1 b0 b1 c0 c1 e h0 h1 h2 h3 h4 h5 => absurd ⟨a0, a1, b0, b1, c0, c1, e, h0, h1, h2, h3, h4, h5⟩ h⟩
  obtain ⟨f, hf⟩ := Classical.axiomOfChoice key
  refine ⟨fun i l => if i = 208 then f l else ρ0 i l, ?_, fun i l hi => if_neg (by omega)⟩
  intro a0 a1 b0 b1 c0 c1 h0 h1 h2 h3 h4 h5
  obtain ⟨q1, q2⟩ := hf [a0, a1, b0, b1, c0, c1] a0 a1 b0 b1 c0 c1 rfl h0 h1 h2 h3 h4 h5
  have e : clamp mn mx (f [a0, a1, b0, b1, c0, c1]) = f [a0, a1, b0, b1, c0, c1] := clamp_id q1.1 q1.2
  simp only [if_true, e]
  exact q2
end Go.Proofs.YtohmaikcmaapjaaGreat.LI
