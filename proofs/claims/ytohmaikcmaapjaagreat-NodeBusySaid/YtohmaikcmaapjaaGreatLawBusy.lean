/- Proved: a node that has something prepared tells so and no features, and tells all when it is decided (furlonglaw21.NodeBusy), at every id, decision and box; no conditions. -/
import Derived.Test.YtohmaikcmaapjaaGreatRows
import Derived.Test.YtohmaikcmaapjaaGreatLCases
import Derived.Test.YtohmaikcmaapjaaGreatLFacts0
import Derived.Test.YtohmaikcmaapjaaGreatLFacts1
import Derived.Test.YtohmaikcmaapjaaGreatLFacts2
import Derived.WalkKit
import Derived.ProofKit
import Derived.OpenShut
import Derived.ChangeOld
import Derived.Below
import Derived.SizedLaws
import Derived.Lib.SmallJoins
namespace Go.Proofs.YtohmaikcmaapjaaGreat.nodeBusy
open Go.ChangeShapes Go.WideShapes Go.ChangeAt Go.RowKit Go.Joins
open Go.Proofs.YtohmaikcmaapjaaGreat.LI
set_option linter.unusedVariables false
theorem own : ownKnob Tryz.prog.godebug = none := by kernel_rfl
theorem cells23 : Tryz.prog.cellsOf 23 = 4 := by kernel_rfl
/-- NodeBusy's answer at every input. -/
theorem busy_ret (a : Int) (c : Bool) (x0 y0 x1 y1 : Int) (ha : I64 a) (h0 : I64 x0) (h1 : I64 y0) (h2 : I64 x1) (h3 : I64 y1) :
    PureRet Tryz.prog 3 #[.int .i64 a, .bool c, .agg #[.int .i64 x0, .int .i64 y0, .int .i64 x1, .int .i64 y1]] (.bool true) := by
  obtain ⟨ρ, e0, e1, e2, e3, e4⟩ : ∃ ρ : Nat → List Int → Int, ρ 0 [] = a ∧ ρ 1 [] = x0 ∧ ρ 2 [] = y0 ∧ ρ 3 [] = x1 ∧ ρ 4 [] = y1 :=
    ⟨fun i _ => if i = 0 then a else if i = 1 then x0 else if i = 2 then y0 else if i = 3 then x1 else y1, rfl, rfl, rfl, rfl, rfl⟩
  have main : ∀ t, check (runB c) t [] = true → PureRet Tryz.prog 3 #[.int .i64 a, .bool c, .agg #[.int .i64 x0, .int .i64 y0, .int .i64 x1, .int .i64 y1]] (.bool true) := by
    intro t ht
    refine check_sound (ρ := ρ) (run := runB c) ?_ t [] ht (hold_nil _)
    intro F hrun hF
    obtain ⟨v, m, hr, ht⟩ := valT_some hrun
    cases tTrue_inv ht
    refine pure_ret (run_ok (ρ := ρ) hF (ovTab2_ok hF) 10000 60) hr (fun φ => ?_) (fun φ K x hx => by cases hx; rfl)
    have q0 := VRel.int (γ := N.val ρ crcFn) (σ := sg ρ (tcF F)) (φ := φ) (K := fun _ => False) .i64 (fv 0)
    have q1 := VRel.int (γ := N.val ρ crcFn) (σ := sg ρ (tcF F)) (φ := φ) (K := fun _ => False) .i64 (fv 1)
    have q2 := VRel.int (γ := N.val ρ crcFn) (σ := sg ρ (tcF F)) (φ := φ) (K := fun _ => False) .i64 (fv 2)
    have q3 := VRel.int (γ := N.val ρ crcFn) (σ := sg ρ (tcF F)) (φ := φ) (K := fun _ => False) .i64 (fv 3)
    have q4 := VRel.int (γ := N.val ρ crcFn) (σ := sg ρ (tcF F)) (φ := φ) (K := fun _ => False) .i64 (fv 4)
    rw [fv_val (e0 ▸ ha), e0] at q0
    rw [fv_val (e1 ▸ h0), e1] at q1
    rw [fv_val (e2 ▸ h1), e2] at q2
    rw [fv_val (e3 ▸ h2), e3] at q3
    rw [fv_val (e4 ▸ h3), e4] at q4
    exact .cons _ _ _ _ q0 (.cons _ _ _ _ (.bool c) (.cons _ _ _ _ (.agg _ _ (.cons _ _ _ _ q1 (.cons _ _ _ _ q2 (.cons _ _ _ _ q3 (.cons _ _ _ _ q4 .nil))))) .nil))
  cases c
  · exact main treeF checkF
  · exact main treeT checkT
theorem busy_calls (a : Int) (c : Bool) (x0 y0 x1 y1 : Int) (ha : I64 a) (h0 : I64 x0) (h1 : I64 y0) (h2 : I64 x1) (h3 : I64 y1) (W : World) :
    Calls Tryz.prog 3 #[.int .i64 a, .bool c, .agg #[.int .i64 x0, .int .i64 y0, .int .i64 x1, .int .i64 y1]] W fun e W' => e = .returned (.bool true) ∧ Below W.heap.size W W' := by
  obtain ⟨nx, w1, hrun, hres⟩ := busy_ret a c x0 y0 x1 y1 ha h0 h1 h2 h3 W
  rw [Tryz.call3] at hrun
  simp only [Result.ok.injEq] at hrun
  obtain ⟨rfl, rfl⟩ := hrun
  rcases hres with ⟨h, _⟩ | ⟨g, xs, h, hc⟩
  · cases h
  · cases h
    exact hc.mono fun e w' ⟨he, k⟩ => ⟨he, ⟨k.os, k.tape, k.output, k.size, fun r hr => k.block r hr⟩⟩
theorem wf_I64 {a : Int} (h : (Lit.int .i64 a).wf = true) : I64 a := by
  simp only [Lit.wf, IntKind.min, IntKind.max, IntKind.signed, IntKind.bits, Bool.and_eq_true, decide_eq_true_eq] at h
  simp at h
  exact ⟨h.1, h.2⟩
set_option maxRecDepth 100000 in
theorem lifted (os : Os) (started : os.Started) (H : Type) (enc : TypeId × Value → H) :
    ReturnsInHanded {} Tryz.checked os 3 .any (Rows.nodeBusySpec.pre6 enc Tryz.prog Tryz.f3 Rows.nodeBusyRow.domain false) (Rows.nodeBusySpec.post enc Tryz.prog Tryz.f3 false true false false) := by
  refine returnsInHanded_of_change_sized (C := Tryz.checked) own started (by kernel_rfl) Tryz.func3
    (ChangeSpec.witness6 (enc := enc) (C := Tryz.checked) false ⟨#[], #[.int .i64 0, .bool false, .agg #[.int .i64 0, .int .i64 0, .int .i64 0, .int .i64 0]], []⟩ 8 (by kernel_rfl) (by kernel_rfl) (by kernel_rfl) (by kernel_rfl)) ?_
  intro W base args ds gs before hval0 hW hcnd hsz0 _
  have hval : ∀ (j : Nat) t v, Tryz.f3.params[j]? = some t → args[j]? = some v → Value.okWide Tryz.prog W .any base t v := hval0
  have hW' := hW
  obtain ⟨p, q, hA0, hV, rfl, hfz, hnd⟩ := hW
  have hA : DataW.TrodAll enc Tryz.prog W 0 (fun _ => true) true Tryz.f3.params.toList args.toList ds p := hA0
  rw [Tryz.params3] at hA hval
  obtain ⟨v0, vs0, d0, ds0, p0, q0, hargs, rfl, rfl, h0, r0⟩ := trodAll_cons hA
  obtain ⟨v1, vs1, d1, ds1, p1, q1, rfl, rfl, rfl, h1, r1⟩ := trodAll_cons r0
  obtain ⟨v2, vs2, d2, ds2, p2, q2, rfl, rfl, rfl, h2, r2⟩ := trodAll_cons r1
  obtain ⟨rfl, rfl, rfl⟩ := trodAll_nil r2
  obtain rfl : args = #[v0, v1, v2] := by cases args; simp_all
  obtain ⟨rfl, rfl⟩ := trodVars_none hV
  obtain ⟨a, rfl, rfl, rfl, wa⟩ := open_int Tryz.underlying3 (hval 0 3 v0 rfl rfl) h0
  obtain ⟨c, rfl, rfl, rfl⟩ := open_bool Tryz.underlying4 (hval 1 4 v1 rfl rfl) h1
  obtain ⟨c0, c1, c2, c3, y0, y1, y2, y3, m, rfl, rfl, rfl, hy0, hy1, hy2, hy3⟩ := open_agg4 Tryz.underlying23 (by kernel_rfl) cells23 (hval 2 23 v2 rfl rfl) h2
  obtain ⟨b0, e0, rfl, w0⟩ := DataW.trod_int Tryz.underlying3 hy0
  obtain ⟨b1, e1, rfl, w1⟩ := DataW.trod_int Tryz.underlying3 hy1
  obtain ⟨b2, e2, rfl, w2⟩ := DataW.trod_int Tryz.underlying3 hy2
  obtain ⟨b3, e3, rfl, w3⟩ := DataW.trod_int Tryz.underlying3 hy3
  simp at e0 e1 e2 e3
  subst e0 e1 e2 e3
  clear hA0 hval0 hsz0
  have boxReads : ∀ (W' : World) (sp : Nat → Bool), DataW.Trod enc Tryz.prog W' 0 sp true 23 (.agg #[.int .i64 b0, .int .i64 b1, .int .i64 b2, .int .i64 b3]) (.agg [.lit (.int .i64 b0), .lit (.int .i64 b1), .lit (.int .i64 b2), .lit (.int .i64 b3)]) [] := fun W' sp =>
    shut_agg4 (y0 := (.lit (.int .i64 b0), [])) (y1 := (.lit (.int .i64 b1), [])) (y2 := (.lit (.int .i64 b2), [])) (y3 := (.lit (.int .i64 b3), [])) Tryz.underlying23 (by kernel_rfl) cells23
      ⟨1, by simp [DataW.trod, Tryz.underlying3, w0]⟩ ⟨1, by simp [DataW.trod, Tryz.underlying3, w1]⟩ ⟨1, by simp [DataW.trod, Tryz.underlying3, w2]⟩ ⟨1, by simp [DataW.trod, Tryz.underlying3, w3]⟩
  refine (busy_calls a c b0 b1 b2 b3 (wf_I64 wa) (wf_I64 w0) (wf_I64 w1) (wf_I64 w2) (wf_I64 w3) W).mono fun e W' ⟨he, bel⟩ => ?_
  subst he
  exact ⟨_, rfl, _, _, _, [], _, [], hW', trodAll_mk1 (shut_bool Tryz.underlying4 _), (trodAll_cons_mk (shut_int Tryz.underlying3 wa) (trodAll_cons_mk (shut_bool Tryz.underlying4 c) (trodAll_cons_mk (boxReads _ _) trodAll_mk0))), rfl, bel.frame _, fun h => by cases h⟩
theorem andT {a b : Bool} (h : a = true) (k : b = true) : (a && b) = true := by rw [h, k]; rfl
theorem fn_named : Tryz.pinned.checked.prog.funcNamed Rows.nodeBusyRow.func = some 3 := by kernel_rfl
theorem facts : joinedFacts Tryz.pinned.checked.prog 3 Tryz.f3 Rows.nodeBusySpec Rows.nodeBusyRow = true := by
  unfold joinedFacts
  exact (andT (andT (andT (andT (andT (andT (andT (andT (andT (andT (andT (andT (andT (andT (andT (andT (andT (andT (andT (andT (andT (andT (andT (andT (andT (andT (andT (andT (andT (andT (andT (by kernel_rfl) fact_laidOut) fact_mapsRowed) (by kernel_rfl)) (by kernel_rfl)) (by kernel_rfl)) (by kernel_rfl)) (by kernel_rfl)) (by kernel_rfl)) fact_inPlace) fact_unf) fact_recu) fact_named) (by kernel_rfl)) (by kernel_rfl)) (by kernel_rfl)) (by kernel_rfl)) (by kernel_rfl)) (by kernel_rfl)) (by kernel_rfl)) (by kernel_rfl)) (by kernel_rfl)) (by kernel_rfl)) (by kernel_rfl)) (by kernel_rfl)) (by kernel_rfl)) (by kernel_rfl)) (by kernel_rfl)) (by kernel_rfl)) (by kernel_rfl)) (by kernel_rfl)) (by kernel_rfl))
theorem wrapped : Tryz.f3.isWrapper Tryz.pinned.checked.prog Rows.nodeBusyRow.wrapper Rows.nodeBusyRow.mainSum := by
  unfold Func.isWrapper; first | (rw [if_pos (by decide +kernel)]; kernel_rfl) | (rw [if_neg (by decide +kernel)]; exact ⟨rfl, rfl⟩)
theorem over : Rows.nodeBusyRow.holds Tryz.pinned (OpenSpec.ofChange Rows.nodeBusySpec) :=
  OpenClaim.holds_of_wide 3 Tryz.f3 rfl rfl rfl rfl rfl rfl rfl ⟨rfl, rfl, rfl, rfl, rfl⟩ rfl rfl rfl rfl rfl fn_named Tryz.func3 facts
    (of_decide_eq_true (by kernel_rfl)) wrapped
    (fun os started H enc _ => lifted os started H enc)
theorem proved : Rows.NodeBusySaid := over
#print axioms proved
end Go.Proofs.YtohmaikcmaapjaaGreat.nodeBusy
namespace Go.Proofs.YtohmaikcmaapjaaGreat
/-- The row, under a short name, for the claim. -/
theorem nodeBusy_holds : Rows.NodeBusySaid := nodeBusy.proved
end Go.Proofs.YtohmaikcmaapjaaGreat
