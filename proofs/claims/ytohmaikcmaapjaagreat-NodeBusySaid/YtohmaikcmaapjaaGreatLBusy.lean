/- What furlonglaw21's awake answers, by a run of the interpreter. -/
import Derived.Test.YtohmaikcmaapjaaGreatLGeo5
namespace Go.Proofs.YtohmaikcmaapjaaGreat.LI
open Go.Proofs
set_option maxRecDepth 100000
noncomputable section
def ovTab (D : Dom N (List N)) : Tr (OvF N (List N)) := Tr.set (Tr.set (Tr.set (Tr.set (Tr.set .leaf 102 o102) 268 o268) 103 (o103 D)) 190 o190) 34 (o34 D)
def tTrue : LV N (List N) → Bool
  | .bool b => b
  | _ => false
def runA : Bool := valT (callK (symDom []) (lfFn (symDom [])) (ovOf (ovTab (symDom []))) 10000 60 (.fn 4) [] ⟨.leaf, 0⟩) tTrue
theorem awake_run : runA = true := by decide +kernel
theorem ovTab_ok {tc : Nat → Code → LCode N (List N) → Prop} {ρ : Nat → List Int → Int} {F : Facts} (hF : Hold ρ F) : ∀ f o, (ovTab (symDom F)).get f = some o → OvFOk Tryz.prog (N.val ρ crcFn) (sg ρ tc) f o := by
  intro f o h
  unfold ovTab at h
  rw [Tr.get_set] at h
  split at h
  · rename_i he; cases h; subst he; exact o34_ok hF
  rw [Tr.get_set] at h
  split at h
  · rename_i he; cases h; subst he; exact o190_ok
  rw [Tr.get_set] at h
  split at h
  · rename_i he; cases h; subst he; exact o103_ok (symDom_ok crcFn_range hF)
  rw [Tr.get_set] at h
  split at h
  · rename_i he; cases h; subst he; exact o268_ok
  rw [Tr.get_set] at h
  split at h
  · rename_i he; cases h; subst he; exact o102_ok
  · rw [Tr.get_leaf] at h; cases h
theorem run_ok {ρ : Nat → List Int → Int} {F : Facts} (hF : Hold ρ F) {ov : Tr (OvF N (List N))} (hov : ∀ f o, ov.get f = some o → OvFOk Tryz.prog (N.val ρ crcFn) (sg ρ (tcF F)) f o) (fuel n : Nat) :
    CallOk Tryz.prog (N.val ρ crcFn) (sg ρ (tcF F)) (callK (symDom F) (lfFn (symDom F)) (ovOf ov) fuel n) := by
  rw [callK_eq]
  exact callN_ok mixedTryz (symDom_ok crcFn_range hF) (tyFn_ok (symDom_ok crcFn_range hF)) tcOf_ok (lfFn_ok (symDom F)) (ovOf_ok hov) fuel n
theorem tTrue_inv {v : LV N (List N)} (h : tTrue v = true) : v = .bool true := by
  unfold tTrue at h
  split at h
  · subst h; rfl
  · cases h
/-- What awake answers. -/
theorem awake_ret : PureRet Tryz.prog 4 #[] (.bool true) := by
  have hF := hold_nil (fun _ _ => 0)
  obtain ⟨v, m, hr, ht⟩ := valT_some awake_run
  cases tTrue_inv ht
  exact pure_ret (run_ok (ρ := fun _ _ => 0) hF (ovTab_ok hF) 10000 60) hr (fun φ => .nil) (fun φ K x hx => by cases hx; rfl)
def o4 : OvF N (List N) := fun args h => match args with
  | [] => some (.bool true, h)
  | _ => none
theorem o4_ok {γ : N → Int} {σ : Sg N (List N)} : OvFOk Tryz.prog γ σ 4 o4 := by
  intro args h v h' ho
  unfold o4 at ho
  split at ho
  · cases ho
    refine PureRet.does fun φ args' ha => ?_
    have : args' = #[] := by
      cases args' with
      | mk l => cases ha; rfl
    subst this
    exact ⟨_, awake_ret, .bool true⟩
  · cases ho
def ovTab2 (D : Dom N (List N)) : Tr (OvF N (List N)) := Tr.set (ovTab D) 4 o4
theorem ovTab2_ok {tc : Nat → Code → LCode N (List N) → Prop} {ρ : Nat → List Int → Int} {F : Facts} (hF : Hold ρ F) : ∀ f o, (ovTab2 (symDom F)).get f = some o → OvFOk Tryz.prog (N.val ρ crcFn) (sg ρ tc) f o := by
  intro f o h
  unfold ovTab2 at h
  rw [Tr.get_set] at h
  split at h
  · rename_i he; cases h; subst he; exact o4_ok
  · exact ovTab_ok hF f o h
abbrev yN : N := .b .and .i64 (fv 0) (.c (.ofNat 1023)) (.ofNat 0) (.ofNat 1023)
/-- NodeBusy's run, what is known of its numbers being given. -/
def runB (c : Bool) (F : Facts) : Bool := valT (callK (symDom F) (lfFn (symDom F)) (ovOf (ovTab2 (symDom F))) 10000 60 (.fn 3) [fI 0, .bool c, .agg [fI 1, fI 2, fI 3, fI 4]] ⟨.leaf, 0⟩) tTrue
theorem check_node {run : Facts → Bool} {x y : N} {l r : Tree} {F : Facts} (h1 : check run l ((x, y, true) :: F) = true) (h2 : check run r ((x, y, false) :: F) = true) : check run (.node x y l r) F = true := by
  show cK (check run l ((x, y, true) :: F)) (check run r ((x, y, false) :: F)) false = true
  rw [h1]; exact h2
end
end Go.Proofs.YtohmaikcmaapjaaGreat.LI
