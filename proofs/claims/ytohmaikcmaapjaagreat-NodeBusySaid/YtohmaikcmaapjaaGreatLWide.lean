/- From a plain walk's operation to one in a round's frame. -/
import Derived.Test.YtohmaikcmaapjaaGreatLStep
import Derived.OrdersIn
import Derived.RangeFuncCalls
import Derived.RangeFuncFrom
namespace Go.Proofs.YtohmaikcmaapjaaGreat.LI
/-- The wide fence, plain or in a round. -/
def Wide (F : Fence) : Prop := ∃ r, F = { Fence.wide with round := r }
theorem Wide.fn {F : Fence} (h : Wide F) (f : Nat) : F.fn f := by obtain ⟨r, rfl⟩ := h; trivial
theorem Wide.depth {F : Fence} (h : Wide F) : F.depth = none := by obtain ⟨r, rfl⟩ := h; rfl
theorem Wide.calls {F : Fence} (h : Wide F) {n : Nat} {P : Program} {f : FuncId} {args : Array Value} {w : World} {R : Ending → World → Prop} (hc : Calls P f args w R) : CallsIn F n P f args w R := by
  obtain ⟨r, rfl⟩ := h
  have := callsIn_wide (n := n).2 hc
  cases r with
  | none => exact this
  | some l => exact CallsIn.inRound l this
theorem Wide.rows {F : Fence} (h : Wide F) {n : Nat} {P : Program} {row : String} {args : Array Value} {w : World} {R : Value → World → Prop} (hc : Rows P row args w R) : RowsIn F n P row args w R := by
  obtain ⟨r, rfl⟩ := h
  intro c cs _
  obtain ⟨v, w', q, s⟩ := hc c cs
  exact ⟨v, w', q, stepsIn_wide.2 s⟩
theorem wpIn_of_wp {F : Fence} (hF : Wide F) {n : Nat} {P : Program} {o : Oper} (ho : ∀ c, o.op ≠ .defer c) {a : Act} {w : World} {X : Act → World → Prop} {Q : Exit → Act → World → Prop} (h : o.wp P a w X Q) : o.wpIn F n P a w X Q := by
  unfold Oper.wp at h
  refine ⟨fun f _ => hF.fn f, ?_⟩
  rw [Oper.semAt_eq _ _ _ ho]
  generalize hr : (execOp a.eval o).run P w = r at *
  cases r with
  | ok x w' =>
    cases x <;> simp only [Oper.upon, Oper.uponIn] at h ⊢
    case enter f args => exact ⟨fun hd => (by rw [hF.depth] at hd; cases hd), hF.calls h⟩
    case row row args => exact ⟨fun hd => (by rw [hF.depth] at hd; cases hd), hF.rows h⟩
    all_goals exact h
  | halt x w' => cases x <;> simp only [Oper.upon, Oper.uponIn] at h ⊢ <;> exact h
end Go.Proofs.YtohmaikcmaapjaaGreat.LI
