/- One operation of a region, in its turn. -/
import Derived.Test.YtohmaikcmaapjaaGreatLReg2
namespace Go.Proofs.YtohmaikcmaapjaaGreat.LI
/-- One operation of a region, in its turn. -/
def wpOpL (F : Fence) (n : Nat) (P : Program) (ops : Array Oper) (Q : Exit → Act → World → Prop) (i : Nat) (X : Act → World → Prop) (a : Act) (w : World) : Prop :=
  match ops[i]? with
  | none => X a w
  | some o => if Region.wanted o (yielded ops a.tmps) then o.wpIn F n P a w X Q else X (a.put o.dst undef) w
theorem wpOpL.into {F : Fence} (hF : Wide F) {n : Nat} {P : Program} {ops : Array Oper} {Q : Exit → Act → World → Prop} {i : Nat} {X : Act → World → Prop} {a : Act} {w : World} (h : wpOpL F n P ops Q i X a w) : wpOpIn F n P ops Q i X a w := by
  unfold wpOpL at h
  unfold wpOpIn
  split at h
  · rename_i ho; simp only [ho]; exact h
  · rename_i o ho
    simp only [ho]
    split at h
    · rename_i hw; rw [if_pos hw]; exact h
    · rename_i hw; rw [if_neg hw]; exact ⟨fun f _ => hF.fn f, h⟩
end Go.Proofs.YtohmaikcmaapjaaGreat.LI
