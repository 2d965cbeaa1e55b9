/- Every operation: what the interpreter says of it, the machine does. -/
import Derived.Test.YtohmaikcmaapjaaGreatLEff3
namespace Go.Proofs.YtohmaikcmaapjaaGreat.LI
variable {I S : Type}
section
variable {P : Program} {γ : I → Int} {σ : Sg I S} {D : Dom I S} {ty : Nat → Option (TyI I S)} {φ : Phi} {K : Nat → Prop} {w : World} {h : H I S}

set_option maxHeartbeats 1000000 in
theorem eSound (hD : D.Ok γ σ) (hty : Tys P γ σ ty) (hr : Rel γ σ φ h w) {o : Oper} {x : EOp I S} (ht : trOp D ty o = some (.e x)) {e : EnvF I S} {a : Act} (he : ERelE γ σ φ h.ids e a.tmps) {r : LV I S × H I S} (hv : evalE D e h x = some r) :
    EDone P γ σ φ h w (execOp a.eval o) r.1 r.2 := by
  obtain ⟨dst, op, type, pos, after, guard⟩ := o
  cases op
  case store t p q =>
    simp only [trOp, Option.bind_eq_some_iff, Option.some.injEq, LOp.e.injEq] at ht
    obtain ⟨i, hi, p', h1, q', h2, rfl⟩ := ht
    simp only [evalE] at hv
    rw [Option.bind_eq_some_iff] at hv
    obtain ⟨av, h3, hv⟩ := hv
    rw [Option.bind_eq_some_iff] at hv
    obtain ⟨xv, h4, hv⟩ := hv
    exact eStore hr (hty _ _ hi) (trA_sound hD h1 he h3) (trA_sound hD h2 he h4) hv
  case mapUpdate t m k v =>
    simp only [trOp, Option.bind_eq_some_iff] at ht
    obtain ⟨m', h1, k', h2, v', h3, ht⟩ := ht
    split at ht
    · rename_i kt el hk
      obtain ⟨d, hd, hkd⟩ := kindAt_ok hty hk (by simp)
      cases hkd
      simp only [Option.bind_eq_some_iff, Option.some.injEq, LOp.e.injEq] at ht
      obtain ⟨km, hkm, rfl⟩ := ht
      simp only [evalE] at hv
      rw [Option.bind_eq_some_iff] at hv
      obtain ⟨mv, h4, hv⟩ := hv
      rw [Option.bind_eq_some_iff] at hv
      obtain ⟨kv, h5, hv⟩ := hv
      rw [Option.bind_eq_some_iff] at hv
      obtain ⟨vv, h6, hv⟩ := hv
      exact eMapset hD hr hd (keyOf_ok hty hkm) (trA_sound hD h1 he h4) (trA_sound hD h2 he h5) (trA_sound hD h3 he h6) hv
    · cases ht
  case range t y =>
    simp only [trOp, Option.bind_eq_some_iff] at ht
    obtain ⟨m', h1, ht⟩ := ht
    split at ht
    · rename_i kt el hk
      obtain ⟨d, hd, hkd⟩ := kindAt_ok hty hk (by simp)
      cases hkd
      cases ht
      simp only [evalE] at hv
      rw [Option.bind_eq_some_iff] at hv
      obtain ⟨mv, h4, hv⟩ := hv
      exact eRange hr (trA_sound hD h1 he h4) hd hv
    · cases ht
  case next y s =>
    cases s <;> simp only [trOp, reduceCtorEq, Option.bind_eq_some_iff, Option.some.injEq, LOp.e.injEq] at ht
    obtain ⟨m', h1, rfl⟩ := ht
    simp only [evalE] at hv
    rw [Option.bind_eq_some_iff] at hv
    obtain ⟨mv, h4, hv⟩ := hv
    exact eNext hr (trA_sound hD h1 he h4) type hv
  case convert s d y =>
    simp only [trOp, Option.bind_eq_some_iff] at ht
    obtain ⟨z, h1, ht⟩ := ht
    split at ht
    · cases ht
    · revert ht; cases u8 ty _ <;> simp
    · revert ht; cases u8 ty _ <;> simp
    · rename_i el el2 hk hk'
      cases hc : (u8 ty el && Nat.beq s d)
      · simp [hc] at ht
      · simp only [hc, cond_true, Option.some.injEq, LOp.e.injEq] at ht
        subst ht
        simp only [Bool.and_eq_true] at hc
        cases Nat.eq_of_beq_eq_true hc.2
        obtain ⟨dd, hd, hkd⟩ := kindAt_ok hty hk (by simp)
        cases hkd
        simp only [evalE] at hv
        rw [Option.bind_eq_some_iff] at hv
        obtain ⟨mv, h4, hv⟩ := hv
        exact eMark hr (trA_sound hD h1 he h4) hd (u8_ok hty hc.1) hv
    · cases ht
  case call c =>
    simp only [trOp, Option.bind_eq_some_iff] at ht
    obtain ⟨args, h1, ht⟩ := ht
    cases hc : c.callee <;> simp only [hc, reduceCtorEq, Option.bind_eq_some_iff, Option.some.injEq, and_false, exists_false] at ht
    rename_i b
    have := eBuiltin (vs' := c.args.map a.eval) hD hty hr ht hv (fun vs hvs => by simpa using trAs_sound hD he h1 hvs) type (c.args.map fun | .const _ => true | _ => false)
    refine this.congr ?_
    simp only [execOp, resolve, hc, Sem.run_bind, Sem.run_pure, Result.andThen_ok, invoke]
    rfl
  case build t parts =>
    simp only [trOp, Option.bind_eq_some_iff] at ht
    obtain ⟨i, hi, ht⟩ := ht
    split at ht <;> simp only [Option.bind_eq_some_iff, reduceCtorEq, Option.some.injEq, and_false, exists_false] at ht
  case buildSlice t m parts =>
    simp only [trOp] at ht
    split at ht <;> simp only [Option.bind_eq_some_iff, reduceCtorEq, Option.some.injEq, and_false, exists_false] at ht
  case binOp op t p q yt =>
    simp only [trOp, Option.bind_eq_some_iff] at ht
    obtain ⟨p', h1, q', h2, ht⟩ := ht
    split at ht
    · simp only [Option.bind_eq_some_iff] at ht
      obtain ⟨i, hi, ht⟩ := ht
      split at ht
      · cases ht
      · cases ht
      · cases ht
      · revert ht; cases i.flat <;> simp
      · simp only [Option.bind_eq_some_iff] at ht
        obtain ⟨j, hj, ht⟩ := ht
        revert ht; cases Nat.beq j.size 0 <;> simp
      all_goals cases ht
    · simp only [Option.bind_eq_some_iff] at ht
      obtain ⟨i, hi, ht⟩ := ht
      split at ht
      · cases ht
      · cases ht
      · cases ht
      · revert ht; cases i.flat <;> simp
      · simp only [Option.bind_eq_some_iff] at ht
        obtain ⟨j, hj, ht⟩ := ht
        revert ht; cases Nat.beq j.size 0 <;> simp
      all_goals cases ht
    · cases ht
  case makeFunc f l c => cases f <;> simp only [trOp, reduceCtorEq, Option.bind_eq_some_iff, Option.some.injEq, and_false, exists_false] at ht
  case makeMap t r => cases r <;> simp only [trOp, reduceCtorEq, Option.some.injEq] at ht
  case makeSlice t l c =>
    simp only [trOp] at ht
    split at ht <;> simp only [Option.bind_eq_some_iff, reduceCtorEq, Option.some.injEq, and_false, exists_false] at ht
  case slice t y lo hi mx =>
    simp only [trOp, Option.bind_eq_some_iff] at ht
    obtain ⟨y', h1, lo', h2, hi', h3, mx', h4, ht⟩ := ht
    split at ht
    · split at ht <;> cases ht
    · simp only [Option.bind_eq_some_iff, reduceCtorEq, Option.some.injEq, and_false, exists_false] at ht
    · cases ht
  case fieldAddr t y f =>
    simp only [trOp, Option.bind_eq_some_iff] at ht
    obtain ⟨y', h1, ht⟩ := ht
    split at ht
    · simp only [Option.bind_eq_some_iff] at ht
      obtain ⟨fd, h2, i, hi, ht⟩ := ht
      revert ht; cases Nat.beq i.size 0 <;> simp
    · cases ht
  case field t y f =>
    simp only [trOp, Option.bind_eq_some_iff] at ht
    obtain ⟨y', h1, ht⟩ := ht
    split at ht <;> simp only [Option.bind_eq_some_iff, reduceCtorEq, Option.some.injEq, and_false, exists_false] at ht
  case indexAddr t y i =>
    simp only [trOp, Option.bind_eq_some_iff] at ht
    obtain ⟨y', h1, i', h2, ht⟩ := ht
    split at ht <;> simp only [Option.bind_eq_some_iff, reduceCtorEq, Option.some.injEq, and_false, exists_false] at ht
  case index t y i =>
    simp only [trOp, Option.bind_eq_some_iff] at ht
    obtain ⟨y', h1, i', h2, ht⟩ := ht
    split at ht <;> simp only [Option.bind_eq_some_iff, reduceCtorEq, Option.some.injEq, and_false, exists_false] at ht
  case lookup t m k ok =>
    simp only [trOp, Option.bind_eq_some_iff] at ht
    obtain ⟨m', h1, k', h2, ht⟩ := ht
    split at ht <;> simp only [Option.bind_eq_some_iff, reduceCtorEq, Option.some.injEq, and_false, exists_false] at ht
  all_goals simp only [trOp, Option.bind_eq_some_iff, reduceCtorEq, Option.some.injEq, and_false, exists_false] at ht

end
end Go.Proofs.YtohmaikcmaapjaaGreat.LI
