/- One operation under a continuation; a region in the text's order. -/
import Derived.Test.YtohmaikcmaapjaaGreatLReg1
namespace Go.Proofs.YtohmaikcmaapjaaGreat.LI
variable {I S : Type}
section
variable {P : Program} {γ : I → Int} {σ : Sg I S} {D : Dom I S} {ty : Nat → Option (TyI I S)} {φ φ' : Phi} {K K' : Nat → Prop} {w w' : World} {g : Mem I S} {cf : CallF I S}

theorem trOper_eq {ops : Array Oper} {o : Oper} {lo : LOper I S} (h : trOper D ty ops o = some lo) :
    trOp D ty o = some lo.op ∧ lo.dst = o.dst ∧ lo.guard = o.guard.map fun g => ((ops[g.1]?).bind (·.dst), g.2) := by
  simp only [trOper, Option.bind_eq_some_iff, Option.some.injEq] at h
  obtain ⟨x, h1, rfl⟩ := h
  exact ⟨h1, rfl, rfl⟩

theorem wanted_sound {ops : Array Oper} {o : Oper} {lo : LOper I S} (h : trOper D ty ops o = some lo) {e : EnvF I S} {a : Act} (he : ERelE γ σ φ K e a.tmps) {b : Bool} (hb : wanted e lo.guard = some b) :
    Region.wanted o (yielded ops a.tmps) = b := by
  rw [(trOper_eq h).2.2] at hb
  unfold Region.wanted
  cases hg : o.guard with
  | none => simp [hg, wanted] at hb; simpa using hb
  | some p =>
    obtain ⟨j, want⟩ := p
    simp only [hg, Option.map_some] at hb
    simp only [yielded]
    cases hd : (ops[j]?).bind (·.dst) with
    | none => simp only [hd, wanted, Option.some.injEq] at hb; simp [← hb]
    | some t =>
      simp only [hd, wanted] at hb
      simp only [Option.bind_some]
      split at hb
      · rename_i c hc
        have := he t _ hc
        simp only [Option.some.injEq] at hb
        generalize hx : a.tmps.getD t undef = x at this
        cases this
        have hx' : a.tmps[t]? = some (.bool c) := by
          rw [Array.getD_eq_getD_getElem?] at hx
          cases h1 : a.tmps[t]? with
          | none => simp [h1, undef] at hx
          | some y => simp [h1] at hx; rw [hx]
        simp only [hx']
        rw [← hb]
        cases c <;> cases want <;> rfl
      · rename_i hc
        have := he t _ hc
        simp only [Option.some.injEq] at hb
        generalize hx : a.tmps.getD t undef = x at this
        cases this
        rw [← hb]
        rw [Array.getD_eq_getD_getElem?] at hx
        cases h1 : a.tmps[t]? with
        | none => rfl
        | some y => simp [h1] at hx; rw [hx]; rfl
      · cases hb

theorem evs_eval (hD : D.Ok γ σ) {a : Act} {e : EnvF I S} (he : ERelE γ σ φ K e a.tmps) {args : Array Operand} {args' : List (LA I S)} (h1 : trAs D args.toList = some args') {vs : List (LV I S)} (hvs : evs e args' = some vs) :
    VRels γ σ φ K vs (args.map a.eval).toList := by
  simpa using trAs_sound hD he h1 hvs

theorem trBuiltin_call {b : Builtin} {ts : List TypeId} {xs : List (LA I S)} {f : LA I S} {args : List (LA I S)} : trBuiltin ty b ts xs ≠ some (.call f args) := by
  intro h
  unfold trBuiltin at h
  split at h <;> (try simp only [Option.bind_eq_some_iff] at h) <;> (try (cases h; done)) <;> (obtain ⟨_, _, h⟩ := h) <;> (try simp only [Option.bind_eq_some_iff] at h) <;>
    (repeat' (first | (cases h; done) | split at h | (obtain ⟨_, _, h⟩ := h) | simp only [Option.bind_eq_some_iff, Bool.cond_eq_ite] at h))
theorem trOp_call {o : Oper} {f : LA I S} {args : List (LA I S)} (h : trOp D ty o = some (.call f args)) : ∃ c, o.op = .call c := by
  obtain ⟨dst, op, type, pos, after, guard⟩ := o
  cases op
  case call c => exact ⟨c, rfl⟩
  all_goals
    exfalso
    simp only [trOp] at h
    repeat' (first | contradiction | (cases h; done) | split at h | (obtain ⟨_, _, h⟩ := h) | simp only [Option.bind_eq_some_iff, Bool.cond_eq_ite] at h)

/-- Acts and calls. -/
def LOp.act : LOp I S → Bool
  | .e _ => true
  | .call _ _ => true
  | _ => false
theorem trOp_defer {o : Oper} {x : LOp I S} (h : trOp D ty o = some x) : ∀ c, o.op ≠ .defer c := by
  intro c hc
  obtain ⟨dst, op, type, pos, after, guard⟩ := o
  cases hc
  simp only [trOp, reduceCtorEq] at h
theorem actSound {F : Fence} (hF : Wide F) {n0 : Nat} (hcf : CallOk P γ σ cf) (hD : D.Ok γ σ) (hty : Tys P γ σ ty) {o : Oper} {x : LOp I S} (hx : x.act = true) (ht : trOp D ty o = some x) {e : EnvF I S} {a : Act} {h h' : H I S} {v : LV I S} (he : ERelE γ σ φ h.ids e a.tmps) (hr : Rel γ σ φ h w)
    (hv : step D cf e h x = some (v, h')) {X : Act → World → Prop} {Q : Exit → Act → World → Prop} (hX : ∀ v' w', Post γ σ φ h w v h' v' w' → X (a.put o.dst v') w') : o.wpIn F n0 P a w X Q := by
  cases x with
  | p _ => cases hx
  | r _ => cases hx
  | a _ => cases hx
  | e x =>
    obtain ⟨φ', nx, v', w', h1, h2, h3, h4, h5⟩ := eSound hD hty hr ht he hv
    refine wpIn_of_wp hF (trOp_defer ht) ?_
    unfold Oper.wp
    rw [h1]
    rcases h2 with rfl | ⟨rfl, rfl⟩
    · exact hX _ _ ⟨φ', h3, h4, h5⟩
    · exact hX _ _ ⟨φ', h3, h4, h5⟩
  | call f args =>
    simp only [step, Option.bind_eq_some_iff] at hv
    obtain ⟨fv, h1, vs, h2, h3⟩ := hv
    have hdf := trOp_defer ht
    obtain ⟨dst, op, type, pos, after, guard⟩ := o
    cases op
    case call c =>
      simp only [trOp, Option.bind_eq_some_iff] at ht
      obtain ⟨args', h4, ht⟩ := ht
      cases hc : c.callee <;> simp only [hc, reduceCtorEq, Option.bind_eq_some_iff, Option.some.injEq, LOp.call.injEq] at ht
      · rename_i f'
        obtain ⟨f'', h5, rfl, rfl⟩ := ht
        have hf := trA_sound hD h5 he h1
        have hargs := evs_eval hD he h4 h2
        cases fv <;> simp only [reduceCtorEq] at h3
        · rename_i g first cap
          refine wpIn_of_wp hF hdf ?_
          generalize hfe : a.eval f' = fe at hf
          cases hf with
          | func _ _ _ first' cap' hf1 hf2 =>
          have hall : VRels γ σ φ h.ids (first ++ vs ++ cap) (first' ++ c.args.map a.eval ++ cap').toList := by
            simp only [Array.toList_append]
            exact (hf1.append hargs).append hf2
          obtain ⟨nx, w1, hrun, hres⟩ := (hcf _ _ _ _ _ h3).2 φ w _ hr hall
          unfold Oper.wp
          have : (execOp a.eval { dst, op := .call c, type, pos, after, guard }).run P w = .ok nx w1 := by
            rw [← hrun]
            simp only [execOp, resolve, hc, hfe, Deferred.ofValue, Sem.run_bind, Sem.run_pure, Result.andThen_ok, invoke]
          rw [this]
          rcases hres with ⟨v', rfl, hp⟩ | ⟨g', as, rfl, hp⟩
          · exact hX _ _ hp
          · exact Calls.mono hp fun e w'' he => by
              obtain ⟨v', rfl, hp⟩ := he
              exact hX _ _ hp
        · rename_i b
          generalize hfe : a.eval f' = fe at hf
          cases hf with
          | yield _ hb =>
          obtain ⟨fn, tmps, assign, body, hrun, hres⟩ := (hcf _ _ _ _ _ h3).2 φ w _ hr hargs hb F (n0 - 1) hF
          refine ⟨fun f _ => hF.fn f, ?_⟩
          rw [Oper.semAt_eq _ _ _ hdf]
          have : (execOp a.eval { dst, op := .call c, type, pos, after, guard }).run P w = .ok (.round (φ b).blk fn tmps assign body) w := by
            rw [← hrun]
            simp [execOp, resolve, hc, hfe, Deferred.ofValue, Sem.run_bind, Sem.run_pure, Result.andThen_ok, invoke]
          rw [this]
          refine ⟨fun hd => (by rw [hF.depth] at hd; cases hd), RoundIn.mono hres fun e w'' he => ?_⟩
          obtain ⟨v', rfl, hp⟩ := he
          exact hX _ _ hp
      · exact absurd ht trBuiltin_call
    all_goals
      obtain ⟨c, hc⟩ := trOp_call ht
      cases hc
end
end Go.Proofs.YtohmaikcmaapjaaGreat.LI
