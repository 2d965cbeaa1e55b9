/- Calls that the interpreter does not walk: each by its contract. Here: the table of them, and the atomic integers. -/
import Derived.Test.YtohmaikcmaapjaaGreatLK
import Derived.Test.YtohmaikcmaapjaaGreatNBTy
import GoSem.Extern.Table
namespace Go.Proofs.YtohmaikcmaapjaaGreat.LI
open Go.Proofs
variable {I S : Type}
/-- What stands for a function. -/
abbrev OvF (I S : Type) := List (LV I S) → H I S → Option (LV I S × H I S)
def OvFOk (P : Program) (γ : I → Int) (σ : Sg I S) (f : Nat) (o : OvF I S) : Prop := ∀ args h v h', o args h = some (v, h') → CallDoes P γ σ f args h v h'
noncomputable def ovOf (t : Tr (OvF I S)) : Over I S := fun f args h => Option.rec (motive := fun _ => Option (Option (LV I S × H I S))) none (fun o => some (o args h)) (Tr.get t f)
theorem ovOf_ok {P : Program} {γ : I → Int} {σ : Sg I S} {t : Tr (OvF I S)} (h : ∀ f o, t.get f = some o → OvFOk P γ σ f o) : OvOk P γ σ (ovOf t) := by
  intro f args m v m' ho
  unfold ovOf at ho
  cases ht : Tr.get t f with
  | none => rw [ht] at ho; cases ho
  | some o => rw [ht] at ho; cases ho' : o args m with
    | none => simp [ho'] at ho
    | some r => simp [ho'] at ho; subst ho; exact h f o ht args m v m' ho'

theorem extern_run {P : Program} {f : Nat} {fn : Func} (hf : P.funcs[f]? = some fn) (hn : (fn.name == "runtime.NumGoroutine") = false) (hb : fn.body = none) (h1 : Extern.findNext fn = none) {e : Array Value → Sem Value} (h2 : Extern.find fn = some e) {args : Array Value} {w w' : World} {v : Value}
    (he : (e args).run P w = .ok v w') : (callFunc f args).run P w = .ok (.value v) w' := by
  unfold callFunc
  simp only [Sem.run_bind, run_program, Result.andThen_ok, hf, hn, hb, Option.isNone_none, Bool.false_eq_true, if_false, if_true, h1, h2]
  simp [he]

section
variable {γ : I → Int} {σ : Sg I S} {φ : Phi} {h : H I S} {w : World}
/-- One cell. -/
theorem one_cell (hr : Rel γ σ φ h w) {b o q : Nat} {c : List (LV I S)} (hb : h.t.get b = some (.cells q c)) {v : LV I S} (hv : at? c o = some v) : ∃ v', w.cell? ⟨(φ b).blk, (φ b).off + o, none⟩ = some v' ∧ VRel γ σ φ h.ids v v' := by
  obtain ⟨cur, e, fz, h1, h2, h3, h4, h5, h6, h7⟩ := (hr.obj b _ hb).cells_inv
  have hp : pick2 false o 1 c = some v := by simp only [pick2, cond_false]; exact hv
  obtain ⟨_, p2⟩ := pick2_sound hp h4
  obtain ⟨v', e1, hv'⟩ := p2 rfl
  refine ⟨v', ?_, hv'⟩
  rw [cell_at h1]
  simp only [List.getElem?_take, List.getElem?_drop] at e1
  split at e1
  · simpa using e1
  · cases e1
/-- One cell written, atomically. -/
theorem one_store {P : Program} (hr : Rel γ σ φ h w) {b o q : Nat} {c c' : List (LV I S)} (hb : h.t.get b = some (.cells q c)) (hq : Nat.blt q 2 = true) {v old : LV I S} (hold : at? c o = some old) (ho : over c o [v] = some c') {v' : Value} (hv : VRel γ σ φ h.ids v v') (h1 : one? v = true) :
    ∃ w', (store ⟨(φ b).blk, (φ b).off + o, none⟩ v' .atomic).run P w = .ok () w' ∧ Rel γ σ φ { h with t := h.t.set b (.cells q c') } w' ∧ Goes φ h.ids h.t.get w φ h.ids (h.t.set b (.cells q c')).get w' := by
  obtain ⟨w', s1, s2, s3⟩ := over_run (P := P) hr hb hq ho (.cons _ _ _ _ hv .nil) (by intro u hu; simp at hu; subst hu; exact h1)
  refine ⟨w', ?_, s2, s3⟩
  obtain ⟨u, hu, _⟩ := one_cell hr hb hold
  have hone := hv.one h1
  simp only [storeCells, Sem.run_bind, Sem.run_pure] at s1
  rw [show (⟨(φ b).blk, (φ b).off + o, none⟩ : Addr).add 0 = ⟨(φ b).blk, (φ b).off + o, none⟩ by simp [Addr.add]] at s1
  rw [run_store P w _ v' .plain hone, hu] at s1
  rw [run_store P w _ v' .atomic hone, hu]
  simp only at s1 ⊢
  split at s1
  · simp [Result.andThen] at s1
  · rename_i hfz
    simp only [hfz, Bool.false_eq_true, if_false]
    simpa using s1
end

noncomputable section
def o102 : OvF I S := fun args h => match args with
  | [.ptr b o] => (match Tr.get h.t b with
    | some (.cells _ c) => (match at? c o with
      | some (.int .i64 n) => some (.int .i64 n, h)
      | _ => none)
    | _ => none)
  | _ => none
def o268 : OvF I S := fun args h => match args with
  | [.ptr b o, .int .i64 n] => (match Tr.get h.t b with
    | some (.cells q c) => (match at? c o with
      | some _ => cond (Nat.blt q 2) ((over c o [.int .i64 n]).bind fun c' => some (.tuple [], { h with t := h.t.set b (.cells q c') })) none
      | none => none)
    | _ => none)
  | _ => none
def o103 (D : Dom I S) : OvF I S := fun args h => match args with
  | [.ptr b o, .int .i64 d] => (match Tr.get h.t b with
    | some (.cells q c) => (match at? c o with
      | some (.int .i64 n) => (D.bin .add .i64 n d).bind fun m => cond (Nat.blt q 2) ((over c o [.int .i64 m]).bind fun c' => some (.int .i64 m, { h with t := h.t.set b (.cells q c') })) none
      | _ => none)
    | _ => none)
  | _ => none
end

theorem next102 : Extern.findNext Tryz.f102 = none := by kernel_rfl
theorem find102 : Extern.find Tryz.f102 = some (Extern.Atomic.loadT (.int .i64)) := by kernel_rfl
theorem next268 : Extern.findNext Tryz.f268 = none := by kernel_rfl
theorem find268 : Extern.find Tryz.f268 = some Extern.Atomic.storeT := by kernel_rfl
theorem next103 : Extern.findNext Tryz.f103 = none := by kernel_rfl
theorem find103 : Extern.find Tryz.f103 = some (Extern.Atomic.update (Op.intArith .add) .i64 true) := by kernel_rfl

section
variable {γ : I → Int} {σ : Sg I S} {D : Dom I S}
theorem o102_ok : OvFOk Tryz.prog γ σ 102 (o102 : OvF I S) := by
  intro args h v h' ho
  unfold o102 at ho
  repeat' split at ho
  all_goals first | (cases ho; done) | skip
  rename_i b o _ q c hb _ n hn
  cases ho
  refine ⟨Nat.le_refl _, fun φ w args' hr hargs => ?_⟩
  obtain ⟨v', hv', hrel⟩ := one_cell hr hb hn
  cases hrel
  have hl := hargs.length
  obtain ⟨l, rfl⟩ : ∃ l, args' = l.toArray := ⟨args'.toList, by simp⟩
  simp only at hargs
  cases hargs with
  | cons _ a _ l' h1 h2 =>
  cases h2
  cases h1
  refine ⟨.value (.int .i64 (γ n)), w, extern_run Tryz.func102 (by decide) rfl next102 find102 ?_, .inl ⟨_, rfl, φ, .int _ _, hr, Goes.refl _ _ _ _⟩⟩
  show ((do Extern.Atomic.read (.int .i64) (← asAddr (.pointer (some ⟨(φ b).blk, (φ b).off + o, none⟩)))) : Sem Value).run Tryz.prog w = _
  simp [Extern.Atomic.read, asAddr, hv']
theorem o268_ok : OvFOk Tryz.prog γ σ 268 (o268 : OvF I S) := by
  intro args h v h' ho
  unfold o268 at ho
  repeat' split at ho
  all_goals first | (cases ho; done) | skip
  rename_i b o n _ q c hb _ old hold
  obtain ⟨hq, ho⟩ := cond_some ho
  simp only [Option.bind_eq_some_iff, Option.some.injEq, Prod.mk.injEq] at ho
  obtain ⟨c', hc', rfl, rfl⟩ := ho
  refine ⟨Nat.le_refl _, fun φ w args' hr hargs => ?_⟩
  obtain ⟨l, rfl⟩ : ∃ l, args' = l.toArray := ⟨args'.toList, by simp⟩
  simp only at hargs
  cases hargs with
  | cons _ a _ l' h1 h2 =>
  cases h2 with
  | cons _ a2 _ l'' h3 h4 =>
  cases h4
  cases h1
  cases h3
  obtain ⟨w', s1, s2, s3⟩ := one_store (P := Tryz.prog) hr hb hq hold hc' (.int .i64 n) rfl
  refine ⟨.value (.tuple #[]), w', extern_run Tryz.func268 (by decide) rfl next268 find268 ?_, .inl ⟨_, rfl, φ, .tuple _ _ .nil, s2, s3⟩⟩
  show ((do store (← asAddr (.pointer (some ⟨(φ b).blk, (φ b).off + o, none⟩))) (.int .i64 (γ n)) .atomic; pure Extern.Atomic.none_) : Sem Value).run Tryz.prog w = _
  simp only [asAddr, Sem.run_bind, Sem.run_pure, Result.andThen_ok, s1]
  rfl
theorem o103_ok (hD : D.Ok γ σ) : OvFOk Tryz.prog γ σ 103 (o103 D) := by
  intro args h v h' ho
  unfold o103 at ho
  repeat' split at ho
  all_goals first | (cases ho; done) | skip
  rename_i b o d _ q c hb _ n hold
  simp only [Option.bind_eq_some_iff] at ho
  obtain ⟨m, hm, ho⟩ := ho
  obtain ⟨hq, ho⟩ := cond_some ho
  simp only [Option.bind_eq_some_iff, Option.some.injEq, Prod.mk.injEq] at ho
  obtain ⟨c', hc', rfl, rfl⟩ := ho
  refine ⟨Nat.le_refl _, fun φ w args' hr hargs => ?_⟩
  obtain ⟨l, rfl⟩ : ∃ l, args' = l.toArray := ⟨args'.toList, by simp⟩
  simp only at hargs
  cases hargs with
  | cons _ a _ l' h1 h2 =>
  cases h2 with
  | cons _ a2 _ l'' h3 h4 =>
  cases h4
  cases h1
  cases h3
  obtain ⟨v', hv', hrel⟩ := one_cell hr hb hold
  cases hrel
  obtain ⟨w', s1, s2, s3⟩ := one_store (P := Tryz.prog) hr hb hq hold hc' (.int .i64 m) rfl
  have hg := hD.bin _ _ _ _ _ hm
  simp only [goBin, Option.some.injEq] at hg
  refine ⟨.value (.int .i64 (γ m)), w', extern_run Tryz.func103 (by decide) rfl next103 find103 ?_, .inl ⟨_, rfl, φ, .int _ _, s2, s3⟩⟩
  show ((do let a ← asAddr (.pointer (some ⟨(φ b).blk, (φ b).off + o, none⟩)); let old ← Extern.Atomic.read (.int .i64) a; let new ← Op.intArith .add .i64 (← asInt old) (← asInt (.int .i64 (γ d))); store a new .atomic; pure new) : Sem Value).run Tryz.prog w = _
  simp [Extern.Atomic.read, asAddr, hv', asInt, asIntOf, Op.intArith, hg, s1]
end
end Go.Proofs.YtohmaikcmaapjaaGreat.LI
