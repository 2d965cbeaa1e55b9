/- What an operation's run hangs on: its own slots, the blocks it finds. -/
import Derived.Test.YtohmaikcmaapjaaGreatLStep
namespace Go.Proofs.YtohmaikcmaapjaaGreat.LI
variable {I S : Type}
def LA.slots : LA I S → List Nat
  | .tmp t => [t]
  | .const _ => []
def slotsL : List (LA I S) → List Nat
  | [] => []
  | x :: r => x.slots ++ slotsL r
def slotsO : Option (LA I S) → List Nat
  | none => []
  | some x => x.slots
def slotsP : List (Nat × Nat × LA I S) → List Nat
  | [] => []
  | (_, _, x) :: r => x.slots ++ slotsP r
def slotsS : List (Nat × LA I S) → List Nat
  | [] => []
  | (_, x) :: r => x.slots ++ slotsS r
def POp.slots : POp I S → List Nat
  | .move x => x.slots
  | .pick c a b => c.slots ++ a.slots ++ b.slots
  | .build _ ps => slotsP ps
  | .nilchk x => x.slots
  | .bin _ x y => x.slots ++ y.slots
  | .eqAgg _ _ x y => x.slots ++ y.slots
  | .eqb _ x y => x.slots ++ y.slots
  | .un _ x => x.slots
  | .convInt _ x => x.slots
  | .mkfunc _ a c => slotsL a ++ slotsL c
  | .slStr x lo hi => x.slots ++ slotsO lo ++ slotsO hi
  | .slSl _ x lo hi mx => x.slots ++ slotsO lo ++ slotsO hi ++ slotsO mx
  | .fieldAddr _ x => x.slots
  | .field _ _ _ x => x.slots
  | .idxSl _ x i => x.slots ++ i.slots
  | .idxArrP _ _ x i => x.slots ++ i.slots
  | .idxArr _ _ _ x i => x.slots ++ i.slots
  | .idxStr x i => x.slots ++ i.slots
  | .extract _ x => x.slots
  | .len x => x.slots
  | .lenS x => x.slots
  | .num _ => []
  | .min xs => slotsL xs
  | .max xs => slotsL xs
  | .cap x => x.slots
def ROp.slots : ROp I S → List Nat
  | .load _ _ x => x.slots
  | .lookup _ _ _ m k => m.slots ++ k.slots
  | .lenMap x => x.slots
  | .ofBytes x => x.slots
  | .entry x => x.slots
  | .eqRef _ _ x y => x.slots ++ y.slots
def AOp.slots : AOp I S → List Nat
  | .box x => x.slots
  | .bslice _ _ _ ps => slotsS ps
  | .mkmap => []
  | .mkslice _ _ _ l c => l.slots ++ c.slots
  | .toBytes x => x.slots
def EOp.slots : EOp I S → List Nat
  | .store _ a x => a.slots ++ x.slots
  | .append _ _ s x => s.slots ++ x.slots
  | .appendZ _ _ _ s x => s.slots ++ x.slots
  | .copy _ d s => d.slots ++ s.slots
  | .clear _ x => x.slots
  | .clearM x => x.slots
  | .delete _ m k => m.slots ++ k.slots
  | .mapset _ m k v => m.slots ++ k.slots ++ v.slots
  | .range x => x.slots
  | .next x => x.slots
  | .mark x => x.slots
def LOp.slots : LOp I S → List Nat
  | .p x => x.slots
  | .r x => x.slots
  | .a x => x.slots
  | .e x => x.slots
  | .call f args => f.slots ++ slotsL args
def slotsG : Option (Option Nat × Bool) → List Nat
  | some (some t, _) => [t]
  | _ => []
def LOper.slots (o : LOper I S) : List Nat := slotsG o.guard ++ o.op.slots

section
variable {D : Dom I S} {e e' : EnvF I S}
theorem ev_congr {x : LA I S} (h : ∀ t ∈ x.slots, e' t = e t) : ev e' x = ev e x := by
  cases x with
  | tmp t => exact h t (by simp [LA.slots])
  | const v => rfl
theorem evs_congr : ∀ {l : List (LA I S)}, (∀ t ∈ slotsL l, e' t = e t) → evs e' l = evs e l
  | [], _ => rfl
  | x :: r, h => by
    simp only [evs]
    rw [ev_congr fun t ht => h t (by simp [slotsL, ht]), evs_congr fun t ht => h t (by simp [slotsL, ht])]
theorem evo_congr {x : Option (LA I S)} (h : ∀ t ∈ slotsO x, e' t = e t) : evo e' x = evo e x := by
  cases x with
  | none => rfl
  | some x => simp only [evo]; rw [ev_congr h]
theorem evParts_congr : ∀ {l : List (Nat × Nat × LA I S)}, (∀ t ∈ slotsP l, e' t = e t) → evParts e' l = evParts e l
  | [], _ => rfl
  | (_, _, x) :: r, h => by
    simp only [evParts]
    rw [ev_congr fun t ht => h t (by simp [slotsP, ht]), evParts_congr fun t ht => h t (by simp [slotsP, ht])]
theorem evPartsS_congr : ∀ {l : List (Nat × LA I S)}, (∀ t ∈ slotsS l, e' t = e t) → evPartsS e' l = evPartsS e l
  | [], _ => rfl
  | (_, x) :: r, h => by
    simp only [evPartsS]
    rw [ev_congr fun t ht => h t (by simp [slotsS, ht]), evPartsS_congr fun t ht => h t (by simp [slotsS, ht])]
theorem evalP_congr {x : POp I S} (h : ∀ t ∈ x.slots, e' t = e t) : evalP D e' x = evalP D e x := by
  cases x <;> simp only [POp.slots, List.mem_append] at h <;> simp only [evalP] <;> (repeat first | rw [ev_congr (e := e) (e' := e')] | rw [evs_congr (e := e) (e' := e')] | rw [evo_congr (e := e) (e' := e')] | rw [evParts_congr (e := e) (e' := e')] | rw [evPartsS_congr (e := e) (e' := e')]) <;> (first | rfl | (intro t ht; exact h t (by simp [ht])))
theorem evalR_congr {g : Mem I S} {x : ROp I S} (h : ∀ t ∈ x.slots, e' t = e t) : evalR D e' g x = evalR D e g x := by
  cases x <;> simp only [ROp.slots, List.mem_append] at h <;> simp only [evalR] <;> (repeat first | rw [ev_congr (e := e) (e' := e')] | rw [evs_congr (e := e) (e' := e')] | rw [evo_congr (e := e) (e' := e')] | rw [evParts_congr (e := e) (e' := e')] | rw [evPartsS_congr (e := e) (e' := e')]) <;> (first | rfl | (intro t ht; exact h t (by simp [ht])))
theorem evalA_congr {x : AOp I S} (h : ∀ t ∈ x.slots, e' t = e t) : evalA D e' x = evalA D e x := by
  cases x <;> simp only [AOp.slots, List.mem_append] at h <;> simp only [evalA] <;> (repeat first | rw [ev_congr (e := e) (e' := e')] | rw [evs_congr (e := e) (e' := e')] | rw [evo_congr (e := e) (e' := e')] | rw [evParts_congr (e := e) (e' := e')] | rw [evPartsS_congr (e := e) (e' := e')]) <;> (first | rfl | (intro t ht; exact h t (by simp [ht])))
theorem evalE_congr {m : H I S} {x : EOp I S} (h : ∀ t ∈ x.slots, e' t = e t) : evalE D e' m x = evalE D e m x := by
  cases x <;> simp only [EOp.slots, List.mem_append] at h <;> simp only [evalE] <;> (repeat first | rw [ev_congr (e := e) (e' := e')] | rw [evs_congr (e := e) (e' := e')] | rw [evo_congr (e := e) (e' := e')] | rw [evParts_congr (e := e) (e' := e')] | rw [evPartsS_congr (e := e) (e' := e')]) <;> (first | rfl | (intro t ht; exact h t (by simp [ht])))
theorem step_congr {cf : CallF I S} {m : H I S} {x : LOp I S} (h : ∀ t ∈ x.slots, e' t = e t) : step D cf e' m x = step D cf e m x := by
  cases x with
  | p x => simp only [step, evalP_congr (D := D) h]
  | r x => simp only [step, evalR_congr (D := D) h]
  | a x => simp only [step, evalA_congr (D := D) h]
  | e x => simp only [step, evalE_congr (D := D) h]
  | call f args =>
    simp only [LOp.slots, List.mem_append] at h
    simp only [step]
    rw [ev_congr (e := e) (e' := e') fun t ht => h t (.inl ht), evs_congr (e := e) (e' := e') fun t ht => h t (.inr ht)]
theorem wanted_congr {gd : Option (Option Nat × Bool)} (h : ∀ t ∈ slotsG gd, e' t = e t) : wanted e' gd = wanted e gd := by
  cases gd with
  | none => rfl
  | some p =>
    obtain ⟨t, b⟩ := p
    cases t with
    | none => rfl
    | some t => simp only [wanted]; rw [h t (by simp [slotsG])]

/-- A read finds the same in a memory that holds more. -/
theorem evalR_mono {g g' : Mem I S} (hg : ∀ b o, g b = some o → g' b = some o) {x : ROp I S} {v : LV I S} (h : evalR D e g x = some v) : evalR D e g' x = some v := by
  cases x with
  | load agg n x =>
    simp only [evalR, Option.bind_eq_some_iff] at h ⊢
    obtain ⟨u, h1, h2⟩ := h
    refine ⟨u, h1, ?_⟩
    cases u <;> simp only [reduceCtorEq] at h2 ⊢
    split at h2
    · rename_i q c hb; rw [hg _ _ hb]; exact h2
    · cases h2
  | lookup km zero ok m k =>
    simp only [evalR, Option.bind_eq_some_iff] at h ⊢
    obtain ⟨u, h1, k', h2, es, h3, h4⟩ := h
    refine ⟨u, h1, k', h2, es, ?_, h4⟩
    cases u <;> simp only [entries, reduceCtorEq] at h3 ⊢
    · exact h3
    · split at h3
      · rename_i es' clock hb; rw [hg _ _ hb]; exact h3
      · cases h3
  | lenMap x =>
    simp only [evalR, Option.bind_eq_some_iff] at h ⊢
    obtain ⟨u, h1, es, h3, h4⟩ := h
    refine ⟨u, h1, es, ?_, h4⟩
    cases u <;> simp only [entries, reduceCtorEq] at h3 ⊢
    · exact h3
    · split at h3
      · rename_i es' clock hb; rw [hg _ _ hb]; exact h3
      · cases h3
  | ofBytes x =>
    simp only [evalR, Option.bind_eq_some_iff] at h ⊢
    obtain ⟨u, h1, h2⟩ := h
    refine ⟨u, h1, ?_⟩
    cases u <;> simp only [reduceCtorEq] at h2 ⊢
    · exact h2
    · split at h2
      · rename_i q c hb; rw [hg _ _ hb]; exact h2
      · cases h2
    · exact h2
  | entry x =>
    simp only [evalR, Option.bind_eq_some_iff] at h ⊢
    obtain ⟨u, h1, h2⟩ := h
    refine ⟨u, h1, ?_⟩
    cases u <;> try (simp only [reduceCtorEq] at h2; done)
    rename_i b o
    cases o with
    | succ o => simp only [reduceCtorEq] at h2
    | zero =>
      simp only at h2 ⊢
      split at h2
      · rename_i m since seen stepped hb
        rw [hg _ _ hb]
        simp only [Option.bind_eq_some_iff] at h2 ⊢
        obtain ⟨st, h3, h4⟩ := h2
        refine ⟨st, h3, ?_⟩
        split at h4
        · rename_i es clock hm; rw [hg _ _ hm]; exact h4
        · cases h4
      · cases h2
  | eqRef k neg x y =>
    simp only [evalR, Option.bind_eq_some_iff] at h ⊢
    obtain ⟨u, h1, u', h2, t, h3, h4⟩ := h
    refine ⟨u, h1, u', h2, t, ?_, h4⟩
    have pl : ∀ b, plain? g b = true → plain? g' b = true := by
      intro b hb
      unfold plain? at hb ⊢
      split at hb
      · rename_i c hc; rw [hg _ _ hc]; rfl
      · cases hb
    cases k <;> cases u <;> cases u' <;> simp only [refEq, reduceCtorEq] at h3 ⊢ <;> try exact h3
    rename_i b o b' o'
    cases hp : (plain? g b && plain? g b')
    · simp [hp] at h3
    · simp only [Bool.and_eq_true] at hp
      simp only [hp.1, hp.2, Bool.and_self, cond_true] at h3
      simp only [pl _ hp.1, pl _ hp.2, Bool.and_self, cond_true]
      exact h3
end
end Go.Proofs.YtohmaikcmaapjaaGreat.LI
