/- Memories with bounds, calls, one operation under a continuation. -/
import Derived.Test.YtohmaikcmaapjaaGreatLCong
import Derived.Test.YtohmaikcmaapjaaGreatLWide
namespace Go.Proofs.YtohmaikcmaapjaaGreat.LI
variable {I S : Type}
section
variable {D : Dom I S}
theorem cond_some {α : Type} {c : Bool} {x : Option α} {y : α} (h : (cond c x none) = some y) : c = true ∧ x = some y := by cases c <;> simp_all
theorem newB_next {h : H I S} {o : LObj I S} : (newB h o).next = h.next + 1 := rfl
theorem grow_next {h : H I S} {sz bytes : Nat} {s : LV I S} {m : Nat} {new : List (LV I S)} {r : LV I S × H I S} (hv : grow h sz bytes s m new = some r) : h.next ≤ r.2.next := by
  unfold grow at hv
  simp only [Bool.cond_eq_ite] at hv
  repeat' split at hv
  all_goals first
    | (cases hv; done)
    | (cases hv; simp [newB]; done)
    | (rw [Option.bind_eq_some_iff] at hv; obtain ⟨_, _, hv⟩ := hv; repeat' split at hv
       all_goals first | (cases hv; done) | (cases hv; simp [newB]; done))
theorem evalE_next {e : EnvF I S} {h : H I S} {x : EOp I S} {r : LV I S × H I S} (hv : evalE D e h x = some r) : h.next ≤ r.2.next := by
  cases x <;> simp only [evalE, Option.bind_eq_some_iff] at hv
  case append sz bytes s x => obtain ⟨_, _, _, _, _, _, hv⟩ := hv; exact grow_next (cond_some hv).2
  case appendZ sz bytes zero s x => obtain ⟨_, _, _, _, _, _, hv⟩ := hv; exact grow_next (cond_some hv).2
  case store n a x =>
    obtain ⟨_, _, _, _, hv⟩ := hv
    simp only [Bool.cond_eq_ite] at hv
    repeat' split at hv
    all_goals first
      | (cases hv; done)
      | (rw [Option.bind_eq_some_iff] at hv; obtain ⟨_, _, hv⟩ := hv; cases hv; exact Nat.le_refl _)
  case copy sz d s =>
    obtain ⟨_, _, _, _, _, _, hv⟩ := hv
    simp only [Bool.cond_eq_ite] at hv
    repeat' split at hv
    all_goals first
      | (cases hv; done)
      | (cases hv; exact Nat.le_refl _; done)
      | (rw [Option.bind_eq_some_iff] at hv; obtain ⟨_, _, hv⟩ := hv; repeat' split at hv
         all_goals first
          | (cases hv; done)
          | (rw [Option.bind_eq_some_iff] at hv; obtain ⟨_, _, hv⟩ := hv; cases hv; exact Nat.le_refl _))
  case clear zero x =>
    obtain ⟨_, _, hv⟩ := hv
    simp only [Bool.cond_eq_ite] at hv
    repeat' split at hv
    all_goals first
      | (cases hv; done)
      | (cases hv; exact Nat.le_refl _; done)
      | (rw [Option.bind_eq_some_iff] at hv; obtain ⟨_, _, hv⟩ := hv; cases hv; exact Nat.le_refl _)
  case clearM x =>
    obtain ⟨_, _, hv⟩ := hv
    repeat' split at hv
    all_goals first
      | (cases hv; done)
      | (cases hv; exact Nat.le_refl _; done)
  case delete km m k =>
    obtain ⟨_, _, _, _, hv⟩ := hv
    repeat' split at hv
    all_goals first
      | (cases hv; done)
      | (rw [Option.bind_eq_some_iff] at hv; obtain ⟨_, _, hv⟩ := hv; cases hv; exact Nat.le_refl _)
  case mapset km m k v =>
    obtain ⟨_, _, _, _, _, _, hv⟩ := hv
    repeat' split at hv
    all_goals first
      | (cases hv; done)
      | (rw [Option.bind_eq_some_iff] at hv; obtain ⟨_, _, hv⟩ := hv; repeat' split at hv
         all_goals (cases hv; exact Nat.le_refl _))
  case range x =>
    obtain ⟨_, _, hv⟩ := hv
    repeat' split at hv
    all_goals first
      | (cases hv; done)
      | (cases hv; simp [newB])
  case next x =>
    obtain ⟨_, _, hv⟩ := hv
    simp only [Bool.cond_eq_ite] at hv
    repeat' split at hv
    all_goals first
      | (cases hv; done)
      | (cases hv; exact Nat.le_refl _)
  case mark x =>
    obtain ⟨_, _, hv⟩ := hv
    repeat' split at hv
    all_goals first
      | (cases hv; done)
      | (cases hv; exact Nat.le_refl _)
end

section
variable {P : Program} {γ : I → Int} {σ : Sg I S} {D : Dom I S} {ty : Nat → Option (TyI I S)} {φ φ' : Phi} {K K' : Nat → Prop} {w w' : World} {g : Mem I S} {n0 : Nat}

/-- What an act leaves. -/
def Post (γ : I → Int) (σ : Sg I S) (φ : Phi) (h : H I S) (w : World) (v : LV I S) (h' : H I S) (v' : Value) (w' : World) : Prop :=
  ∃ φ', VRel γ σ φ' h'.ids v v' ∧ Rel γ σ φ' h' w' ∧ Goes φ h.ids h.t.get w φ' h'.ids h'.t.get w'

/-- What the interpreter says of a call, the machine does. -/
def CallOk (P : Program) (γ : I → Int) (σ : Sg I S) (cf : CallF I S) : Prop :=
  ∀ (c : Fn) (args : List (LV I S)) (h : H I S) (v : LV I S) (h' : H I S), cf c args h = some (v, h') → h.next ≤ h'.next ∧
    ∀ (φ : Phi) (w : World) (args' : Array Value), Rel γ σ φ h w → VRels γ σ φ h.ids args args'.toList → match c with
      | .fn f => ∃ nx w1, (callFunc f args').run P w = .ok nx w1 ∧
        ((∃ v', nx = .value v' ∧ Post γ σ φ h w v h' v' w1) ∨ (∃ g as, nx = .enter g as ∧ Calls P g as w1 fun e w'' => ∃ v', e = .returned v' ∧ Post γ σ φ h w v h' v' w''))
      | .iter f => (callFunc f args').run P w = .ok (.enter f args') w ∧ Calls P f args' w fun e w'' => ∃ v', e = .returned v' ∧ Post γ σ φ h w v h' v' w''
      | .yield b => h.ids b → ∀ (F : Fence) (n : Nat), Wide F → ∃ fn tmps assign body, (Instr.yield (φ b).blk args').run P w = .ok (.round (φ b).blk fn tmps assign body) w ∧
        RoundIn F n P (φ b).blk fn tmps assign body w fun e w'' => ∃ v', e = .returned v' ∧ Post γ σ φ h w v h' v' w''

/-- A memory, every block's content older than the block, or than a bound. -/
structure RelB (γ : I → Int) (σ : Sg I S) (φ : Phi) (K : Nat → Prop) (n0 : Nat) (g : Mem I S) (w : World) : Prop where
  lt : ∀ b o, g b = some o → K b
  obj : ∀ b o, g b = some o → ORel γ σ φ (fun c => K c ∧ c < max n0 (b + 1)) w (φ b) o
  inj : ∀ b o b' o', g b = some o → g b' = some o' → o.live = true → o'.live = true → (o.writ = true ∨ o'.writ = true) → (φ b).blk = (φ b').blk → b = b'
theorem RelB.full (h : RelB γ σ φ K n0 g w) : RelF γ σ φ K g w :=
  ⟨h.lt, fun b o hb => (h.obj b o hb).mono (fun _ h => h.1) (fun _ _ => rfl) rfl, h.inj⟩
theorem RelB.cut (h : RelB γ σ φ K n0 g w) {n : Nat} (hn : n0 ≤ n) : RelF γ σ φ (fun c => K c ∧ c < n) (fun b => if b < n then g b else none) w := by
  have key : ∀ b o, (if b < n then g b else none) = some o → b < n ∧ g b = some o := by
    intro b o hb
    by_cases hl : b < n
    · rw [if_pos hl] at hb; exact ⟨hl, hb⟩
    · rw [if_neg hl] at hb; cases hb
  refine ⟨fun b o hb => ⟨h.lt b o (key b o hb).2, (key b o hb).1⟩, fun b o hb => ?_, ?_⟩
  · obtain ⟨h1, h2⟩ := key b o hb
    exact (h.obj b o h2).mono (fun c hc => ⟨hc.1, by have := hc.2; omega⟩) (fun _ _ => rfl) rfl
  · intro b o b' o' hb hb'
    exact h.inj b o b' o' (key b o hb).2 (key b' o' hb').2
theorem RelB.of_rel {h : H I S} (hr : Rel γ σ φ h w) : RelB γ σ φ h.ids h.next h.t.get w :=
  ⟨hr.lt, fun b o hb => (hr.obj b o hb).mono (fun c hc => ⟨hc, by have : c < h.next := hc; omega⟩) (fun _ _ => rfl) rfl, hr.inj⟩

/-- A block more. -/
theorem RelB.push (hr : RelB γ σ φ K n0 g w) {n : Nat} (hnew : ¬ K n) {robj : Obj} {w' : World} (hheap : w'.heap = w.heap.push robj) (hos : w'.os = w.os) (htape : w'.tape = w.tape) (hout : w'.output = w.output) {room : Nat} {obj : LObj I S}
    (ho : ORel γ σ (φ.put n ⟨w.heap.size, 0, room⟩) (fun c => (K c ∨ c = n) ∧ c < max n0 (n + 1)) w' ⟨w.heap.size, 0, room⟩ obj) :
    RelB γ σ (φ.put n ⟨w.heap.size, 0, room⟩) (fun c => K c ∨ c = n) n0 (fun m => if m = n then some obj else g m) w' ∧
      Goes φ K g w (φ.put n ⟨w.heap.size, 0, room⟩) (fun c => K c ∨ c = n) (fun m => if m = n then some obj else g m) w' := by
  have hp := hr.full.push hnew (K' := fun c => K c ∨ c = n) (fun _ h => .inl h) (.inr rfl) hheap hos htape hout (ho.mono (fun c hc => hc.1) (fun _ _ => rfl) rfl)
  have hput : ∀ c, K c → (φ.put n ⟨w.heap.size, 0, room⟩) c = φ c := fun c hc => Phi.put_ne (fun e => hnew (e ▸ hc))
  refine ⟨⟨hp.1.lt, ?_, hp.1.inj⟩, hp.2⟩
  intro b o hb
  by_cases e : b = n
  · subst e; rw [if_pos rfl] at hb; cases hb; rw [Phi.put_same]; exact ho
  · rw [if_neg e] at hb
    have hlt := hr.lt _ _ hb
    rw [hput b hlt]
    have := hr.obj b o hb
    by_cases hl : o.live = true
    · refine this.mono (fun c hc => ⟨.inl hc.1, hc.2⟩) (fun c hc => hput c hc.1) ?_
      have := this.blk_lt hl
      rw [hheap, Array.getElem?_push, if_neg (by omega)]
    · cases o <;> first | exact .gone | (exact absurd rfl hl)

/-- An act among blocks that came too early. -/
theorem RelB.frame (hr : RelB γ σ φ K n0 g w) {h h' : H I S} (h0 : n0 ≤ h.next) (hle : h.next ≤ h'.next) (hids : ∀ b, b < h.next → K b) (hex : ∀ b, K b → b < h.next ∨ h'.next ≤ b) (hg : ∀ b, b < h.next → g b = h.t.get b) (hgn : ∀ b, h.next ≤ b → h.t.get b = none)
    (hwr : ∀ b o, g b = some o → h.next ≤ b → o.writ = true)
    {φ1 : Phi} {w' : World} (hr1 : Rel γ σ φ1 h' w') (hgo : Goes φ h.ids h.t.get w φ1 h'.ids h'.t.get w') :
    RelB γ σ (fun b => if b < h'.next then φ1 b else φ b) (fun b => b < h'.next ∨ K b) h'.next (fun b => if b < h'.next then h'.t.get b else g b) w' ∧
    Goes φ K g w (fun b => if b < h'.next then φ1 b else φ b) (fun b => b < h'.next ∨ K b) (fun b => if b < h'.next then h'.t.get b else g b) w' := by
  have hagree : ∀ b, K b → (fun b => if b < h'.next then φ1 b else φ b) b = φ b := by
    intro b hb
    rcases hex b hb with h1 | h1
    · simp only [if_pos (Nat.lt_of_lt_of_le h1 hle)]; exact hgo.agree b h1
    · simp only [if_neg (Nat.not_lt.2 h1)]
  have hagree1 : ∀ b, b < h'.next → (fun b => if b < h'.next then φ1 b else φ b) b = φ1 b := fun b hb => by simp only [if_pos hb]
  have hearly : ∀ b o, g b = some o → ¬ b < h'.next → o.live = true → (φ b).blk < w.heap.size ∧ w'.heap[(φ b).blk]? = w.heap[(φ b).blk]? := by
    intro b o hb hn hl
    have hlt := (hr.obj b o hb).blk_lt hl
    refine ⟨hlt, hgo.frame _ hlt fun c oc hc hcw hce => ?_⟩
    have hcl : c < h.next := by
      rcases Nat.lt_or_ge c h.next with h1 | h1
      · exact h1
      · rw [hgn c h1] at hc; cases hc
    have := hr.inj c oc b o (by rw [hg c hcl]; exact hc) hb (LObj.live_of_writ hcw) hl (.inl hcw) hce
    omega
  have hcross : ∀ b o b' o', h'.t.get b = some o → b < h'.next → g b' = some o' → ¬ b' < h'.next → o.live = true → o'.live = true → (φ1 b).blk ≠ (φ b').blk := by
    intro b o b' o' hb hbl hb' hbn hl hl' heq
    have hlt := (hr.obj b' o' hb').blk_lt hl'
    rcases hgo.prov b o hb hl with h1 | h1 | ⟨_, c, oc, h1, h2, h3⟩
    · have hcl : b < h.next := by
        rcases Nat.lt_or_ge b h.next with h2 | h2
        · exact h2
        · rw [hgn b h2] at h1; cases h1
      rw [hgo.agree b hcl] at heq
      have := hr.inj b o b' o' (by rw [hg b hcl]; exact h1) hb' hl hl' (.inr (hwr b' o' hb' (by omega))) heq
      omega
    · omega
    · have hcl : c < h.next := by
        rcases Nat.lt_or_ge c h.next with h4 | h4
        · exact h4
        · rw [hgn c h4] at h1; cases h1
      have := hr.inj c oc b' o' (by rw [hg c hcl]; exact h1) hb' (LObj.live_of_writ h2) hl' (.inl h2) (h3.trans heq)
      omega
  refine ⟨⟨?_, ?_, ?_⟩, ⟨fun b hb => .inr hb, hagree, hgo.size, hgo.os, hgo.tape, hgo.output, ?_, ?_, ?_⟩⟩
  · intro b o hb
    by_cases hl : b < h'.next
    · exact .inl hl
    · rw [if_neg hl] at hb; exact .inr (hr.lt b o hb)
  · intro b o hb
    by_cases hl : b < h'.next
    · rw [if_pos hl] at hb
      simp only [if_pos hl]
      exact (hr1.obj b o hb).mono (fun c (hc : c < h'.next) => ⟨.inl hc, by omega⟩) (fun c hc => hagree1 c hc) rfl
    · rw [if_neg hl] at hb
      simp only [if_neg hl]
      by_cases hlive : o.live = true
      · exact (hr.obj b o hb).mono (fun c hc => ⟨.inr hc.1, by have := hc.2; omega⟩) (fun c hc => hagree c hc.1) (hearly b o hb hl hlive).2
      · cases o <;> first | exact .gone | (exact absurd rfl hlive)
  · intro b o b' o' hb hb' hl hl' hw heq
    by_cases h1 : b < h'.next
    · rw [if_pos h1] at hb
      by_cases h2 : b' < h'.next
      · rw [if_pos h2] at hb'
        simp only [if_pos h1, if_pos h2] at heq
        exact hr1.inj b o b' o' hb hb' hl hl' hw heq
      · rw [if_neg h2] at hb'
        simp only [if_pos h1, if_neg h2] at heq
        exact absurd heq (hcross b o b' o' hb h1 hb' h2 hl hl')
    · rw [if_neg h1] at hb
      by_cases h2 : b' < h'.next
      · rw [if_pos h2] at hb'
        simp only [if_neg h1, if_pos h2] at heq
        exact absurd heq.symm (hcross b' o' b o hb' h2 hb h1 hl' hl)
      · rw [if_neg h2] at hb'
        simp only [if_neg h1, if_neg h2] at heq
        exact hr.inj b o b' o' hb hb' hl hl' hw heq
  · intro r hlt hno
    refine hgo.frame r hlt fun b o hb hw => hno b o ?_ hw
    have hcl : b < h.next := by
      rcases Nat.lt_or_ge b h.next with h2 | h2
      · exact h2
      · rw [hgn b h2] at hb; cases hb
    rw [hg b hcl]; exact hb
  · intro b o hb hl
    by_cases h1 : b < h'.next
    · rw [if_pos h1] at hb
      simp only [if_pos h1]
      have back : ∀ c oc, h.t.get c = some oc → g c = some oc := fun c oc hc => by
        have hcl : c < h.next := by
          rcases Nat.lt_or_ge c h.next with h2 | h2
          · exact h2
          · rw [hgn c h2] at hc; cases hc
        rw [hg c hcl]; exact hc
      rcases hgo.prov b o hb hl with h2 | h2 | ⟨h2, c, oc, h3, h4, h5⟩
      · exact .inl (back b o h2)
      · exact .inr (.inl h2)
      · exact .inr (.inr ⟨h2, c, oc, back c oc h3, h4, h5⟩)
    · rw [if_neg h1] at hb; exact .inl hb
  · intro b o hb hn hk
    by_cases h1 : b < h'.next
    · rw [if_pos h1] at hb
      have hbl : b < h.next := (hex b hk).resolve_right (by omega)
      rw [hg b hbl] at hn
      exact hgo.fresh b o hb hn hbl
    · rw [if_neg h1] at hb; rw [hb] at hn; cases hn
end
end Go.Proofs.YtohmaikcmaapjaaGreat.LI
