/- Code, turned into the interpreter's own; a drawn region's order, chosen and looked over. -/
import Derived.Test.YtohmaikcmaapjaaGreatLIn
namespace Go.Proofs.YtohmaikcmaapjaaGreat.LI
section tr
variable {I S : Type} (D : Dom I S) (ty : Nat → Option (TyI I S))

/-- Classes: by operands alone, a read, a making, an act. -/
inductive Cls where
  | p | r | a | e
def LOp.cls : LOp I S → Cls
  | .p _ => .p
  | .r _ => .r
  | .a _ => .a
  | .e _ => .e
  | .call _ _ => .e

/-- One operation as the order's choice sees it: its number, its class, the mask of what must come ahead. -/
structure SOp (I S : Type) where
  i : Nat
  cls : Cls
  ahead : Nat
  op : LOper I S
def entry (l : List (LOper I S)) (bs : List Nat) (i : Nat) : Option (SOp I S) := (nth l i).bind fun o => (nth bs i).bind fun b => some ⟨i, o.op.cls, b, o⟩
def sops : Nat → List (LOper I S) → List Nat → List (SOp I S)
  | i, o :: os, b :: bs => ⟨i, o.op.cls, b, o⟩ :: sops i.succ os bs
  | _, _, _ => []
def within (a d : Nat) : Bool := Nat.beq (Nat.land a d) a
def bit (m i : Nat) : Bool := Nat.beq (Nat.land (Nat.shiftRight m i) 1) 1
/-- The first that may come now, of the quiet ones; the first act; the first making ahead of the next act. -/
def quietNow (d : Nat) : List (SOp I S) → Option (SOp I S)
  | [] => none
  | s :: r => match s.cls with
    | .p => cond (within s.ahead d) (some s) (quietNow d r)
    | .r => cond (within s.ahead d) (some s) (quietNow d r)
    | _ => quietNow d r
def firstAct : List (SOp I S) → Option (SOp I S)
  | [] => none
  | s :: r => match s.cls with
    | .e => some s
    | _ => firstAct r
def makeNow (d m : Nat) : List (SOp I S) → Option (SOp I S)
  | [] => none
  | s :: r => match s.cls with
    | .a => cond (within s.ahead d && bit m s.i) (some s) (makeNow d m r)
    | _ => makeNow d m r
def choose (d full : Nat) (l : List (SOp I S)) : Option (SOp I S) := match quietNow d l with
  | some s => some s
  | none => match firstAct l with
    | some e => cond (within e.ahead d) (some e) (makeNow d e.ahead l)
    | none => makeNow d full l
def without (i : Nat) : List (SOp I S) → List (SOp I S)
  | [] => []
  | s :: r => cond (Nat.beq s.i i) r (s :: without i r)
def sched (full : Nat) : Nat → Nat → List (SOp I S) → List Nat
  | 0, _, _ => []
  | f + 1, d, l => match choose d full l with
    | none => []
    | some s => s.i :: sched full f (Nat.lor d (2 ^ s.i)) (without s.i l)

def dstIn (j : LOper I S) (l : List Nat) : Bool := match j.dst with
  | none => false
  | some d => memN d l
def sameDst (s j : LOper I S) : Bool := match s.dst, j.dst with
  | some a, some b => Nat.beq a b
  | _, _ => false
def imp (a b : Bool) : Bool := cond a b true
/-- Whom must this one wait for? -/
def need : Cls → Cls → Bool
  | .r, .a => true | .r, .e => true | .e, .a => true | .e, .e => true | _, _ => false
/-- May s come behind j? -/
def pairOk (s j : SOp I S) : Bool :=
  !(Nat.beq j.i s.i) && imp (need s.cls j.cls || dstIn j.op s.op.slots || dstIn s.op j.op.slots) (bit s.ahead j.i) && !(sameDst s.op j.op)
def readsOf (m : Nat) : List (SOp I S) → List (SOp I S)
  | [] => []
  | s :: r => match s.cls with
    | .r => cond (bit m s.i) (readsOf m r) (s :: readsOf m r)
    | _ => readsOf m r
def rereads (s : SOp I S) (done : List (SOp I S)) : List (SOp I S) := match s.cls with
  | .e => readsOf s.ahead done
  | _ => []
def allB {α : Type} (p : α → Bool) : List α → Bool
  | [] => true
  | x :: r => p x && allB p r
def againOk (l : List (SOp I S)) (r : SOp I S) : Bool := allB (fun j => imp (dstIn j.op r.op.slots) (bit r.ahead j.i)) l
def dstLt (n : Nat) (o : LOper I S) : Bool := match o.dst with
  | none => true
  | some d => Nat.blt d n
def opsOf : List (SOp I S) → List (LOper I S)
  | [] => []
  | s :: r => s.op :: opsOf r
def annot (full ntm : Nat) (tab : Nat → Option (SOp I S)) : List Nat → Nat → List (SOp I S) → Option (List (LItem I S))
  | [], d, _ => cond (Nat.beq d full) (some []) none
  | i :: rest, d, done => (tab i).bind fun s => cond (within s.ahead d && allB (pairOk s) done && dstLt ntm s.op && allB (againOk (s :: done)) (rereads s done))
      ((annot full ntm tab rest (Nat.lor d (2 ^ i)) (s :: done)).bind fun l => some (⟨s.op, opsOf (rereads s done)⟩ :: l)) none
def trOpers (ops : Array Oper) : List Oper → Option (List (LOper I S))
  | [] => some []
  | o :: r => (trOper D ty ops o).bind fun x => (trOpers ops r).bind fun l => some (x :: l)
def plain (l : List (LOper I S)) : List (LItem I S) := match l with
  | [] => []
  | o :: r => ⟨o, []⟩ :: plain r
def trReg (ntm : Nat) (ops : Array Oper) (draw : Bool) : Option (List (LItem I S)) := (trOpers D ty ops ops.toList).bind fun l =>
  cond draw (annot (2 ^ ops.size - 1) ntm (entry l (Region.before ops).toList) (sched (2 ^ ops.size - 1) ops.size 0 (sops 0 l (Region.before ops).toList)) 0 [])
    (cond (allB (dstLt ntm) l) (some (plain l)) none)
def trCode (ntm : Nat) (inr : Bool) : Code → LCode I S
  | .skip => .skip
  | .region _ ops draw => match trReg D ty ntm ops draw with
    | some is => .region is
    | none => .no
  | .seq a b => .seq (trCode ntm inr a) (trCode ntm inr b)
  | .cond c a b => match trA D c with
    | some c => .cond c (trCode ntm inr a) (trCode ntm inr b)
    | none => .no
  | .block id a => .block id (trCode ntm inr a)
  | .loop a => .loop (trCode ntm inr a)
  | .exit id => .exit id
  | .ret => .ret
  | .rangeFunc g ps a c => cond inr .no (match trA D g with
    | some g => cond (allB (fun p => Nat.blt p ntm) ps.toList) (.rangef g ps.toList (trCode ntm true a) (trCode ntm true c)) .no
    | none => .no)
  | _ => .no
def trRes : List ResultVar → Option (List LRes)
  | [] => some []
  | .tmp t :: r => (trRes r).bind fun l => some (.tmp t :: l)
  | .cell a t :: r => (ty t).bind fun i => (trRes r).bind fun l => some (.cell a i.agg i.size :: l)
def trFunc (fn : Func) : Option (LFunc I S) := fn.body.bind fun c => (trRes ty fn.results.toList).bind fun rs => some { ntmps := fn.ntmps, results := rs, body := trCode D ty fn.ntmps false c }
end tr

section
variable {I S : Type} {P : Program} {γ : I → Int} {σ : Sg I S} {D : Dom I S} {ty : Nat → Option (TyI I S)} {φ φ' : Phi} {K K' : Nat → Prop} {w w' : World} {cf : CallF I S}

theorem trOpers_get {ops : Array Oper} : ∀ {l : List Oper} {r : List (LOper I S)}, trOpers D ty ops l = some r → r.length = l.length ∧ ∀ (i : Nat) (lo : LOper I S), r[i]? = some lo → ∃ o, l[i]? = some o ∧ trOper D ty ops o = some lo
  | [], r, h => by simp [trOpers] at h; subst h; simp
  | x :: l, r, h => by
    simp only [trOpers, Option.bind_eq_some_iff, Option.some.injEq] at h
    obtain ⟨y, h1, r', h2, rfl⟩ := h
    obtain ⟨h3, h4⟩ := trOpers_get h2
    refine ⟨by simp [h3], fun i lo hi => ?_⟩
    cases i with
    | zero => simp at hi; subst hi; exact ⟨x, by simp, h1⟩
    | succ i => simp at hi; simpa using h4 i lo hi
theorem allB_mem {α : Type} {p : α → Bool} : ∀ {l : List α}, allB p l = true → ∀ x ∈ l, p x = true
  | [], _, x, hx => by cases hx
  | y :: l, h, x, hx => by
    simp only [allB, Bool.and_eq_true] at h
    cases hx with
    | head => exact h.1
    | tail _ hx => exact allB_mem h.2 x hx

theorem Act.put_size (a : Act) (d : Option Tmp) (v : Value) : (a.put d v).tmps.size = a.tmps.size := by cases d <;> simp [Act.put]
theorem Act.put_defers' (a : Act) (d : Option Tmp) (v : Value) : (a.put d v).defers = a.defers := by cases d <;> simp [Act.put]

theorem ERelE.put {e : Env I S} {a : Act} (h : ERelE γ σ φ K e.get a.tmps) {d : Option Nat} (hd : ∀ t, d = some t → t < a.tmps.size) {v : LV I S} {v' : Value} (hv : VRel γ σ φ K v v') :
    ERelE γ σ φ K (put e d v).get (a.put d v').tmps := by
  cases d with
  | none => exact h
  | some d => exact h.set (hd d rfl) hv fun t => Tr.get_set e d t v

/-- One operation in its turn. -/
theorem oper_wp {F : Fence} (hF : Wide F) {n0 : Nat} (hcf : CallOk P γ σ cf) (hD : D.Ok γ σ) (hty : Tys P γ σ ty) {ops : Array Oper} {i : Nat} {o : Oper} (ho : ops[i]? = some o) {lo : LOper I S} (ht : trOper D ty ops o = some lo) {a : Act} (hd : dstLt a.tmps.size lo = true)
    {e e' : Env I S} {h h' : H I S} (he : ERelE γ σ φ h.ids e.get a.tmps) (hr : Rel γ σ φ h w) (hv : oper D cf e h lo = some (e', h')) {X : Act → World → Prop} {Q : Exit → Act → World → Prop}
    (hX : ∀ φ' a' w', ERelE γ σ φ' h'.ids e'.get a'.tmps → Rel γ σ φ' h' w' → Goes φ h.ids h.t.get w φ' h'.ids h'.t.get w' → a'.tmps.size = a.tmps.size → a'.defers = a.defers → X a' w') : wpOpL F n0 P ops Q i X a w := by
  obtain ⟨h1, h2, h3⟩ := trOper_eq ht
  have hlt : ∀ t, o.dst = some t → t < a.tmps.size := fun t he => by
    unfold dstLt at hd
    rw [h2, he] at hd
    simpa [Nat.blt_eq] using hd
  simp only [oper, Option.bind_eq_some_iff] at hv
  obtain ⟨b, hb, hv⟩ := hv
  have hw := wanted_sound ht he hb
  unfold wpOpL
  simp only [ho, hw]
  cases b
  · simp only [cond_false, Option.some.injEq, Prod.mk.injEq] at hv
    obtain ⟨rfl, rfl⟩ := hv
    simp only [Bool.false_eq_true, if_false]
    rw [h2] at hX
    exact hX φ _ _ (he.put hlt .und) hr (Goes.refl _ _ _ _) (Act.put_size _ _ _) (Act.put_defers' _ _ _)
  · simp only [cond_true, Option.bind_eq_some_iff, Option.some.injEq, Prod.mk.injEq] at hv
    obtain ⟨⟨v, h''⟩, hs, rfl, rfl⟩ := hv
    simp only [if_true]
    rw [h2] at hX
    cases hop : lo.op with
    | p x =>
      rw [hop] at h1 hs
      simp only [step, Option.bind_eq_some_iff, Option.some.injEq, Prod.mk.injEq] at hs
      obtain ⟨v1, hs, rfl, rfl⟩ := hs
      obtain ⟨v', hrun, hrel⟩ := pSound hD hty h1 he hs
      refine wpIn_of_wp hF (trOp_defer h1) ?_
      unfold Oper.wp
      rw [hrun w]
      exact hX φ _ _ (he.put hlt hrel) hr (Goes.refl _ _ _ _) (Act.put_size _ _ _) (Act.put_defers' _ _ _)
    | r x =>
      rw [hop] at h1 hs
      simp only [step, Option.bind_eq_some_iff, Option.some.injEq, Prod.mk.injEq] at hs
      obtain ⟨v1, hs, rfl, rfl⟩ := hs
      obtain ⟨v', hrun, hrel⟩ := rSound hD hty h1 he hr hs
      refine wpIn_of_wp hF (trOp_defer h1) ?_
      unfold Oper.wp
      rw [hrun]
      exact hX φ _ _ (he.put hlt hrel) hr (Goes.refl _ _ _ _) (Act.put_size _ _ _) (Act.put_defers' _ _ _)
    | a x =>
      rw [hop] at h1 hs
      simp only [step, Option.bind_eq_some_iff, Option.some.injEq, Prod.mk.injEq] at hs
      obtain ⟨r, hs, rfl, rfl⟩ := hs
      obtain ⟨robj, v', w1, room, hrun, hheap, hos, htape, hout, hlive, hall⟩ := aSound (w := w) hD hty h1 he hs
      have hnew : ¬ h.ids h.next := Nat.lt_irrefl _
      have hput : ∀ c, h.ids c → (φ.put h.next ⟨w.heap.size, 0, room⟩) c = φ c := fun c hc => Phi.put_ne (fun e => hnew (e ▸ hc))
      have hinst := hall (φ.put h.next ⟨w.heap.size, 0, room⟩) (newB h r.2).ids h.next (fun c hc => Nat.lt_succ_of_lt hc) hput (Nat.lt_succ_self _) Phi.put_same
      have hpush := hr.push hnew (K' := (newB h r.2).ids) (fun c hc => Nat.lt_succ_of_lt hc) (Nat.lt_succ_self _) hheap hos htape hout (by
        have := hinst.2 w1 (by rw [hheap]; simp)
        rwa [Phi.put_same] at this)
      have hget : (newB h r.2).t.get = fun m => if m = h.next then some r.2 else h.t.get m := get_set' h.t h.next r.2
      refine wpIn_of_wp hF (trOp_defer h1) ?_
      unfold Oper.wp
      rw [hrun]
      refine hX (φ.put h.next ⟨w.heap.size, 0, room⟩) _ _ (ERelE.put (he.mono (fun c hc => Nat.lt_succ_of_lt hc) hput) hlt hinst.1) ?_ ?_ (Act.put_size _ _ _) (Act.put_defers' _ _ _)
      · rw [Rel, hget]; exact hpush.1
      · rw [hget]; exact hpush.2
    | e x =>
      rw [hop] at h1 hs
      refine actSound hF hcf hD hty rfl h1 he hr hs fun v' w' hp => ?_
      obtain ⟨φ', hp1, hp2, hp3⟩ := hp
      exact hX φ' _ _ (ERelE.put (he.mono hp3.le hp3.agree) hlt hp1) hp2 hp3 (Act.put_size _ _ _) (Act.put_defers' _ _ _)
    | call f args =>
      rw [hop] at h1 hs
      refine actSound hF hcf hD hty rfl h1 he hr hs fun v' w' hp => ?_
      obtain ⟨φ', hp1, hp2, hp3⟩ := hp
      exact hX φ' _ _ (ERelE.put (he.mono hp3.le hp3.agree) hlt hp1) hp2 hp3 (Act.put_size _ _ _) (Act.put_defers' _ _ _)

/-- A region in the text's order. -/
theorem text_wp {F : Fence} (hF : Wide F) {n0 : Nat} (hcf : CallOk P γ σ cf) (hD : D.Ok γ σ) (hty : Tys P γ σ ty) {ops : Array Oper} {l : List (LOper I S)} (hl : trOpers D ty ops ops.toList = some l) {Q : Exit → Act → World → Prop} :
    ∀ (m p : Nat) (φ : Phi) (a : Act) (w : World) (e e' : Env I S) (h h' : H I S), p + m = ops.size → allB (dstLt a.tmps.size) l = true → ERelE γ σ φ h.ids e.get a.tmps → Rel γ σ φ h w → items D cf (plain (l.drop p)) e h = some (e', h') →
      (∀ φ' a' w', ERelE γ σ φ' h'.ids e'.get a'.tmps → Rel γ σ φ' h' w' → Goes φ h.ids h.t.get w φ' h'.ids h'.t.get w' → a'.tmps.size = a.tmps.size → a'.defers = a.defers → Q .normal a' w') →
      wpOpsIn F n0 P ops Q (List.range' p m) a w := by
  obtain ⟨hlen, hget⟩ := trOpers_get hl
  have hlen' : l.length = ops.size := by simpa using hlen
  intro m
  induction m with
  | zero =>
    intro p φ a w e e' h h' hp hd he hr hi hQ
    rw [List.drop_of_length_le (by omega)] at hi
    simp only [plain, items, Option.some.injEq, Prod.mk.injEq] at hi
    obtain ⟨rfl, rfl⟩ := hi
    simp only [List.range'_zero, wpOpsIn]
    exact hQ φ a w he hr (Goes.refl _ _ _ _) rfl rfl
  | succ m ih =>
    intro p φ a w e e' h h' hp hd he hr hi hQ
    have hpl : p < l.length := by omega
    obtain ⟨o, ho, hto⟩ := hget p l[p] (by simp [hpl])
    rw [List.drop_eq_getElem_cons hpl] at hi
    simp only [plain, items, Option.bind_eq_some_iff, agains, cond_true] at hi
    obtain ⟨⟨e1, h1⟩, hi1, hi2⟩ := hi
    rw [List.range'_succ, wpOpsIn_cons]
    have ho' : ops[p]? = some o := by simpa using ho
    refine wpOpL.into hF (oper_wp hF hcf hD hty ho' hto (allB_mem hd _ (List.getElem_mem hpl)) he hr hi1 ?_)
    intro φ1 a1 w1 he1 hr1 hg1 hs1 hd1
    refine ih (p + 1) φ1 a1 w1 e1 e' h1 h' (by omega) (by rw [hs1]; exact hd) he1 hr1 hi2 fun φ2 a2 w2 he2 hr2 hg2 hs2 hd2 => ?_
    exact hQ φ2 a2 w2 he2 hr2 (Goes.trans hr.lt hr1.lt hg1 hg2) (hs2.trans hs1) (hd2.trans hd1)
end
end Go.Proofs.YtohmaikcmaapjaaGreat.LI
