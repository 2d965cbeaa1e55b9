/- Each operation that asks its operands alone: what the interpreter says of it, the machine does. -/
import Derived.Test.YtohmaikcmaapjaaGreatLRel
import Derived.Test.YtohmaikcmaapjaaGreatLTr
import Derived.WalkKit
import Derived.Laws.StructEq
namespace Go.Proofs.YtohmaikcmaapjaaGreat.LI
variable {I S : Type}

/-- What a type's row says. -/
def KOk (P : Program) (d : TypeDesc) : TK → Prop
  | .int k => d = .int k
  | .bool => d = .bool
  | .str => d = .string
  | .slice e => d = .slice e
  | .arr n e => d = .array n e
  | .map k e => d = .map k e
  | .struct fs => ∃ fields : Array Field, d = .struct fields ∧ (fs = fields.toList.map fun f => (f.offset, f.type)) ∧ ∀ f ∈ fields.toList, (P.info? f.type).isSome = true
  | .ptr e => d = .pointer e
  | .fn => ∃ a b c, d = .func a b c
  | .other => True
def FlatOk (P : Program) (t : TypeId) (m : Nat) : Prop :=
  ∃ fields : Array Field, P.underlying t = some (.struct fields) ∧ fields.size = m ∧ P.stoodInHeld t = false ∧ P.eqGuardType P.depth t = false ∧
    ∀ (i : Nat) (f : Field), fields[i]? = some f → f.name ≠ "_" ∧ f.offset = i ∧ ∃ k, P.underlying f.type = some (.int k)
def aggD : TypeDesc → Bool
  | .struct _ => true
  | .array _ _ => true
  | _ => false
def TyOk (P : Program) (γ : I → Int) (σ : Sg I S) (t : TypeId) (i : TyI I S) : Prop :=
  ∃ info d z, P.info? t = some info ∧ P.underlying t = some d ∧ info.size = i.size ∧ info.bytes = i.bytes ∧ aggD d = i.agg ∧ info.zero = some z ∧
    (∀ φ K, VRel γ σ φ K i.zero z) ∧ i.zero.cells.length = i.size ∧ (∀ v ∈ i.zero.cells, one? v = true) ∧ KOk P d i.kind ∧ (i.flat = true → FlatOk P t i.size)

section
variable {P : Program} {γ : I → Int} {σ : Sg I S} {D : Dom I S} {ty : Nat → Option (TyI I S)} {φ : Phi} {K : Nat → Prop}

theorem TyOk.sizeOf {t : TypeId} {i : TyI I S} (h : TyOk P γ σ t i) (w : World) : (sizeOf t).run P w = .ok i.size w := by
  obtain ⟨info, d, z, h1, h2, h3, _⟩ := h
  simp [Go.sizeOf, typeInfo, h1, h3]
theorem TyOk.isAgg {t : TypeId} {i : TyI I S} (h : TyOk P γ σ t i) (w : World) : (isAgg t).run P w = .ok i.agg w := by
  obtain ⟨info, d, z, h1, h2, h3, h4, h5, _⟩ := h
  simp only [Go.isAgg, Sem.run_bind, run_underlying h2, Result.andThen_ok]
  rw [← h5]
  cases d <;> rfl
theorem TyOk.zeroValue {t : TypeId} {i : TyI I S} (h : TyOk P γ σ t i) : ∃ z, (∀ w, (zeroValue t).run P w = .ok z w) ∧ (∀ φ K, VRel γ σ φ K i.zero z) := by
  obtain ⟨info, d, z, h1, h2, h3, h4, h5, h6, h7, _⟩ := h
  exact ⟨z, fun w => by simp [Go.zeroValue, typeInfo, h1, h6], h7⟩
theorem TyOk.kind {t : TypeId} {i : TyI I S} (h : TyOk P γ σ t i) : ∃ d, P.underlying t = some d ∧ KOk P d i.kind := by
  obtain ⟨info, d, z, h1, h2, h3, h4, h5, h6, h7, h8, h9, h10, h11⟩ := h
  exact ⟨d, h2, h10⟩
abbrev Tys (P : Program) (γ : I → Int) (σ : Sg I S) (ty : Nat → Option (TyI I S)) : Prop := ∀ t i, ty t = some i → TyOk P γ σ t i
theorem kindAt_ok (hty : Tys P γ σ ty) {t : Nat} {k : TK} (h : kindAt ty t = k) (hk : k ≠ .other) : ∃ d, P.underlying t = some d ∧ KOk P d k := by
  unfold kindAt at h
  cases hi : ty t with
  | none => simp only [hi] at h; exact absurd h.symm hk
  | some i => simp only [hi] at h; subst h; exact (hty t i hi).kind

theorem ofV1_sound (hD : D.Ok γ σ) {v : Value} {x : LV I S} (h : ofV1 D v = some x) : VRel γ σ φ K x v := by
  unfold ofV1 at h
  split at h <;> cases h
  · exact .bool _
  · rename_i k m; have := VRel.int (γ := γ) (σ := σ) (φ := φ) (K := K) k (D.ofInt m); rw [hD.ofInt] at this; exact this
  · rename_i s; have := VRel.str (γ := γ) (σ := σ) (φ := φ) (K := K) (D.sOf s); rw [hD.sOf] at this; exact this
  · exact .nilp
  · exact .nils
  · exact .nilm
  · exact .nilf
theorem ofVs_sound (hD : D.Ok γ σ) : ∀ {l : List Value} {x : List (LV I S)}, ofVs D l = some x → VRels γ σ φ K x l
  | [], x, h => by cases h; exact .nil
  | v :: r, x, h => by
    simp only [ofVs, Option.bind_eq_some_iff] at h
    obtain ⟨a, h1, b, h2, h3⟩ := h
    cases h3
    exact .cons _ _ _ _ (ofV1_sound hD h1) (ofVs_sound hD h2)
theorem ofV_sound (hD : D.Ok γ σ) {v : Value} {x : LV I S} (h : ofV D v = some x) : VRel γ σ φ K x v := by
  unfold ofV at h
  split at h
  · simp only [Option.bind_eq_some_iff] at h
    obtain ⟨a, h1, h2⟩ := h
    cases h2
    exact .agg _ _ (ofVs_sound hD h1)
  · exact ofV1_sound hD h
theorem trA_sound (hD : D.Ok γ σ) {x : Operand} {y : LA I S} (h : trA D x = some y) {e : EnvF I S} {a : Act} (he : ERelE γ σ φ K e a.tmps) {v : LV I S} (hv : ev e y = some v) :
    VRel γ σ φ K v (a.eval x) := by
  cases x with
  | tmp t => cases h; exact he t v hv
  | const c =>
    simp only [trA, Option.bind_eq_some_iff] at h
    obtain ⟨z, h1, h2⟩ := h
    cases h2; cases hv
    exact ofV_sound hD h1
  | func f => cases h; cases hv; exact .func f [] [] #[] #[] .nil .nil
  | global g => cases h
theorem trAs_sound (hD : D.Ok γ σ) {e : EnvF I S} {a : Act} (he : ERelE γ σ φ K e a.tmps) : ∀ {l : List Operand} {m : List (LA I S)}, trAs D l = some m →
    ∀ {vs : List (LV I S)}, evs e m = some vs → VRels γ σ φ K vs (l.map a.eval)
  | [], m, h, vs, hv => by cases h; cases hv; exact .nil
  | x :: r, m, h, vs, hv => by
    simp only [trAs, Option.bind_eq_some_iff] at h
    obtain ⟨y, h1, m', h2, h3⟩ := h
    cases h3
    simp only [evs, Option.bind_eq_some_iff] at hv
    obtain ⟨v, h4, vs', h5, h6⟩ := hv
    cases h6
    exact .cons _ _ _ _ (trA_sound hD h1 he h4) (trAs_sound hD he h2 h5)
inductive OptRel (γ : I → Int) (σ : Sg I S) (φ : Phi) (K : Nat → Prop) : Option (LV I S) → Option Value → Prop
  | none : OptRel γ σ φ K none none
  | some (v : LV I S) (v' : Value) : VRel γ σ φ K v v' → OptRel γ σ φ K (some v) (some v')
theorem trO_sound (hD : D.Ok γ σ) {x : Option Operand} {y : Option (LA I S)} (h : trO D x = some y) {e : EnvF I S} {a : Act} (he : ERelE γ σ φ K e a.tmps) {v : Option (LV I S)} (hv : evo e y = some v) :
    OptRel γ σ φ K v (x.map a.eval) := by
  cases x with
  | none => cases h; cases hv; exact .none
  | some x =>
    simp only [trO, Option.bind_eq_some_iff] at h
    obtain ⟨y', h1, h2⟩ := h
    cases h2
    simp only [evo, Option.bind_eq_some_iff] at hv
    obtain ⟨v', h3, h4⟩ := hv
    cases h4
    exact .some _ _ (trA_sound hD h1 he h3)

theorem nat?_sound (hD : D.Ok γ σ) {v : LV I S} {v' : Value} {m : Nat} (h : nat? D v = some m) (hr : VRel γ σ φ K v v') : ∃ k, v' = .int k (m : Int) := by
  cases hr <;> simp only [nat?, reduceCtorEq] at h
  rename_i k i
  split at h
  · rename_i m' hm
    cases h
    exact ⟨k, by rw [hD.toInt _ _ hm]; rfl⟩
  · cases h
theorem kindEq_eq {k k' : IntKind} (h : kindEq k k' = true) : k = k' := by cases k <;> cases k' <;> simp_all [kindEq]

theorem len?_eq (l : List (LV I S)) : len? l = l.length := by
  induction l with
  | nil => rfl
  | cons _ _ ih => simp [len?, ih]
theorem at?_eq (l : List (LV I S)) : ∀ i, at? l i = l[i]? := by
  induction l with
  | nil => intro i; rfl
  | cons x l ih => intro i; cases i with
      | zero => rfl
      | succ i => simp [at?, ih]
theorem cut_eq : ∀ (l : List (LV I S)) (o m : Nat) (r : List (LV I S)), cut l o m = some r → r = (l.drop o).take m ∧ o + m ≤ l.length
  | l, 0, 0, r, h => by cases l <;> (cases h; simp)
  | [], o + 1, m, r, h => by cases m <;> cases h
  | [], 0, m + 1, r, h => by cases h
  | x :: l, 0, m + 1, r, h => by
    simp only [cut, Option.bind_eq_some_iff] at h
    obtain ⟨r', h1, h2⟩ := h
    cases h2
    obtain ⟨e, hl⟩ := cut_eq l 0 m r' h1
    subst e
    exact ⟨by simp, by simp; omega⟩
  | x :: l, o + 1, m, r, h => by
    have h' : cut l o m = some r := by cases m <;> exact h
    obtain ⟨e, hl⟩ := cut_eq l o m r h'
    subst e
    exact ⟨by simp, by simp; omega⟩
theorem over_eq : ∀ (l : List (LV I S)) (o : Nat) (vs r : List (LV I S)), over l o vs = some r → r = l.take o ++ vs ++ l.drop (o + vs.length) ∧ o + vs.length ≤ l.length
  | l, 0, [], r, h => by cases l <;> (cases h; simp)
  | [], o + 1, vs, r, h => by cases vs <;> cases h
  | [], 0, v :: vs, r, h => by cases h
  | x :: l, 0, v :: vs, r, h => by
    simp only [over, Option.bind_eq_some_iff] at h
    obtain ⟨r', h1, h2⟩ := h
    cases h2
    obtain ⟨e, hl⟩ := over_eq l 0 vs r' h1
    subst e
    exact ⟨by simp, by simp at hl ⊢; omega⟩
  | x :: l, o + 1, vs, r, h => by
    have h' : (over l o vs).bind (fun r => some (x :: r)) = some r := by cases vs <;> exact h
    simp only [Option.bind_eq_some_iff] at h'
    obtain ⟨r', h1, h2⟩ := h'
    cases h2
    obtain ⟨e, hl⟩ := over_eq l o vs r' h1
    subst e
    refine ⟨?_, by simp; omega⟩
    rw [show o + 1 + vs.length = (o + vs.length) + 1 by omega]
    simp

theorem run_int (op : BinOp) (t : TypeId) (k : IntKind) (a b c : Int) (h : goBin op k a b = some c) (w : World) (x y : Operand) :
    (do eqGuard op t x y (.int k a) (.int k b); binOp op t (.int k a) (.int k b) : Sem Value).run P w = .ok (.int k c) w := by
  cases op <;> simp only [goBin, reduceCtorEq] at h
  case quo => split at h <;> cases h; rename_i hb; simp [eqGuard, binOp, Op.intDiv, hb]
  case rem => split at h <;> cases h; rename_i hb; simp [eqGuard, binOp, Op.intDiv, hb]
  case shl => split at h <;> cases h; rename_i hb; simp [eqGuard, binOp, Op.shift, hb]
  case shr => split at h <;> cases h; rename_i hb; simp [eqGuard, binOp, Op.shift, hb]
  all_goals (cases h; simp [eqGuard, binOp, Op.intArith, Op.intBits])
theorem run_shift (op : BinOp) (t : TypeId) (k k' : IntKind) (a b c : Int) (hs : isShift op = true) (h : goBin op k a b = some c) (w : World) (x y : Operand) :
    (do eqGuard op t x y (.int k a) (.int k' b); binOp op t (.int k a) (.int k' b) : Sem Value).run P w = .ok (.int k c) w := by
  cases op <;> simp only [isShift, reduceCtorEq] at hs
  case shl => simp only [goBin] at h; split at h <;> cases h; rename_i hb; simp [eqGuard, binOp, Op.shift, hb]
  case shr => simp only [goBin] at h; split at h <;> cases h; rename_i hb; simp [eqGuard, binOp, Op.shift, hb]
theorem run_cmp (op : BinOp) (t : TypeId) (k : IntKind) (a b : Int) (c : Bool) (h : goCmp op a b = some c) (w : World) (x y : Operand) :
    (do eqGuard op t x y (.int k a) (.int k b); binOp op t (.int k a) (.int k b) : Sem Value).run P w = .ok (.bool c) w := by
  cases op <;> simp only [goCmp, reduceCtorEq] at h
  all_goals (cases h; simp [eqGuard, binOp, Op.intCmp])

theorem binV_sound (hD : D.Ok γ σ) {op : BinOp} {v u r : LV I S} (h : binV D op v u = some r) {v' u' : Value} (hv : VRel γ σ φ K v v') (hu : VRel γ σ φ K u u') (t : TypeId) (x y : Operand) :
    ∃ r', (∀ w, (do eqGuard op t x y v' u'; binOp op t v' u' : Sem Value).run P w = .ok r' w) ∧ VRel γ σ φ K r r' := by
  cases hv <;> cases hu <;> simp only [binV, reduceCtorEq] at h
  case int.int k a k' b =>
    cases hc : isCmp op
    · simp only [hc, cond_false] at h
      cases hs : (isShift op || kindEq k k')
      · simp only [hs, cond_false, reduceCtorEq] at h
      · simp only [hs, cond_true, Option.bind_eq_some_iff] at h
        obtain ⟨c, h1, h2⟩ := h
        cases h2
        have h3 := hD.bin _ _ _ _ _ h1
        refine ⟨.int k (γ c), fun w => ?_, .int _ _⟩
        cases hh : isShift op
        · simp only [hh, Bool.false_or] at hs
          cases kindEq_eq hs
          exact run_int op t k _ _ _ h3 w x y
        · exact run_shift op t k k' _ _ _ hh h3 w x y
    · simp only [hc, cond_true] at h
      cases hs : kindEq k k'
      · simp only [hs, cond_false, reduceCtorEq] at h
      · simp only [hs, cond_true, Option.bind_eq_some_iff] at h
        obtain ⟨c, h1, h2⟩ := h
        cases h2
        cases kindEq_eq hs
        exact ⟨.bool c, fun w => run_cmp op t k _ _ _ (hD.cmp _ _ _ _ h1) w x y, .bool _⟩
  case str.str a b =>
    cases op <;> simp only [reduceCtorEq] at h
    case add =>
      cases hb : Nat.ble (D.sLen a + D.sLen b) big
      · simp only [hb, cond_false, reduceCtorEq] at h
      · simp only [hb, cond_true] at h
        cases h
        have hle := Nat.le_of_ble_eq_true hb
        refine ⟨.string (σ a ++ σ b), fun w => ?_, by rw [← hD.sCat]; exact .str _⟩
        have hl : ¬ (((σ a).size + (σ b).size : Nat) : Int) > IntKind.i64.max := by
          rw [hD.sLen, hD.sLen]
          simp only [big] at hle
          simp [IntKind.max, IntKind.signed, IntKind.bits]
          omega
        simp only [eqGuard, binOp, Op.stringOp, Sem.run_bind, Sem.run_pure, Result.andThen_ok]
        simp only [hl, if_false]
        simp
    case eql =>
      simp only [Option.bind_eq_some_iff] at h
      obtain ⟨c, h1, h2⟩ := h
      cases h2
      exact ⟨.bool c, fun w => by simp [eqGuard, binOp, Op.stringOp, hD.sEq _ _ _ h1], .bool _⟩
    case neq =>
      simp only [Option.bind_eq_some_iff] at h
      obtain ⟨c, h1, h2⟩ := h
      cases h2
      exact ⟨.bool (!c), fun w => by simp [eqGuard, binOp, Op.stringOp, ← hD.sEq _ _ _ h1], .bool _⟩

theorem sameInts_sound (hD : D.Ok γ σ) : ∀ {a b : List (LV I S)} {t : Bool}, sameInts D a b = some t → ∀ {a' b' : List Value}, VRels γ σ φ K a a' → VRels γ σ φ K b b' →
    a.length = b.length ∨ t = false → ∀ (d : Nat) (xs ys : Array Value) (fs : List Field) (o : Nat), (∀ (i : Nat) (f : Field), fs[i]? = some f → f.name ≠ "_" ∧ f.offset = o + i ∧ ∃ k, P.underlying f.type = some (.int k)) →
      (∀ i, a'[i]? = xs[o + i]?) → (∀ i, b'[i]? = ys[o + i]?) → fs.length = a.length → fs.length = b.length → ∀ w, (Op.eqFields (d + 1) xs ys fs).run P w = .ok t w
  | [], [], t, h, a', b', ha, hb, _, d, xs, ys, fs, o, hf, hx, hy, hl, _, w => by
    cases h
    have : fs = [] := List.eq_nil_of_length_eq_zero hl
    subst this
    simp [Op.eqFields]
  | x :: a, y :: b, t, h, a', b', ha, hb, hlen, d, xs, ys, fs, o, hf, hx, hy, hl, hl', w => by
    cases ha with
    | cons _ x' _ a' h1 h2 =>
    cases hb with
    | cons _ y' _ b' h3 h4 =>
    cases fs with
    | nil => simp at hl
    | cons f fs =>
    obtain ⟨hn, ho, k0, hk⟩ := hf 0 f rfl
    have hx0 := hx 0
    have hy0 := hy 0
    simp only [List.getElem?_cons_zero, Nat.add_zero] at hx0 hy0 ho
    have hp : ∀ (zs : Array Value) (z : Value), some z = zs[o]? → (part f.type zs f.offset).run P w = .ok z w := by
      intro zs z hz
      simp [part, isAgg, run_underlying hk, ho, ← hz]
    cases h1 <;> cases h3 <;> simp only [sameInts, reduceCtorEq] at h
    rename_i k i k' i'
    cases hkk : kindEq k k'
    · simp only [hkk, cond_false, reduceCtorEq] at h
    · simp only [hkk, cond_true, Option.bind_eq_some_iff] at h
      obtain ⟨c, h5, h6⟩ := h
      cases kindEq_eq hkk
      have h7 := hD.cmp _ _ _ _ h5
      simp only [goCmp, Option.some.injEq] at h7
      simp only [Op.eqFields, hn, ne_eq, not_false_eq_true, if_true, Sem.run_bind, hp xs _ hx0, hp ys _ hy0, Result.andThen_ok, run_equalIn_int w d f.type k k0 _ _ hk]
      cases c
      · simp only [cond_false] at h6
        cases h6
        simp [h7]
      · simp only [cond_true] at h6
        simp only [h7, Bool.not_true, Bool.false_eq_true, if_false]
        refine sameInts_sound hD h6 h2 h4 (hlen.imp (fun e => by simpa using e) id) d xs ys fs (o + 1) ?_ ?_ ?_ (by simpa using hl) (by simpa using hl') w
        · intro i f' hf'
          obtain ⟨e1, e2, e3⟩ := hf (i + 1) f' (by simpa using hf')
          exact ⟨e1, by omega, e3⟩
        · intro i; have := hx (i + 1); simp only [List.getElem?_cons_succ] at this; rw [this]; congr 1; omega
        · intro i; have := hy (i + 1); simp only [List.getElem?_cons_succ] at this; rw [this]; congr 1; omega
  | [], _ :: _, _, h, _, _, _, _, _, _, _, _, _, _, _, _, _, _, _, _ => by simp [sameInts] at h
  | _ :: _, [], _, h, _, _, _, _, _, _, _, _, _, _, _, _, _, _, _, _ => by
    rename_i v _ _ _ _ _ _ _ _ _ _ _ _ _ _ _ _ _ _
    cases v <;> simp [sameInts] at h

/-- What a bound of a slice expression comes to. -/
def Bnd (P : Program) (x' : Option Value) (d y m : Nat) : Prop :=
  (x' = none ∧ m = d) ∨ (∃ v, x' = some v ∧ m ≤ y ∧ ∀ y', m ≤ y' → ∀ code w, (Instr.sliceBound v y' code).run P w = .ok m w)
theorem bnd_sound (hD : D.Ok γ σ) {x : Option (LV I S)} {x' : Option Value} (hr : OptRel γ σ φ K x x') {d y m : Nat} (h : bnd D x d y = some m) : Bnd P x' d y m := by
  cases hr with
  | none => simp only [LI.bnd, Option.some.injEq] at h; subst h; exact .inl ⟨rfl, rfl⟩
  | some v v' hv =>
    simp only [LI.bnd, Option.bind_eq_some_iff] at h
    obtain ⟨k, h1, h2⟩ := h
    obtain ⟨kk, rfl⟩ := nat?_sound hD h1 hv
    cases hb : Nat.ble k y
    · simp [hb] at h2
    · simp only [hb, cond_true, Option.some.injEq] at h2
      subst h2
      have := Nat.le_of_ble_eq_true hb
      exact .inr ⟨_, rfl, this, fun y' hy code w => by simp [Instr.sliceBound, asIntOf, hy]⟩
theorem Bnd.le {x' : Option Value} {d y m : Nat} (h : Bnd P x' d y m) (hd : d ≤ y) : m ≤ y := by
  rcases h with ⟨_, e⟩ | ⟨_, _, e, _⟩ <;> omega

theorem add_zero' (a : Addr) : a.add 0 = a := by simp [Addr.add]
theorem add_at (b o k : Nat) : (⟨b, o, none⟩ : Addr).add k = ⟨b, o + k, none⟩ := by
  unfold Addr.add; split
  · simp [*]
  · rfl
/-- The three bounds of a slice expression. -/
theorem bounds_run {sl : Bool} {lo' hi' mx' : Option Value} {len cap l h m y0 y1 y2 : Nat} (hl : Bnd P lo' 0 y0 l) (hh : Bnd P hi' len y1 h) (hm : Bnd P mx' cap y2 m)
    (e1 : l ≤ h) (e2 : h ≤ m) (e3 : m ≤ cap) (hno : mx'.isSome = true → hi'.isSome = true) (w : World) :
    (Instr.sliceBounds sl len cap lo' hi' mx').run P w = .ok (l, h, m) w := by
  rcases hm with ⟨rfl, rfl⟩ | ⟨vm, rfl, hm1, hm2⟩ <;> rcases hh with ⟨rfl, rfl⟩ | ⟨vh, rfl, hh1, hh2⟩ <;> rcases hl with ⟨rfl, rfl⟩ | ⟨vl, rfl, hl1, hl2⟩ <;>
    simp_all [Instr.sliceBounds]

theorem slSl_sound (hD : D.Ok γ σ) {t e : TypeId} {sz : Nat} (ht : P.underlying t = some (.slice e)) (he : ∀ w, (Go.sizeOf e).run P w = .ok sz w) {v r : LV I S} {v' : Value} (hv : VRel γ σ φ K v v')
    {lo hi mx : Option (LV I S)} {lo' hi' mx' : Option Value} (hlo : OptRel γ σ φ K lo lo') (hhi : OptRel γ σ φ K hi hi') (hmx : OptRel γ σ φ K mx mx') (h : slSl D sz v lo hi mx = some r) :
    ∃ r', (∀ w, (Instr.sliceAt t v' lo' hi' mx').run P w = .ok r' w) ∧ VRel γ σ φ K r r' := by
  have hs1 : mx'.isSome = mx.isSome := by cases hmx <;> rfl
  have hs2 : hi'.isSome = hi.isSome := by cases hhi <;> rfl
  have run : ∀ (a : Option Addr) (len cap l h m : Nat), (∀ w, (Instr.sliceBounds true len cap lo' hi' mx').run P w = .ok (l, h, m) w) →
      ∀ w, (Instr.sliceAt t (.slice a len cap) lo' hi' mx').run P w = .ok (.slice (if m = l then a else a.map (·.add (l * sz))) (h - l) (m - l)) w := by
    intro a len cap l h m hb w
    simp [Instr.sliceAt, Instr.slice, run_underlying ht, he, hb]
  cases hv <;> simp only [slSl, reduceCtorEq] at h
  case nils =>
    cases hc : (mx.isSome && hi.isNone)
    · simp only [hc, cond_false, Option.bind_eq_some_iff] at h
      obtain ⟨m, h1, k, h2, l, h3, h4⟩ := h
      cases h4
      have b1 : Bnd P mx' 0 0 m := bnd_sound hD hmx h1
      have b2 : Bnd P hi' 0 0 k := bnd_sound hD hhi h2
      have b3 : Bnd P lo' 0 0 l := bnd_sound hD hlo h3
      have z1 := Nat.le_zero.1 (b1.le (Nat.le_refl _))
      have z2 := Nat.le_zero.1 (b2.le (Nat.le_refl _))
      have z3 := Nat.le_zero.1 (b3.le (Nat.le_refl _))
      subst z1; subst z2; subst z3
      refine ⟨.slice none 0 0, fun w => ?_, .nils⟩
      rw [run none 0 0 0 0 0 (bounds_run b3 b2 b1 (Nat.le_refl _) (Nat.le_refl _) (Nat.le_refl _) (by rw [hs1, hs2]; cases hi <;> simp_all))]
      simp
    · simp [hc] at h
  case empty a cap' =>
    cases hc : (mx.isSome && hi.isNone)
    · simp only [hc, cond_false, Option.bind_eq_some_iff] at h
      obtain ⟨m, h1, k, h2, l, h3, h4⟩ := h
      cases h4
      have b1 : Bnd P mx' 0 0 m := bnd_sound hD hmx h1
      have b2 : Bnd P hi' 0 0 k := bnd_sound hD hhi h2
      have b3 : Bnd P lo' 0 0 l := bnd_sound hD hlo h3
      have z1 := Nat.le_zero.1 (b1.le (Nat.le_refl _))
      have z2 := Nat.le_zero.1 (b2.le (Nat.le_refl _))
      have z3 := Nat.le_zero.1 (b3.le (Nat.le_refl _))
      subst z1; subst z2; subst z3
      -- the third bound in the machine's own: the whole capacity, or nothing
      rcases b1 with ⟨e1, -⟩ | ⟨vm, e1, -, hm⟩
      · refine ⟨.slice (some a) 0 cap', fun w => ?_, .empty _ _⟩
        rw [run (some a) 0 cap' 0 0 cap' (bounds_run b3 b2 (.inl ⟨e1, rfl⟩ : Bnd P mx' cap' 0 cap') (Nat.le_refl _) (Nat.zero_le _) (Nat.le_refl _) (by rw [hs1, hs2]; cases hi <;> simp_all))]
        simp [add_zero']
      · refine ⟨.slice (some a) 0 0, fun w => ?_, .empty _ _⟩
        rw [run (some a) 0 cap' 0 0 0 (bounds_run b3 b2 (.inr ⟨vm, e1, Nat.le_refl _, hm⟩ : Bnd P mx' cap' 0 0) (Nat.le_refl _) (Nat.le_refl _) (Nat.zero_le _) (by rw [hs1, hs2]; cases hi <;> simp_all))]
        simp
    · simp [hc] at h
  case slice b o len cap ex sz' cap' hb h1 h2 h3 h4 =>
    cases hs : Nat.beq sz sz'
    · simp [hs] at h
    · cases Nat.eq_of_beq_eq_true hs
      simp only [hs, cond_true] at h
      cases hmx with
      | none =>
        simp only [Option.bind_eq_some_iff] at h
        obtain ⟨k, h5, l, h6, h7⟩ := h
        have b2 : Bnd P hi' len cap k := bnd_sound hD hhi h5
        have b3 : Bnd P lo' 0 k l := bnd_sound hD hlo h6
        have k1 := b2.le h1
        have k2 := b3.le (Nat.zero_le _)
        have hr := run (some ⟨(φ b).blk, (φ b).off + o, none⟩) len cap' l k cap' (bounds_run b3 b2 (.inl ⟨rfl, rfl⟩ : Bnd P none cap' 0 cap') k2 (by omega) (Nat.le_refl _) (fun h => by cases h))
        refine ⟨_, hr, ?_⟩
        cases hl0 : Nat.beq l 0
        · have hl0' : l ≠ 0 := fun e => by subst e; cases hl0
          simp only [hl0, cond_false] at h7
          cases hlc : Nat.blt l cap
          · have hlc' : l = cap := by
              rcases Nat.lt_or_ge l cap with g | g
              · rw [show Nat.blt l cap = true from Nat.ble_eq_true_of_le g] at hlc; cases hlc
              · omega
            simp only [hlc, cond_false] at h7
            cases ex
            · simp only [cond_false, Option.some.injEq] at h7
              subst h7
              have : k - l = 0 := by omega
              rw [this]
              split
              · exact .empty _ _
              · exact .empty _ _
            · simp only [cond_true, Option.some.injEq] at h7
              subst h7
              have hc' := h3 rfl
              subst hc'
              rw [if_pos hlc'.symm]
              exact .slice b o _ _ true sz _ hb (by omega) (Nat.le_refl _) (fun _ => rfl) (by rw [hlc']; simp; omega)
          · have hlc' : l < cap := Nat.le_of_ble_eq_true hlc
            simp only [hlc, cond_true, Option.some.injEq] at h7
            subst h7
            rw [if_neg (by omega)]
            simp only [Option.map_some, add_at]
            rw [Nat.add_assoc]
            refine .slice b _ _ _ ex sz _ hb (by omega) (by omega) (fun hx => by rw [h3 hx]) ?_
            have : l * sz + (cap' - l) * sz = cap' * sz := by rw [← Nat.add_mul]; congr 1; omega
            omega
        · cases Nat.eq_of_beq_eq_true hl0
          simp only [hl0, cond_true, Option.some.injEq] at h7
          subst h7
          have : (if cap' = 0 then some (⟨(φ b).blk, (φ b).off + o, none⟩ : Addr) else Option.map (fun x : Addr => x.add (0 * sz)) (some (⟨(φ b).blk, (φ b).off + o, none⟩ : Addr))) = some ⟨(φ b).blk, (φ b).off + o, none⟩ := by
            split
            · rfl
            · simp [add_zero']
          rw [this]
          exact .slice b o _ _ ex sz _ hb (by omega) (by omega) (fun hx => by rw [h3 hx]; rfl) (by simpa using h4)
      | some vm vm' hvm =>
        have h' := h
        simp only [Option.bind_eq_some_iff] at h'
        obtain ⟨m, h5, k, h6, l, h7, h8⟩ := h'
        cases hhi with
        | none => cases h6
        | some vh vh' hvh =>
          cases h8
          have b1 : Bnd P (some vm') cap cap m := bnd_sound hD (.some _ _ hvm) h5
          have b2 : Bnd P (some vh') len m k := bnd_sound hD (.some _ _ hvh) h6
          have b3 : Bnd P lo' 0 k l := bnd_sound hD hlo h7
          have k0 := b1.le (Nat.le_refl _)
          have k1 : k ≤ m := by rcases b2 with ⟨e, _⟩ | ⟨_, _, e, _⟩; cases e; exact e
          have k2 := b3.le (Nat.zero_le _)
          have b1' : Bnd P (some vm') cap' cap' m := by
            rcases b1 with ⟨e, _⟩ | ⟨v, e, e1, e2⟩
            · cases e
            · exact .inr ⟨v, e, by omega, e2⟩
          have hr := run (some ⟨(φ b).blk, (φ b).off + o, none⟩) len cap' l k m (bounds_run b3 b2 b1' k2 k1 (by omega) (fun _ => rfl))
          refine ⟨_, hr, ?_⟩
          cases hml : Nat.beq m l
          · have : m ≠ l := fun e => by subst e; rw [Nat.beq_refl] at hml; cases hml
            rw [if_neg this]
            simp only [Option.map_some, add_at, cond_false]
            rw [Nat.add_assoc]
            refine .slice b _ _ _ true sz _ hb (by omega) (Nat.le_refl _) (fun _ => rfl) ?_
            have : l * sz + (m - l) * sz ≤ cap' * sz := by rw [← Nat.add_mul]; exact Nat.mul_le_mul_right _ (by omega)
            omega
          · cases Nat.eq_of_beq_eq_true hml
            rw [if_pos rfl]
            simp only [cond_true]
            exact .slice b o _ _ true sz _ hb (by omega) (Nat.le_refl _) (fun _ => rfl) (by simp; omega)

theorem minmax_sound (hD : D.Ok γ σ) (bg : Bool) : ∀ {l : List (LV I S)} {x r : LV I S}, minmax D bg x l = some r → ∀ {x' : Value} {l' : List Value}, VRel γ σ φ K x x' → VRels γ σ φ K l l' →
    ∃ r', (∀ w, (l'.foldlM (if bg then Builtin.max2 else Builtin.min2) x').run P w = .ok r' w) ∧ VRel γ σ φ K r r'
  | [], x, r, h, x', l', hx, hl => by cases h; cases hl; exact ⟨x', fun w => rfl, hx⟩
  | y :: l, x, r, h, x', l', hx, hl => by
    cases hl with
    | cons _ y' _ l' h1 h2 =>
    cases hx <;> cases h1 <;> simp only [minmax, reduceCtorEq] at h
    rename_i k a k' b
    cases hk : kindEq k k'
    · simp [hk] at h
    · cases kindEq_eq hk
      simp only [hk, cond_true, Option.bind_eq_some_iff] at h
      obtain ⟨t, h3, h4⟩ := h
      have h5 := hD.cmp _ _ _ _ h3
      cases t
      · obtain ⟨r', h6, h7⟩ := minmax_sound hD bg h4 (.int k a) h2
        refine ⟨r', fun w => ?_, h7⟩
        rw [List.foldlM_cons, Sem.run_bind]
        cases bg
        · simp only [cond_false, goCmp, Option.some.injEq, decide_eq_false_iff_not] at h5
          simp only [Bool.false_eq_true, if_false, Builtin.min2, if_neg h5, Sem.run_pure, Result.andThen_ok]
          exact h6 w
        · simp only [cond_true, goCmp, Option.some.injEq, decide_eq_false_iff_not] at h5
          simp only [if_true, Builtin.max2, if_neg h5, Sem.run_pure, Result.andThen_ok]
          exact h6 w
      · obtain ⟨r', h6, h7⟩ := minmax_sound hD bg h4 (.int k b) h2
        refine ⟨r', fun w => ?_, h7⟩
        rw [List.foldlM_cons, Sem.run_bind]
        cases bg
        · simp only [cond_false, goCmp, Option.some.injEq, decide_eq_true_eq] at h5
          simp only [Bool.false_eq_true, if_false, Builtin.min2, if_pos h5, Sem.run_pure, Result.andThen_ok]
          exact h6 w
        · simp only [cond_true, goCmp, Option.some.injEq, decide_eq_true_eq] at h5
          simp only [if_true, Builtin.max2, if_pos h5, Sem.run_pure, Result.andThen_ok]
          exact h6 w

/-- A part of an aggregate, or a cell. -/
theorem pick2_sound {agg : Bool} {off m : Nat} {cs : List (LV I S)} {r : LV I S} (h : pick2 agg off m cs = some r) {cs' : List Value} (hr : VRels γ σ φ K cs cs') :
    (agg = true → off + m ≤ cs'.length ∧ ∃ l, r = .agg l ∧ VRels γ σ φ K l ((cs'.drop off).take m)) ∧ (agg = false → ∃ v', cs'[off]? = some v' ∧ VRel γ σ φ K r v') := by
  cases agg
  · simp only [pick2, cond_false, at?_eq] at h
    exact ⟨fun h => (by cases h), fun _ => hr.get h⟩
  · simp only [pick2, cond_true, Option.bind_eq_some_iff] at h
    obtain ⟨l, h1, h2⟩ := h
    cases h2
    obtain ⟨e, hl⟩ := cut_eq _ _ _ _ h1
    subst e
    exact ⟨fun _ => ⟨by rw [← hr.length]; exact hl, _, rfl, (hr.drop off).take m⟩, fun h => (by cases h)⟩
theorem part_run {t : TypeId} {i : TyI I S} (hi : TyOk P γ σ t i) {off : Nat} {cs : List (LV I S)} {r : LV I S} (h : pick2 i.agg off i.size cs = some r) {cs' : Array Value} (hr : VRels γ σ φ K cs cs'.toList) :
    ∃ r', (∀ w, (part t cs' off).run P w = .ok r' w) ∧ VRel γ σ φ K r r' := by
  obtain ⟨h1, h2⟩ := pick2_sound h hr
  cases ha : i.agg
  · obtain ⟨v', e, hv⟩ := h2 ha
    refine ⟨v', fun w => ?_, hv⟩
    have e' : cs'[off]? = some v' := by simpa using e
    simp [part, hi.isAgg, ha, e']
  · obtain ⟨hl, l, rfl, hv⟩ := h1 ha
    refine ⟨.agg (cs'.extract off (off + i.size)), fun w => ?_, .agg _ _ ?_⟩
    · simp [part, hi.isAgg, ha, hi.sizeOf]
    · have : (cs'.extract off (off + i.size)).toList = (cs'.toList.drop off).take i.size := by
        rw [Array.toList_extract]
        simp [List.extract, List.take_drop]
      rw [this]; exact hv

/-- Parts laid over cells. -/
theorem foldl_set (vs : List Value) : ∀ (k : Nat) (cs : Array Value) (off : Nat), off + k + vs.length ≤ cs.size →
    ((vs.zipIdx k).foldl (fun cs (x : Value × Nat) => cs.setIfInBounds (off + x.2) x.1) cs).toList = cs.toList.take (off + k) ++ vs ++ cs.toList.drop (off + k + vs.length) := by
  induction vs with
  | nil => intro k cs off _; simp
  | cons v vs ih =>
    intro k cs off h
    simp only [List.length_cons] at h
    rw [List.zipIdx_cons, List.foldl_cons, ih (k + 1) _ off (by simp; omega)]
    have e := list_seg_step cs.toList (off + k) v vs (by simp; omega)
    rw [Array.toList_setIfInBounds, show off + (k + 1) = off + k + 1 by omega]
    exact e
theorem fill_sound (place : Nat → Option (Nat × Nat)) : ∀ {ps : List (Nat × Nat × LV I S)} {cells r : List (LV I S)}, fill cells ps = some r → ∀ {cells' : Array Value} {ps' : List (Nat × Value)},
    VRels γ σ φ K cells cells'.toList → ps.length = ps'.length → (∀ (j o m : Nat) (v : LV I S), ps[j]? = some (o, m, v) → ∃ i v', ps'[j]? = some (i, v') ∧ place i = some (o, m) ∧ VRel γ σ φ K v v') →
    ∃ r' : Array Value, Instr.fill place cells' ps' = some r' ∧ VRels γ σ φ K r r'.toList
  | [], cells, r, h, cells', ps', hc, hl, hp => by
    cases h
    have : ps' = [] := List.eq_nil_of_length_eq_zero hl.symm
    subst this
    exact ⟨cells', rfl, hc⟩
  | (o, m, v) :: ps, cells, r, h, cells', ps', hc, hl, hp => by
    cases ps' with
    | nil => simp at hl
    | cons q ps' =>
    obtain ⟨i, v', e1, e2, hv⟩ := hp 0 o m v rfl
    simp only [List.getElem?_cons_zero, Option.some.injEq] at e1
    subst e1
    cases hm : Nat.beq (len? v.cells) m
    · simp [fill, hm] at h
    · have hm' := Nat.eq_of_beq_eq_true hm
      rw [len?_eq] at hm'
      simp only [fill, hm, cond_true, Option.bind_eq_some_iff] at h
      obtain ⟨c1, h1, h2⟩ := h
      obtain ⟨rfl, hle⟩ := over_eq _ _ _ _ h1
      have hvc := hv.cells
      have hsz : v'.cells.size = m := by rw [← hm', hvc.length]; simp
      have hcl := hc.length
      simp only [Array.length_toList] at hcl
      have hle' : o + v'.cells.size ≤ cells'.size := by rw [hsz, ← hcl, ← hm']; exact hle
      obtain ⟨r', h3, h4⟩ := fill_sound place h2 (cells' := ((v'.cells.toList.zipIdx 0).foldl (fun cs (x : Value × Nat) => cs.setIfInBounds (o + x.2) x.1) cells')) (ps' := ps') (by
          rw [foldl_set _ 0 _ _ (by simpa using hle')]
          refine ((hc.take _).append hvc).append ?_
          rw [hvc.length]
          have := hc.drop (o + v'.cells.toList.length)
          simpa using this) (by simpa using hl) (fun j o m v hj => hp (j + 1) o m v (by simpa using hj))
      refine ⟨r', ?_, h4⟩
      simp only [Instr.fill, e2, hsz]
      rw [if_neg (by simp; omega)]
      rw [← h3]
      congr 1
      rw [← Array.foldl_toList]
      congr 1
      simp [Array.toList_zipIdx]

theorem evParts_get : ∀ {ps : List (Nat × Nat × LA I S)} {e : EnvF I S} {vs : List (Nat × Nat × LV I S)}, evParts e ps = some vs → ps.length = vs.length ∧
    ∀ (j o m : Nat) (v : LV I S), vs[j]? = some (o, m, v) → ∃ x, ps[j]? = some (o, m, x) ∧ ev e x = some v
  | [], e, vs, h => by cases h; exact ⟨rfl, fun j o m v hj => by simp at hj⟩
  | (o, m, x) :: ps, e, vs, h => by
    simp only [evParts, Option.bind_eq_some_iff] at h
    obtain ⟨v, h1, vs', h2, h3⟩ := h
    cases h3
    obtain ⟨hl, hg⟩ := evParts_get h2
    refine ⟨by simp [hl], fun j o' m' v' hj => ?_⟩
    cases j with
    | zero => simp at hj; obtain ⟨rfl, rfl, rfl⟩ := hj; exact ⟨x, rfl, h1⟩
    | succ j => simp at hj; simpa using hg j o' m' v' hj
theorem trParts_get {place : Nat → Option (Nat × Nat)} : ∀ {l : List (Nat × Operand)} {ps : List (Nat × Nat × LA I S)}, trParts D place l = some ps → l.length = ps.length ∧
    ∀ (j o m : Nat) (x : LA I S), ps[j]? = some (o, m, x) → ∃ i y, l[j]? = some (i, y) ∧ place i = some (o, m) ∧ trA D y = some x
  | [], ps, h => by cases h; exact ⟨rfl, fun j o m v hj => by simp at hj⟩
  | (i, y) :: l, ps, h => by
    simp only [trParts, Option.bind_eq_some_iff] at h
    obtain ⟨p, h1, x, h2, ps', h3, h4⟩ := h
    cases h4
    obtain ⟨hl, hg⟩ := trParts_get h3
    refine ⟨by simp [hl], fun j o' m' v' hj => ?_⟩
    cases j with
    | zero => simp at hj; obtain ⟨rfl, rfl, rfl⟩ := hj; exact ⟨i, y, rfl, h1, h2⟩
    | succ j => simp at hj; simpa using hg j o' m' v' hj
/-- A literal's parts: both sides. -/
theorem parts_sound (hD : D.Ok γ σ) {place : Nat → Option (Nat × Nat)} {parts : Array (Nat × Operand)} {ps : List (Nat × Nat × LA I S)} (h : trParts D place parts.toList = some ps)
    {e : EnvF I S} {a : Act} (he : ERelE γ σ φ K e a.tmps) {vs : List (Nat × Nat × LV I S)} (hv : evParts e ps = some vs) {zero r : List (LV I S)} (hf : fill zero vs = some r) {zero' : Array Value} (hz : VRels γ σ φ K zero zero'.toList) :
    ∃ r' : Array Value, Instr.fill place zero' (parts.map fun (p : Nat × Operand) => (p.1, a.eval p.2)).toList = some r' ∧ VRels γ σ φ K r r'.toList := by
  obtain ⟨l1, g1⟩ := trParts_get h
  obtain ⟨l2, g2⟩ := evParts_get hv
  refine fill_sound place hf hz (by simp; simp at l1; omega) fun j o m v hj => ?_
  obtain ⟨x, hx, hxe⟩ := g2 j o m v hj
  obtain ⟨i, y, hy, hp, hyx⟩ := g1 j o m x hx
  refine ⟨i, a.eval y, ?_, hp, trA_sound hD hyx he hxe⟩
  rw [Array.toList_map, List.getElem?_map, hy]
  rfl
theorem nth_eq {α : Type} : ∀ (l : List α) (i : Nat), nth l i = l[i]?
  | [], _ => rfl
  | _ :: _, 0 => rfl
  | _ :: l, i + 1 => by simp [nth, nth_eq l i]
end
end Go.Proofs.YtohmaikcmaapjaaGreat.LI
