/- Tables: types and functions of a program, as tries; what ties them to the program. -/
import Derived.Test.YtohmaikcmaapjaaGreatLCode
namespace Go.Proofs.YtohmaikcmaapjaaGreat.LI
namespace Tr
variable {α : Type}
/-- All that a trie holds; path: how a place in the subtree is numbered. -/
def toList (f : Nat → Nat) : Tr α → List (Nat × α)
  | .leaf => []
  | .node v l r => (match v with | none => [] | some a => [(f 0, a)]) ++ (toList (fun n => f (2 * n + 2)) l ++ toList (fun n => f (2 * n + 1)) r)
theorem mem_toList : ∀ (t : Tr α) (f : Nat → Nat) (n : Nat) (a : α), t.get n = some a → (f n, a) ∈ t.toList f
  | .leaf, f, n, a, h => by simp [get_leaf] at h
  | .node v l r, f, n, a, h => by
    unfold toList
    by_cases h0 : n = 0
    · subst h0
      simp only [get_node, Nat.beq_refl, cond_true] at h
      subst h; simp
    · have e0 : Nat.beq n 0 = false := beqF h0
      by_cases h2 : n % 2 = 0
      · have e2 : Nat.beq (n % 2) 0 = true := beqT h2
        simp only [get_node, e0, e2, cond_true, cond_false] at h
        have := mem_toList l (fun n => f (2 * n + 2)) _ a h
        have e : 2 * (n / 2 - 1) + 2 = n := by omega
        simp only [e] at this
        exact List.mem_append_right _ (List.mem_append_left _ this)
      · have e2 : Nat.beq (n % 2) 0 = false := beqF h2
        simp only [get_node, e0, e2, cond_false] at h
        have := mem_toList r (fun n => f (2 * n + 1)) _ a h
        have e : 2 * (n / 2) + 1 = n := by omega
        simp only [e] at this
        exact List.mem_append_right _ (List.mem_append_right _ this)
end Tr
variable {I S : Type}
section
variable (D : Dom I S)

def fieldRow : List Field → List (Nat × TypeId)
  | [] => []
  | f :: r => (f.offset, f.type) :: fieldRow r
def kindRow : TypeDesc → TK
  | .int k => .int k
  | .bool => .bool
  | .string => .str
  | .slice e => .slice e
  | .array n e => .arr n e
  | .map k e => .map k e
  | .struct fs => .struct (fieldRow fs.toList)
  | .pointer e => .ptr e
  | .func .. => .fn
  | _ => .other
/-- A type's own row; n: how many types there are. -/
def fieldsLt (n : Nat) : List Field → Bool
  | [] => true
  | f :: r => Nat.blt f.type n && fieldsLt n r
structure TRow where
  info : TypeInfo
  desc : TypeDesc
  flat : Bool
def mkTy (n : Nat) (r : TRow) : Option (TyI I S) := r.info.zero.bind fun z => (ofV D z).bind fun z => cond (Nat.beq (len? z.cells) r.info.size && allOne z.cells && (match r.desc with | .struct fs => fieldsLt n fs.toList | _ => true))
  (some ⟨r.info.size, r.info.bytes, aggD r.desc, z, kindRow r.desc, r.flat⟩) none
noncomputable def tyOf (n : Nat) (t : Tr TRow) (k : Nat) : Option (TyI I S) := (t.get k).bind (mkTy D n)
noncomputable def fnOf (ty : Nat → Option (TyI I S)) (t : Tr Func) (k : Nat) : Option (LFunc I S) := (t.get k).bind (trFunc D ty)
end

section
variable {P : Program} {γ : I → Int} {σ : Sg I S} {D : Dom I S}
theorem fieldRow_eq : ∀ (l : List Field), fieldRow l = l.map fun f => (f.offset, f.type)
  | [] => rfl
  | f :: l => by simp [fieldRow, fieldRow_eq l]
theorem fieldsLt_mem {n : Nat} : ∀ {l : List Field}, fieldsLt n l = true → ∀ f ∈ l, f.type < n
  | [], _, f, hf => by cases hf
  | x :: l, h, f, hf => by
    simp only [fieldsLt, Bool.and_eq_true] at h
    cases hf with
    | head => simpa [Nat.blt_eq] using h.1
    | tail _ hf => exact fieldsLt_mem h.2 f hf
theorem info_below {t : TypeId} (h : t < P.types.size) : P.info? t = P.types[t]? := by
  unfold Tables.info?
  rw [if_pos h]
/-- A row tied to the program. -/
def RowOk (P : Program) (t : Nat) (r : TRow) : Prop := P.types[t]? = some r.info ∧ P.underlying t = some r.desc ∧ (r.flat = true → FlatOk P t r.info.size)
theorem mkTy_ok (hD : D.Ok γ σ) {n : Nat} (hn : P.types.size = n) {t : Nat} {r : TRow} (h : RowOk P t r) {i : TyI I S} (hi : mkTy D n r = some i) : TyOk P γ σ t i := by
  simp only [mkTy, Option.bind_eq_some_iff] at hi
  obtain ⟨z, h1, z', h2, h3⟩ := hi
  obtain ⟨hc, h4⟩ := cond_some h3
  simp only [Bool.and_eq_true] at hc
  cases h4
  obtain ⟨q1, q2, q3⟩ := h
  refine ⟨r.info, r.desc, z, (info_below (Array.getElem?_eq_some_iff.1 q1).1).trans q1, q2, rfl, rfl, rfl, h1, fun φ K => ofV_sound hD h2, ?_, allOne_mem hc.1.2, ?_, q3⟩
  · have := Nat.eq_of_beq_eq_true hc.1.1
    rwa [len?_eq] at this
  · simp only
    cases hd : r.desc <;> simp only [kindRow, KOk]
    case struct fs =>
      refine ⟨fs, rfl, fieldRow_eq _, fun f hf => ?_⟩
      rw [hd] at hc
      have hlt : f.type < P.types.size := hn ▸ fieldsLt_mem hc.2 f hf
      rw [info_below hlt, Array.getElem?_eq_getElem hlt]; rfl
    case func a b c => exact ⟨a, b, c, rfl⟩
theorem tys_ok (hD : D.Ok γ σ) {n : Nat} (hn : P.types.size = n) {t : Tr TRow} {l : List (Nat × TRow)} (hl : t.toList id = l) (h : ∀ p ∈ l, RowOk P p.1 p.2) : Tys P γ σ (tyOf D n t) := by
  intro k i hi
  simp only [tyOf, Option.bind_eq_some_iff] at hi
  obtain ⟨r, h1, h2⟩ := hi
  have := Tr.mem_toList t id k r h1
  rw [hl] at this
  exact mkTy_ok hD hn (h _ this) h2
def FRowOk (P : Program) (k : Nat) (f : Func) : Prop := P.funcs[k]? = some f ∧ ∀ (args : Array Value) (w : World), (callFunc k args).run P w = .ok (.enter k args) w
theorem fns_ok {ty : Nat → Option (TyI I S)} {t : Tr Func} {l : List (Nat × Func)} (hl : t.toList id = l) (h : ∀ p ∈ l, FRowOk P p.1 p.2) : FnOk P D ty (fnOf D ty t) := by
  intro k lf hk
  simp only [fnOf, Option.bind_eq_some_iff] at hk
  obtain ⟨f, h1, h2⟩ := hk
  have := Tr.mem_toList t id k f h1
  rw [hl] at this
  exact ⟨f, (h _ this).1, (h _ this).2, h2⟩
/-- A struct's fields are integers, in their order. -/
def FlatL (P : Program) : Nat → List Field → Prop
  | _, [] => True
  | i, f :: r => f.offset = i ∧ (f.name == "_") = false ∧ (∃ k, P.underlying f.type = some (.int k)) ∧ FlatL P (i + 1) r
theorem FlatL.get : ∀ {l : List Field} {i : Nat}, FlatL P i l → ∀ (j : Nat) (f : Field), l[j]? = some f → f.name ≠ "_" ∧ f.offset = i + j ∧ ∃ k, P.underlying f.type = some (.int k)
  | [], i, _, j, f, hj => by simp at hj
  | x :: l, i, h, j, f, hj => by
    obtain ⟨h1, h2, h3, h4⟩ := h
    cases j with
    | zero => simp at hj; subst hj; exact ⟨by simpa using h2, h1, h3⟩
    | succ j =>
      obtain ⟨q1, q2, q3⟩ := FlatL.get h4 j f (by simpa using hj)
      exact ⟨q1, by omega, q3⟩
theorem flat_ok {t : TypeId} {fields : Array Field} (hu : P.underlying t = some (.struct fields)) (hs : P.stoodInHeld t = false) (hg : P.eqGuardType P.depth t = false) {n : Nat} (hn : fields.size = n) (h : FlatL P 0 fields.toList) : FlatOk P t n :=
  ⟨fields, hu, hn, hs, hg, fun i f hf => by
    obtain ⟨q1, q2, q3⟩ := h.get i f (by simpa using hf)
    exact ⟨q1, by omega, q3⟩⟩
end

/-- The integers themselves. -/
def intDom : Dom Int ByteArray where
  ofInt n := n
  toInt n := some n
  bin op k a b := goBin op k a b
  cmp op a b := goCmp op a b
  conv k a := some (k.wrap a)
  sOf s := s
  sLen s := s.size
  sCat a b := a ++ b
  sCut s l h := s.extract l h
  sAt s n := match s.data[n]? with | some b => Int.ofNat b.toNat | none => 0
  sEq a b := some (a.toList == b.toList)
  sMk l := ⟨(l.map fun n => UInt8.ofNat n.toNat).toArray⟩
theorem intDom_ok {tc : Nat → Code → LCode Int ByteArray → Prop} : intDom.Ok id ⟨id, tc⟩ where
  ofInt _ := rfl
  toInt i n h := by cases h; rfl
  bin op k a b c h := h
  cmp op a b t h := h
  conv k a c h := by cases h; rfl
  sOf _ := rfl
  sLen _ := rfl
  sCat _ _ := rfl
  sCut _ _ _ _ _ := rfl
  sAt s n h := by
    have h : n < s.size := h
    have : s.data[n]? = some s[n] := by
      rw [Array.getElem?_eq_getElem h]; rfl
    simp only [intDom, this]; rfl
  sEq a b t h := by cases h; rfl
  sMk _ := rfl
def tcOf {I S : Type} (D : Dom I S) (ty : Nat → Option (TyI I S)) : Nat → Code → LCode I S → Prop := fun ntm rc lc => lc = trCode D ty ntm true rc
theorem tcOf_ok {I S : Type} {D : Dom I S} {ty : Nat → Option (TyI I S)} {s : S → ByteArray} : TcOk D ty ⟨s, tcOf D ty⟩ := fun _ _ => ⟨rfl, fun _ h => h⟩
end Go.Proofs.YtohmaikcmaapjaaGreat.LI
