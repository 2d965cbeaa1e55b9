/- What a logical value, block, memory says of the machine's own. -/
import Derived.Test.YtohmaikcmaapjaaGreatLDef
import Derived.Orders
import Derived.Laws.AppendOwn
import Derived.Laws.MakeOwn
import Derived.Laws.BytesString
namespace Go.Proofs.YtohmaikcmaapjaaGreat.LI

theorem beqF {a b : Nat} (h : a ≠ b) : Nat.beq a b = false := by
  cases e : Nat.beq a b with
  | false => rfl
  | true => exact absurd (Nat.eq_of_beq_eq_true e) h
theorem beqT {a b : Nat} (h : a = b) : Nat.beq a b = true := by subst h; exact Nat.beq_refl a
namespace Tr
variable {α : Type}
theorem get_one (a : α) : ∀ (f n : Nat), n ≤ f → (one a f n).get n = some a := by
  intro f
  induction f with
  | zero => intro n h; obtain rfl : n = 0 := by omega
            simp [one_zero, one_succ, get_leaf, get_node]
  | succ f ih =>
    intro n h
    by_cases h0 : n = 0
    · subst h0; simp [one_zero, one_succ, get_leaf, get_node]
    · have e0 : Nat.beq n 0 = false := beqF h0
      by_cases h2 : n % 2 = 0
      · have e2 : Nat.beq (n % 2) 0 = true := beqT h2
        simp [one_zero, one_succ, get_leaf, get_node, e0, e2, ih (n / 2 - 1) (by omega)]
      · have e2 : Nat.beq (n % 2) 0 = false := beqF h2
        simp [one_zero, one_succ, get_leaf, get_node, e0, e2, ih (n / 2) (by omega)]
theorem get_one_ne (a : α) : ∀ (f n m : Nat), n ≤ f → m ≠ n → (one a f n).get m = none := by
  intro f
  induction f with
  | zero => intro n m h hne; obtain rfl : n = 0 := by omega
            have e : Nat.beq m 0 = false := beqF hne
            simp [one_zero, one_succ, get_leaf, get_node, e]
  | succ f ih =>
    intro n m h hne
    by_cases h0 : n = 0
    · subst h0
      have e : Nat.beq m 0 = false := beqF hne
      simp [one_zero, one_succ, get_leaf, get_node, e]
    · have e0 : Nat.beq n 0 = false := beqF h0
      by_cases m0 : m = 0
      · subst m0
        by_cases h2 : Nat.beq (n % 2) 0 <;> simp [one_zero, one_succ, get_leaf, get_node, e0, h2]
      have f0 : Nat.beq m 0 = false := beqF m0
      by_cases h2 : n % 2 = 0
      · have e2 : Nat.beq (n % 2) 0 = true := beqT h2
        by_cases m2 : m % 2 = 0
        · have f2 : Nat.beq (m % 2) 0 = true := beqT m2
          simp [one_zero, one_succ, get_leaf, get_node, e0, e2, f0, f2, ih (n / 2 - 1) (m / 2 - 1) (by omega) (by omega)]
        · have f2 : Nat.beq (m % 2) 0 = false := beqF m2
          simp [one_zero, one_succ, get_leaf, get_node, e0, e2, f0, f2]
      · have e2 : Nat.beq (n % 2) 0 = false := beqF h2
        by_cases m2 : m % 2 = 0
        · have f2 : Nat.beq (m % 2) 0 = true := beqT m2
          simp [one_zero, one_succ, get_leaf, get_node, e0, e2, f0, f2]
        · have f2 : Nat.beq (m % 2) 0 = false := beqF m2
          simp [one_zero, one_succ, get_leaf, get_node, e0, e2, f0, f2, ih (n / 2) (m / 2) (by omega) (by omega)]
theorem get_set (t : Tr α) : ∀ (n m : Nat) (a : α), (t.set n a).get m = if m = n then some a else t.get m := by
  induction t with
  | leaf =>
    intro n m a
    by_cases h : m = n
    · subst h; simp [set_leaf, set_node, get_one]
    · simp [set_leaf, set_node, get_one_ne a n n m (Nat.le_refl _) h, h, get_leaf, get_node]
  | node v l r ihl ihr =>
    intro n m a
    by_cases h0 : n = 0
    · subst h0
      by_cases m0 : m = 0
      · subst m0; simp [set_leaf, set_node, get_leaf, get_node]
      · have f0 : Nat.beq m 0 = false := beqF m0
        simp [set_leaf, set_node, get_leaf, get_node, f0, m0]
    · have e0 : Nat.beq n 0 = false := beqF h0
      by_cases m0 : m = 0
      · subst m0
        have : ¬ 0 = n := fun h => h0 h.symm
        by_cases h2 : Nat.beq (n % 2) 0 <;> simp [set_leaf, set_node, get_leaf, get_node, e0, h2, this]
      have f0 : Nat.beq m 0 = false := beqF m0
      by_cases h2 : n % 2 = 0
      · have e2 : Nat.beq (n % 2) 0 = true := beqT h2
        by_cases m2 : m % 2 = 0
        · have f2 : Nat.beq (m % 2) 0 = true := beqT m2
          have : (m / 2 - 1 = n / 2 - 1) = (m = n) := by apply propext; constructor <;> intro <;> omega
          simp [set_leaf, set_node, get_leaf, get_node, e0, e2, f0, f2, ihl, this]
        · have f2 : Nat.beq (m % 2) 0 = false := beqF m2
          have : ¬ m = n := by intro h; subst h; exact m2 h2
          simp [set_leaf, set_node, get_leaf, get_node, e0, e2, f0, f2, this]
      · have e2 : Nat.beq (n % 2) 0 = false := beqF h2
        by_cases m2 : m % 2 = 0
        · have f2 : Nat.beq (m % 2) 0 = true := beqT m2
          have : ¬ m = n := by intro h; subst h; exact h2 m2
          simp [set_leaf, set_node, get_leaf, get_node, e0, e2, f0, f2, this]
        · have f2 : Nat.beq (m % 2) 0 = false := beqF m2
          have : (m / 2 = n / 2) = (m = n) := by apply propext; constructor <;> intro <;> omega
          simp [set_leaf, set_node, get_leaf, get_node, e0, e2, f0, f2, ihr, this]
end Tr

variable {I S : Type}

/-- What texts stand for; which code of the interpreter's stands for the machine's. -/
structure Sg (I S : Type) where
  s : S → ByteArray
  tc : Nat → Code → LCode I S → Prop
instance : CoeFun (Sg I S) fun _ => S → ByteArray := ⟨Sg.s⟩

/-- What the numbers and texts stand for, and that the domain says so. -/
structure Dom.Ok (D : Dom I S) (γ : I → Int) (σ : Sg I S) : Prop where
  ofInt : ∀ n, γ (D.ofInt n) = n
  toInt : ∀ i n, D.toInt i = some n → γ i = n
  bin : ∀ op k a b c, D.bin op k a b = some c → goBin op k (γ a) (γ b) = some (γ c)
  cmp : ∀ op a b t, D.cmp op a b = some t → goCmp op (γ a) (γ b) = some t
  conv : ∀ k a c, D.conv k a = some c → γ c = k.wrap (γ a)
  sOf : ∀ s, σ (D.sOf s) = s
  sLen : ∀ s, (σ s).size = D.sLen s
  sCat : ∀ a b, σ (D.sCat a b) = σ a ++ σ b
  sCut : ∀ s l h, l ≤ h → h ≤ D.sLen s → σ (D.sCut s l h) = (σ s).extract l h
  sAt : ∀ s n (h : n < (σ s).size), γ (D.sAt s n) = (((σ s)[n]).toNat : Int)
  sEq : ∀ a b t, D.sEq a b = some t → ((σ a).toList == (σ b).toList) = t
  sMk : ∀ l, σ (D.sMk l) = ⟨(l.map fun i => UInt8.ofNat (γ i).toNat).toArray⟩

/-- Where a logical block lies: its machine block, from which cell on, how many cells. -/
structure Loc where
  blk : Nat
  off : Nat
  room : Nat
abbrev Phi := Nat → Loc

mutual
inductive VRel (γ : I → Int) (σ : Sg I S) (φ : Phi) (K : Nat → Prop) : LV I S → Value → Prop
  | und : VRel γ σ φ K .und undef
  | bool (b : Bool) : VRel γ σ φ K (.bool b) (.bool b)
  | int (k : IntKind) (i : I) : VRel γ σ φ K (.int k i) (.int k (γ i))
  | str (s : S) : VRel γ σ φ K (.str s) (.string (σ s))
  | nilp : VRel γ σ φ K .nilp (.pointer none)
  | ptr (b o : Nat) : K b → VRel γ σ φ K (.ptr b o) (.pointer (some ⟨(φ b).blk, (φ b).off + o, none⟩))
  | nils : VRel γ σ φ K .nils (.slice none 0 0)
  | slice (b o len cap : Nat) (ex : Bool) (sz cap' : Nat) : K b → len ≤ cap → cap ≤ cap' → (ex = true → cap' = cap) → o + cap' * sz ≤ (φ b).room →
      VRel γ σ φ K (.slice b o len cap ex sz) (.slice (some ⟨(φ b).blk, (φ b).off + o, none⟩) len cap')
  | empty (a : Addr) (cap' : Nat) : VRel γ σ φ K .empty (.slice (some a) 0 cap')
  | nilm : VRel γ σ φ K .nilm (.map none)
  | map (b : Nat) : K b → VRel γ σ φ K (.map b) (.map (some (φ b).blk))
  | nilf : VRel γ σ φ K .nilf .nilFunc
  | yield (b : Nat) : K b → VRel γ σ φ K (.yield b) (.func (.yield (φ b).blk) #[] #[])
  | func (f : Nat) (a c : List (LV I S)) (a' c' : Array Value) : VRels γ σ φ K a a'.toList → VRels γ σ φ K c c'.toList → VRel γ σ φ K (.func f a c) (.func (.func f) a' c')
  | agg (c : List (LV I S)) (c' : Array Value) : VRels γ σ φ K c c'.toList → VRel γ σ φ K (.agg c) (.agg c')
  | tuple (c : List (LV I S)) (c' : Array Value) : VRels γ σ φ K c c'.toList → VRel γ σ φ K (.tuple c) (.tuple c')
inductive VRels (γ : I → Int) (σ : Sg I S) (φ : Phi) (K : Nat → Prop) : List (LV I S) → List Value → Prop
  | nil : VRels γ σ φ K [] []
  | cons (v : LV I S) (v' : Value) (l : List (LV I S)) (l' : List Value) : VRel γ σ φ K v v' → VRels γ σ φ K l l' → VRels γ σ φ K (v :: l) (v' :: l')
end

/-- The numbers that a logical memory has given. -/
abbrev H.ids (h : H I S) : Nat → Prop := fun b => b < h.next

section rel
variable {γ : I → Int} {σ : Sg I S} {φ φ' : Phi} {K K' : Nat → Prop}

mutual
theorem VRel.mono (hn : ∀ b, K b → K' b) (hφ : ∀ b, K b → φ' b = φ b) : ∀ {v : LV I S} {v' : Value}, VRel γ σ φ K v v' → VRel γ σ φ' K' v v'
  | _, _, .und => .und
  | _, _, .bool b => .bool b
  | _, _, .int k i => .int k i
  | _, _, .str s => .str s
  | _, _, .nilp => .nilp
  | _, _, .ptr b o h => by rw [← hφ b h]; exact .ptr b o (hn b h)
  | _, _, .nils => .nils
  | _, _, .slice b o len cap ex sz cap' h h1 h2 h3 h4 => by rw [← hφ b h] at *; exact .slice b o len cap ex sz cap' (hn b h) h1 h2 h3 h4
  | _, _, .empty a c => .empty a c
  | _, _, .nilm => .nilm
  | _, _, .map b h => by rw [← hφ b h]; exact .map b (hn b h)
  | _, _, .nilf => .nilf
  | _, _, .yield b h => by rw [← hφ b h]; exact .yield b (hn b h)
  | _, _, .func f a c a' c' h1 h2 => .func f a c a' c' (VRels.mono hn hφ h1) (VRels.mono hn hφ h2)
  | _, _, .agg c c' h => .agg c c' (VRels.mono hn hφ h)
  | _, _, .tuple c c' h => .tuple c c' (VRels.mono hn hφ h)
theorem VRels.mono (hn : ∀ b, K b → K' b) (hφ : ∀ b, K b → φ' b = φ b) : ∀ {l : List (LV I S)} {l' : List Value}, VRels γ σ φ K l l' → VRels γ σ φ' K' l l'
  | _, _, .nil => .nil
  | _, _, .cons v v' l l' h1 h2 => .cons v v' l l' (VRel.mono hn hφ h1) (VRels.mono hn hφ h2)
end

theorem VRels.length {l : List (LV I S)} {l' : List Value} (h : VRels γ σ φ K l l') : l.length = l'.length := by
  induction l generalizing l' with
  | nil => cases h; rfl
  | cons v l ih => cases h with | cons _ _ _ _ h1 h2 => simp [ih h2]
theorem VRels.append {l m : List (LV I S)} {l' m' : List Value} (h : VRels γ σ φ K l l') (h' : VRels γ σ φ K m m') : VRels γ σ φ K (l ++ m) (l' ++ m') := by
  induction l generalizing l' with
  | nil => cases h; exact h'
  | cons v l ih => cases h with | cons _ _ _ _ h1 h2 => exact .cons _ _ _ _ h1 (ih h2)
theorem VRels.get {l : List (LV I S)} {l' : List Value} (h : VRels γ σ φ K l l') : ∀ {i : Nat} {v : LV I S}, l[i]? = some v → ∃ v', l'[i]? = some v' ∧ VRel γ σ φ K v v' := by
  induction l generalizing l' with
  | nil => intro i v hv; simp at hv
  | cons x l ih =>
    cases h with
    | cons _ x' _ l' h1 h2 =>
      intro i v hv
      cases i with
      | zero => simp at hv; subst hv; exact ⟨x', by simp, h1⟩
      | succ i => simp at hv; obtain ⟨v', e, r⟩ := ih h2 hv; exact ⟨v', by simpa using e, r⟩
theorem VRels.of_get {l : List (LV I S)} {l' : List Value} (hl : l.length = l'.length) (h : ∀ (i : Nat) (v : LV I S) (v' : Value), l[i]? = some v → l'[i]? = some v' → VRel γ σ φ K v v') : VRels γ σ φ K l l' := by
  induction l generalizing l' with
  | nil => cases l' with | nil => exact .nil | cons _ _ => simp at hl
  | cons x l ih =>
    cases l' with
    | nil => simp at hl
    | cons y l' => exact .cons _ _ _ _ (h 0 x y rfl rfl) (ih (by simpa using hl) fun i v v' e e' => h (i + 1) v v' (by simpa using e) (by simpa using e'))
theorem VRels.take {l : List (LV I S)} {l' : List Value} (h : VRels γ σ φ K l l') (k : Nat) : VRels γ σ φ K (l.take k) (l'.take k) := by
  induction l generalizing l' k with
  | nil => cases h; simp; exact .nil
  | cons v l ih => cases h with | cons _ _ _ _ h1 h2 => cases k with
      | zero => simp; exact .nil
      | succ k => simp; exact .cons _ _ _ _ h1 (ih h2 k)
theorem VRels.drop {l : List (LV I S)} {l' : List Value} (h : VRels γ σ φ K l l') (k : Nat) : VRels γ σ φ K (l.drop k) (l'.drop k) := by
  induction l generalizing l' k with
  | nil => cases h; simp; exact .nil
  | cons v l ih => cases h with | cons _ _ _ _ h1 h2 => cases k with
      | zero => simp; exact .cons _ _ _ _ h1 h2
      | succ k => simp; exact ih h2 k
theorem VRel.one {v : LV I S} {v' : Value} (h : VRel γ σ φ K v v') (h1 : one? v = true) : v'.oneCell' = true := by
  cases h <;> simp_all [one?, Value.oneCell']
theorem VRel.not_agg {v : LV I S} {v' : Value} (h : VRel γ σ φ K v v') (h1 : one? v = true) : v.cells = [v] ∧ v'.cells = #[v'] := by
  cases h <;> simp_all [one?, LV.cells, Value.cells]
theorem VRel.cells {v : LV I S} {v' : Value} (h : VRel γ σ φ K v v') : VRels γ σ φ K v.cells v'.cells.toList := by
  cases h with
  | agg c c' h => exact h
  | und => exact .cons _ _ _ _ .und .nil
  | tuple c c' h => exact .cons _ _ _ _ (.tuple c c' h) .nil
  | bool b => exact .cons _ _ _ _ (.bool b) .nil
  | int k i => exact .cons _ _ _ _ (.int k i) .nil
  | str s => exact .cons _ _ _ _ (.str s) .nil
  | nilp => exact .cons _ _ _ _ .nilp .nil
  | ptr b o h => exact .cons _ _ _ _ (.ptr b o h) .nil
  | nils => exact .cons _ _ _ _ .nils .nil
  | slice b o len cap ex sz cap' h h1 h2 h3 h4 => exact .cons _ _ _ _ (.slice b o len cap ex sz cap' h h1 h2 h3 h4) .nil
  | empty a c => exact .cons _ _ _ _ (.empty a c) .nil
  | nilm => exact .cons _ _ _ _ .nilm .nil
  | map b h => exact .cons _ _ _ _ (.map b h) .nil
  | nilf => exact .cons _ _ _ _ .nilf .nil
  | yield b h => exact .cons _ _ _ _ (.yield b h) .nil
  | func f a c a' c' h1 h2 => exact .cons _ _ _ _ (.func f a c a' c' h1 h2) .nil

theorem allOne_mem {l : List (LV I S)} (h : allOne l = true) : ∀ v ∈ l, one? v = true := by
  induction l with
  | nil => intro v hv; cases hv
  | cons x l ih =>
    simp only [allOne, Bool.and_eq_true] at h
    intro v hv
    cases hv with
    | head => exact h.1
    | tail _ hv => exact ih h.2 v hv
theorem allOne_of_mem {l : List (LV I S)} (h : ∀ v ∈ l, one? v = true) : allOne l = true := by
  induction l with
  | nil => rfl
  | cons x l ih => simp [allOne, h x (by simp), ih fun v hv => h v (by simp [hv])]
theorem VRels.ones {l : List (LV I S)} {l' : List Value} (h : VRels γ σ φ K l l') (h1 : ∀ v ∈ l, one? v = true) : ∀ v' ∈ l', v'.oneCell' = true := by
  induction l generalizing l' with
  | nil => cases h; intro v hv; cases hv
  | cons x l ih =>
    cases h with
    | cons _ x' _ l' h2 h3 =>
      intro v hv
      cases hv with
      | head => exact h2.one (h1 x (by simp))
      | tail _ hv => exact ih h3 (fun v hv => h1 v (by simp [hv])) v hv

/-- The entries of a map. -/
inductive ERel (γ : I → Int) (σ : Sg I S) (φ : Phi) (K : Nat → Prop) : List (LV I S × LV I S × Nat) → List MapEntry → Prop
  | nil : ERel γ σ φ K [] []
  | cons (k v : LV I S) (k' v' : Value) (b : Nat) (l : List (LV I S × LV I S × Nat)) (l' : List MapEntry) : VRel γ σ φ K k k' → VRel γ σ φ K v v' → ERel γ σ φ K l l' →
      ERel γ σ φ K ((k, v, b) :: l) (⟨k', v', b⟩ :: l')
theorem ERel.mono (hn : ∀ b, K b → K' b) (hφ : ∀ b, K b → φ' b = φ b) {l : List (LV I S × LV I S × Nat)} {l' : List MapEntry} (h : ERel γ σ φ K l l') : ERel γ σ φ' K' l l' := by
  induction h with
  | nil => exact .nil
  | cons k v k' v' b l l' h1 h2 _ ih => exact .cons k v k' v' b l l' (h1.mono hn hφ) (h2.mono hn hφ) ih
theorem ERel.length {l : List (LV I S × LV I S × Nat)} {l' : List MapEntry} (h : ERel γ σ φ K l l') : l.length = l'.length := by
  induction h with
  | nil => rfl
  | cons _ _ _ _ _ _ _ _ _ _ ih => simp [ih]
theorem ERel.append {l m : List (LV I S × LV I S × Nat)} {l' m' : List MapEntry} (h : ERel γ σ φ K l l') (h' : ERel γ σ φ K m m') : ERel γ σ φ K (l ++ m) (l' ++ m') := by
  induction h with
  | nil => exact h'
  | cons k v k' v' b l l' h1 h2 _ ih => exact .cons k v k' v' b _ _ h1 h2 ih

/-- A range over a function, under way. -/
def stOf : Nat → LoopState
  | 0 => .ready
  | 1 => .busy
  | 2 => .done
  | _ => .exhausted
def jumpOf : Option Nat → Code
  | none => .ret
  | some id => .exit id
structure LoopRel (γ : I → Int) (σ : Sg I S) (φ : Phi) (K : Nat → Prop) (l : LLoop I S) (r : Loop) : Prop where
  st : r.state = stOf l.st
  ps : r.params.toList = l.ps
  lt : ∀ p ∈ l.ps, p < r.tmps.size
  env : ∀ t v, l.env.get t = some v → VRel γ σ φ K v (r.tmps.getD t undef)
  assign : σ.tc r.tmps.size r.assign l.assign
  body : σ.tc r.tmps.size r.body l.body
  pend : r.pending = l.pend.map jumpOf
theorem LoopRel.mono {l : LLoop I S} {r : Loop} (hn : ∀ b, K b → K' b) (hφ : ∀ b, K b → φ' b = φ b) (h : LoopRel γ σ φ K l r) : LoopRel γ σ φ' K' l r :=
  ⟨h.st, h.ps, h.lt, fun t v hv => (h.env t v hv).mono hn hφ, h.assign, h.body, h.pend⟩
/-- What a logical block says of the machine's. -/
inductive ORel (γ : I → Int) (σ : Sg I S) (φ : Phi) (K : Nat → Prop) (w : World) (l : Loc) : LObj I S → Prop
  | cells (m : Nat) (c : List (LV I S)) (cur : Array Value) (e : TypeId) (fz : Nat × Nat) : w.heap[l.blk]? = some (.cells cur e fz) → l.off + l.room ≤ cur.size → c.length ≤ l.room →
      VRels γ σ φ K c ((cur.toList.drop l.off).take c.length) → (∀ v ∈ c, one? v = true) → (∀ i, i < cur.size → ¬ (fz.1 ≤ i ∧ i < fz.2)) → (m = 0 → fz = (0, 0)) →
      ORel γ σ φ K w l (.cells m c)
  | map (es : List (LV I S × LV I S × Nat)) (clock : Nat) (es' : Array MapEntry) : w.heap[l.blk]? = some (.map es' clock) → ERel γ σ φ K es es'.toList → ORel γ σ φ K w l (.map es clock)
  | iter (m : Option Nat) (since : Nat) (seen : List Nat) (stepped : Nat) : (∀ b, m = some b → K b) → w.heap[l.blk]? = some (.mapIter (m.map fun b => (φ b).blk) since seen.toArray stepped) → l.off = 0 →
      ORel γ σ φ K w l (.iter m since seen stepped)
  | loop (x : LLoop I S) (r : Loop) : w.heap[l.blk]? = some (.loop r) → LoopRel γ σ φ K x r → ORel γ σ φ K w l (.loop x)
  | gone : ORel γ σ φ K w l .gone
theorem ORel.mono {w w' : World} {l : Loc} {o : LObj I S} (hn : ∀ b, K b → K' b) (hφ : ∀ b, K b → φ' b = φ b) (hw : w'.heap[l.blk]? = w.heap[l.blk]?) (h : ORel γ σ φ K w l o) : ORel γ σ φ' K' w' l o := by
  cases h with
  | cells m c cur e fz h1 h2 h3 h4 h5 h6 h7 => exact .cells m c cur e fz (hw.trans h1) h2 h3 (h4.mono hn hφ) h5 h6 h7
  | map es clock es' h1 h2 => exact .map es clock es' (hw.trans h1) (h2.mono hn hφ)
  | iter m since seen stepped h0 h1 h2 =>
    refine .iter m since seen stepped (fun b hb => hn b (h0 b hb)) ?_ h2
    rw [hw, h1]
    cases m with
    | none => rfl
    | some b => simp [hφ b (h0 b rfl)]
  | loop x r h1 h2 => exact .loop x r (hw.trans h1) (h2.mono hn hφ)
  | gone => exact .gone

def LObj.live : LObj I S → Bool
  | .gone => false
  | _ => true
/-- May it be written? -/
def LObj.writ : LObj I S → Bool
  | .gone => false
  | .cells m _ => Nat.blt m 2
  | _ => true

/-- A logical memory, as a function, and the machine's. -/
structure RelF (γ : I → Int) (σ : Sg I S) (φ : Phi) (K : Nat → Prop) (h : Mem I S) (w : World) : Prop where
  lt : ∀ b o, h b = some o → K b
  obj : ∀ b o, h b = some o → ORel γ σ φ K w (φ b) o
  inj : ∀ b o b' o', h b = some o → h b' = some o' → o.live = true → o'.live = true → (o.writ = true ∨ o'.writ = true) → (φ b).blk = (φ b').blk → b = b'
abbrev Rel (γ : I → Int) (σ : Sg I S) (φ : Phi) (h : H I S) (w : World) : Prop := RelF γ σ φ h.ids h.t.get w

theorem ORel.blk_lt {w : World} {l : Loc} {o : LObj I S} (h : ORel γ σ φ K w l o) (hl : o.live = true) : l.blk < w.heap.size := by
  cases h with
  | cells m c cur e fz h1 => exact (Array.getElem?_eq_some_iff.1 h1).1
  | map es clock es' h1 => exact (Array.getElem?_eq_some_iff.1 h1).1
  | iter m since seen stepped _ h1 => exact (Array.getElem?_eq_some_iff.1 h1).1
  | loop x r h1 => exact (Array.getElem?_eq_some_iff.1 h1).1
  | gone => cases hl
theorem LObj.live_of_writ {o : LObj I S} (h : o.writ = true) : o.live = true := by cases o <;> simp_all [LObj.writ, LObj.live]

/-- From one memory to a later one: numbers stay, what may not be written stays, what can be written comes of what could, or is new. -/
structure Goes (φ : Phi) (K : Nat → Prop) (h : Mem I S) (w : World) (φ' : Phi) (K' : Nat → Prop) (h' : Mem I S) (w' : World) : Prop where
  le : ∀ b, K b → K' b
  agree : ∀ b, K b → φ' b = φ b
  size : w.heap.size ≤ w'.heap.size
  os : w'.os = w.os
  tape : w'.tape = w.tape
  output : w'.output = w.output
  frame : ∀ r, r < w.heap.size → (∀ b o, h b = some o → o.writ = true → (φ b).blk ≠ r) → w'.heap[r]? = w.heap[r]?
  prov : ∀ b o, h' b = some o → o.live = true → h b = some o ∨ w.heap.size ≤ (φ' b).blk ∨ (o.writ = true ∧ ∃ b0 o0, h b0 = some o0 ∧ o0.writ = true ∧ (φ b0).blk = (φ' b).blk)
  fresh : ∀ b o, h' b = some o → h b = none → ¬ K b
theorem Goes.refl (φ : Phi) (K : Nat → Prop) (h : Mem I S) (w : World) : Goes φ K h w φ K h w :=
  ⟨fun _ h => h, fun _ _ => rfl, Nat.le_refl _, rfl, rfl, rfl, fun _ _ _ => rfl, fun _ _ h _ => .inl h, fun b o h h' => by rw [h] at h'; cases h'⟩
theorem Goes.trans {φ φ1 φ2 : Phi} {K K1 K2 : Nat → Prop} {h h1 h2 : Mem I S} {w w1 w2 : World} (hr : ∀ b o, h b = some o → K b) (hr1 : ∀ b o, h1 b = some o → K1 b)
    (a : Goes φ K h w φ1 K1 h1 w1) (c : Goes φ1 K1 h1 w1 φ2 K2 h2 w2) : Goes φ K h w φ2 K2 h2 w2 where
  le b hb := c.le b (a.le b hb)
  agree b hb := (c.agree b (a.le b hb)).trans (a.agree b hb)
  size := Nat.le_trans a.size c.size
  os := c.os.trans a.os
  tape := c.tape.trans a.tape
  output := c.output.trans a.output
  frame r hlt hno := by
    rw [c.frame r (Nat.lt_of_lt_of_le hlt a.size) ?_, a.frame r hlt hno]
    intro b o hb hw heq
    rcases a.prov b o hb (LObj.live_of_writ hw) with h0 | h0 | ⟨_, b0, o0, h1, h2, h3⟩
    · exact hno b o h0 hw (by rw [← a.agree b (hr b o h0)]; exact heq)
    · omega
    · exact hno b0 o0 h1 h2 (h3.trans heq)
  prov b o hb hl := by
    rcases c.prov b o hb hl with h0 | h0 | ⟨hw, b0, o0, h1, h2, h3⟩
    · rcases a.prov b o h0 hl with h1 | h1 | ⟨hw, b1, o1, h1, h2, h3⟩
      · exact .inl h1
      · exact .inr (.inl (by rw [c.agree b (hr1 b o h0)]; exact h1))
      · exact .inr (.inr ⟨hw, b1, o1, h1, h2, by rw [c.agree b (hr1 b o h0)]; exact h3⟩)
    · exact .inr (.inl (Nat.le_trans a.size h0))
    · rcases a.prov b0 o0 h1 (LObj.live_of_writ h2) with h4 | h4 | ⟨_, b1, o1, h4, h5, h6⟩
      · exact .inr (.inr ⟨hw, b0, o0, h4, h2, by rw [← a.agree b0 (hr b0 o0 h4)]; exact h3⟩)
      · exact .inr (.inl (by omega))
      · exact .inr (.inr ⟨hw, b1, o1, h4, h5, h6.trans h3⟩)
  fresh b o hb hn := by
    cases h1b : h1 b with
    | none => exact fun hk => c.fresh b o hb h1b (a.le b hk)
    | some o1 => exact a.fresh b o1 h1b hn

/-- The slots. -/
def ERelE (γ : I → Int) (σ : Sg I S) (φ : Phi) (K : Nat → Prop) (e : EnvF I S) (tmps : Array Value) : Prop :=
  ∀ t v, e t = some v → VRel γ σ φ K v (tmps.getD t undef)
theorem ERelE.mono (hn : ∀ b, K b → K' b) (hφ : ∀ b, K b → φ' b = φ b) {e : EnvF I S} {tmps : Array Value} (h : ERelE γ σ φ K e tmps) : ERelE γ σ φ' K' e tmps :=
  fun t v hv => (h t v hv).mono hn hφ
theorem ERelE.set {e : EnvF I S} {tmps : Array Value} (h : ERelE γ σ φ K e tmps) {d : Nat} (hd : d < tmps.size) {v : LV I S} {v' : Value} (hv : VRel γ σ φ K v v') {e' : EnvF I S} (he : ∀ t, e' t = if t = d then some v else e t) :
    ERelE γ σ φ K e' (tmps.setIfInBounds d v') := by
  intro t u hu
  rw [he] at hu
  by_cases ht : t = d
  · subst ht
    simp at hu
    subst hu
    simpa [Array.getD, hd] using hv
  · rw [if_neg ht] at hu
    have := h t u hu
    simpa [Array.getD_eq_getD_getElem?, Array.getElem?_setIfInBounds_ne (Ne.symm ht)] using this
end rel
end Go.Proofs.YtohmaikcmaapjaaGreat.LI
