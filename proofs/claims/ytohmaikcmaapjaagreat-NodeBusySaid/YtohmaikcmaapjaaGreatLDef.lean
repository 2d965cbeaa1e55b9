/- A logical interpreter of the given code: values whose numbers and texts lie in a domain of their own, blocks by logical numbers, one deterministic run. -/
import GoSem.Dispatch
namespace Go.Proofs.YtohmaikcmaapjaaGreat.LI

/-- A map from numbers, by their bits. -/
inductive Tr (α : Type) where
  | leaf
  | node (v : Option α) (l r : Tr α)
namespace Tr
variable {α : Type}
noncomputable def get (t : Tr α) : Nat → Option α :=
  Tr.rec (motive := fun _ => Nat → Option α) (fun _ => none) (fun v _ _ gl gr n => Bool.rec (Bool.rec (gr (Nat.div n 2)) (gl (Nat.sub (Nat.div n 2) 1)) (Nat.beq (Nat.mod n 2) 0)) v (Nat.beq n 0)) t
noncomputable def one (a : α) (f : Nat) : Nat → Tr α :=
  Nat.rec (motive := fun _ => Nat → Tr α) (fun _ => .node (some a) .leaf .leaf) (fun _ ih n => Bool.rec (Bool.rec (.node none .leaf (ih (Nat.div n 2))) (.node none (ih (Nat.sub (Nat.div n 2) 1)) .leaf) (Nat.beq (Nat.mod n 2) 0)) (.node (some a) .leaf .leaf) (Nat.beq n 0)) f
noncomputable def set (t : Tr α) : Nat → α → Tr α :=
  Tr.rec (motive := fun _ => Nat → α → Tr α) (fun n a => one a n n) (fun v l r sl sr n a => Bool.rec (Bool.rec (.node v l (sr (Nat.div n 2) a)) (.node v (sl (Nat.sub (Nat.div n 2) 1) a) r) (Nat.beq (Nat.mod n 2) 0)) (.node (some a) l r) (Nat.beq n 0)) t
theorem rec_cond {β : Type} (b : Bool) (x y : β) : (Bool.rec x y b : β) = cond b y x := by cases b <;> rfl
theorem get_leaf (n : Nat) : (leaf : Tr α).get n = none := rfl
theorem get_node (v : Option α) (l r : Tr α) (n : Nat) : (node v l r).get n = cond (Nat.beq n 0) v (cond (Nat.beq (n % 2) 0) (l.get (n / 2 - 1)) (r.get (n / 2))) := by
  show (Bool.rec _ _ _ : Option α) = _
  rw [rec_cond, rec_cond]; rfl
theorem one_zero (a : α) (n : Nat) : one a 0 n = .node (some a) .leaf .leaf := rfl
theorem one_succ (a : α) (f n : Nat) : one a (f + 1) n = cond (Nat.beq n 0) (.node (some a) .leaf .leaf) (cond (Nat.beq (n % 2) 0) (.node none (one a f (n / 2 - 1)) .leaf) (.node none .leaf (one a f (n / 2)))) := by
  show (Bool.rec _ _ _ : Tr α) = _
  rw [rec_cond, rec_cond]; rfl
theorem set_leaf (n : Nat) (a : α) : (leaf : Tr α).set n a = one a n n := rfl
theorem set_node (v : Option α) (l r : Tr α) (n : Nat) (a : α) : (node v l r).set n a = cond (Nat.beq n 0) (.node (some a) l r) (cond (Nat.beq (n % 2) 0) (.node v (l.set (n / 2 - 1) a) r) (.node v l (r.set (n / 2) a))) := by
  show (Bool.rec _ _ _ : Tr α) = _
  rw [rec_cond, rec_cond]; rfl
end Tr

/-- The numbers and texts: what is known of them. -/
structure Dom (I S : Type) where
  ofInt : Int → I
  toInt : I → Option Int
  bin : BinOp → IntKind → I → I → Option I
  cmp : BinOp → I → I → Option Bool
  conv : IntKind → I → Option I
  sOf : ByteArray → S
  sLen : S → Nat
  sCat : S → S → S
  sCut : S → Nat → Nat → S
  sAt : S → Nat → I
  sEq : S → S → Option Bool
  sMk : List I → S

inductive LV (I S : Type) where
  | und
  | bool (b : Bool)
  | int (k : IntKind) (n : I)
  | str (s : S)
  | nilp
  | ptr (b o : Nat)
  | nils
  | slice (b o len cap : Nat) (exact : Bool) (sz : Nat)
  | empty
  | nilm
  | map (b : Nat)
  | nilf
  | func (f : Nat) (first cap : List (LV I S))
  | yield (b : Nat)
  | agg (cs : List (LV I S))
  | tuple (vs : List (LV I S))

/-- An operand. -/
inductive LA (I S : Type) where
  | tmp (t : Nat)
  | const (v : LV I S)

/-- Operations that ask their operands alone. -/
inductive POp (I S : Type) where
  | move (x : LA I S)
  | pick (c a b : LA I S)
  | build (zero : List (LV I S)) (parts : List (Nat × Nat × LA I S))
  | nilchk (x : LA I S)
  | bin (op : BinOp) (x y : LA I S)
  | eqAgg (neg : Bool) (m : Nat) (x y : LA I S)
  | eqb (neg : Bool) (x y : LA I S)
  | un (op : UnOp) (x : LA I S)
  | convInt (k : IntKind) (x : LA I S)
  | mkfunc (f : Nat) (first cap : List (LA I S))
  | slStr (x : LA I S) (lo hi : Option (LA I S))
  | slSl (sz : Nat) (x : LA I S) (lo hi mx : Option (LA I S))
  | fieldAddr (off : Nat) (x : LA I S)
  | field (agg : Bool) (off n : Nat) (x : LA I S)
  | idxSl (sz : Nat) (x i : LA I S)
  | idxArrP (n sz : Nat) (x i : LA I S)
  | idxArr (n sz : Nat) (agg : Bool) (x i : LA I S)
  | idxStr (x i : LA I S)
  | extract (i : Nat) (x : LA I S)
  | len (x : LA I S)
  | lenS (x : LA I S)
  | num (n : Nat)
  | min (xs : List (LA I S))
  | max (xs : List (LA I S))
  | cap (x : LA I S)

/-- What kind of reference is held against another. -/
inductive RK where
  | ptr | sl | mp | fn
/-- Operations that read memory. -/
inductive ROp (I S : Type) where
  | load (agg : Bool) (n : Nat) (x : LA I S)
  | lookup (km : Nat) (zero : LV I S) (ok : Bool) (m k : LA I S)
  | lenMap (x : LA I S)
  | ofBytes (x : LA I S)
  | entry (x : LA I S)
  | eqRef (k : RK) (neg : Bool) (x y : LA I S)

/-- Operations that make memory, and do nothing else. -/
inductive AOp (I S : Type) where
  | box (x : LA I S)
  | bslice (zero : List (LV I S)) (n sz : Nat) (parts : List (Nat × LA I S))
  | mkmap
  | mkslice (zero : List (LV I S)) (sz bytes : Nat) (l c : LA I S)
  | toBytes (x : LA I S)

/-- Operations that act on memory. -/
inductive EOp (I S : Type) where
  | store (n : Nat) (a x : LA I S)
  | append (sz bytes : Nat) (s x : LA I S)
  | appendZ (sz bytes : Nat) (zero : List (LV I S)) (s x : LA I S)
  | copy (sz : Nat) (d s : LA I S)
  | clear (zero : List (LV I S)) (x : LA I S)
  | clearM (x : LA I S)
  | delete (km : Nat) (m k : LA I S)
  | mapset (km : Nat) (m k v : LA I S)
  | range (x : LA I S)
  | next (x : LA I S)
  | mark (x : LA I S)

inductive LOp (I S : Type) where
  | p (x : POp I S)
  | r (x : ROp I S)
  | a (x : AOp I S)
  | e (x : EOp I S)
  | call (f : LA I S) (args : List (LA I S))

/-- An operation in its place: where its value goes, whether it is wanted. -/
structure LOper (I S : Type) where
  dst : Option Nat
  guard : Option (Option Nat × Bool)
  op : LOp I S

/-- An operation, and the reads that may as well come behind it. -/
structure LItem (I S : Type) where
  o : LOper I S
  rs : List (LOper I S)

inductive LCode (I S : Type) where
  | skip
  | region (is : List (LItem I S))
  | seq (a b : LCode I S)
  | cond (c : LA I S) (a b : LCode I S)
  | block (id : Nat) (a : LCode I S)
  | loop (a : LCode I S)
  | exit (id : Nat)
  | ret
  | rangef (f : LA I S) (ps : List Nat) (assign body : LCode I S)
  | no

/-- A range over a function, under way: its state (0 ready, 1 busy, 2 done), the slots at its begin, where the parts go, its code, the jump that is pending. -/
structure LLoop (I S : Type) where
  st : Nat
  env : Tr (LV I S)
  ps : List Nat
  assign : LCode I S
  body : LCode I S
  pend : Option (Option Nat)

inductive LObj (I S : Type) where
  | gone
  | cells (m : Nat) (c : List (LV I S))
  | map (es : List (LV I S × LV I S × Nat)) (clock : Nat)
  | loop (l : LLoop I S)
  | iter (m : Option Nat) (since : Nat) (seen : List Nat) (stepped : Nat)

structure H (I S : Type) where
  t : Tr (LObj I S)
  next : Nat

inductive LRes where
  | tmp (t : Nat)
  | cell (t : Nat) (agg : Bool) (n : Nat)

structure LFunc (I S : Type) where
  ntmps : Nat
  results : List LRes
  body : LCode I S

noncomputable section run
variable {I S : Type} (D : Dom I S)
abbrev Env (I S : Type) := Tr (LV I S)
abbrev EnvF (I S : Type) := Nat → Option (LV I S)

def ev (e : EnvF I S) : LA I S → Option (LV I S)
  | .tmp t => e t
  | .const v => some v
def evs (e : EnvF I S) : List (LA I S) → Option (List (LV I S))
  | [] => some []
  | x :: r => (ev e x).bind fun v => (evs e r).bind fun vs => some (v :: vs)
def evo (e : EnvF I S) : Option (LA I S) → Option (Option (LV I S))
  | none => some none
  | some x => (ev e x).bind fun v => some (some v)

def LV.cells : LV I S → List (LV I S)
  | .agg cs => cs
  | v => [v]

/-- cells written over from a place on; none: they are not all there. -/
def over : List (LV I S) → Nat → List (LV I S) → Option (List (LV I S))
  | c, 0, [] => some c
  | _ :: c, 0, v :: vs => (over c 0 vs).bind fun r => some (v :: r)
  | x :: c, n + 1, vs => (over c n vs).bind fun r => some (x :: r)
  | [], _, _ => none
def cut : List (LV I S) → Nat → Nat → Option (List (LV I S))
  | _, 0, 0 => some []
  | x :: c, 0, n + 1 => (cut c 0 n).bind fun r => some (x :: r)
  | _ :: c, o + 1, n => cut c o n
  | [], _, _ => none
def at? : List (LV I S) → Nat → Option (LV I S)
  | [], _ => none
  | x :: _, 0 => some x
  | _ :: c, n + 1 => at? c n
def reps {α : Type} (z : List α) : Nat → List α
  | 0 => []
  | n + 1 => z ++ reps z n
def one? : LV I S → Bool
  | .agg _ => false
  | .tuple _ => false
  | .und => false
  | _ => true
def len? : List (LV I S) → Nat
  | [] => 0
  | _ :: c => (len? c).succ

def fill (cells : List (LV I S)) : List (Nat × Nat × LV I S) → Option (List (LV I S))
  | [] => some cells
  | (off, n, v) :: rest => cond (Nat.beq (len? v.cells) n) ((over cells off v.cells).bind fun c => fill c rest) none
def evParts (e : EnvF I S) : List (Nat × Nat × LA I S) → Option (List (Nat × Nat × LV I S))
  | [] => some []
  | (o, n, x) :: r => (ev e x).bind fun v => (evParts e r).bind fun vs => some ((o, n, v) :: vs)

/-- Bounds: of a slice's literal, of what a block holds. -/
def most : Nat := 16777216
def big : Nat := 140737488355328
def goBin (op : BinOp) (k : IntKind) (a b : Int) : Option Int := match op with
  | .add => some (k.wrap (a + b))
  | .sub => some (k.wrap (a - b))
  | .mul => some (k.wrap (a * b))
  | .quo => if b = 0 then none else some (k.wrap (a.tdiv b))
  | .rem => if b = 0 then none else some (a.tmod b)
  | .and => some (k.wrap (BitVec.ofInt k.bits a &&& BitVec.ofInt k.bits b).toNat)
  | .or => some (k.wrap (BitVec.ofInt k.bits a ||| BitVec.ofInt k.bits b).toNat)
  | .xor => some (k.wrap (BitVec.ofInt k.bits a ^^^ BitVec.ofInt k.bits b).toNat)
  | .andNot => some (k.wrap (BitVec.ofInt k.bits a &&& ~~~BitVec.ofInt k.bits b).toNat)
  | .shl => if b < 0 then none else some (k.wrap (a * 2 ^ (Nat.min b.toNat k.bits)))
  | .shr => if b < 0 then none else some (a.fdiv (2 ^ (Nat.min b.toNat k.bits)))
  | _ => none
def goCmp (op : BinOp) (a b : Int) : Option Bool := match op with
  | .eql => some (a == b)
  | .neq => some (a != b)
  | .lss => some (decide (a < b))
  | .leq => some (decide (a ≤ b))
  | .gtr => some (decide (a > b))
  | .geq => some (decide (a ≥ b))
  | _ => none

/-- Which operations compare. -/
def isCmp : BinOp → Bool
  | .eql => true | .neq => true | .lss => true | .leq => true | .gtr => true | .geq => true | _ => false
def isShift : BinOp → Bool
  | .shl => true | .shr => true | _ => false
def kindEq : IntKind → IntKind → Bool
  | .i8, .i8 => true | .i16, .i16 => true | .i32, .i32 => true | .i64, .i64 => true
  | .u8, .u8 => true | .u16, .u16 => true | .u32, .u32 => true | .u64, .u64 => true | _, _ => false

def binV (op : BinOp) : LV I S → LV I S → Option (LV I S)
  | .int k a, .int k' b => cond (isCmp op) (cond (kindEq k k') ((D.cmp op a b).bind fun t => some (.bool t)) none)
      (cond (isShift op || kindEq k k') ((D.bin op k a b).bind fun n => some (.int k n)) none)
  | .str a, .str b => match op with
    | .add => cond (Nat.ble (D.sLen a + D.sLen b) big) (some (.str (D.sCat a b))) none
    | .eql => (D.sEq a b).bind fun t => some (.bool t)
    | .neq => (D.sEq a b).bind fun t => some (.bool (!t))
    | _ => none
  | _, _ => none
def sameInts : List (LV I S) → List (LV I S) → Option Bool
  | [], [] => some true
  | .int k a :: x, .int k' b :: y => cond (kindEq k k') ((D.cmp .eql a b).bind fun t => cond t (sameInts x y) (some false)) none
  | _, _ => none

def sameAgg (m : Nat) : LV I S → LV I S → Option Bool
  | .agg a, .agg b => cond (Nat.beq (len? a) m && Nat.beq (len? b) m) (sameInts D a b) none
  | _, _ => none

def nat? : LV I S → Option Nat
  | .int _ n => match D.toInt n with
    | some (.ofNat m) => some m
    | _ => none
  | _ => none
/-- A bound of a slice expression, at most y. -/
def bnd (x : Option (LV I S)) (d y : Nat) : Option Nat := match x with
  | none => some d
  | some v => (nat? D v).bind fun n => cond (Nat.ble n y) (some n) none
def slSl (sz : Nat) (v : LV I S) (lo hi mx : Option (LV I S)) : Option (LV I S) := match v with
  | .nils => cond (mx.isSome && hi.isNone) none ((bnd D mx 0 0).bind fun _ => (bnd D hi 0 0).bind fun _ => (bnd D lo 0 0).bind fun _ => some .nils)
  | .empty => cond (mx.isSome && hi.isNone) none ((bnd D mx 0 0).bind fun _ => (bnd D hi 0 0).bind fun _ => (bnd D lo 0 0).bind fun _ => some .empty)
  | .slice b o len cap ex sz' => cond (Nat.beq sz sz') (match mx with
      | none => (bnd D hi len cap).bind fun h => (bnd D lo 0 h).bind fun l =>
        cond (Nat.beq l 0) (some (.slice b o h cap ex sz))
          (cond (Nat.blt l cap) (some (.slice b (o + l * sz) (h - l) (cap - l) ex sz))
            (cond ex (some (.slice b o (h - l) (cap - l) ex sz)) (some .empty)))
      | some _ => (bnd D mx cap cap).bind fun m => (match hi with | none => none | some _ => bnd D hi len m).bind fun h => (bnd D lo 0 h).bind fun l =>
        some (.slice b (cond (Nat.beq m l) o (o + l * sz)) (h - l) (m - l) true sz)) none
  | _ => none

def minmax (big : Bool) (x : LV I S) : List (LV I S) → Option (LV I S)
  | [] => some x
  | y :: r => match x, y with
    | .int k a, .int k' b => cond (kindEq k k') ((D.cmp (cond big .gtr .lss) b a).bind fun t => minmax big (cond t y x) r) none
    | _, _ => none

def pick2 (agg : Bool) (off n : Nat) (cs : List (LV I S)) : Option (LV I S) :=
  cond agg ((cut cs off n).bind fun r => some (.agg r)) (at? cs off)

def goLen (D : Dom I S) (n : Nat) : LV I S := .int .i64 (D.ofInt (Int.ofNat n))

def evalP (e : EnvF I S) : POp I S → Option (LV I S)
  | .move x => ev e x
  | .pick c a b => (ev e c).bind fun t => match t with
    | .bool t => cond t (ev e a) (ev e b)
    | _ => none
  | .build zero parts => (evParts e parts).bind fun ps => (fill zero ps).bind fun c => some (.agg c)
  | .nilchk x => (ev e x).bind fun v => match v with
    | .ptr b o => some (.ptr b o)
    | .func f a c => some (.func f a c)
    | _ => none
  | .bin op x y => (ev e x).bind fun a => (ev e y).bind fun b => binV D op a b
  | .eqAgg neg m x y => (ev e x).bind fun a => (ev e y).bind fun b => (sameAgg D m a b).bind fun t => some (.bool (cond neg (!t) t))
  | .eqb neg x y => (ev e x).bind fun a => (ev e y).bind fun b => match a, b with
    | .bool a, .bool b => some (.bool (cond neg (!(a == b)) (a == b)))
    | _, _ => none
  | .un op x => (ev e x).bind fun v => match op, v with
    | .not, .bool b => some (.bool (!b))
    | .neg, .int k n => (D.bin .sub k (D.ofInt 0) n).bind fun m => some (.int k m)
    | .xor, .int k n => (D.bin .xor k (D.ofInt (cond k.signed (-1) k.max)) n).bind fun m => some (.int k m)
    | _, _ => none
  | .convInt k x => (ev e x).bind fun v => match v with
    | .int _ n => (D.conv k n).bind fun m => some (.int k m)
    | _ => none
  | .mkfunc f first cap => (evs e first).bind fun a => (evs e cap).bind fun c => some (.func f a c)
  | .slStr x lo hi => (ev e x).bind fun v => (evo e lo).bind fun l => (evo e hi).bind fun h => match v with
    | .str s => (bnd D h (D.sLen s) (D.sLen s)).bind fun h => (bnd D l 0 h).bind fun l => some (.str (D.sCut s l h))
    | _ => none
  | .slSl sz x lo hi mx => (ev e x).bind fun v => (evo e lo).bind fun l => (evo e hi).bind fun h => (evo e mx).bind fun m => slSl D sz v l h m
  | .fieldAddr off x => (ev e x).bind fun v => match v with
    | .ptr b o => some (.ptr b (o + off))
    | _ => none
  | .field agg off n x => (ev e x).bind fun v => match v with
    | .agg cs => pick2 agg off n cs
    | _ => none
  | .idxSl sz x i => (ev e x).bind fun v => (ev e i).bind fun i => match v with
    | .slice b o len _ _ _ => (nat? D i).bind fun n => cond (Nat.blt n len) (some (.ptr b (o + n * sz))) none
    | _ => none
  | .idxArrP m sz x i => (ev e x).bind fun v => (ev e i).bind fun i => match v with
    | .ptr b o => (nat? D i).bind fun n => cond (Nat.blt n m) (some (.ptr b (o + n * sz))) none
    | _ => none
  | .idxArr m sz agg x i => (ev e x).bind fun v => (ev e i).bind fun i => match v with
    | .agg cs => (nat? D i).bind fun n => cond (Nat.blt n m) (pick2 agg (n * sz) sz cs) none
    | _ => none
  | .idxStr x i => (ev e x).bind fun v => (ev e i).bind fun i => match v with
    | .str s => (nat? D i).bind fun n => cond (Nat.blt n (D.sLen s)) (some (.int .u8 (D.sAt s n))) none
    | _ => none
  | .extract i x => (ev e x).bind fun v => match v with
    | .tuple vs => at? vs i
    | _ => none
  | .len x => (ev e x).bind fun v => match v with
    | .nils => some (goLen D 0)
    | .empty => some (goLen D 0)
    | .slice _ _ n _ _ _ => some (goLen D n)
    | _ => none
  | .lenS x => (ev e x).bind fun v => match v with
    | .str s => some (goLen D (D.sLen s))
    | _ => none
  | .num n => some (goLen D n)
  | .min xs => (evs e xs).bind fun vs => match vs with
    | x :: r => minmax D false x r
    | [] => none
  | .max xs => (evs e xs).bind fun vs => match vs with
    | x :: r => minmax D true x r
    | [] => none
  | .cap x => (ev e x).bind fun v => match v with
    | .nils => some (goLen D 0)
    | .slice _ _ _ c true _ => some (goLen D c)
    | _ => none

/-- Are two keys the same: of an integer type (0), of a struct of so many integers? -/
def keyEq : Nat → LV I S → LV I S → Option Bool
  | 0, .int k a, .int k' b => cond (kindEq k k') (D.cmp .eql a b) none
  | 0, _, _ => none
  | m + 1, a, b => sameAgg D (m + 1) a b
def keyShape : Nat → LV I S → Bool
  | 0, _ => true
  | m + 1, .agg c => Nat.beq (len? c) (m + 1)
  | _ + 1, _ => false
def find (m : Nat) (k : LV I S) : List (LV I S × LV I S × Nat) → Option (Option (LV I S))
  | [] => some none
  | (j, v, _) :: r => (keyEq D m k j).bind fun t => cond t (some (some v)) (find m k r)
/-- A memory, as a function. -/
abbrev Mem (I S : Type) := Nat → Option (LObj I S)
def entries (g : Mem I S) : LV I S → Option (List (LV I S × LV I S × Nat))
  | .nilm => some []
  | .map b => match g b with
    | some (.map es _) => some es
    | _ => none
  | _ => none
def bytesOf : List (LV I S) → Option (List I)
  | [] => some []
  | .int .u8 n :: r => (bytesOf r).bind fun l => some (n :: l)
  | _ => none
def stamped (n : Nat) : List (LV I S × LV I S × Nat) → Option (LV I S × LV I S)
  | [] => none
  | (k, v, b) :: r => cond (Nat.beq b n) (some (k, v)) (stamped n r)
def last? : List Nat → Option Nat
  | [] => none
  | [x] => some x
  | _ :: r => last? r

/-- A block that may be told apart from others. -/
def plain? (g : Mem I S) (b : Nat) : Bool := match g b with
  | some (.cells 0 _) => true
  | _ => false
def refEq (g : Mem I S) : RK → LV I S → LV I S → Option Bool
  | .ptr, .nilp, .nilp => some true
  | .ptr, .nilp, .ptr _ _ => some false
  | .ptr, .ptr _ _, .nilp => some false
  | .ptr, .ptr b o, .ptr b' o' => cond (plain? g b && plain? g b') (some (Nat.beq b b' && Nat.beq o o')) none
  | .sl, .nils, .nils => some true
  | .sl, .nils, .slice _ _ _ _ _ _ => some false
  | .sl, .slice _ _ _ _ _ _, .nils => some false
  | .sl, .nils, .empty => some false
  | .sl, .empty, .nils => some false
  | .mp, .nilm, .nilm => some true
  | .mp, .nilm, .map _ => some false
  | .mp, .map _, .nilm => some false
  | .fn, .nilf, .nilf => some true
  | .fn, .nilf, .func _ _ _ => some false
  | .fn, .func _ _ _, .nilf => some false
  | _, _, _ => none

def evalR (e : EnvF I S) (g : Mem I S) : ROp I S → Option (LV I S)
  | .load agg n x => (ev e x).bind fun v => match v with
    | .ptr b o => (match g b with
      | some (.cells _ c) => pick2 agg o n c
      | _ => none)
    | _ => none
  | .lookup km zero ok m k => (ev e m).bind fun m => (ev e k).bind fun k => (entries g m).bind fun es => (cond (keyShape km k) (find D km k es) none).bind fun r => match r with
    | some v => some (cond ok (.tuple [v, .bool true]) v)
    | none => some (cond ok (.tuple [zero, .bool false]) zero)
  | .lenMap x => (ev e x).bind fun m => (entries g m).bind fun es => some (goLen D es.length)
  | .ofBytes x => (ev e x).bind fun v => match v with
    | .nils => some (.str (D.sMk []))
    | .empty => some (.str (D.sMk []))
    | .slice b o n _ _ _ => (match g b with
      | some (.cells _ c) => (cut c o n).bind fun cs => (bytesOf cs).bind fun l => some (.str (D.sMk l))
      | _ => none)
    | _ => none
  | .entry x => (ev e x).bind fun v => match v with
    | .ptr b 0 => (match g b with
      | some (.iter (some m) _ seen stepped) => (last? seen).bind fun st => (match g m with
        | some (.map es clock) => cond (Nat.beq clock stepped) ((stamped st es).bind fun kv => some (.tuple [kv.1, kv.2])) none
        | _ => none)
      | _ => none)
    | _ => none
  | .eqRef k neg x y => (ev e x).bind fun a => (ev e y).bind fun b => (refEq g k a b).bind fun t => some (.bool (cond neg (!t) t))

def allOne : List (LV I S) → Bool
  | [] => true
  | x :: r => one? x && allOne r
def fillS (sz : Nat) (cells : List (LV I S)) : List (Nat × LV I S) → Option (List (LV I S))
  | [] => some cells
  | (i, v) :: rest => cond (Nat.beq (len? v.cells) sz) ((over cells (i * sz) v.cells).bind fun c => fillS sz c rest) none
def evPartsS (e : EnvF I S) : List (Nat × LA I S) → Option (List (Nat × LV I S))
  | [] => some []
  | (o, x) :: r => (ev e x).bind fun v => (evPartsS e r).bind fun vs => some ((o, v) :: vs)
def sBytes (s : S) : Nat → Nat → List (LV I S)
  | _, 0 => []
  | i, n + 1 => .int .u8 (D.sAt s i) :: sBytes s (i + 1) n

/-- What is made: the value, by the new block's number; the block. -/
def evalA (e : EnvF I S) : AOp I S → Option ((Nat → LV I S) × LObj I S)
  | .box x => (ev e x).bind fun v => cond (allOne v.cells) (some (fun b => .ptr b 0, .cells 0 v.cells)) none
  | .bslice zero n sz parts => (evPartsS e parts).bind fun ps => (fillS sz (reps zero n) ps).bind fun c =>
      cond (Nat.ble (n * sz) most && Nat.ble n most && allOne c) (some (fun b => .slice b 0 n n true sz, .cells 0 c)) none
  | .mkmap => some (fun b => .map b, .map [] 0)
  | .mkslice zero sz bytes l c => (ev e l).bind fun l => (ev e c).bind fun c => (nat? D l).bind fun l => (nat? D c).bind fun c =>
      cond (Nat.ble l c && Nat.ble (c * bytes) big && Nat.ble c big) (some (fun b => .slice b 0 l c true sz, .cells 0 (reps zero c))) none
  | .toBytes x => (ev e x).bind fun v => match v with
    | .str s => cond (Nat.ble (D.sLen s) big) (some (fun b => .slice b 0 (D.sLen s) (D.sLen s) false 1, .cells 1 (sBytes D s 0 (D.sLen s)))) none
    | _ => none

/-- The first n elements that lie in a slice or a text. -/
def firsts (h : H I S) (sz : Nat) : LV I S → Option (Nat × List (LV I S))
  | .nils => some (0, [])
  | .empty => some (0, [])
  | .slice b o n _ _ _ => (match h.t.get b with
    | some (.cells _ c) => (cut c o (n * sz)).bind fun cs => some (n, cs)
    | _ => none)
  | .str s => cond (Nat.beq sz 1 && Nat.ble (D.sLen s) big) (some (D.sLen s, sBytes D s 0 (D.sLen s))) none
  | _ => none
def newB (h : H I S) (o : LObj I S) : H I S := { t := h.t.set h.next o, next := h.next.succ }
def grow (h : H I S) (sz bytes : Nat) (s : LV I S) (m : Nat) (new : List (LV I S)) : Option (LV I S × H I S) :=
  cond (Nat.beq m 0) (match s with
    | .nils => some (s, h)
    | .empty => some (s, h)
    | .slice _ _ _ _ _ _ => some (s, h)
    | _ => none) (cond (Nat.beq sz 0) none (match s with
  | .nils => cond (Nat.ble (m * bytes) big && Nat.ble m big) (some (.slice h.next 0 m m false sz, newB h (.cells 0 new))) none
  | .slice b o len cap ex sz' => cond (Nat.beq sz sz' && Nat.ble ((len + m) * bytes) big && Nat.ble (len + m) big) (match h.t.get b with
    | some (.cells q c) =>
      cond (Nat.ble (len + m) cap)
        (cond (Nat.blt q 2) ((over c (o + len * sz) new).bind fun c' => some (.slice b o (len + m) cap ex sz, { h with t := h.t.set b (.cells q c') })) none)
        ((cut c o (len * sz)).bind fun old =>
          cond ex (some (.slice h.next 0 (len + m) (len + m) false sz, newB h (.cells 0 (old ++ new))))
            (cond (Nat.blt q 2) (some (.slice h.next 0 (len + m) (len + m) false sz, newB { h with t := h.t.set b .gone } (.cells q (old ++ new)))) none))
    | _ => none) none
  | _ => none))

def setAt (km : Nat) (k v : LV I S) : List (LV I S × LV I S × Nat) → Option (Option (List (LV I S × LV I S × Nat)))
  | [] => some none
  | (j, u, b) :: r => (keyEq D km k j).bind fun t => cond t (some (some ((k, v, b) :: r))) ((setAt km k v r).bind fun o => some (o.bind fun l => some ((j, u, b) :: l)))
def dropAt (km : Nat) (k : LV I S) : List (LV I S × LV I S × Nat) → Option (List (LV I S × LV I S × Nat))
  | [] => some []
  | (j, u, b) :: r => (keyEq D km k j).bind fun t => cond t (some r) ((dropAt km k r).bind fun l => some ((j, u, b) :: l))
def memN (n : Nat) : List Nat → Bool
  | [] => false
  | x :: r => Nat.beq x n || memN n r
def unseen (seen : List Nat) : List (LV I S × LV I S × Nat) → List (LV I S × LV I S × Nat)
  | [] => []
  | (k, v, b) :: r => cond (memN b seen) (unseen seen r) ((k, v, b) :: unseen seen r)
def noneSince (n : Nat) : List (LV I S × LV I S × Nat) → Bool
  | [] => true
  | (_, _, b) :: r => Nat.blt b n && noneSince n r

def evalE (e : EnvF I S) (h : H I S) : EOp I S → Option (LV I S × H I S)
  | .store n a x => (ev e a).bind fun a => (ev e x).bind fun v => match a with
    | .ptr b o => (match h.t.get b with
      | some (.cells q c) => cond (Nat.blt q 2 && Nat.beq (len? v.cells) n && allOne v.cells)
          ((over c o v.cells).bind fun c' => some (.und, { h with t := h.t.set b (.cells q c') })) none
      | _ => none)
    | _ => none
  | .append sz bytes s x => (ev e s).bind fun s => (ev e x).bind fun x => (firsts D h sz x).bind fun r => cond (allOne r.2) (grow h sz bytes s r.1 r.2) none
  | .appendZ sz bytes zero s x => (ev e s).bind fun s => (ev e x).bind fun x => (nat? D x).bind fun n => cond (Nat.ble n big) (grow h sz bytes s n (reps zero n)) none
  | .copy sz d s => (ev e d).bind fun d => (ev e s).bind fun s => (firsts D h sz s).bind fun r => match d with
    | .nils => some (goLen D 0, h)
    | .empty => some (goLen D 0, h)
    | .slice b o len _ _ sz' => cond (Nat.beq sz sz') (match h.t.get b with
      | some (.cells q c) => cond (Nat.blt q 2) ((cut r.2 0 (Nat.min r.1 len * sz)).bind fun new => cond (allOne new) ((over c o new).bind fun c' =>
          some (goLen D (Nat.min r.1 len), { h with t := h.t.set b (.cells q c') })) none) none
      | _ => none) none
    | _ => none
  | .clear zero x => (ev e x).bind fun x => match x with
    | .nils => some (.tuple [], h)
    | .empty => some (.tuple [], h)
    | .slice b o n _ _ _ => cond (Nat.beq n 0) (some (.tuple [], h)) (match h.t.get b with
      | some (.cells q c) => cond (Nat.blt q 2) ((over c o (reps zero n)).bind fun c' => some (.tuple [], { h with t := h.t.set b (.cells q c') })) none
      | _ => none)
    | _ => none
  | .clearM x => (ev e x).bind fun x => match x with
    | .nilm => some (.tuple [], h)
    | .map b => (match h.t.get b with
      | some (.map _ clock) => some (.tuple [], { h with t := h.t.set b (.map [] clock) })
      | _ => none)
    | _ => none
  | .delete km m k => (ev e m).bind fun m => (ev e k).bind fun k => match m with
    | .map b => (match h.t.get b with
      | some (.map es clock) => (cond (keyShape km k) (dropAt D km k es) none).bind fun es => some (.tuple [], { h with t := h.t.set b (.map es clock) })
      | _ => none)
    | _ => none
  | .mapset km m k v => (ev e m).bind fun m => (ev e k).bind fun k => (ev e v).bind fun v => match m with
    | .map b => (match h.t.get b with
      | some (.map es clock) => (cond (keyShape km k) (setAt D km k v es) none).bind fun r => match r with
        | some es => some (.und, { h with t := h.t.set b (.map es clock) })
        | none => some (.und, { h with t := h.t.set b (.map (es ++ [(k, v, clock)]) clock.succ) })
      | _ => none)
    | _ => none
  | .range x => (ev e x).bind fun x => match x with
    | .nilm => some (.ptr h.next 0, newB h (.iter none 0 [] 0))
    | .map b => (match h.t.get b with
      | some (.map _ clock) => some (.ptr h.next 0, newB h (.iter (some b) clock [] clock))
      | _ => none)
    | _ => none
  | .next x => (ev e x).bind fun x => match x with
    | .ptr b 0 => (match h.t.get b with
      | some (.iter none _ _ _) => some (.tuple [.bool false], h)
      | some (.iter (some m) since seen stepped) => (match h.t.get m with
        | some (.map es clock) => cond (Nat.beq clock since && Nat.beq stepped since && noneSince since es) (match unseen seen es with
          | [] => some (.tuple [.bool false], h)
          | [(k, v, s)] => some (.tuple [.bool true, k, v], { h with t := h.t.set b (.iter (some m) since (seen ++ [s]) clock) })
          | _ => none) none
        | _ => none)
      | _ => none)
    | _ => none
  | .mark x => (ev e x).bind fun x => match x with
    | .slice b o len cap ex sz => (match h.t.get b with
      | some (.cells 0 c) => some (.slice b o len cap ex sz, { h with t := h.t.set b (.cells 1 c) })
      | _ => none)
    | _ => none

inductive Out (I S : Type) where
  | normal (e : Env I S) (h : H I S)
  | exit (id : Nat) (e : Env I S) (h : H I S)
  | ret (e : Env I S) (h : H I S)
  | fail

/-- What is called: a function, a function that is ranged over, what a range over a function hands on. -/
inductive Fn where
  | fn (f : Nat)
  | iter (f : Nat)
  | yield (b : Nat)
abbrev CallF (I S : Type) := Fn → List (LV I S) → H I S → Option (LV I S × H I S)

def wanted (e : EnvF I S) : Option (Option Nat × Bool) → Option Bool
  | none => some true
  | some (none, _) => some false
  | some (some t, w) => match e t with
    | some (.bool b) => some (cond b w (!w))
    | some .und => some false
    | _ => none
def put (e : Env I S) (d : Option Nat) (v : LV I S) : Env I S := match d with
  | some d => e.set d v
  | none => e
def step (cf : CallF I S) (e : EnvF I S) (h : H I S) : LOp I S → Option (LV I S × H I S)
  | .p x => (evalP D e x).bind fun v => some (v, h)
  | .r x => (evalR D e h.t.get x).bind fun v => some (v, h)
  | .a x => (evalA D e x).bind fun r => some (r.1 h.next, newB h r.2)
  | .e x => evalE D e h x
  | .call f args => (ev e f).bind fun f => (evs e args).bind fun vs => match f with
    | .func g first cap => cf (.fn g) (first ++ vs ++ cap) h
    | .yield b => cf (.yield b) vs h
    | _ => none
def oper (cf : CallF I S) (e : Env I S) (h : H I S) (o : LOper I S) : Option (Env I S × H I S) :=
  (wanted e.get o.guard).bind fun w => cond w ((step D cf e.get h o.op).bind fun r => some (put e o.dst r.1, r.2)) (some (put e o.dst .und, h))

/-- Are two values the same, for sure? -/
def same : Nat → LV I S → LV I S → Bool
  | _, .und, .und => true
  | _, .bool a, .bool b => cond a b (!b)
  | _, .int j a, .int k b => kindEq j k && (match D.cmp .eql a b with | some t => t | none => false)
  | _, .str a, .str b => (match D.sEq a b with | some t => t | none => false)
  | _, .nilp, .nilp => true
  | _, .ptr a b, .ptr c d => Nat.beq a c && Nat.beq b d
  | _, .nils, .nils => true
  | _, .slice a b c d x s, .slice a' b' c' d' x' s' => Nat.beq a a' && Nat.beq b b' && Nat.beq c c' && Nat.beq d d' && (cond x x' (!x')) && Nat.beq s s'
  | _, .nilm, .nilm => true
  | _, .map a, .map b => Nat.beq a b
  | _, .nilf, .nilf => true
  | n + 1, .agg a, .agg b => Nat.beq (len? a) (len? b) && (a.zip b).all fun p => same n p.1 p.2
  | n + 1, .tuple a, .tuple b => Nat.beq (len? a) (len? b) && (a.zip b).all fun p => same n p.1 p.2
  | _, _, _ => false

/-- A read that may come at another time: is it what it was? -/
def again (e : Env I S) (g : Mem I S) (o : LOper I S) : Bool := match wanted e.get o.guard with
  | some false => true
  | some true => match o.op, o.dst with
    | .r x, some d => (match evalR D e.get g x, e.get d with
      | some v, some u => same D 2 v u
      | _, _ => false)
    | _, _ => false
  | none => false
def agains (e : Env I S) (g : Mem I S) : List (LOper I S) → Bool
  | [] => true
  | o :: r => again D e g o && agains e g r
def items (cf : CallF I S) : List (LItem I S) → Env I S → H I S → Option (Env I S × H I S)
  | [], e, h => some (e, h)
  | x :: r, e, h => (oper D cf e h x.o).bind fun p => cond (agains D p.1 p.2.t.get x.rs) (items cf r p.1 p.2) none

def loopN (body : Env I S → H I S → Out I S) : Nat → Env I S → H I S → Out I S
  | 0, _, _ => .fail
  | n + 1, e, h => match body e h with
    | .normal e h => loopN body n e h
    | o => o
/-- Behind the function that was ranged over. -/
def behind (e : Env I S) (h1 : H I S) (b : Nat) : Option (LObj I S) → Out I S
  | some (.loop l) => cond (Nat.beq l.st 1) .fail (match l.pend with
    | none => .normal e { h1 with t := h1.t.set b (.loop { l with st := 3 }) }
    | some none => .ret e { h1 with t := h1.t.set b (.loop { l with st := 3 }) }
    | some (some id) => .exit id e { h1 with t := h1.t.set b (.loop { l with st := 3 }) })
  | _ => .fail
def exec (cf : CallF I S) (fuel : Nat) : LCode I S → Env I S → H I S → Out I S
  | .skip, e, h => .normal e h
  | .region is, e, h => match items D cf is e h with
    | some (e, h) => .normal e h
    | none => .fail
  | .seq a b, e, h => match exec cf fuel a e h with
    | .normal e h => exec cf fuel b e h
    | o => o
  | .cond c a b, e, h => match ev e.get c with
    | some (.bool true) => exec cf fuel a e h
    | some (.bool false) => exec cf fuel b e h
    | _ => .fail
  | .block id a, e, h => match exec cf fuel a e h with
    | .exit j e h => cond (Nat.beq j id) (.normal e h) (.exit j e h)
    | o => o
  | .loop a, e, h => loopN (exec cf fuel a) fuel e h
  | .exit id, e, h => .exit id e h
  | .ret, e, h => .ret e h
  | .rangef f ps assign body, e, h => match ev e.get f with
    | some (.func g [] cap) => (match cf (.iter g) (.yield h.next :: cap) (newB h (.loop ⟨0, e, ps, assign, body, none⟩)) with
      | some (_, h1) => behind e h1 h.next (h1.t.get h.next)
      | none => .fail)
    | _ => .fail
  | .no, _, _ => .fail

def resV (e : Env I S) (h : H I S) : LRes → Option (LV I S)
  | .tmp t => e.get t
  | .cell t agg n => evalR D e.get h.t.get (.load agg n (.tmp t))
def resVs (e : Env I S) (h : H I S) : List LRes → Option (List (LV I S))
  | [] => some []
  | x :: r => (resV D e h x).bind fun v => (resVs e h r).bind fun vs => some (v :: vs)
def finish (e : Env I S) (h : H I S) (rs : List LRes) : Option (LV I S × H I S) :=
  (resVs D e h rs).bind fun vs => match vs with
    | [v] => some (v, h)
    | vs => some (.tuple vs, h)
def enter : Nat → List (LV I S) → Env I S → Env I S
  | _, [], e => e
  | n, v :: r, e => enter n.succ r (e.set n v)
/-- Values into slots. -/
def puts : List Nat → List (LV I S) → Env I S → Env I S
  | p :: ps, v :: vs, e => puts ps vs (e.set p v)
  | _, _, e => e
/-- A round's end. -/
def ends (h : H I S) (b st : Nat) (pend : Option (Option Nat)) (v : Bool) : Option (LV I S × H I S) := match h.t.get b with
  | some (.loop l) => some (.bool v, { h with t := h.t.set b (.loop { l with st := st, pend := pend }) })
  | _ => none
/-- A round's body. -/
def roundB (cf : CallF I S) (fuel : Nat) (b : Nat) (body : LCode I S) (e : Env I S) (h : H I S) : Option (LV I S × H I S) := match h.t.get b with
  | some (.loop l) => cond (Nat.beq l.st 0) (match exec D cf fuel body e { h with t := h.t.set b (.loop { l with st := 1 }) } with
    | .normal _ h' => ends h' b 0 none true
    | .ret _ h' => ends h' b 2 (some none) false
    | .exit id _ h' => ends h' b 2 (some (some id)) false
    | .fail => none) none
  | _ => none
/-- A round: what is handed on goes into its slots; the body. -/
def round (cf : CallF I S) (fuel : Nat) (b : Nat) (args : List (LV I S)) (h : H I S) : Option (LV I S × H I S) := match h.t.get b with
  | some (.loop l) => cond (Nat.beq (len? args) l.ps.length) (match exec D cf fuel l.assign (puts l.ps args l.env) h with
    | .normal e h' => roundB D cf fuel b l.body e h'
    | _ => none) none
  | _ => none
/-- A function, by its code. -/
def call1 (fn : Nat → Option (LFunc I S)) (cf : CallF I S) (fuel : Nat) (f : Nat) (args : List (LV I S)) (h : H I S) : Option (LV I S × H I S) := match fn f with
  | none => none
  | some lf => cond (Nat.ble (len? args) lf.ntmps) (match exec D cf fuel lf.body (enter 0 args .leaf) h with
    | .ret e h => finish D e h lf.results
    | .normal e h => finish D e h lf.results
    | _ => none) none
abbrev Over (I S : Type) := Nat → List (LV I S) → H I S → Option (Option (LV I S × H I S))
def callN (fn : Nat → Option (LFunc I S)) (ov : Over I S) (fuel : Nat) : Nat → CallF I S
  | 0, _, _, _ => none
  | n + 1, .fn f, args, h => match ov f args h with
    | some r => r
    | none => call1 D fn (callN fn ov fuel n) fuel f args h
  | n + 1, .iter f, args, h => call1 D fn (callN fn ov fuel n) fuel f args h
  | n + 1, .yield b, args, h => round D (callN fn ov fuel n) fuel b args h
end run
end Go.Proofs.YtohmaikcmaapjaaGreat.LI
