/- A domain of numbers some of which are known by their bounds alone; texts of such. -/
import Derived.Test.YtohmaikcmaapjaaGreatLTab
namespace Go.Proofs.YtohmaikcmaapjaaGreat.LI
def lim : IntKind → Nat
  | .i8 => 128 | .i16 => 32768 | .i32 => 2147483648 | .i64 => 9223372036854775808
  | .u8 => 256 | .u16 => 65536 | .u32 => 4294967296 | .u64 => 18446744073709551616
/-- Small numbers, none negative: what an operation comes to without a wrap. -/
def natBin (k : IntKind) (m n : Nat) : BinOp → Option Int
  | .add => cond (Nat.blt (Nat.add m n) (lim k)) (some (.ofNat (Nat.add m n))) none
  | .sub => cond (Nat.ble n m && Nat.blt m (lim k)) (some (.ofNat (Nat.sub m n))) none
  | .mul => cond (Nat.blt (Nat.mul m n) (lim k)) (some (.ofNat (Nat.mul m n))) none
  | .quo => cond (Nat.blt 0 n && Nat.blt m (lim k)) (some (.ofNat (Nat.div m n))) none
  | .rem => cond (Nat.blt 0 n) (some (.ofNat (Nat.mod m n))) none
  | .and => cond (Nat.blt m (lim k) && Nat.blt n (lim k)) (some (.ofNat (Nat.land m n))) none
  | .or => cond (Nat.blt m (lim k) && Nat.blt n (lim k)) (some (.ofNat (Nat.lor m n))) none
  | .xor => cond (Nat.blt m (lim k) && Nat.blt n (lim k)) (some (.ofNat (Nat.xor m n))) none
  | .shl => cond (Nat.blt (Nat.mul m (Nat.pow 2 n)) (lim k) && Nat.ble n k.bits) (some (.ofNat (Nat.mul m (Nat.pow 2 n)))) none
  | .shr => cond (Nat.ble n k.bits) (some (.ofNat (Nat.div m (Nat.pow 2 n)))) none
  | _ => none
def natCmp (m n : Nat) : BinOp → Option Bool
  | .eql => some (Nat.beq m n)
  | .neq => some (!Nat.beq m n)
  | .lss => some (Nat.blt m n)
  | .leq => some (Nat.ble m n)
  | .gtr => some (Nat.blt n m)
  | .geq => some (Nat.ble n m)
  | _ => none
def fastBin (op : BinOp) (k : IntKind) : Int → Int → Option Int
  | .ofNat m, .ofNat n => match natBin k m n op with
    | some r => some r
    | none => goBin op k (.ofNat m) (.ofNat n)
  | a, b => goBin op k a b
def fastCmp (op : BinOp) : Int → Int → Option Bool
  | .ofNat m, .ofNat n => natCmp m n op
  | a, b => goCmp op a b
def fastConv (k : IntKind) : Int → Int
  | .ofNat m => cond (Nat.blt m (lim k)) (.ofNat m) (k.wrap (.ofNat m))
  | a => k.wrap a

mutual
inductive N where
  | c (n : Int)
  | v (i : Nat) (lo hi : Int)
  | b (op : BinOp) (k : IntKind) (x y : N) (lo hi : Int)
  | w (k : IntKind) (x : N)
  | p (x : N)
  | f (i : Nat) (s : NL) (lo hi : Int)
  | crc (s : NL)
inductive NL where
  | nil
  | cons (x : N) (r : NL)
end
def binEq : BinOp → BinOp → Bool
  | .add, .add => true | .sub, .sub => true | .mul, .mul => true | .quo, .quo => true | .rem, .rem => true | .and, .and => true | .or, .or => true | .xor, .xor => true
  | .andNot, .andNot => true | .shl, .shl => true | .shr, .shr => true | .eql, .eql => true | .neq, .neq => true | .lss, .lss => true | .leq, .leq => true | .gtr, .gtr => true | .geq, .geq => true | _, _ => false
def intEq : Int → Int → Bool
  | .ofNat a, .ofNat b => Nat.beq a b
  | .negSucc a, .negSucc b => Nat.beq a b
  | _, _ => false
mutual
def N.same : N → N → Bool
  | .c a, .c b => intEq a b
  | .v i l h, .v i' l' h' => Nat.beq i i' && intEq l l' && intEq h h'
  | .b op k x y l h, .b op' k' x' y' l' h' => binEq op op' && kindEq k k' && N.same x x' && N.same y y' && intEq l l' && intEq h h'
  | .w k x, .w k' x' => kindEq k k' && N.same x x'
  | .p x, .p x' => N.same x x'
  | .f i s l h, .f i' s' l' h' => Nat.beq i i' && NL.same s s' && intEq l l' && intEq h h'
  | .crc s, .crc s' => NL.same s s'
  | _, _ => false
def NL.same : NL → NL → Bool
  | .nil, .nil => true
  | .cons x r, .cons x' r' => N.same x x' && NL.same r r'
  | _, _ => false
end
def N.lo : N → Int
  | .c n => n
  | .v _ l _ => l
  | .b _ _ _ _ l _ => l
  | .w k _ => k.min
  | .p _ => 0
  | .f _ _ l _ => l
  | .crc _ => 0
def imax (a b : Int) : Int := cond (decide (a ≤ b)) b a
def N.hi : N → Int
  | .c n => n
  | .v _ l h => imax l h
  | .b _ _ _ _ l h => imax l h
  | .w k _ => k.max
  | .p x => imax 0 x.hi
  | .f _ _ l h => imax l h
  | .crc _ => 4294967295
def ile (a b : Int) : Bool := decide (a ≤ b)
/-- Bounds of what an operation comes to; none: not known here. -/
def bounds (op : BinOp) (k : IntKind) (lx hx ly hy : Int) : Option (Int × Int) := match op with
  | .add => cond (ile k.min (lx + ly) && ile (hx + hy) k.max) (some (lx + ly, hx + hy)) none
  | .sub => cond (ile k.min (lx - hy) && ile (hx - ly) k.max) (some (lx - hy, hx - ly)) none
  | .mul => cond (intEq lx 0 && intEq hx 0) (some (0, 0)) (cond (ile 0 lx && ile 0 ly && ile (hx * hy) k.max) (some (lx * ly, hx * hy)) none)
  | .and => cond (intEq ly hy && ile 0 ly && ile ly (k.max)) (some (0, hy)) none
  | .shr => cond (intEq ly hy && ile 0 ly) (some (lx.fdiv (2 ^ Nat.min ly.toNat k.bits), hx.fdiv (2 ^ Nat.min ly.toNat k.bits))) none
  | .shl => cond (intEq ly hy && ile 0 ly && ile 0 lx && ile (hx * 2 ^ Nat.min ly.toNat k.bits) k.max) (some (lx * 2 ^ Nat.min ly.toNat k.bits, hx * 2 ^ Nat.min ly.toNat k.bits)) none
  | .rem => cond (intEq ly hy && ile 1 ly && ile 0 lx) (some (0, ly - 1)) none
  | .quo => cond (intEq ly hy && ile 1 ly && ile 0 lx && ile hx k.max) (some (lx.tdiv ly, hx.tdiv ly)) none
  | _ => none
/-- Operations that answer at any numbers, within their kind. -/
def total (op : BinOp) (ly hy : Int) : Bool := match op with
  | .add => true | .sub => true | .mul => true | .and => true | .or => true | .xor => true | .andNot => true
  | .shl => ile 0 ly
  | .quo => ile 1 ly || ile hy (-1)
  | _ => false
def symBin (op : BinOp) (k : IntKind) (x y : N) : Option N := match bounds op k x.lo x.hi y.lo y.hi with
  | some (l, h) => cond (intEq l h) (some (.c l)) (some (.b op k x y l h))
  | none => cond (total op y.lo y.hi) (some (.b op k x y k.min k.max)) none
def isSub : BinOp → Bool
  | .sub => true
  | _ => false
def binN (op : BinOp) (k : IntKind) : N → N → Option N
  | .c a, .c b => match fastBin op k a b with
    | some r => some (.c r)
    | none => none
  | x, y => cond (isSub op && N.same x y) (some (.c 0)) (symBin op k x y)
def boundCmp (op : BinOp) (lx hx ly hy : Int) : Option Bool := match op with
  | .lss => cond (decide (hx < ly)) (some true) (cond (ile hy lx) (some false) none)
  | .leq => cond (ile hx ly) (some true) (cond (decide (hy < lx)) (some false) none)
  | .gtr => cond (decide (hy < lx)) (some true) (cond (ile hx ly) (some false) none)
  | .geq => cond (ile hy lx) (some true) (cond (decide (hx < ly)) (some false) none)
  | .eql => cond (decide (hx < ly) || decide (hy < lx)) (some false) none
  | .neq => cond (decide (hx < ly) || decide (hy < lx)) (some true) none
  | _ => none
/-- What is told ahead: is the one at most the other? -/
abbrev Facts := List (N × N × Bool)
def leFact (x y : N) : Facts → Option Bool
  | [] => none
  | f :: r => cond (N.same x f.1 && N.same y f.2.1) (some f.2.2) (leFact x y r)
def notO : Option Bool → Option Bool
  | some b => some (!b)
  | none => none
def bothO : Option Bool → Option Bool → Option Bool
  | some false, _ => some false
  | _, some false => some false
  | some true, some true => some true
  | _, _ => none
def factOf (F : Facts) (op : BinOp) (x y : N) : Option Bool := match op with
  | .leq => leFact x y F
  | .geq => leFact y x F
  | .lss => notO (leFact y x F)
  | .gtr => notO (leFact x y F)
  | .eql => bothO (leFact x y F) (leFact y x F)
  | .neq => notO (bothO (leFact x y F) (leFact y x F))
  | _ => none
def sameCmp (op : BinOp) : Option Bool := match op with
  | .eql => some true | .neq => some false | .lss => some false | .leq => some true | .gtr => some false | .geq => some true | _ => none
def symCmp (F : Facts) (op : BinOp) (x y : N) : Option Bool := match boundCmp op x.lo x.hi y.lo y.hi with
  | some t => some t
  | none => cond (N.same x y) (sameCmp op) (factOf F op x y)
def cmpN (F : Facts) (op : BinOp) : N → N → Option Bool
  | .c a, .c b => fastCmp op a b
  | x, y => symCmp F op x y
def convN (k : IntKind) : N → N
  | .c a => .c (fastConv k a)
  | x => cond (ile k.min x.lo && ile x.hi k.max) x (.w k x)
def toIntN : N → Option Int
  | .c n => some n
  | _ => none
/-- A byte: what is known to be one stays as it is. -/
def byteN (x : N) : N := match x with
  | .c (.ofNat n) => cond (Nat.blt n 256) x (.c (.ofNat (Nat.mod n 256)))
  | x => cond (ile 0 x.lo && ile x.hi 255) x (.w .u8 (.p x))
def lenN : List N → Nat
  | [] => 0
  | _ :: r => Nat.succ (lenN r)
def catN : List N → List N → List N
  | [], y => y
  | x :: r, y => x :: catN r y
def dropN : List N → Nat → List N
  | l, 0 => l
  | [], _ + 1 => []
  | _ :: r, n + 1 => dropN r n
def takeN : List N → Nat → List N
  | _, 0 => []
  | [], _ + 1 => []
  | x :: r, n + 1 => x :: takeN r n
def nthN : List N → Nat → N
  | [], _ => .c (.ofNat 0)
  | x :: _, 0 => x
  | _ :: r, n + 1 => nthN r n
def eqN : List N → List N → Option Bool
  | [], [] => some true
  | x :: r, y :: q => match cmpN [] .eql (byteN x) (byteN y) with
    | some true => eqN r q
    | some false => some false
    | none => none
  | _, _ => some false
def ofB : List UInt8 → List N
  | [] => []
  | b :: r => .c (.ofNat b.toNat) :: ofB r
def symDom (F : Facts) : Dom N (List N) where
  ofInt n := .c n
  toInt := toIntN
  bin := binN
  cmp := cmpN F
  conv k a := some (convN k a)
  sOf s := ofB s.data.toList
  sLen := lenN
  sCat := catN
  sCut s l h := takeN (dropN s l) (Nat.sub h l)
  sAt s n := byteN (nthN s n)
  sEq := eqN
  sMk l := l
end Go.Proofs.YtohmaikcmaapjaaGreat.LI
