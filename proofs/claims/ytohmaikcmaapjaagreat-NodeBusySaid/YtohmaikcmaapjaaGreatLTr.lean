/- The given code, turned into the logical interpreter's own: types looked up ahead, the order of a drawn region's operations chosen ahead. -/
import Derived.Test.YtohmaikcmaapjaaGreatLDef
import GoSem.Core.Region
namespace Go.Proofs.YtohmaikcmaapjaaGreat.LI

inductive TK where
  | int (k : IntKind) | bool | str | slice (e : TypeId) | arr (n : Nat) (e : TypeId) | map (k e : TypeId) | struct (fs : List (Nat × TypeId)) | ptr (e : TypeId) | fn | other
structure TyI (I S : Type) where
  size : Nat
  bytes : Nat
  agg : Bool
  zero : LV I S
  kind : TK
  flat : Bool

section tr
variable {I S : Type} (D : Dom I S) (ty : Nat → Option (TyI I S))

def ofV1 : Value → Option (LV I S)
  | .bool b => some (.bool b)
  | .int k n => some (.int k (D.ofInt n))
  | .string s => some (.str (D.sOf s))
  | .pointer none => some .nilp
  | .slice none 0 0 => some .nils
  | .map none => some .nilm
  | .nilFunc => some .nilf
  | _ => none
def ofVs : List Value → Option (List (LV I S))
  | [] => some []
  | v :: r => (ofV1 D v).bind fun x => (ofVs r).bind fun l => some (x :: l)
def ofV : Value → Option (LV I S)
  | .agg cs => (ofVs D cs.toList).bind fun l => some (.agg l)
  | v => ofV1 D v
def trA : Operand → Option (LA I S)
  | .tmp t => some (.tmp t)
  | .const v => (ofV D v).bind fun x => some (.const x)
  | .func f => some (.const (.func f [] []))
  | .global _ => none
def trAs : List Operand → Option (List (LA I S))
  | [] => some []
  | x :: r => (trA D x).bind fun x => (trAs r).bind fun l => some (x :: l)
def trO : Option Operand → Option (Option (LA I S))
  | none => some none
  | some x => (trA D x).bind fun x => some (some x)
def nth {α : Type} : List α → Nat → Option α
  | [], _ => none
  | x :: _, 0 => some x
  | _ :: r, n + 1 => nth r n
/-- The places of a literal's parts. -/
def trParts (place : Nat → Option (Nat × Nat)) : List (Nat × Operand) → Option (List (Nat × Nat × LA I S))
  | [] => some []
  | (i, x) :: r => (place i).bind fun p => (trA D x).bind fun x => (trParts place r).bind fun l => some ((p.1, p.2, x) :: l)
def trPartsS : List (Nat × Operand) → Option (List (Nat × LA I S))
  | [] => some []
  | (i, x) :: r => (trA D x).bind fun x => (trPartsS r).bind fun l => some ((i, x) :: l)
def kindAt (t : Nat) : TK := match ty t with
  | some i => i.kind
  | none => .other
/-- A key's type: an integer type's (0), a struct's of so many integers. -/
def keyOf (t : Nat) : Option Nat := match ty t with
  | some i => (match i.kind with | .int _ => some 0 | _ => cond (i.flat && Nat.blt 0 i.size) (some i.size) none)
  | none => none
def u8 (t : Nat) : Bool := match kindAt ty t with
  | .int .u8 => true
  | _ => false

def trBuiltin (b : Builtin) (ts : List TypeId) (args : List (LA I S)) : Option (LOp I S) := match b, args with
  | .len, [x] => (nth ts 0).bind fun t => match kindAt ty t with
    | .str => some (.p (.lenS x))
    | .slice _ => some (.p (.len x))
    | .arr n _ => some (.p (.num n))
    | .map _ _ => some (.r (.lenMap x))
    | _ => none
  | .cap, [x] => (nth ts 0).bind fun t => match kindAt ty t with
    | .slice _ => some (.p (.cap x))
    | _ => none
  | .min, xs => some (.p (.min xs))
  | .max, xs => some (.p (.max xs))
  | .append, [s, x] => (nth ts 0).bind fun t => (nth ts 1).bind fun u => match kindAt ty t with
    | .slice e => (ty e).bind fun i => (match kindAt ty u with
      | .int _ => some (.e (.appendZ i.size i.bytes i.zero.cells s x))
      | .slice _ => some (.e (.append i.size i.bytes s x))
      | .str => cond (u8 ty e) (some (.e (.append i.size i.bytes s x))) none
      | _ => none)
    | _ => none
  | .copy, [d, s] => (nth ts 0).bind fun t => match kindAt ty t with
    | .slice e => (ty e).bind fun i => some (.e (.copy i.size d s))
    | _ => none
  | .clear, [x] => (nth ts 0).bind fun t => match kindAt ty t with
    | .map _ _ => some (.e (.clearM x))
    | .slice e => (ty e).bind fun i => some (.e (.clear i.zero.cells x))
    | _ => none
  | .delete, [m, k] => (nth ts 0).bind fun t => match kindAt ty t with
    | .map kt _ => (keyOf ty kt).bind fun km => some (.e (.delete km m k))
    | _ => none
  | _, _ => none

def trOp (o : Oper) : Option (LOp I S) := match o.op with
  | .move x => (trA D x).bind fun x => some (.p (.move x))
  | .assign x => (trA D x).bind fun x => some (.p (.move x))
  | .pick c a b => (trA D c).bind fun c => (trA D a).bind fun a => (trA D b).bind fun b => some (.p (.pick c a b))
  | .alloc e => (ty e).bind fun i => some (.a (.box (.const i.zero)))
  | .box _ x => (trA D x).bind fun x => some (.a (.box x))
  | .build t parts => (ty t).bind fun i => match i.kind with
    | .struct fs => (trParts D (fun j => (nth fs j).bind fun f => (ty f.2).bind fun k => some (f.1, k.size)) parts.toList).bind fun ps => some (.p (.build i.zero.cells ps))
    | .arr _ e => (ty e).bind fun k => (trParts D (fun j => some (j * k.size, k.size)) parts.toList).bind fun ps => some (.p (.build i.zero.cells ps))
    | _ => none
  | .buildSlice t n parts => match kindAt ty t with
    | .slice e => (ty e).bind fun i => (trPartsS D parts.toList).bind fun ps => some (.a (.bslice i.zero.cells n i.size ps))
    | _ => none
  | .load t x => (ty t).bind fun i => (trA D x).bind fun x => some (.r (.load i.agg i.size x))
  | .store t a x => (ty t).bind fun i => (trA D a).bind fun a => (trA D x).bind fun x => some (.e (.store i.size a x))
  | .nilCheck x => (trA D x).bind fun x => some (.p (.nilchk x))
  | .binOp op t x y _ => (trA D x).bind fun x => (trA D y).bind fun y => match op with
    | .eql => (ty t).bind fun i => (match i.kind with
      | .int _ => some (.p (.bin .eql x y))
      | .bool => some (.p (.eqb false x y))
      | .str => some (.p (.bin .eql x y))
      | .struct _ => cond i.flat (some (.p (.eqAgg false i.size x y))) none
      | .ptr e => (ty e).bind fun j => cond (Nat.beq j.size 0) none (some (.r (.eqRef .ptr false x y)))
      | .slice _ => some (.r (.eqRef .sl false x y))
      | .map _ _ => some (.r (.eqRef .mp false x y))
      | .fn => some (.r (.eqRef .fn false x y))
      | _ => none)
    | .neq => (ty t).bind fun i => (match i.kind with
      | .int _ => some (.p (.bin .neq x y))
      | .bool => some (.p (.eqb true x y))
      | .str => some (.p (.bin .neq x y))
      | .struct _ => cond i.flat (some (.p (.eqAgg true i.size x y))) none
      | .ptr e => (ty e).bind fun j => cond (Nat.beq j.size 0) none (some (.r (.eqRef .ptr true x y)))
      | .slice _ => some (.r (.eqRef .sl true x y))
      | .map _ _ => some (.r (.eqRef .mp true x y))
      | .fn => some (.r (.eqRef .fn true x y))
      | _ => none)
    | op => some (.p (.bin op x y))
  | .unOp op _ x => (trA D x).bind fun x => some (.p (.un op x))
  | .convert s d x => (trA D x).bind fun x => match kindAt ty s, kindAt ty d with
    | .int _, .int k => some (.p (.convInt k x))
    | .str, .slice e => cond (u8 ty e) (some (.a (.toBytes x))) none
    | .slice e, .str => cond (u8 ty e) (some (.r (.ofBytes x))) none
    | .slice e, .slice _ => cond (u8 ty e && Nat.beq s d) (some (.e (.mark x))) none
    | _, _ => none
  | .makeFunc (.func f) a c => (trAs D a.toList).bind fun a => (trAs D c.toList).bind fun c => some (.p (.mkfunc f a c))
  | .makeMap _ none => some (.a .mkmap)
  | .makeSlice t l c => match kindAt ty t with
    | .slice e => (ty e).bind fun i => (trA D l).bind fun l => (trA D c).bind fun c => some (.a (.mkslice i.zero.cells i.size i.bytes l c))
    | _ => none
  | .slice t x lo hi mx => (trA D x).bind fun x => (trO D lo).bind fun lo => (trO D hi).bind fun hi => (trO D mx).bind fun mx => match kindAt ty t with
    | .str => (match mx with | none => some (.p (.slStr x lo hi)) | some _ => none)
    | .slice e => (ty e).bind fun i => some (.p (.slSl i.size x lo hi mx))
    | _ => none
  | .fieldAddr t x f => (trA D x).bind fun x => match kindAt ty t with
    | .struct fs => (nth fs f).bind fun fd => (ty fd.2).bind fun i => cond (Nat.beq i.size 0) none (some (.p (.fieldAddr fd.1 x)))
    | _ => none
  | .field t x f => (trA D x).bind fun x => match kindAt ty t with
    | .struct fs => (nth fs f).bind fun fd => (ty fd.2).bind fun i => some (.p (.field i.agg fd.1 i.size x))
    | _ => none
  | .indexAddr t x i => (trA D x).bind fun x => (trA D i).bind fun i => match kindAt ty t with
    | .slice e => (ty e).bind fun k => some (.p (.idxSl k.size x i))
    | .arr n e => (ty e).bind fun k => some (.p (.idxArrP n k.size x i))
    | _ => none
  | .index t x i => (trA D x).bind fun x => (trA D i).bind fun i => match kindAt ty t with
    | .arr n e => (ty e).bind fun k => some (.p (.idxArr n k.size k.agg x i))
    | .str => some (.p (.idxStr x i))
    | _ => none
  | .lookup t m k ok => (trA D m).bind fun m => (trA D k).bind fun k => match kindAt ty t with
    | .map kt e => (keyOf ty kt).bind fun km => (ty e).bind fun i => some (.r (.lookup km i.zero ok m k))
    | _ => none
  | .mapUpdate t m k v => (trA D m).bind fun m => (trA D k).bind fun k => (trA D v).bind fun v => match kindAt ty t with
    | .map kt _ => (keyOf ty kt).bind fun km => some (.e (.mapset km m k v))
    | _ => none
  | .range t x => (trA D x).bind fun x => match kindAt ty t with
    | .map _ _ => some (.e (.range x))
    | _ => none
  | .next x false => (trA D x).bind fun x => some (.e (.next x))
  | .entry x => (trA D x).bind fun x => some (.r (.entry x))
  | .extract x i => (trA D x).bind fun x => some (.p (.extract i x))
  | .call c => (trAs D c.args.toList).bind fun args => match c.callee with
    | .builtin b => trBuiltin ty b c.argTypes.toList args
    | .value f => (trA D f).bind fun f => some (.call f args)
    | .invoke _ _ => none
  | _ => none

def trOper (ops : Array Oper) (o : Oper) : Option (LOper I S) := (trOp D ty o).bind fun x =>
  some { dst := o.dst, guard := o.guard.map fun g => ((ops[g.1]?).bind (·.dst), g.2), op := x }

end tr
end Go.Proofs.YtohmaikcmaapjaaGreat.LI
