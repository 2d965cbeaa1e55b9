/- The interpreter once more, laid out for the kernel; it is the same. -/
import Derived.Test.YtohmaikcmaapjaaGreatLTab
namespace Go.Proofs.YtohmaikcmaapjaaGreat.LI
variable {I S : Type}
noncomputable section
def bK {α β : Type} (x : Option α) (f : α → Option β) : Option β := Option.rec (motive := fun _ => Option β) none f x
theorem bK_eq {α β : Type} (x : Option α) (f : α → Option β) : bK x f = x.bind f := by cases x <;> rfl
def cK {α : Type} (b : Bool) (x y : α) : α := Bool.rec (motive := fun _ => α) y x b
theorem cK_eq {α : Type} (b : Bool) (x y : α) : cK b x y = cond b x y := by cases b <;> rfl
def evK (e : Env I S) (x : LA I S) : Option (LV I S) := LA.rec (motive := fun _ => Option (LV I S)) (Tr.get e) some x
theorem evK_eq (e : Env I S) (x : LA I S) : evK e x = ev e.get x := by cases x <;> rfl
def evsK (e : Env I S) (l : List (LA I S)) : Option (List (LV I S)) := List.rec (motive := fun _ => Option (List (LV I S))) (some []) (fun x _ ih => bK (evK e x) fun v => bK ih fun vs => some (v :: vs)) l
theorem evsK_eq (e : Env I S) : ∀ l : List (LA I S), evsK e l = evs e.get l
  | [] => rfl
  | x :: l => by
    have := evsK_eq e l
    unfold evs; rw [← this, ← evK_eq, ← bK_eq]; simp only [← bK_eq]; rfl
def evoK (e : Env I S) (x : Option (LA I S)) : Option (Option (LV I S)) := Option.rec (motive := fun _ => Option (Option (LV I S))) (some none) (fun x => bK (evK e x) fun v => some (some v)) x
theorem evoK_eq (e : Env I S) (x : Option (LA I S)) : evoK e x = evo e.get x := by
  cases x with
  | none => rfl
  | some x => simp only [evo, ← evK_eq, ← bK_eq]; rfl
def evPartsK (e : Env I S) (l : List (Nat × Nat × LA I S)) : Option (List (Nat × Nat × LV I S)) := List.rec (motive := fun _ => Option (List (Nat × Nat × LV I S))) (some []) (fun x _ ih => bK (evK e x.2.2) fun v => bK ih fun vs => some ((x.1, x.2.1, v) :: vs)) l
theorem evPartsK_eq (e : Env I S) : ∀ l : List (Nat × Nat × LA I S), evPartsK e l = evParts e.get l
  | [] => rfl
  | (_, _, x) :: l => by
    have := evPartsK_eq e l
    unfold evParts; rw [← this, ← evK_eq, ← bK_eq]; simp only [← bK_eq]; rfl
def evPartsSK (e : Env I S) (l : List (Nat × LA I S)) : Option (List (Nat × LV I S)) := List.rec (motive := fun _ => Option (List (Nat × LV I S))) (some []) (fun x _ ih => bK (evK e x.2) fun v => bK ih fun vs => some ((x.1, v) :: vs)) l
theorem evPartsSK_eq (e : Env I S) : ∀ l : List (Nat × LA I S), evPartsSK e l = evPartsS e.get l
  | [] => rfl
  | (_, x) :: l => by
    have := evPartsSK_eq e l
    unfold evPartsS; rw [← this, ← evK_eq, ← bK_eq]; simp only [← bK_eq]; rfl
def atK (l : List (LV I S)) : Nat → Option (LV I S) := List.rec (motive := fun _ => Nat → Option (LV I S)) (fun _ => none) (fun x _ ih n => Nat.rec (motive := fun _ => Option (LV I S)) (some x) (fun m _ => ih m) n) l
theorem atK_eq : ∀ (l : List (LV I S)) (n : Nat), atK l n = at? l n
  | [], _ => rfl
  | _ :: _, 0 => rfl
  | _ :: l, n + 1 => atK_eq l n
def cutK (c : List (LV I S)) : Nat → Nat → Option (List (LV I S)) := List.rec (motive := fun _ => Nat → Nat → Option (List (LV I S))) (fun o n => Nat.rec (motive := fun _ => Option (List (LV I S))) (Nat.rec (motive := fun _ => Option (List (LV I S))) (some []) (fun _ _ => none) n) (fun _ _ => none) o)
  (fun x _ ih o n => Nat.rec (motive := fun _ => Option (List (LV I S))) (Nat.rec (motive := fun _ => Option (List (LV I S))) (some []) (fun m _ => bK (ih 0 m) fun r => some (x :: r)) n) (fun p _ => ih p n) o) c
theorem cutK_eq : ∀ (c : List (LV I S)) (o n : Nat), cutK c o n = cut c o n
  | [], 0, 0 => rfl
  | [], 0, _ + 1 => rfl
  | [], _ + 1, _ => rfl
  | _ :: _, 0, 0 => rfl
  | x :: c, 0, n + 1 => by
    have := cutK_eq c 0 n
    simp only [cut, ← this, ← bK_eq]; rfl
  | _ :: c, o + 1, n => cutK_eq c o n
def overK (c : List (LV I S)) : Nat → List (LV I S) → Option (List (LV I S)) := List.rec (motive := fun _ => Nat → List (LV I S) → Option (List (LV I S))) (fun n vs => Nat.rec (motive := fun _ => Option (List (LV I S))) (List.rec (motive := fun _ => Option (List (LV I S))) (some []) (fun _ _ _ => none) vs) (fun _ _ => none) n)
  (fun x tl ih n vs => Nat.rec (motive := fun _ => Option (List (LV I S))) (List.rec (motive := fun _ => Option (List (LV I S))) (some (x :: tl)) (fun v r _ => bK (ih 0 r) fun q => some (v :: q)) vs) (fun p _ => bK (ih p vs) fun q => some (x :: q)) n) c
theorem overK_eq : ∀ (c : List (LV I S)) (n : Nat) (vs : List (LV I S)), overK c n vs = over c n vs
  | [], 0, [] => rfl
  | [], 0, _ :: _ => rfl
  | [], _ + 1, _ => rfl
  | _ :: _, 0, [] => rfl
  | x :: c, 0, v :: vs => by
    have := overK_eq c 0 vs
    simp only [over, ← this, ← bK_eq]; rfl
  | x :: c, n + 1, vs => by
    have := overK_eq c n vs
    simp only [over, ← this, ← bK_eq]; rfl
def pick2K (agg : Bool) (off n : Nat) (cs : List (LV I S)) : Option (LV I S) := cK agg (bK (cutK cs off n) fun r => some (.agg r)) (atK cs off)
theorem pick2K_eq (agg : Bool) (off n : Nat) (cs : List (LV I S)) : pick2K agg off n cs = pick2 agg off n cs := by simp only [pick2K, pick2, cK_eq, bK_eq, cutK_eq, atK_eq]
def fillK (l : List (Nat × Nat × LV I S)) : List (LV I S) → Option (List (LV I S)) := List.rec (motive := fun _ => List (LV I S) → Option (List (LV I S))) (fun c => some c) (fun x _ ih c => cK (Nat.beq (len? x.2.2.cells) x.2.1) (bK (overK c x.1 x.2.2.cells) fun c => ih c) none) l
theorem fillK_eq : ∀ (l : List (Nat × Nat × LV I S)) (c : List (LV I S)), fillK l c = fill c l
  | [], _ => rfl
  | (off, n, v) :: l, c => by
    have : ∀ c, fillK l c = fill c l := fillK_eq l
    simp only [fill, ← this, ← overK_eq, ← bK_eq, ← cK_eq]; rfl
def firstsK (D : Dom I S) (h : H I S) (sz : Nat) : LV I S → Option (Nat × List (LV I S))
  | .nils => some (0, [])
  | .empty => some (0, [])
  | .slice b o n _ _ _ => (match h.t.get b with
    | some (.cells _ c) => bK (cutK c o (n * sz)) fun cs => some (n, cs)
    | _ => none)
  | .str s => cK (Nat.beq sz 1 && Nat.ble (D.sLen s) big) (some (D.sLen s, sBytes D s 0 (D.sLen s))) none
  | _ => none
theorem firstsK_eq (D : Dom I S) (h : H I S) (sz : Nat) (x : LV I S) : firstsK D h sz x = firsts D h sz x := by cases x <;> simp only [firstsK, firsts, bK_eq, cK_eq, cutK_eq] <;> rfl
def growK (h : H I S) (sz bytes : Nat) (s : LV I S) (m : Nat) (new : List (LV I S)) : Option (LV I S × H I S) :=
  cK (Nat.beq m 0) (match s with
    | .nils => some (s, h)
    | .empty => some (s, h)
    | .slice _ _ _ _ _ _ => some (s, h)
    | _ => none) (cK (Nat.beq sz 0) none (match s with
  | .nils => cK (Nat.ble (m * bytes) big && Nat.ble m big) (some (.slice h.next 0 m m false sz, newB h (.cells 0 new))) none
  | .slice b o len cap ex sz' => cK (Nat.beq sz sz' && Nat.ble ((len + m) * bytes) big && Nat.ble (len + m) big) (match h.t.get b with
    | some (.cells q c) =>
      cK (Nat.ble (len + m) cap)
        (cK (Nat.blt q 2) (bK (overK c (o + len * sz) new) fun c' => some (.slice b o (len + m) cap ex sz, { h with t := h.t.set b (.cells q c') })) none)
        (bK (cutK c o (len * sz)) fun old =>
          cK ex (some (.slice h.next 0 (len + m) (len + m) false sz, newB h (.cells 0 (old ++ new))))
            (cK (Nat.blt q 2) (some (.slice h.next 0 (len + m) (len + m) false sz, newB { h with t := h.t.set b .gone } (.cells q (old ++ new)))) none))
    | _ => none) none
  | _ => none))
theorem growK_eq (h : H I S) (sz bytes : Nat) (x : LV I S) (m : Nat) (new : List (LV I S)) : growK h sz bytes x m new = grow h sz bytes x m new := by cases x <;> simp only [growK, grow, bK_eq, cK_eq, cutK_eq, overK_eq] <;> rfl
def kP_move (D : Dom I S) (e : Env I S)  (x : LA I S) : Option (LV I S) :=
  evK e x
def kP_pick (D : Dom I S) (e : Env I S)  (c : LA I S) (a : LA I S) (b : LA I S) : Option (LV I S) :=
  bK (evK e c) fun t => match t with
    | .bool t => cK t (evK e a) (evK e b)
    | _ => none
def kP_build (D : Dom I S) (e : Env I S)  (zero : List (LV I S)) (parts : List (Nat × Nat × LA I S)) : Option (LV I S) :=
  bK (evPartsK e parts) fun ps => bK (fillK ps zero) fun c => some (.agg c)
def kP_nilchk (D : Dom I S) (e : Env I S)  (x : LA I S) : Option (LV I S) :=
  bK (evK e x) fun v => match v with
    | .ptr b o => some (.ptr b o)
    | .func f a c => some (.func f a c)
    | _ => none
def kP_bin (D : Dom I S) (e : Env I S)  (op : BinOp) (x : LA I S) (y : LA I S) : Option (LV I S) :=
  bK (evK e x) fun a => bK (evK e y) fun b => binV D op a b
def kP_eqAgg (D : Dom I S) (e : Env I S)  (neg : Bool) (m : Nat) (x : LA I S) (y : LA I S) : Option (LV I S) :=
  bK (evK e x) fun a => bK (evK e y) fun b => bK (sameAgg D m a b) fun t => some (.bool (cK neg (!t) t))
def kP_eqb (D : Dom I S) (e : Env I S)  (neg : Bool) (x : LA I S) (y : LA I S) : Option (LV I S) :=
  bK (evK e x) fun a => bK (evK e y) fun b => match a, b with
    | .bool a, .bool b => some (.bool (cK neg (!(a == b)) (a == b)))
    | _, _ => none
def kP_un (D : Dom I S) (e : Env I S)  (op : UnOp) (x : LA I S) : Option (LV I S) :=
  bK (evK e x) fun v => match op, v with
    | .not, .bool b => some (.bool (!b))
    | .neg, .int k n => bK (D.bin .sub k (D.ofInt 0) n) fun m => some (.int k m)
    | .xor, .int k n => bK (D.bin .xor k (D.ofInt (cK k.signed (-1) k.max)) n) fun m => some (.int k m)
    | _, _ => none
def kP_convInt (D : Dom I S) (e : Env I S)  (k : IntKind) (x : LA I S) : Option (LV I S) :=
  bK (evK e x) fun v => match v with
    | .int _ n => bK (D.conv k n) fun m => some (.int k m)
    | _ => none
def kP_mkfunc (D : Dom I S) (e : Env I S)  (f : Nat) (first : List (LA I S)) (cap : List (LA I S)) : Option (LV I S) :=
  bK (evsK e first) fun a => bK (evsK e cap) fun c => some (.func f a c)
def kP_slStr (D : Dom I S) (e : Env I S)  (x : LA I S) (lo : Option (LA I S)) (hi : Option (LA I S)) : Option (LV I S) :=
  bK (evK e x) fun v => bK (evoK e lo) fun l => bK (evoK e hi) fun h => match v with
    | .str s => bK (bnd D h (D.sLen s) (D.sLen s)) fun h => bK (bnd D l 0 h) fun l => some (.str (D.sCut s l h))
    | _ => none
def kP_slSl (D : Dom I S) (e : Env I S)  (sz : Nat) (x : LA I S) (lo : Option (LA I S)) (hi : Option (LA I S)) (mx : Option (LA I S)) : Option (LV I S) :=
  bK (evK e x) fun v => bK (evoK e lo) fun l => bK (evoK e hi) fun h => bK (evoK e mx) fun m => slSl D sz v l h m
def kP_fieldAddr (D : Dom I S) (e : Env I S)  (off : Nat) (x : LA I S) : Option (LV I S) :=
  bK (evK e x) fun v => match v with
    | .ptr b o => some (.ptr b (o + off))
    | _ => none
def kP_field (D : Dom I S) (e : Env I S)  (agg : Bool) (off : Nat) (n : Nat) (x : LA I S) : Option (LV I S) :=
  bK (evK e x) fun v => match v with
    | .agg cs => pick2K agg off n cs
    | _ => none
def kP_idxSl (D : Dom I S) (e : Env I S)  (sz : Nat) (x : LA I S) (i : LA I S) : Option (LV I S) :=
  bK (evK e x) fun v => bK (evK e i) fun i => match v with
    | .slice b o len _ _ _ => bK (nat? D i) fun n => cK (Nat.blt n len) (some (.ptr b (o + n * sz))) none
    | _ => none
def kP_idxArrP (D : Dom I S) (e : Env I S)  (m : Nat) (sz : Nat) (x : LA I S) (i : LA I S) : Option (LV I S) :=
  bK (evK e x) fun v => bK (evK e i) fun i => match v with
    | .ptr b o => bK (nat? D i) fun n => cK (Nat.blt n m) (some (.ptr b (o + n * sz))) none
    | _ => none
def kP_idxArr (D : Dom I S) (e : Env I S)  (m : Nat) (sz : Nat) (agg : Bool) (x : LA I S) (i : LA I S) : Option (LV I S) :=
  bK (evK e x) fun v => bK (evK e i) fun i => match v with
    | .agg cs => bK (nat? D i) fun n => cK (Nat.blt n m) (pick2K agg (n * sz) sz cs) none
    | _ => none
def kP_idxStr (D : Dom I S) (e : Env I S)  (x : LA I S) (i : LA I S) : Option (LV I S) :=
  bK (evK e x) fun v => bK (evK e i) fun i => match v with
    | .str s => bK (nat? D i) fun n => cK (Nat.blt n (D.sLen s)) (some (.int .u8 (D.sAt s n))) none
    | _ => none
def kP_extract (D : Dom I S) (e : Env I S)  (i : Nat) (x : LA I S) : Option (LV I S) :=
  bK (evK e x) fun v => match v with
    | .tuple vs => atK vs i
    | _ => none
def kP_len (D : Dom I S) (e : Env I S)  (x : LA I S) : Option (LV I S) :=
  bK (evK e x) fun v => match v with
    | .nils => some (goLen D 0)
    | .empty => some (goLen D 0)
    | .slice _ _ n _ _ _ => some (goLen D n)
    | _ => none
def kP_lenS (D : Dom I S) (e : Env I S)  (x : LA I S) : Option (LV I S) :=
  bK (evK e x) fun v => match v with
    | .str s => some (goLen D (D.sLen s))
    | _ => none
def kP_num (D : Dom I S) (e : Env I S)  (n : Nat) : Option (LV I S) :=
  some (goLen D n)
def kP_min (D : Dom I S) (e : Env I S)  (xs : List (LA I S)) : Option (LV I S) :=
  bK (evsK e xs) fun vs => match vs with
    | x :: r => minmax D false x r
    | [] => none
def kP_max (D : Dom I S) (e : Env I S)  (xs : List (LA I S)) : Option (LV I S) :=
  bK (evsK e xs) fun vs => match vs with
    | x :: r => minmax D true x r
    | [] => none
def kP_cap (D : Dom I S) (e : Env I S)  (x : LA I S) : Option (LV I S) :=
  bK (evK e x) fun v => match v with
    | .nils => some (goLen D 0)
    | .slice _ _ _ c true _ => some (goLen D c)
    | _ => none
def evalPK (D : Dom I S) (e : Env I S)  (x : POp I S) : Option (LV I S) := POp.rec (motive := fun _ => Option (LV I S)) (kP_move D e) (kP_pick D e) (kP_build D e) (kP_nilchk D e) (kP_bin D e) (kP_eqAgg D e) (kP_eqb D e) (kP_un D e) (kP_convInt D e) (kP_mkfunc D e) (kP_slStr D e) (kP_slSl D e) (kP_fieldAddr D e) (kP_field D e) (kP_idxSl D e) (kP_idxArrP D e) (kP_idxArr D e) (kP_idxStr D e) (kP_extract D e) (kP_len D e) (kP_lenS D e) (kP_num D e) (kP_min D e) (kP_max D e) (kP_cap D e) x
theorem evalPK_eq (D : Dom I S) (e : Env I S)  (x : POp I S) : evalPK D e  x = evalP D e.get x := by
  cases x <;> simp only [evalPK, evalP, kP_move, kP_pick, kP_build, kP_nilchk, kP_bin, kP_eqAgg, kP_eqb, kP_un, kP_convInt, kP_mkfunc, kP_slStr, kP_slSl, kP_fieldAddr, kP_field, kP_idxSl, kP_idxArrP, kP_idxArr, kP_idxStr, kP_extract, kP_len, kP_lenS, kP_num, kP_min, kP_max, kP_cap, bK_eq, cK_eq, evK_eq, evsK_eq, evoK_eq, evPartsK_eq, evPartsSK_eq, atK_eq, cutK_eq, overK_eq, pick2K_eq, fillK_eq, firstsK_eq, growK_eq] <;> rfl
def kR_load (D : Dom I S) (e : Env I S) (t : Tr (LObj I S)) (agg : Bool) (n : Nat) (x : LA I S) : Option (LV I S) :=
  bK (evK e x) fun v => match v with
    | .ptr b o => (match Tr.get t b with
      | some (.cells _ c) => pick2K agg o n c
      | _ => none)
    | _ => none
def kR_lookup (D : Dom I S) (e : Env I S) (t : Tr (LObj I S)) (km : Nat) (zero : LV I S) (ok : Bool) (m : LA I S) (k : LA I S) : Option (LV I S) :=
  bK (evK e m) fun m => bK (evK e k) fun k => bK (entries (Tr.get t) m) fun es => bK (cK (keyShape km k) (find D km k es) none) fun r => match r with
    | some v => some (cK ok (.tuple [v, .bool true]) v)
    | none => some (cK ok (.tuple [zero, .bool false]) zero)
def kR_lenMap (D : Dom I S) (e : Env I S) (t : Tr (LObj I S)) (x : LA I S) : Option (LV I S) :=
  bK (evK e x) fun m => bK (entries (Tr.get t) m) fun es => some (goLen D es.length)
def kR_ofBytes (D : Dom I S) (e : Env I S) (t : Tr (LObj I S)) (x : LA I S) : Option (LV I S) :=
  bK (evK e x) fun v => match v with
    | .nils => some (.str (D.sMk []))
    | .empty => some (.str (D.sMk []))
    | .slice b o n _ _ _ => (match Tr.get t b with
      | some (.cells _ c) => bK (cutK c o n) fun cs => bK (bytesOf cs) fun l => some (.str (D.sMk l))
      | _ => none)
    | _ => none
def kR_entry (D : Dom I S) (e : Env I S) (t : Tr (LObj I S)) (x : LA I S) : Option (LV I S) :=
  bK (evK e x) fun v => match v with
    | .ptr b 0 => (match Tr.get t b with
      | some (.iter (some m) _ seen stepped) => bK (last? seen) fun st => (match Tr.get t m with
        | some (.map es clock) => cK (Nat.beq clock stepped) (bK (stamped st es) fun kv => some (.tuple [kv.1, kv.2])) none
        | _ => none)
      | _ => none)
    | _ => none
def kR_eqRef (D : Dom I S) (e : Env I S) (t : Tr (LObj I S)) (k : RK) (neg : Bool) (x : LA I S) (y : LA I S) : Option (LV I S) :=
  bK (evK e x) fun a => bK (evK e y) fun b => bK (refEq (Tr.get t) k a b) fun t => some (.bool (cK neg (!t) t))
def evalRK (D : Dom I S) (e : Env I S) (t : Tr (LObj I S)) (x : ROp I S) : Option (LV I S) := ROp.rec (motive := fun _ => Option (LV I S)) (kR_load D e t) (kR_lookup D e t) (kR_lenMap D e t) (kR_ofBytes D e t) (kR_entry D e t) (kR_eqRef D e t) x
theorem evalRK_eq (D : Dom I S) (e : Env I S) (t : Tr (LObj I S)) (x : ROp I S) : evalRK D e t x = evalR D e.get t.get x := by
  cases x <;> simp only [evalRK, evalR, kR_load, kR_lookup, kR_lenMap, kR_ofBytes, kR_entry, kR_eqRef, bK_eq, cK_eq, evK_eq, evsK_eq, evoK_eq, evPartsK_eq, evPartsSK_eq, atK_eq, cutK_eq, overK_eq, pick2K_eq, fillK_eq, firstsK_eq, growK_eq] <;> rfl
def kA_box (D : Dom I S) (e : Env I S)  (x : LA I S) : Option ((Nat → LV I S) × LObj I S) :=
  bK (evK e x) fun v => cK (allOne v.cells) (some (fun b => .ptr b 0, .cells 0 v.cells)) none
def kA_bslice (D : Dom I S) (e : Env I S)  (zero : List (LV I S)) (n : Nat) (sz : Nat) (parts : List (Nat × LA I S)) : Option ((Nat → LV I S) × LObj I S) :=
  bK (evPartsSK e parts) fun ps => bK (fillS sz (reps zero n) ps) fun c =>
      cK (Nat.ble (n * sz) most && Nat.ble n most && allOne c) (some (fun b => .slice b 0 n n true sz, .cells 0 c)) none
def kA_mkmap (D : Dom I S) (e : Env I S)   : Option ((Nat → LV I S) × LObj I S) :=
  some (fun b => .map b, .map [] 0)
def kA_mkslice (D : Dom I S) (e : Env I S)  (zero : List (LV I S)) (sz : Nat) (bytes : Nat) (l : LA I S) (c : LA I S) : Option ((Nat → LV I S) × LObj I S) :=
  bK (evK e l) fun l => bK (evK e c) fun c => bK (nat? D l) fun l => bK (nat? D c) fun c =>
      cK (Nat.ble l c && Nat.ble (c * bytes) big && Nat.ble c big) (some (fun b => .slice b 0 l c true sz, .cells 0 (reps zero c))) none
def kA_toBytes (D : Dom I S) (e : Env I S)  (x : LA I S) : Option ((Nat → LV I S) × LObj I S) :=
  bK (evK e x) fun v => match v with
    | .str s => cK (Nat.ble (D.sLen s) big) (some (fun b => .slice b 0 (D.sLen s) (D.sLen s) false 1, .cells 1 (sBytes D s 0 (D.sLen s)))) none
    | _ => none
def evalAK (D : Dom I S) (e : Env I S)  (x : AOp I S) : Option ((Nat → LV I S) × LObj I S) := AOp.rec (motive := fun _ => Option ((Nat → LV I S) × LObj I S)) (kA_box D e) (kA_bslice D e) (kA_mkmap D e) (kA_mkslice D e) (kA_toBytes D e) x
theorem evalAK_eq (D : Dom I S) (e : Env I S)  (x : AOp I S) : evalAK D e  x = evalA D e.get x := by
  cases x <;> simp only [evalAK, evalA, kA_box, kA_bslice, kA_mkmap, kA_mkslice, kA_toBytes, bK_eq, cK_eq, evK_eq, evsK_eq, evoK_eq, evPartsK_eq, evPartsSK_eq, atK_eq, cutK_eq, overK_eq, pick2K_eq, fillK_eq, firstsK_eq, growK_eq] <;> rfl
def kE_store (D : Dom I S) (e : Env I S) (h : H I S) (n : Nat) (a : LA I S) (x : LA I S) : Option (LV I S × H I S) :=
  bK (evK e a) fun a => bK (evK e x) fun v => match a with
    | .ptr b o => (match h.t.get b with
      | some (.cells q c) => cK (Nat.blt q 2 && Nat.beq (len? v.cells) n && allOne v.cells)
          (bK (overK c o v.cells) fun c' => some (.und, { h with t := h.t.set b (.cells q c') })) none
      | _ => none)
    | _ => none
def kE_append (D : Dom I S) (e : Env I S) (h : H I S) (sz : Nat) (bytes : Nat) (s : LA I S) (x : LA I S) : Option (LV I S × H I S) :=
  bK (evK e s) fun s => bK (evK e x) fun x => bK (firstsK D h sz x) fun r => cK (allOne r.2) (growK h sz bytes s r.1 r.2) none
def kE_appendZ (D : Dom I S) (e : Env I S) (h : H I S) (sz : Nat) (bytes : Nat) (zero : List (LV I S)) (s : LA I S) (x : LA I S) : Option (LV I S × H I S) :=
  bK (evK e s) fun s => bK (evK e x) fun x => bK (nat? D x) fun n => cK (Nat.ble n big) (growK h sz bytes s n (reps zero n)) none
def kE_copy (D : Dom I S) (e : Env I S) (h : H I S) (sz : Nat) (d : LA I S) (s : LA I S) : Option (LV I S × H I S) :=
  bK (evK e d) fun d => bK (evK e s) fun s => bK (firstsK D h sz s) fun r => match d with
    | .nils => some (goLen D 0, h)
    | .empty => some (goLen D 0, h)
    | .slice b o len _ _ sz' => cK (Nat.beq sz sz') (match h.t.get b with
      | some (.cells q c) => cK (Nat.blt q 2) (bK (cutK r.2 0 (Nat.min r.1 len * sz)) fun new => cK (allOne new) (bK (overK c o new) fun c' =>
          some (goLen D (Nat.min r.1 len), { h with t := h.t.set b (.cells q c') })) none) none
      | _ => none) none
    | _ => none
def kE_clear (D : Dom I S) (e : Env I S) (h : H I S) (zero : List (LV I S)) (x : LA I S) : Option (LV I S × H I S) :=
  bK (evK e x) fun x => match x with
    | .nils => some (.tuple [], h)
    | .empty => some (.tuple [], h)
    | .slice b o n _ _ _ => cK (Nat.beq n 0) (some (.tuple [], h)) (match h.t.get b with
      | some (.cells q c) => cK (Nat.blt q 2) (bK (overK c o (reps zero n)) fun c' => some (.tuple [], { h with t := h.t.set b (.cells q c') })) none
      | _ => none)
    | _ => none
def kE_clearM (D : Dom I S) (e : Env I S) (h : H I S) (x : LA I S) : Option (LV I S × H I S) :=
  bK (evK e x) fun x => match x with
    | .nilm => some (.tuple [], h)
    | .map b => (match h.t.get b with
      | some (.map _ clock) => some (.tuple [], { h with t := h.t.set b (.map [] clock) })
      | _ => none)
    | _ => none
def kE_delete (D : Dom I S) (e : Env I S) (h : H I S) (km : Nat) (m : LA I S) (k : LA I S) : Option (LV I S × H I S) :=
  bK (evK e m) fun m => bK (evK e k) fun k => match m with
    | .map b => (match h.t.get b with
      | some (.map es clock) => bK (cK (keyShape km k) (dropAt D km k es) none) fun es => some (.tuple [], { h with t := h.t.set b (.map es clock) })
      | _ => none)
    | _ => none
def kE_mapset (D : Dom I S) (e : Env I S) (h : H I S) (km : Nat) (m : LA I S) (k : LA I S) (v : LA I S) : Option (LV I S × H I S) :=
  bK (evK e m) fun m => bK (evK e k) fun k => bK (evK e v) fun v => match m with
    | .map b => (match h.t.get b with
      | some (.map es clock) => bK (cK (keyShape km k) (setAt D km k v es) none) fun r => match r with
        | some es => some (.und, { h with t := h.t.set b (.map es clock) })
        | none => some (.und, { h with t := h.t.set b (.map (es ++ [(k, v, clock)]) clock.succ) })
      | _ => none)
    | _ => none
def kE_range (D : Dom I S) (e : Env I S) (h : H I S) (x : LA I S) : Option (LV I S × H I S) :=
  bK (evK e x) fun x => match x with
    | .nilm => some (.ptr h.next 0, newB h (.iter none 0 [] 0))
    | .map b => (match h.t.get b with
      | some (.map _ clock) => some (.ptr h.next 0, newB h (.iter (some b) clock [] clock))
      | _ => none)
    | _ => none
def kE_next (D : Dom I S) (e : Env I S) (h : H I S) (x : LA I S) : Option (LV I S × H I S) :=
  bK (evK e x) fun x => match x with
    | .ptr b 0 => (match h.t.get b with
      | some (.iter none _ _ _) => some (.tuple [.bool false], h)
      | some (.iter (some m) since seen stepped) => (match h.t.get m with
        | some (.map es clock) => cK (Nat.beq clock since && Nat.beq stepped since && noneSince since es) (match unseen seen es with
          | [] => some (.tuple [.bool false], h)
          | [(k, v, s)] => some (.tuple [.bool true, k, v], { h with t := h.t.set b (.iter (some m) since (seen ++ [s]) clock) })
          | _ => none) none
        | _ => none)
      | _ => none)
    | _ => none
def kE_mark (D : Dom I S) (e : Env I S) (h : H I S) (x : LA I S) : Option (LV I S × H I S) :=
  bK (evK e x) fun x => match x with
    | .slice b o len cap ex sz => (match h.t.get b with
      | some (.cells 0 c) => some (.slice b o len cap ex sz, { h with t := h.t.set b (.cells 1 c) })
      | _ => none)
    | _ => none
def evalEK (D : Dom I S) (e : Env I S) (h : H I S) (x : EOp I S) : Option (LV I S × H I S) := EOp.rec (motive := fun _ => Option (LV I S × H I S)) (kE_store D e h) (kE_append D e h) (kE_appendZ D e h) (kE_copy D e h) (kE_clear D e h) (kE_clearM D e h) (kE_delete D e h) (kE_mapset D e h) (kE_range D e h) (kE_next D e h) (kE_mark D e h) x
theorem evalEK_eq (D : Dom I S) (e : Env I S) (h : H I S) (x : EOp I S) : evalEK D e h x = evalE D e.get h x := by
  cases x <;> simp only [evalEK, evalE, kE_store, kE_append, kE_appendZ, kE_copy, kE_clear, kE_clearM, kE_delete, kE_mapset, kE_range, kE_next, kE_mark, bK_eq, cK_eq, evK_eq, evsK_eq, evoK_eq, evPartsK_eq, evPartsSK_eq, atK_eq, cutK_eq, overK_eq, pick2K_eq, fillK_eq, firstsK_eq, growK_eq] <;> rfl
def stP (D : Dom I S) (e : Env I S) (h : H I S) (x : POp I S) : Option (LV I S × H I S) := bK (evalPK D e x) fun v => some (v, h)
def stR (D : Dom I S) (e : Env I S) (h : H I S) (x : ROp I S) : Option (LV I S × H I S) := bK (evalRK D e h.t x) fun v => some (v, h)
def stA (D : Dom I S) (e : Env I S) (h : H I S) (x : AOp I S) : Option (LV I S × H I S) := bK (evalAK D e x) fun r => Prod.rec (motive := fun _ => Option (LV I S × H I S)) (fun mk o => some (mk h.next, newB h o)) r
def stC (cf : CallF I S) (e : Env I S) (h : H I S) (f : LA I S) (args : List (LA I S)) : Option (LV I S × H I S) := bK (evK e f) fun f => bK (evsK e args) fun vs => match f with
    | .func g first cap => cf (.fn g) (first ++ vs ++ cap) h
    | .yield b => cf (.yield b) vs h
    | _ => none
def stepK (D : Dom I S) (cf : CallF I S) (e : Env I S) (h : H I S) (x : LOp I S) : Option (LV I S × H I S) := LOp.rec (motive := fun _ => Option (LV I S × H I S)) (stP D e h) (stR D e h) (stA D e h) (evalEK D e h) (stC cf e h) x
theorem stepK_eq (D : Dom I S) (cf : CallF I S) (e : Env I S) (h : H I S) (x : LOp I S) : stepK D cf e h x = step D cf e.get h x := by
  cases x <;> simp only [stepK, step, stP, stR, stA, stC, bK_eq, evalPK_eq, evalRK_eq, evalAK_eq, evalEK_eq, evK_eq, evsK_eq] <;> rfl
def wantS (e : Env I S) (t : Nat) (w : Bool) : Option Bool := match Tr.get e t with
    | some (.bool b) => some (cK b w (!w))
    | some .und => some false
    | _ => none
def wantG (e : Env I S) (g : Option Nat × Bool) : Option Bool := Option.rec (motive := fun _ => Option Bool) (some false) (fun t => wantS e t g.2) g.1
def wantedK (e : Env I S) (g : Option (Option Nat × Bool)) : Option Bool := Option.rec (motive := fun _ => Option Bool) (some true) (wantG e) g
theorem wantedK_eq (e : Env I S) (g : Option (Option Nat × Bool)) : wantedK e g = wanted e.get g := by
  cases g with
  | none => rfl
  | some p =>
    obtain ⟨t, w⟩ := p
    cases t with
    | none => rfl
    | some t => simp only [wantedK, wantG, wantS, wanted, cK_eq]; rfl
def putK (e : Env I S) (d : Option Nat) (v : LV I S) : Env I S := Option.rec (motive := fun _ => Env I S) e (fun d => Tr.set e d v) d
theorem putK_eq (e : Env I S) (d : Option Nat) (v : LV I S) : putK e d v = put e d v := by cases d <;> rfl
def go1 (D : Dom I S) (cf : CallF I S) (e : Env I S) (h : H I S) (o : LOper I S) (k : Env I S → H I S → Option (Env I S × H I S)) : Option (Env I S × H I S) := bK (stepK D cf e h o.op) fun r => Prod.rec (motive := fun _ => Option (Env I S × H I S)) (fun v h => k (putK e o.dst v) h) r
def operK (D : Dom I S) (cf : CallF I S) (e : Env I S) (h : H I S) (o : LOper I S) (k : Env I S → H I S → Option (Env I S × H I S)) : Option (Env I S × H I S) :=
  bK (wantedK e o.guard) fun w => cK w (go1 D cf e h o k) (k (putK e o.dst .und) h)
theorem operK_eq (D : Dom I S) (cf : CallF I S) (e : Env I S) (h : H I S) (o : LOper I S) (k : Env I S → H I S → Option (Env I S × H I S)) : operK D cf e h o k = (oper D cf e h o).bind fun p => k p.1 p.2 := by
  simp only [operK, oper, go1, bK_eq, cK_eq, wantedK_eq, putK_eq, stepK_eq]
  cases wanted e.get o.guard with
  | none => rfl
  | some b =>
    cases b
    · rfl
    · simp only [Option.bind_some, cond_true]
      cases step D cf e.get h o.op <;> rfl
def againsK (D : Dom I S) (e : Env I S) (t : Tr (LObj I S)) (l : List (LOper I S)) : Bool := List.rec (motive := fun _ => Bool) true (fun _ _ _ => agains D e t.get l) l
theorem againsK_eq (D : Dom I S) (e : Env I S) (t : Tr (LObj I S)) (l : List (LOper I S)) : againsK D e t l = agains D e t.get l := by cases l <;> rfl
def itemsK (D : Dom I S) (cf : CallF I S) (l : List (LItem I S)) : Env I S → H I S → Option (Env I S × H I S) := List.rec (motive := fun _ => Env I S → H I S → Option (Env I S × H I S)) (fun e h => some (e, h))
  (fun x _ ih e h => operK D cf e h x.o fun e h => cK (againsK D e h.t x.rs) (ih e h) none) l
theorem itemsK_eq (D : Dom I S) (cf : CallF I S) : ∀ (l : List (LItem I S)) (e : Env I S) (h : H I S), itemsK D cf l e h = items D cf l e h
  | [], _, _ => rfl
  | x :: l, e, h => by
    have ih : ∀ e h, itemsK D cf l e h = items D cf l e h := itemsK_eq D cf l
    have : itemsK D cf (x :: l) e h = operK D cf e h x.o fun e h => cK (againsK D e h.t x.rs) (itemsK D cf l e h) none := rfl
    rw [this, operK_eq]
    simp only [items, ih, cK_eq, againsK_eq]
def loopK (body : Env I S → H I S → Out I S) (n : Nat) : Env I S → H I S → Out I S := Nat.rec (motive := fun _ => Env I S → H I S → Out I S) (fun _ _ => .fail)
  (fun _ ih e h => Out.rec (motive := fun _ => Out I S) ih (fun id e h => .exit id e h) (fun e h => .ret e h) .fail (body e h)) n
theorem loopK_eq (body : Env I S → H I S → Out I S) : ∀ (n : Nat) (e : Env I S) (h : H I S), loopK body n e h = loopN body n e h
  | 0, _, _ => rfl
  | n + 1, e, h => by
    have ih : ∀ e h, loopK body n e h = loopN body n e h := loopK_eq body n
    have : loopK body (n + 1) e h = Out.rec (motive := fun _ => Out I S) (loopK body n) (fun id e h => .exit id e h) (fun e h => .ret e h) .fail (body e h) := rfl
    rw [this]
    simp only [loopN]
    cases body e h <;> simp only [ih]
def xRegion (D : Dom I S) (cf : CallF I S) (l : List (LItem I S)) (e : Env I S) (h : H I S) : Out I S := Option.rec (motive := fun _ => Out I S) .fail (fun p => Prod.rec (motive := fun _ => Out I S) (fun e h => .normal e h) p) (itemsK D cf l e h)
def xSeq (a b : Env I S → H I S → Out I S) (e : Env I S) (h : H I S) : Out I S := Out.rec (motive := fun _ => Out I S) b (fun id e h => .exit id e h) (fun e h => .ret e h) .fail (a e h)
def xCond (c : LA I S) (a b : Env I S → H I S → Out I S) (e : Env I S) (h : H I S) : Out I S := match evK e c with
    | some (.bool t) => cK t (a e h) (b e h)
    | _ => .fail
def xBlock (id : Nat) (a : Env I S → H I S → Out I S) (e : Env I S) (h : H I S) : Out I S := Out.rec (motive := fun _ => Out I S) (fun e h => .normal e h) (fun j e h => cK (Nat.beq j id) (.normal e h) (.exit j e h)) (fun e h => .ret e h) .fail (a e h)
def xRange (cf : CallF I S) (f : LA I S) (ps : List Nat) (a b : LCode I S) (e : Env I S) (h : H I S) : Out I S := match evK e f with
    | some (.func g [] cap) => (match cf (.iter g) (.yield h.next :: cap) (newB h (.loop ⟨0, e, ps, a, b, none⟩)) with
      | some (_, h1) => behind e h1 h.next (h1.t.get h.next)
      | none => .fail)
    | _ => .fail
def execK (D : Dom I S) (cf : CallF I S) (fuel : Nat) (c : LCode I S) : Env I S → H I S → Out I S := LCode.rec (motive := fun _ => Env I S → H I S → Out I S) (fun e h => .normal e h) (xRegion D cf) (fun _ _ a b => xSeq a b) (fun c _ _ a b => xCond c a b) (fun id _ a => xBlock id a) (fun _ a => loopK a fuel) (fun id e h => .exit id e h) (fun e h => .ret e h) (fun f ps a b _ _ => xRange cf f ps a b) (fun _ _ => .fail) c
theorem execK_eq (D : Dom I S) (cf : CallF I S) (fuel : Nat) : ∀ (c : LCode I S) (e : Env I S) (h : H I S), execK D cf fuel c e h = exec D cf fuel c e h := by
  intro c
  induction c with
  | skip => intro e h; rfl
  | region is =>
    intro e h
    show xRegion D cf is e h = _
    simp only [xRegion, exec, itemsK_eq]
    cases items D cf is e h <;> rfl
  | seq a b iha ihb =>
    intro e h
    show xSeq (execK D cf fuel a) (execK D cf fuel b) e h = _
    simp only [xSeq, exec, iha]
    cases exec D cf fuel a e h <;> simp only [ihb]
  | cond c a b iha ihb =>
    intro e h
    show xCond c (execK D cf fuel a) (execK D cf fuel b) e h = _
    simp only [xCond, exec, evK_eq, iha, ihb, cK_eq]
    cases ev e.get c with
    | none => rfl
    | some v =>
      cases v <;> try rfl
      rename_i t
      cases t <;> rfl
  | block id a iha =>
    intro e h
    show xBlock id (execK D cf fuel a) e h = _
    simp only [xBlock, exec, iha]
    cases exec D cf fuel a e h <;> simp only [cK_eq]
  | loop a iha =>
    intro e h
    show loopK (execK D cf fuel a) fuel e h = _
    have : execK D cf fuel a = exec D cf fuel a := funext fun e => funext fun h => iha e h
    rw [this, loopK_eq]; rfl
  | exit id => intro e h; rfl
  | ret => intro e h; rfl
  | rangef f ps a b _ _ =>
    intro e h
    show xRange cf f ps a b e h = _
    simp only [xRange, exec, evK_eq]
    rfl
  | no => intro e h; rfl
def callB (D : Dom I S) (cf : CallF I S) (fuel : Nat) (args : List (LV I S)) (h : H I S) (lf : LFunc I S) : Option (LV I S × H I S) :=
  cK (Nat.ble (len? args) lf.ntmps) (Out.rec (motive := fun _ => Option (LV I S × H I S)) (fun e h => finish D e h lf.results) (fun _ _ _ => none) (fun e h => finish D e h lf.results) none (execK D cf fuel lf.body (enter 0 args .leaf) h)) none
theorem callB_eq (D : Dom I S) (fn : Nat → Option (LFunc I S)) (cf : CallF I S) (fuel f : Nat) (args : List (LV I S)) (h : H I S) : bK (fn f) (callB D cf fuel args h) = call1 D fn cf fuel f args h := by
  unfold call1
  rw [bK_eq]
  cases fn f with
  | none => rfl
  | some lf =>
    simp only [Option.bind_some, callB, cK_eq, execK_eq]
    cases Nat.ble (len? args) lf.ntmps with
    | false => rfl
    | true =>
      simp only [cond_true]
      cases exec D cf fuel lf.body (enter 0 args .leaf) h <;> rfl
def roundBK (D : Dom I S) (cf : CallF I S) (fuel : Nat) (b : Nat) (body : LCode I S) (e : Env I S) (h : H I S) : Option (LV I S × H I S) := match h.t.get b with
  | some (.loop l) => cK (Nat.beq l.st 0) (match execK D cf fuel body e { h with t := h.t.set b (.loop { l with st := 1 }) } with
    | .normal _ h' => ends h' b 0 none true
    | .ret _ h' => ends h' b 2 (some none) false
    | .exit id _ h' => ends h' b 2 (some (some id)) false
    | .fail => none) none
  | _ => none
theorem roundBK_eq (D : Dom I S) (cf : CallF I S) (fuel : Nat) (b : Nat) (body : LCode I S) (e : Env I S) (h : H I S) : roundBK D cf fuel b body e h = roundB D cf fuel b body e h := by
  unfold roundBK roundB
  simp only [execK_eq, cK_eq]
  rfl
def roundK (D : Dom I S) (cf : CallF I S) (fuel : Nat) (b : Nat) (args : List (LV I S)) (h : H I S) : Option (LV I S × H I S) := match h.t.get b with
  | some (.loop l) => cK (Nat.beq (len? args) l.ps.length) (match execK D cf fuel l.assign (puts l.ps args l.env) h with
    | .normal e h' => roundBK D cf fuel b l.body e h'
    | _ => none) none
  | _ => none
theorem roundK_eq (D : Dom I S) (cf : CallF I S) (fuel : Nat) (b : Nat) (args : List (LV I S)) (h : H I S) : roundK D cf fuel b args h = round D cf fuel b args h := by
  unfold roundK round
  simp only [execK_eq, cK_eq, roundBK_eq]
  rfl
def callK (D : Dom I S) (fn : Nat → Option (LFunc I S)) (ov : Over I S) (fuel : Nat) (n : Nat) : CallF I S := Nat.rec (motive := fun _ => CallF I S) (fun _ _ _ => none)
  (fun _ ih c args h => Fn.rec (motive := fun _ => Option (LV I S × H I S)) (fun f => Option.rec (motive := fun _ => Option (LV I S × H I S)) (bK (fn f) (callB D ih fuel args h)) (fun r => r) (ov f args h)) (fun f => bK (fn f) (callB D ih fuel args h)) (fun b => roundK D ih fuel b args h) c) n
theorem callK_eq (D : Dom I S) (fn : Nat → Option (LFunc I S)) (ov : Over I S) (fuel : Nat) : ∀ n, callK D fn ov fuel n = callN D fn ov fuel n
  | 0 => rfl
  | n + 1 => by
    have ih := callK_eq D fn ov fuel n
    funext c args h
    cases c with
    | fn f =>
      show Option.rec (motive := fun _ => Option (LV I S × H I S)) (bK (fn f) (callB D (callK D fn ov fuel n) fuel args h)) (fun r => r) (ov f args h) = _
      rw [ih]
      simp only [callN]
      cases ov f args h with
      | some r => rfl
      | none => exact callB_eq D fn _ fuel f args h
    | iter f =>
      show bK (fn f) (callB D (callK D fn ov fuel n) fuel args h) = _
      rw [ih]
      exact callB_eq D fn _ fuel f args h
    | yield b =>
      show roundK D (callK D fn ov fuel n) fuel b args h = _
      rw [ih, roundK_eq]
      rfl
end
end Go.Proofs.YtohmaikcmaapjaaGreat.LI
