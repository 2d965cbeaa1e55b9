/- The checksum's own code, over the values themselves: a loop over the bytes, eight steps each. -/
import Derived.Test.YtohmaikcmaapjaaGreatLOv
import Derived.IntWalk
namespace Go.Proofs.YtohmaikcmaapjaaGreat.LI
open Go.Proofs
variable {I S : Type}
noncomputable section
def cStep (D : Dom I S) : LCode I S := .seq (.region [⟨⟨some 20, none, .p (.move (.tmp 0))⟩, []⟩, ⟨⟨some 21, none, .p (.bin .and (.tmp 20) (.const (.int .u32 (D.ofInt (.ofNat 1)))))⟩, []⟩, ⟨⟨some 6, none, .p (.move (.tmp 21))⟩, []⟩])
  (.seq (.region [⟨⟨some 22, none, .p (.move (.tmp 0))⟩, []⟩, ⟨⟨some 23, none, .p (.bin .shr (.tmp 22) (.const (.int .u64 (D.ofInt (.ofNat 1)))))⟩, []⟩, ⟨⟨some 0, none, .p (.move (.tmp 23))⟩, []⟩])
  (.seq (.region [⟨⟨some 24, none, .p (.move (.tmp 6))⟩, []⟩, ⟨⟨some 25, none, .p (.bin .eql (.tmp 24) (.const (.int .u32 (D.ofInt (.ofNat 1)))))⟩, []⟩])
  (.cond (.tmp 25) (.region [⟨⟨some 26, none, .p (.move (.tmp 0))⟩, []⟩, ⟨⟨some 27, none, .p (.bin .xor (.tmp 26) (.const (.int .u32 (D.ofInt (.ofNat 3988292384)))))⟩, []⟩, ⟨⟨some 0, none, .p (.move (.tmp 27))⟩, []⟩]) .skip)))
def cInner (D : Dom I S) : LCode I S := .seq (.region [⟨⟨some 19, none, .p (.bin .lss (.tmp 18) (.const (.int .i64 (D.ofInt (.ofNat 8)))))⟩, []⟩]) (.seq (.cond (.tmp 19) .skip (.exit 2)) (.seq (.block 3 (cStep D))
  (.region [⟨⟨some 28, none, .p (.bin .add (.tmp 18) (.const (.int .i64 (D.ofInt (.ofNat 1)))))⟩, []⟩, ⟨⟨some 18, none, .p (.move (.tmp 28))⟩, []⟩])))
def gT (D : Dom I S) : LCode I S := .region [⟨⟨some 10, none, .p (.bin .lss (.tmp 9) (.tmp 8))⟩, []⟩]
def gA : LCode I S := .region [⟨⟨some 11, none, .p (.move (.tmp 9))⟩, []⟩, ⟨⟨some 5, none, .p (.move (.tmp 11))⟩, []⟩]
def gB : LCode I S := .region [⟨⟨some 12, none, .p (.move (.tmp 0))⟩, []⟩, ⟨⟨some 13, none, .p (.move (.tmp 1))⟩, []⟩, ⟨⟨some 14, none, .p (.move (.tmp 5))⟩, []⟩, ⟨⟨some 15, none, .p (.idxStr (.tmp 13) (.tmp 14))⟩, []⟩, ⟨⟨some 16, none, .p (.convInt .u32 (.tmp 15))⟩, []⟩,
    ⟨⟨some 17, none, .p (.bin .xor (.tmp 12) (.tmp 16))⟩, []⟩, ⟨⟨some 0, none, .p (.move (.tmp 17))⟩, []⟩]
def gC (D : Dom I S) : LCode I S := .region [⟨⟨some 18, none, .p (.move (.const (.int .i64 (D.ofInt (.ofNat 0)))))⟩, []⟩]
def gD (D : Dom I S) : LCode I S := .region [⟨⟨some 29, none, .p (.bin .add (.tmp 9) (.const (.int .i64 (D.ofInt (.ofNat 1)))))⟩, []⟩, ⟨⟨some 9, none, .p (.move (.tmp 29))⟩, []⟩]
def cOuter (D : Dom I S) : LCode I S := .seq (gT D) (.seq (.cond (.tmp 10) .skip (.exit 0)) (.seq (.block 1 (.seq gA (.seq gB (.seq (gC D) (.block 2 (.loop (cInner D))))))) (gD D)))
def lf236 (D : Dom I S) : LFunc I S := ⟨31, [.tmp 4], .seq (.region [⟨⟨some 4, none, .p (.move (.const (.int .u32 (D.ofInt (.ofNat 0)))))⟩, []⟩]) (.seq (.seq (.region [⟨⟨some 7, none, .p (.move (.tmp 1))⟩, []⟩, ⟨⟨some 8, none, .p (.lenS (.tmp 7))⟩, []⟩,
  ⟨⟨some 9, none, .p (.move (.const (.int .i64 (D.ofInt (.ofNat 0)))))⟩, []⟩]) (.block 0 (.loop (cOuter D)))) (.seq (.region [⟨⟨some 30, none, .p (.move (.tmp 0))⟩, []⟩, ⟨⟨some 4, none, .p (.move (.tmp 30))⟩, []⟩]) .ret))⟩
def lf190 (D : Dom I S) : LFunc I S := ⟨7, [.tmp 2], .seq (.region [⟨⟨some 2, none, .p (.move (.const (.int .i64 (D.ofInt (.ofNat 0)))))⟩, []⟩]) (.seq (.region [⟨⟨some 3, none, .p (.move (.tmp 0))⟩, []⟩,
  ⟨⟨some 4, none, .call (.const (.func 236 [] [])) [(.const (.int .u32 (D.ofInt (.ofNat 4294967295)))), (.tmp 3)]⟩, []⟩, ⟨⟨some 5, none, .p (.un .xor (.tmp 4))⟩, []⟩, ⟨⟨some 6, none, .p (.convInt .i64 (.tmp 5))⟩, []⟩, ⟨⟨some 2, none, .p (.move (.tmp 6))⟩, []⟩]) .ret)⟩
end
theorem lf236_eq (D : Dom I S) : trFunc D (tyFn D) Tryz.f236 = some (lf236 D) := by kernel_rfl
theorem lf190_eq (D : Dom I S) : trFunc D (tyFn D) Tryz.f190 = some (lf190 D) := by kernel_rfl

/-- A step of eight. -/
def bitZ (c : Int) : Int := cond ((goBin .and .u32 c 1).getD 0 == 1) ((goBin .xor .u32 ((goBin .shr .u32 c 1).getD 0) 3988292384).getD 0) ((goBin .shr .u32 c 1).getD 0)
def bitsZ : Nat → Int → Int
  | 0, c => c
  | n + 1, c => bitsZ n (bitZ c)
def moreZ (s : ByteArray) : Nat → Nat → Int → Int
  | 0, _, c => c
  | n + 1, i, c => moreZ s n (i + 1) (bitsZ 8 ((goBin .xor .u32 c (IntKind.u32.wrap (intDom.sAt s i))).getD 0))
def crcZ (s : ByteArray) : Int := (goBin .xor .u32 4294967295 (moreZ s s.size 0 4294967295)).getD 0

section
variable {cf : CallF Int ByteArray} {h : H Int ByteArray} {fuel : Nat}
theorem iOf (n : Int) : intDom.ofInt n = n := rfl
theorem iBin (op : BinOp) (k : IntKind) (a b : Int) : intDom.bin op k a b = goBin op k a b := rfl
theorem iCmp (op : BinOp) (a b : Int) : intDom.cmp op a b = goCmp op a b := rfl
theorem iConv (k : IntKind) (a : Int) : intDom.conv k a = some (k.wrap a) := rfl
theorem iLen (s : ByteArray) : intDom.sLen s = s.size := rfl
theorem iInt (n : Int) : intDom.toInt n = some n := rfl
theorem kk (k : IntKind) : kindEq k k = true := by cases k <;> rfl
/-- Code that comes to its end in the same memory, the slots so. -/
def Ends (h : H I S) (Q : Env I S → Prop) : Out I S → Prop
  | .normal e h' => h' = h ∧ Q e
  | _ => False
theorem Ends.out {h : H I S} {Q : Env I S → Prop} {o : Out I S} (x : Ends h Q o) : ∃ e, o = .normal e h ∧ Q e := by
  cases o with
  | normal e h' => obtain ⟨rfl, q⟩ := x; exact ⟨e, rfl, q⟩
  | _ => exact x.elim
theorem step_run (e : Env Int ByteArray) (c : Int) (h0 : e.get 0 = some (.int .u32 c)) : Ends h (fun e' => e'.get 0 = some (.int .u32 (bitZ c)) ∧ (∀ t, t = 1 ∨ t = 5 ∨ t = 8 ∨ t = 9 ∨ t = 18 → e'.get t = e.get t)) (exec intDom cf fuel (cStep intDom) e h) := by
  have hand : ∃ a, goBin .and .u32 c 1 = some a := ⟨_, rfl⟩
  have hshr : ∃ a, goBin .shr .u32 c 1 = some a := ⟨_, rfl⟩
  obtain ⟨a, ha⟩ := hand
  obtain ⟨b, hb⟩ := hshr
  have hxor : ∃ d, goBin .xor .u32 b 3988292384 = some d := ⟨_, rfl⟩
  obtain ⟨d, hd⟩ := hxor
  cases hc : (a == 1)
  · simp [cStep, exec, items, oper, wanted, step, evalP, ev, put, agains, Tr.get_set, h0, binV, isCmp, isShift, kk, iOf, iBin, iCmp, iConv, iLen, iInt, ha, hb, hd, goCmp, hc, Ends, bitZ]
  · simp [cStep, exec, items, oper, wanted, step, evalP, ev, put, agains, Tr.get_set, h0, binV, isCmp, isShift, kk, iOf, iBin, iCmp, iConv, iLen, iInt, ha, hb, hd, goCmp, hc, Ends, bitZ]
theorem add_i64 (i : Nat) (h : i < 4611686018427387904) : goBin .add .i64 (i : Int) 1 = some ((i + 1 : Nat) : Int) := by
  simp only [goBin, Option.some.injEq]
  rw [IntWalk.i64_in _ (by omega)]; omega
theorem inner_more (e : Env Int ByteArray) (c : Int) (i : Nat) (hi : i < 8) (h0 : e.get 0 = some (.int .u32 c)) (h18 : e.get 18 = some (.int .i64 (i : Int))) :
    Ends h (fun e' => e'.get 0 = some (.int .u32 (bitZ c)) ∧ e'.get 18 = some (.int .i64 ((i + 1 : Nat) : Int)) ∧ (∀ t, t = 1 ∨ t = 5 ∨ t = 8 ∨ t = 9 → e'.get t = e.get t)) (exec intDom cf fuel (cInner intDom) e h) := by
  have hlt : ((i : Int) < 8) := by omega
  obtain ⟨e1, he1, q0, qs⟩ := (step_run (cf := cf) (h := h) (fuel := fuel) (e.set 19 (.bool true)) c (by simp [Tr.get_set, h0])).out
  have q18 := qs 18 (by simp)
  simp only [Tr.get_set] at q18
  have q18' : e1.get 18 = some (.int .i64 (i : Int)) := by rw [q18]; simpa using h18
  have ha := add_i64 i (by omega)
  simp [cInner, exec, items, oper, wanted, step, evalP, ev, put, agains, Tr.get_set, h0, h18, binV, isCmp, isShift, kk, iOf, iBin, iCmp, iConv, iLen, iInt, goCmp, hlt, Ends]
  simp [he1, exec, items, oper, wanted, step, evalP, ev, put, agains, Tr.get_set, q18', binV, isCmp, isShift, kk, iOf, iBin, iCmp, iConv, iLen, iInt, goCmp, Ends, ha, q0]
  have q1 := qs 1 (by simp)
  have q5 := qs 5 (by simp)
  have q8 := qs 8 (by simp)
  have q9 := qs 9 (by simp)
  simp [Tr.get_set] at q1 q5 q8 q9
  exact ⟨q1, q5, q8, q9⟩
theorem inner_stop (e : Env Int ByteArray) (h18 : e.get 18 = some (.int .i64 8)) : exec intDom cf fuel (cInner intDom) e h = .exit 2 (e.set 19 (.bool false)) h := by
  simp [cInner, exec, items, oper, wanted, step, evalP, ev, put, agains, Tr.get_set, h18, binV, isCmp, isShift, kk, iOf, iBin, iCmp, iConv, iLen, iInt, goCmp]
theorem inner_loop : ∀ (n i : Nat) (e : Env Int ByteArray) (c : Int) (m : Nat), i + n = 8 → n < m → e.get 0 = some (.int .u32 c) → e.get 18 = some (.int .i64 (i : Int)) →
    ∃ e', loopN (exec intDom cf fuel (cInner intDom)) m e h = .exit 2 e' h ∧ e'.get 0 = some (.int .u32 (bitsZ n c)) ∧ (∀ t, t = 1 ∨ t = 5 ∨ t = 8 ∨ t = 9 → e'.get t = e.get t)
  | 0, i, e, c, m, hi, hm, h0, h18 => by
    obtain ⟨m, rfl⟩ : ∃ k, m = k + 1 := ⟨m - 1, by omega⟩
    have : (i : Int) = 8 := by omega
    rw [this] at h18
    refine ⟨e.set 19 (.bool false), ?_, ?_, ?_⟩
    · simp only [loopN, inner_stop e h18]
    · simpa [Tr.get_set, bitsZ] using h0
    · intro t ht
      rcases ht with rfl | rfl | rfl | rfl <;> simp [Tr.get_set]
  | n + 1, i, e, c, m, hi, hm, h0, h18 => by
    obtain ⟨m, rfl⟩ : ∃ k, m = k + 1 := ⟨m - 1, by omega⟩
    obtain ⟨e1, he1, q0, q18, qs⟩ := (inner_more (cf := cf) (h := h) (fuel := fuel) e c i (by omega) h0 h18).out
    obtain ⟨e2, he2, r0, rs⟩ := inner_loop n (i + 1) e1 (bitZ c) m (by omega) (by omega) q0 q18
    refine ⟨e2, ?_, r0, fun t ht => (rs t ht).trans (qs t ht)⟩
    simp only [loopN, he1]; exact he2
theorem natI (k : IntKind) (i : Nat) : nat? intDom (.int k (i : Int)) = some i := rfl
def crcIn (s : ByteArray) (i : Nat) (c : Int) : Int := (goBin .xor .u32 c (IntKind.u32.wrap (intDom.sAt s i))).getD 0
theorem crcIn_eq (s : ByteArray) (i : Nat) (c : Int) : goBin .xor .u32 c (IntKind.u32.wrap (intDom.sAt s i)) = some (crcIn s i c) := rfl
theorem exec_seq {D : Dom I S} {cf : CallF I S} {fuel : Nat} {a b : LCode I S} {e e1 : Env I S} {h h1 : H I S} (ha : exec D cf fuel a e h = .normal e1 h1) : exec D cf fuel (.seq a b) e h = exec D cf fuel b e1 h1 := by simp only [exec, ha]
theorem outer_more (s : ByteArray) (hf : 8 < fuel) (e : Env Int ByteArray) (c : Int) (i : Nat) (hi : i < s.size) (hs : s.size ≤ big) (h0 : e.get 0 = some (.int .u32 c)) (h1 : e.get 1 = some (.str s)) (h8 : e.get 8 = some (.int .i64 (s.size : Int))) (h9 : e.get 9 = some (.int .i64 (i : Int))) :
    Ends h (fun e' => e'.get 0 = some (.int .u32 (bitsZ 8 (crcIn s i c))) ∧ e'.get 9 = some (.int .i64 ((i + 1 : Nat) : Int)) ∧ e'.get 1 = some (.str s) ∧ e'.get 8 = some (.int .i64 (s.size : Int))) (exec intDom cf fuel (cOuter intDom) e h) := by
  have hlt : ((i : Int) < s.size) := by omega
  have hb : Nat.blt i s.size = true := by rw [Nat.blt_eq]; exact hi
  have hbig : big = 140737488355328 := rfl
  have ha := add_i64 i (by omega)
  obtain ⟨eT, heT, t10, t0, t1, t8, t9⟩ := Ends.out (h := h) (Q := fun e' => e'.get 10 = some (.bool true) ∧ e'.get 0 = some (.int .u32 c) ∧ e'.get 1 = some (.str s) ∧ e'.get 8 = some (.int .i64 (s.size : Int)) ∧ e'.get 9 = some (.int .i64 (i : Int))) (o := exec intDom cf fuel (gT intDom) e h) (by
    simp [gT, exec, items, oper, wanted, step, evalP, ev, put, agains, Tr.get_set, h0, h1, h8, h9, binV, isCmp, isShift, kk, iOf, iBin, iCmp, goCmp, hlt, Ends])
  obtain ⟨eA, heA, a5, a0, a1, a8, a9⟩ := Ends.out (h := h) (Q := fun e' => e'.get 5 = some (.int .i64 (i : Int)) ∧ e'.get 0 = some (.int .u32 c) ∧ e'.get 1 = some (.str s) ∧ e'.get 8 = some (.int .i64 (s.size : Int)) ∧ e'.get 9 = some (.int .i64 (i : Int))) (o := exec intDom cf fuel gA eT h) (by
    simp [gA, exec, items, oper, wanted, step, evalP, ev, put, agains, Tr.get_set, t0, t1, t8, t9, Ends])
  obtain ⟨eB, heB, b0, b1, b8, b9⟩ := Ends.out (h := h) (Q := fun e' => e'.get 0 = some (.int .u32 (crcIn s i c)) ∧ e'.get 1 = some (.str s) ∧ e'.get 8 = some (.int .i64 (s.size : Int)) ∧ e'.get 9 = some (.int .i64 (i : Int))) (o := exec intDom cf fuel gB eA h) (by
    simp [gB, exec, items, oper, wanted, step, evalP, ev, put, agains, Tr.get_set, a0, a1, a5, a8, a9, binV, isCmp, isShift, kk, iOf, iBin, iCmp, iConv, iLen, iInt, goCmp, natI, hb, crcIn_eq, Ends])
  obtain ⟨eC, heC, c18, c0, c1, c8, c9⟩ := Ends.out (h := h) (Q := fun e' => e'.get 18 = some (.int .i64 ((0 : Nat) : Int)) ∧ e'.get 0 = some (.int .u32 (crcIn s i c)) ∧ e'.get 1 = some (.str s) ∧ e'.get 8 = some (.int .i64 (s.size : Int)) ∧ e'.get 9 = some (.int .i64 (i : Int))) (o := exec intDom cf fuel (gC intDom) eB h) (by
    simp [gC, exec, items, oper, wanted, step, evalP, ev, put, agains, Tr.get_set, b0, b1, b8, b9, iOf, Ends])
  obtain ⟨e2, he2, r0, rs⟩ := inner_loop (cf := cf) (h := h) (fuel := fuel) 8 0 eC (crcIn s i c) fuel (by omega) hf c0 c18
  have r1 := (rs 1 (by simp)).trans c1
  have r8 := (rs 8 (by simp)).trans c8
  have r9 := (rs 9 (by simp)).trans c9
  have hblk : exec intDom cf fuel (.block 1 (.seq gA (.seq gB (.seq (gC intDom) (.block 2 (.loop (cInner intDom))))))) eT h = .normal e2 h := by
    have : exec intDom cf fuel (.seq gA (.seq gB (.seq (gC intDom) (.block 2 (.loop (cInner intDom)))))) eT h = .normal e2 h := by
      rw [exec_seq heA, exec_seq heB, exec_seq heC]
      simp only [exec, he2, Nat.beq_refl, cond_true]
    simp only [exec] at this ⊢
    rw [this]
  have hcond : exec intDom cf fuel (.cond (.tmp 10) .skip (.exit 0)) eT h = .normal eT h := by simp [exec, ev, t10]
  unfold cOuter
  rw [exec_seq heT, exec_seq hcond, exec_seq hblk]
  simp [gD, exec, items, oper, wanted, step, evalP, ev, put, agains, Tr.get_set, r0, r1, r8, r9, binV, isCmp, isShift, kk, iOf, iBin, ha, Ends]
theorem outer_stop (s : ByteArray) (e : Env Int ByteArray) (h8 : e.get 8 = some (.int .i64 (s.size : Int))) (h9 : e.get 9 = some (.int .i64 (s.size : Int))) : exec intDom cf fuel (cOuter intDom) e h = .exit 0 (e.set 10 (.bool false)) h := by
  simp [cOuter, gT, exec, items, oper, wanted, step, evalP, ev, put, agains, Tr.get_set, h8, h9, binV, isCmp, isShift, kk, iOf, iBin, iCmp, goCmp]
theorem outer_loop (s : ByteArray) (hf : 8 < fuel) (hs : s.size ≤ big) : ∀ (n i : Nat) (e : Env Int ByteArray) (c : Int) (m : Nat), i + n = s.size → n < m → e.get 0 = some (.int .u32 c) → e.get 1 = some (.str s) → e.get 8 = some (.int .i64 (s.size : Int)) → e.get 9 = some (.int .i64 (i : Int)) →
    ∃ e', loopN (exec intDom cf fuel (cOuter intDom)) m e h = .exit 0 e' h ∧ e'.get 0 = some (.int .u32 (moreZ s n i c))
  | 0, i, e, c, m, hi, hm, h0, h1, h8, h9 => by
    obtain ⟨m, rfl⟩ : ∃ k, m = k + 1 := ⟨m - 1, by omega⟩
    have : i = s.size := by omega
    rw [this] at h9
    refine ⟨e.set 10 (.bool false), ?_, ?_⟩
    · simp only [loopN, outer_stop s e h8 h9]
    · simpa [Tr.get_set, moreZ] using h0
  | n + 1, i, e, c, m, hi, hm, h0, h1, h8, h9 => by
    obtain ⟨m, rfl⟩ : ∃ k, m = k + 1 := ⟨m - 1, by omega⟩
    obtain ⟨e1, he1, q0, q9, q1, q8⟩ := (outer_more (cf := cf) (h := h) (fuel := fuel) s hf e c i (by omega) hs h0 h1 h8 h9).out
    obtain ⟨e2, he2, r0⟩ := outer_loop s hf hs n (i + 1) e1 (bitsZ 8 (crcIn s i c)) m (by omega) (by omega) q0 q1 q8 q9
    refine ⟨e2, ?_, r0⟩
    simp only [loopN, he1]; exact he2
/-- The whole, at any text. -/
theorem more_run (s : ByteArray) (hs : s.size ≤ big) (hf : 8 < fuel) (hf2 : s.size < fuel) (c : Int) {fn : Nat → Option (LFunc Int ByteArray)} (hfn : fn 236 = some (lf236 intDom)) {ov : Over Int ByteArray} (hov : ∀ a h, ov 236 a h = none) (n : Nat) :
    callN intDom fn ov fuel (n + 1) (.fn 236) [.int .u32 c, .str s] h = some (.int .u32 (moreZ s s.size 0 c), h) := by
  have hlen : ∀ (e : Env Int ByteArray), e.get 0 = some (.int .u32 c) → e.get 1 = some (.str s) → ∃ e1, exec intDom (callN intDom fn ov fuel n) fuel (.region [⟨⟨some 7, none, .p (.move (.tmp 1))⟩, []⟩, ⟨⟨some 8, none, .p (.lenS (.tmp 7))⟩, []⟩, ⟨⟨some 9, none, .p (.move (.const (.int .i64 (intDom.ofInt (.ofNat 0)))))⟩, []⟩]) e h = .normal e1 h ∧
      e1.get 0 = some (.int .u32 c) ∧ e1.get 1 = some (.str s) ∧ e1.get 8 = some (.int .i64 (s.size : Int)) ∧ e1.get 9 = some (.int .i64 ((0 : Nat) : Int)) := by
    intro e h0 h1
    exact Ends.out (by simp [exec, items, oper, wanted, step, evalP, ev, put, agains, Tr.get_set, h0, h1, goLen, iOf, iLen, Ends])
  obtain ⟨e0, he0, z0, z1⟩ := Ends.out (h := h) (Q := fun e' => e'.get 0 = some (.int .u32 c) ∧ e'.get 1 = some (.str s)) (o := exec intDom (callN intDom fn ov fuel n) fuel (.region [⟨⟨some 4, none, .p (.move (.const (.int .u32 (intDom.ofInt (.ofNat 0)))))⟩, []⟩]) (enter 0 [.int .u32 c, .str s] .leaf) h) (by
    simp [exec, items, oper, wanted, step, evalP, ev, put, agains, enter, Tr.get_set, Ends])
  obtain ⟨e1, he1, q0, q1, q8, q9⟩ := hlen e0 z0 z1
  obtain ⟨e2, he2, r0⟩ := outer_loop (cf := callN intDom fn ov fuel n) (h := h) (fuel := fuel) s hf hs s.size 0 e1 c fuel (by omega) hf2 q0 q1 q8 q9
  have hblk : exec intDom (callN intDom fn ov fuel n) fuel (.block 0 (.loop (cOuter intDom))) e1 h = .normal e2 h := by
    simp only [exec, he2, Nat.beq_refl, cond_true]
  simp only [callN, call1, hov, hfn]
  unfold lf236
  simp only []
  rw [exec_seq he0, exec_seq (exec_seq he1 ▸ hblk)]
  simp [exec, items, oper, wanted, step, evalP, ev, put, agains, Tr.get_set, r0, finish, resVs, resV, len?]
  rfl
theorem wrap_range' (k : IntKind) (n : Int) : k.min ≤ k.wrap n ∧ k.wrap n ≤ k.max := by
  have hb : (0 : Int) < 2 ^ k.bits := by cases k <;> simp [IntKind.bits]
  have h0 := Int.emod_nonneg n (Int.ne_of_gt hb)
  have h1 := Int.emod_lt_of_pos n hb
  unfold IntKind.wrap IntKind.min IntKind.max
  cases k <;> simp [IntKind.signed, IntKind.bits] at h0 h1 ⊢ <;> (try split) <;> omega
theorem fold_u32 (a b : Int) : ∃ r, goBin .xor .u32 a b = some r ∧ 0 ≤ r ∧ r ≤ 4294967295 := by
  refine ⟨_, rfl, ?_, ?_⟩
  · exact (wrap_range' .u32 _).1
  · exact (wrap_range' .u32 _).2
theorem crcZ_range (s : ByteArray) : 0 ≤ crcZ s ∧ crcZ s ≤ 4294967295 := by
  obtain ⟨r, h1, h2, h3⟩ := fold_u32 4294967295 (moreZ s s.size 0 4294967295)
  unfold crcZ; rw [h1]; exact ⟨h2, h3⟩
theorem sum_run (s : ByteArray) (hs : s.size ≤ big) (hf : 8 < fuel) (hf2 : s.size < fuel) {fn : Nat → Option (LFunc Int ByteArray)} (hfn : fn 236 = some (lf236 intDom)) (hfn' : fn 190 = some (lf190 intDom)) {ov : Over Int ByteArray} (hov : ∀ f a h, ov f a h = none) (n : Nat) :
    callN intDom fn ov fuel (n + 2) (.fn 190) [.str s] h = some (.int .i64 (crcZ s), h) := by
  have hm := more_run (h := h) s hs hf hf2 4294967295 hfn (fun a h => hov 236 a h) n
  obtain ⟨r, h1, h2, h3⟩ := fold_u32 4294967295 (moreZ s s.size 0 4294967295)
  have hz : crcZ s = r := by unfold crcZ; rw [h1]; rfl
  have hw : IntKind.i64.wrap r = r := IntWalk.i64_in _ (by omega)
  rw [callN, hov]; simp only [call1]
  simp only [hov, hfn', lf190, exec, items, oper, wanted, step, evalP, ev, evs, put, agains, enter, Tr.get_set, iOf, Option.bind_some, cond_true, List.append_nil, List.nil_append]
  simp [hm, exec, items, oper, wanted, step, evalP, ev, put, agains, Tr.get_set, iOf, iBin, iConv, finish, resVs, resV, len?, IntKind.signed, hz]
  have hmax : IntKind.u32.max = 4294967295 := by decide
  have hble : Nat.ble 1 7 = true := rfl
  simp [hmax, h1, hble, Tr.get_set, hw]
end
end Go.Proofs.YtohmaikcmaapjaaGreat.LI
