/- Each operation that makes memory: what the interpreter says of it, the machine does. -/
import Derived.Test.YtohmaikcmaapjaaGreatLRead2
import Derived.Lib.ConvBytes
namespace Go.Proofs.YtohmaikcmaapjaaGreat.LI
variable {I S : Type}
theorem reps_get {α : Type} (z : List α) : ∀ (n i : Nat), (reps z n)[i]? = if i < n * z.length then z[i % z.length]? else none
  | 0, i => by simp [reps]
  | n + 1, i => by
    rw [reps, List.getElem?_append]
    by_cases h : i < z.length
    · rw [if_pos h, if_pos (by rw [Nat.add_mul]; omega), Nat.mod_eq_of_lt h]
    · rw [if_neg h, reps_get z n]
      by_cases h2 : i < (n + 1) * z.length
      · rw [if_pos h2, if_pos (by rw [Nat.add_mul] at h2; omega), ← Nat.mod_eq_sub_mod (by omega)]
      · rw [if_neg h2, if_neg (by rw [Nat.add_mul] at h2; omega)]
theorem reps_length {α : Type} (z : List α) : ∀ n, (reps z n).length = n * z.length
  | 0 => by simp [reps]
  | n + 1 => by simp [reps, reps_length z n, Nat.add_mul]; omega
theorem range_reps (z : Array Value) (n m : Nat) (h : z.size = m) : ((Array.range (n * m)).map (z[· % z.size]!)).toList = reps z.toList n := by
  subst h
  apply List.ext_getElem?
  intro i
  rw [reps_get]
  simp only [Array.toList_map, List.getElem?_map, Array.toList_range, List.getElem?_range', Array.length_toList]
  by_cases hi : i < n * z.size
  · have h0 : 0 < z.size := by
      rcases Nat.eq_zero_or_pos z.size with h | h
      · rw [h] at hi; simp at hi
      · exact h
    have hlt := Nat.mod_lt i h0
    simp [hi, List.getElem?_range hi, hlt]
  · simp [hi]
section
variable {P : Program} {γ : I → Int} {σ : Sg I S} {D : Dom I S} {ty : Nat → Option (TyI I S)} {φ : Phi} {K : Nat → Prop} {w : World}
theorem VRels.reps {z : List (LV I S)} {z' : List Value} (h : VRels γ σ φ K z z') : ∀ m, VRels γ σ φ K (LI.reps z m) (LI.reps z' m)
  | 0 => .nil
  | m + 1 => h.append (h.reps m)

/-- What one operation comes to that makes memory. -/
def ADone (P : Program) (γ : I → Int) (σ : Sg I S) (φ : Phi) (K : Nat → Prop) (w : World) (o : Oper) (a : Act) (mk : Nat → LV I S) (obj : LObj I S) : Prop :=
  ∃ robj v' w' room, (execOp a.eval o).run P w = .ok (.value v') w' ∧ w'.heap = w.heap.push robj ∧ w'.os = w.os ∧ w'.tape = w.tape ∧ w'.output = w.output ∧ obj.live = true ∧
    ∀ (φ' : Phi) (K' : Nat → Prop) (b : Nat), (∀ c, K c → K' c) → (∀ c, K c → φ' c = φ c) → K' b → φ' b = ⟨w.heap.size, 0, room⟩ → VRel γ σ φ' K' (mk b) v' ∧
      ∀ w2 : World, w2.heap[w.heap.size]? = some robj → ORel γ σ φ' K' w2 (φ' b) obj

theorem ORel.new_cells {φ : Phi} {K : Nat → Prop} {w2 : World} {blk room : Nat} {cur : Array Value} {e : TypeId} (h : w2.heap[blk]? = some (.cells cur e (0, 0))) (hr : cur.size = room) {c : List (LV I S)}
    (hc : VRels γ σ φ K c (cur.toList.take c.length)) (hl : c.length ≤ room) (h1 : ∀ v ∈ c, one? v = true) : ORel γ σ φ K w2 ⟨blk, 0, room⟩ (.cells 0 c) :=
  .cells 0 c cur e (0, 0) h (by simp; omega) hl (by simpa using hc) h1 (fun i _ h => by omega) (fun _ => rfl)

theorem aBox {elem : TypeId} {v : LV I S} {v' : Value} (hv : VRel γ σ φ K v v') (h1 : allOne v.cells = true) {o : Oper} {a : Act} (ho : execOp a.eval o = (do pure (.value (.pointer (some (← newVar elem v')))))) :
    ADone P γ σ φ K w o a (fun b => .ptr b 0) (.cells 0 v.cells) := by
  refine ⟨.cells v'.cells elem, .pointer (some ⟨w.heap.size, 0, none⟩), w.alloc (.cells v'.cells elem), v'.cells.size, ?_, rfl, rfl, rfl, rfl, rfl, ?_⟩
  · rw [ho]; simp [newVar, newRow]
  · intro φ' K' b hn hφ hb hpb
    refine ⟨by have := VRel.ptr (γ := γ) (σ := σ) (φ := φ') (K := K') b 0 hb; rw [hpb] at this; exact this, fun w2 h2 => ?_⟩
    rw [hpb]
    have hc := (hv.cells).mono hn hφ
    have hl := hc.length
    simp only [Array.length_toList] at hl
    exact .new_cells h2 rfl (by rw [hl, List.take_of_length_le (by simp)]; exact hc) (by omega) (allOne_mem h1)

theorem fillS_eq (sz : Nat) : ∀ (ps : List (Nat × LV I S)) (cells : List (LV I S)), fillS sz cells ps = fill cells (ps.map fun p => (p.1 * sz, sz, p.2))
  | [], _ => rfl
  | (i, v) :: ps, cells => by
    simp only [fillS, fill, List.map_cons]
    congr 2
    funext c
    exact fillS_eq sz ps c
theorem evPartsS_get : ∀ {ps : List (Nat × LA I S)} {e : EnvF I S} {vs : List (Nat × LV I S)}, evPartsS e ps = some vs → ps.length = vs.length ∧
    ∀ (j i : Nat) (v : LV I S), vs[j]? = some (i, v) → ∃ x, ps[j]? = some (i, x) ∧ ev e x = some v
  | [], e, vs, h => by cases h; exact ⟨rfl, fun j i v hj => by simp at hj⟩
  | (i, x) :: ps, e, vs, h => by
    simp only [evPartsS, Option.bind_eq_some_iff, Option.some.injEq] at h
    obtain ⟨v, h1, vs', h2, rfl⟩ := h
    obtain ⟨hl, hg⟩ := evPartsS_get h2
    refine ⟨by simp [hl], fun j i' v' hj => ?_⟩
    cases j with
    | zero => simp at hj; obtain ⟨rfl, rfl⟩ := hj; exact ⟨x, rfl, h1⟩
    | succ j => simp at hj; simpa using hg j i' v' hj
theorem trPartsS_get : ∀ {l : List (Nat × Operand)} {ps : List (Nat × LA I S)}, trPartsS D l = some ps → l.length = ps.length ∧
    ∀ (j i : Nat) (x : LA I S), ps[j]? = some (i, x) → ∃ y, l[j]? = some (i, y) ∧ trA D y = some x
  | [], ps, h => by cases h; exact ⟨rfl, fun j i v hj => by simp at hj⟩
  | (i, y) :: l, ps, h => by
    simp only [trPartsS, Option.bind_eq_some_iff, Option.some.injEq] at h
    obtain ⟨x, h1, ps', h2, rfl⟩ := h
    obtain ⟨hl, hg⟩ := trPartsS_get h2
    refine ⟨by simp [hl], fun j i' x' hj => ?_⟩
    cases j with
    | zero => simp at hj; obtain ⟨rfl, rfl⟩ := hj; exact ⟨y, rfl, h1⟩
    | succ j => simp at hj; simpa using hg j i' x' hj

theorem sBytes_rel (hD : D.Ok γ σ) (s : S) : ∀ (m i : Nat), i + m ≤ (σ s).size → VRels γ σ φ K (sBytes D s i m) (((σ s).data.toList.drop i).take m |>.map fun b => Value.int .u8 (b.toNat : Int))
  | 0, i, _ => by simp [sBytes]; exact .nil
  | m + 1, i, h => by
    have hi : i < (σ s).size := by omega
    have hi' : i < (σ s).data.toList.length := by simpa using hi
    rw [List.drop_eq_getElem_cons hi', List.take_succ_cons, List.map_cons]
    refine .cons _ _ _ _ ?_ (sBytes_rel hD s m (i + 1) (by omega))
    have := VRel.int (γ := γ) (σ := σ) (φ := φ) (K := K) .u8 (D.sAt s i)
    rw [hD.sAt s i hi] at this
    exact this
theorem sBytes_ones (s : S) : ∀ (m i : Nat), ∀ v ∈ sBytes D s i m, one? v = true
  | 0, _, v, h => by simp [sBytes] at h
  | m + 1, i, v, h => by
    simp only [sBytes, List.mem_cons] at h
    rcases h with rfl | h
    · rfl
    · exact sBytes_ones s m (i + 1) v h
theorem sBytes_length (s : S) : ∀ (m i : Nat), (sBytes D s i m).length = m
  | 0, _ => rfl
  | m + 1, i => by simp [sBytes, sBytes_length s m (i + 1)]

theorem bytesWorld_heap (w : World) (e : TypeId) (s : ByteArray) : (Lib.bytesWorld w e s).heap = w.heap.push (.cells (Lib.bytesCells w e s) e ((Lib.bytesCells w e s).size, (Lib.bytesCells w e s).size + 1)) := by
  apply Array.ext_getElem?
  intro i
  rw [Array.getElem?_push]
  by_cases h : i = w.heap.size
  · subst h; rw [if_pos rfl, Lib.bytesWorld_at_new]
  · rw [if_neg h]
    by_cases h2 : i < w.heap.size
    · exact Lib.bytesWorld_at_old w e s i h2
    · rw [Array.getElem?_eq_none (by rw [Lib.bytesWorld_size]; omega), Array.getElem?_eq_none (by omega)]

set_option maxHeartbeats 1000000 in
theorem aSound (hD : D.Ok γ σ) (hty : Tys P γ σ ty) {o : Oper} {x : AOp I S} (h : trOp D ty o = some (.a x)) {e : EnvF I S} {a : Act} (he : ERelE γ σ φ K e a.tmps) {r : (Nat → LV I S) × LObj I S} (hv : evalA D e x = some r) :
    ADone P γ σ φ K w o a r.1 r.2 := by
  obtain ⟨dst, op, type, pos, after, guard⟩ := o
  cases op
  case alloc el =>
    simp only [trOp, Option.bind_eq_some_iff, Option.some.injEq, LOp.a.injEq] at h
    obtain ⟨i, hi, rfl⟩ := h
    obtain ⟨z, hz, hzr⟩ := (hty _ _ hi).zeroValue
    simp only [evalA, ev, Option.bind_some] at hv
    cases h1 : allOne i.zero.cells
    · simp [h1] at hv
    · simp only [h1, cond_true, Option.some.injEq] at hv
      subst hv
      obtain ⟨robj, v', w', room, q1, q2⟩ := aBox (P := P) (w := w) (hzr φ K) h1 (o := ⟨dst, .box el (.const z), type, pos, after, guard⟩) (a := a) (elem := el) (by simp [execOp, Instr.box, Act.eval])
      refine ⟨robj, v', w', room, ?_, q2⟩
      rw [← q1]
      simp only [execOp, Instr.alloc, Instr.box, Sem.run_bind, hz, Result.andThen_ok, Act.eval]
  case box el y =>
    simp only [trOp, Option.bind_eq_some_iff, Option.some.injEq, LOp.a.injEq] at h
    obtain ⟨z, h1, rfl⟩ := h
    simp only [evalA, Option.bind_eq_some_iff] at hv
    obtain ⟨u, h2, h3⟩ := hv
    cases h4 : allOne u.cells
    · simp [h4] at h3
    · simp only [h4, cond_true, Option.some.injEq] at h3
      subst h3
      exact aBox (elem := el) (trA_sound hD h1 he h2) h4 (by simp [execOp, Instr.box])
  case buildSlice t m parts =>
    simp only [trOp] at h
    split at h
    · rename_i el hk
      obtain ⟨d, hd, hkd⟩ := kindAt_ok hty hk (by simp)
      cases hkd
      simp only [Option.bind_eq_some_iff, Option.some.injEq, LOp.a.injEq] at h
      obtain ⟨i, hi, ps, h1, rfl⟩ := h
      obtain ⟨info, dd, z, e1, e2, e3, e4, e5, e6, e7, e8, e9, e10⟩ := hty _ _ hi
      simp only [evalA, Option.bind_eq_some_iff] at hv
      obtain ⟨vs, h2, c, h3, h4⟩ := hv
      cases h5 : (Nat.ble (m * i.size) most && Nat.ble m most && allOne c)
      · simp [h5] at h4
      · simp only [h5, cond_true, Option.some.injEq] at h4
        subst h4
        simp only [Bool.and_eq_true] at h5
        have hle := Nat.le_of_ble_eq_true h5.1.1
        have hzc := (e7 φ K).cells
        have hzl : z.cells.size = i.size := by have := hzc.length; simp at this; omega
        rw [fillS_eq] at h3
        obtain ⟨l1, g1⟩ := trPartsS_get h1
        obtain ⟨l2, g2⟩ := evPartsS_get h2
        obtain ⟨r', f1, f2⟩ := fill_sound (φ := φ) (K := K) (γ := γ) (σ := σ) (fun j => some (j * i.size, i.size)) h3 (cells' := (Array.range (m * i.size)).map (z.cells[· % z.cells.size]!)) (ps' := (parts.map fun (p : Nat × Operand) => (p.1, a.eval p.2)).toList)
          (by rw [range_reps _ _ _ hzl]; exact hzc.reps m) (by simp; simp at l1; omega) (fun j o' m' v hj => by
            simp only [List.getElem?_map, Option.map_eq_some_iff, Prod.mk.injEq] at hj
            obtain ⟨⟨i', v0⟩, q1, rfl, rfl, rfl⟩ := hj
            obtain ⟨x, hx, hxe⟩ := g2 j i' v0 q1
            obtain ⟨y, hy, hyx⟩ := g1 j i' x hx
            refine ⟨i', a.eval y, ?_, rfl, trA_sound hD hyx he hxe⟩
            rw [Array.toList_map, List.getElem?_map, hy]
            rfl)
        have hcl := f2.length
        have hfl : ∀ (ps : List (Nat × Nat × LV I S)) (cells r : List (LV I S)), fill cells ps = some r → r.length = cells.length := by
          intro ps
          induction ps with
          | nil => intro cells r h; cases h; rfl
          | cons p ps ih =>
            obtain ⟨q1, q2, q3⟩ := p
            intro cells r h
            simp only [fill] at h
            cases hb : Nat.beq (len? q3.cells) q2
            · simp [hb] at h
            · simp only [hb, cond_true, Option.bind_eq_some_iff] at h
              obtain ⟨c1, h1, h2⟩ := h
              obtain ⟨rfl, hle⟩ := over_eq _ _ _ _ h1
              rw [ih _ _ h2]
              simp
              omega
        have hcl2 : c.length = m * i.size := by rw [hfl _ _ _ h3, reps_length, e8]
        refine ⟨.cells r' el, .slice (some ⟨w.heap.size, 0, none⟩) m m, w.alloc (.cells r' el), m * i.size, ?_, rfl, rfl, rfl, rfl, rfl, ?_⟩
        · have hbig : ¬ (m * i.size > 2 ^ 24) := by simp only [most] at hle; omega
          have hz0 : ∀ w, (if m * i.size = 0 then (pure #[] : Sem (Array Value)) else do pure (← zeroValue el).cells).run P w = .ok (if m * i.size = 0 then #[] else z.cells) w := by
            intro w; split <;> simp [zeroValue, typeInfo, e1, e6]
          by_cases hmz : m * i.size = 0
          · have f1' : Instr.fill (fun j => some (j * i.size, i.size)) ((Array.range (m * i.size)).map ((#[] : Array Value)[· % 0]!)) (parts.map fun (p : Nat × Operand) => (p.1, a.eval p.2)).toList = some r' := by
              rw [← f1, hmz]
              have hr0 : Array.range 0 = #[] := by simp
              have hm : ∀ f : Nat → Value, Array.map f (#[] : Array Nat) = #[] := fun f => by simp
              rw [hr0, hm, hm]
            simp only [execOp, Instr.buildSlice, Sem.run_bind, run_underlying hd, Result.andThen_ok, sizeOf, typeInfo, run_program, e1, e3, Sem.run_pure, if_neg hbig, if_pos hmz]
            have hsz0 : (#[] : Array Value).size = 0 := rfl
            rw [hsz0, f1']
            simp [newRow]
          · simp only [execOp, Instr.buildSlice, Sem.run_bind, run_underlying hd, Result.andThen_ok, sizeOf, typeInfo, run_program, e1, e3, Sem.run_pure, if_neg hbig, if_neg hmz, zeroValue, e6, f1, newRow, run_newObj]
            rfl
        · intro φ' K' b hn hφ hb hpb
          refine ⟨by have := VRel.slice (γ := γ) (σ := σ) (φ := φ') (K := K') b 0 m m true i.size m hb (Nat.le_refl _) (Nat.le_refl _) (fun _ => rfl) (by rw [hpb]; simp); rw [hpb] at this; exact this, fun w2 h2 => ?_⟩
          rw [hpb]
          have hc := f2.mono hn hφ
          simp only [Array.length_toList] at hcl
          exact .new_cells h2 (by omega) (by rw [hcl, List.take_of_length_le (by simp)]; exact hc) (by omega) (allOne_mem h5.2)
    · cases h
  case makeMap t r =>
    cases r <;> simp only [trOp, reduceCtorEq, Option.some.injEq, LOp.a.injEq] at h
    subst h
    simp only [evalA, Option.some.injEq] at hv
    subst hv
    refine ⟨.map #[] 0, .map (some w.heap.size), w.alloc (.map #[] 0), 0, ?_, rfl, rfl, rfl, rfl, rfl, ?_⟩
    · simp [execOp, Instr.makeMap]
    · intro φ' K' b hn hφ hb hpb
      refine ⟨by have := VRel.map (γ := γ) (σ := σ) (φ := φ') (K := K') b hb; rw [hpb] at this; exact this, fun w2 h2 => ?_⟩
      rw [hpb]
      exact .map [] 0 #[] h2 .nil
  case makeSlice t l c =>
    simp only [trOp] at h
    split at h
    · rename_i el hk
      obtain ⟨d, hd, hkd⟩ := kindAt_ok hty hk (by simp)
      cases hkd
      simp only [Option.bind_eq_some_iff, Option.some.injEq, LOp.a.injEq] at h
      obtain ⟨i, hi, l', h1, c', h2, rfl⟩ := h
      obtain ⟨info, dd, z, e1, e2, e3, e4, e5, e6, e7, e8, e9, e10⟩ := hty _ _ hi
      simp only [evalA, Option.bind_eq_some_iff] at hv
      obtain ⟨lv, h3, cv, h4, ln, h5, cn, h6, h7⟩ := hv
      cases h8 : (Nat.ble ln cn && Nat.ble (cn * i.bytes) big && Nat.ble cn big)
      · simp [h8] at h7
      · simp only [h8, cond_true, Option.some.injEq] at h7
        subst h7
        simp only [Bool.and_eq_true] at h8
        have k1 := Nat.le_of_ble_eq_true h8.1.1
        have k2 := Nat.le_of_ble_eq_true h8.1.2
        have k3 := Nat.le_of_ble_eq_true h8.2
        simp only [big] at k2 k3
        have hl := trA_sound hD h1 he h3
        have hc := trA_sound hD h2 he h4
        obtain ⟨kl, hl'⟩ := nat?_sound hD h5 hl
        obtain ⟨kc, hc'⟩ := nat?_sound hD h6 hc
        have hzc := (e7 φ K).cells
        have hzl : z.cells.size = i.size := by have := hzc.length; simp at this; omega
        have hrun := run_make (P := P) w t el info z hd e1 e6 kl kc (ln : Int) (cn : Int) (by omega) (by omega) (by rw [e4, Int.mul_comm, ← Int.natCast_mul]; exact Int.ofNat_le.2 (Nat.le_trans k2 (by decide))) (by omega)
        simp only [Int.toNat_natCast, e3] at hrun
        have hml : (madeCells z.cells (cn * i.size)).toList = reps z.cells.toList cn := range_reps _ _ _ hzl
        have hms : (madeCells z.cells (cn * i.size)).size = cn * i.size := size_madeCells _ _
        refine ⟨.cells (madeCells z.cells (cn * i.size)) el, .slice (some ⟨w.heap.size, 0, none⟩) ln cn, w.alloc (.cells (madeCells z.cells (cn * i.size)) el), cn * i.size, ?_, rfl, rfl, rfl, rfl, rfl, ?_⟩
        · simp only [execOp, hl', hc', Sem.run_bind, hrun, Result.andThen_ok, Sem.run_pure]
        · intro φ' K' b hn hφ hb hpb
          refine ⟨by have := VRel.slice (γ := γ) (σ := σ) (φ := φ') (K := K') b 0 ln cn true i.size cn hb k1 (Nat.le_refl _) (fun _ => rfl) (by rw [hpb]; simp); rw [hpb] at this; exact this, fun w2 h2 => ?_⟩
          rw [hpb]
          have hcc := (hzc.reps cn).mono hn hφ
          have hrl : (reps i.zero.cells cn).length = cn * i.size := by rw [reps_length, e8]
          refine .new_cells h2 hms (by rw [hrl, List.take_of_length_le (by simp [hms]), hml]; exact hcc) (by omega) (fun v hv => ?_)
          have : ∀ (m : Nat), ∀ v ∈ reps i.zero.cells m, v ∈ i.zero.cells := by
            intro m
            induction m with
            | zero => intro v h; simp [reps] at h
            | succ m ih => intro v h; simp only [reps, List.mem_append] at h; exact h.elim id (ih v)
          exact e9 v (this cn v hv)
    · cases h
  case convert s d y =>
    simp only [trOp, Option.bind_eq_some_iff] at h
    obtain ⟨z, h1, h⟩ := h
    split at h
    · cases h
    · rename_i el hk hk'
      cases hu8 : u8 ty el
      · simp [hu8] at h
      · simp only [hu8, cond_true, Option.some.injEq, LOp.a.injEq] at h
        subst h
        obtain ⟨d1, hd1, hkd1⟩ := kindAt_ok hty hk (by simp)
        obtain ⟨d2, hd2, hkd2⟩ := kindAt_ok hty hk' (by simp)
        cases hkd1; cases hkd2
        have hel : P.underlying el = some (.int .u8) := by
          unfold u8 at hu8
          split at hu8
          · rename_i hk3
            obtain ⟨d3, hd3, hkd3⟩ := kindAt_ok hty hk3 (by simp)
            cases hkd3
            exact hd3
          · cases hu8
        simp only [evalA, Option.bind_eq_some_iff] at hv
        obtain ⟨u, h2, h3⟩ := hv
        have hu := trA_sound hD h1 he h2
        generalize hyv : a.eval y = yv at hu
        cases hu <;> simp only [reduceCtorEq] at h3
        rename_i str
        cases hb : Nat.ble (D.sLen str) big
        · simp [hb] at h3
        · simp only [hb, cond_true, Option.some.injEq] at h3
          subst h3
          have hsz := hD.sLen str
          have hge : (σ str).size ≤ grownCap w (σ str).size 0 el := grownCap_ge w _ _ _
          have hcs : (Lib.bytesCells w el (σ str)).size = grownCap w (σ str).size 0 el := by
            simp only [Lib.bytesCells, Array.size_append, Array.size_map, Array.size_replicate]
            have : (σ str).data.size = (σ str).size := rfl
            omega
          refine ⟨_, .slice (some ⟨w.heap.size, 0, none⟩) (σ str).size (grownCap w (σ str).size 0 el), Lib.bytesWorld w el (σ str), grownCap w (σ str).size 0 el, ?_, bytesWorld_heap w el (σ str), rfl, rfl, rfl, rfl, ?_⟩
          · simp only [execOp, hyv, Sem.run_bind, Lib.run_convert_string_bytes w s d el (σ str) hd1 hd2 hel, Result.andThen_ok, Sem.run_pure]
          · intro φ' K' b hn hφ hb hpb
            refine ⟨by have := VRel.slice (γ := γ) (σ := σ) (φ := φ') (K := K') b 0 (D.sLen str) (D.sLen str) false 1 (grownCap w (σ str).size 0 el) hb (Nat.le_refl _) (by omega) (fun h => by cases h) (by rw [hpb]; simp); rw [hpb, ← hsz] at this; rw [← hsz]; exact this, fun w2 h2 => ?_⟩
            rw [hpb]
            have hbr := (sBytes_rel (φ := φ') (K := K') hD str (D.sLen str) 0 (by omega))
            refine .cells 1 _ _ el _ h2 (by simp [hcs]) (by rw [sBytes_length]; simp; omega) ?_ (sBytes_ones str _ _) (fun j hj h => by simp at h; omega) (fun h => by cases h)
            rw [sBytes_length]
            simp only [List.drop_zero] at hbr ⊢
            have : (Lib.bytesCells w el (σ str)).toList.take (D.sLen str) = ((σ str).data.toList.take (D.sLen str)).map fun b => Value.int .u8 (b.toNat : Int) := by
              rw [← hsz, Lib.bytesCells]
              simp only [Array.toList_append, Array.toList_map]
              have hl : (σ str).size = ((σ str).data.toList.map fun b => Value.int .u8 (b.toNat : Int)).length := by simp
              rw [List.take_left' hl.symm, List.take_of_length_le (by simp)]
            rw [this]
            exact hbr
    · revert h; cases u8 ty _ <;> simp
    · revert h; cases (u8 ty _ && Nat.beq s d) <;> simp
    · cases h
  case binOp op t p q yt =>
    simp only [trOp, Option.bind_eq_some_iff] at h
    obtain ⟨p', h1, q', h2, h⟩ := h
    split at h
    · simp only [Option.bind_eq_some_iff] at h
      obtain ⟨i, hi, h⟩ := h
      split at h
      · cases h
      · cases h
      · cases h
      · revert h; cases i.flat <;> simp
      · simp only [Option.bind_eq_some_iff] at h
        obtain ⟨j, hj, h⟩ := h
        revert h; cases Nat.beq j.size 0 <;> simp
      all_goals cases h
    · simp only [Option.bind_eq_some_iff] at h
      obtain ⟨i, hi, h⟩ := h
      split at h
      · cases h
      · cases h
      · cases h
      · revert h; cases i.flat <;> simp
      · simp only [Option.bind_eq_some_iff] at h
        obtain ⟨j, hj, h⟩ := h
        revert h; cases Nat.beq j.size 0 <;> simp
      all_goals cases h
    · cases h
  case call c =>
    simp only [trOp, Option.bind_eq_some_iff] at h
    obtain ⟨args, h1, h⟩ := h
    cases hc : c.callee <;> simp only [hc, reduceCtorEq, Option.bind_eq_some_iff, Option.some.injEq, and_false, exists_false] at h
    rename_i b
    unfold trBuiltin at h
    split at h
    · simp only [Option.bind_eq_some_iff] at h
      obtain ⟨t, h2, h3⟩ := h
      split at h3 <;> cases h3
    · simp only [Option.bind_eq_some_iff] at h
      obtain ⟨t, h2, h3⟩ := h
      split at h3 <;> cases h3
    · cases h
    · cases h
    · simp only [Option.bind_eq_some_iff] at h
      obtain ⟨t, h1, u, h2, h3⟩ := h
      split at h3
      · simp only [Option.bind_eq_some_iff] at h3
        obtain ⟨i, hi, h4⟩ := h3
        split at h4 <;> try (cases h4; done)
        revert h4
        cases u8 ty _ <;> simp
      · cases h3
    · simp only [Option.bind_eq_some_iff] at h
      obtain ⟨t, h1, h3⟩ := h
      split at h3
      · simp only [Option.bind_eq_some_iff] at h3
        obtain ⟨i, hi, h4⟩ := h3
        cases h4
      · cases h3
    · simp only [Option.bind_eq_some_iff] at h
      obtain ⟨t, h1, h3⟩ := h
      split at h3
      · cases h3
      · simp only [Option.bind_eq_some_iff] at h3
        obtain ⟨i, hi, h4⟩ := h3
        cases h4
      · cases h3
    · simp only [Option.bind_eq_some_iff] at h
      obtain ⟨t, h1, h3⟩ := h
      split at h3
      · simp only [Option.bind_eq_some_iff] at h3
        obtain ⟨i, hi, h4⟩ := h3
        cases h4
      · cases h3
    · cases h
  case makeFunc f l c => cases f <;> simp only [trOp, reduceCtorEq, Option.bind_eq_some_iff, Option.some.injEq, and_false, exists_false] at h
  case next y s => cases s <;> simp only [trOp, reduceCtorEq, Option.bind_eq_some_iff, Option.some.injEq, and_false, exists_false] at h
  case build t parts =>
    simp only [trOp, Option.bind_eq_some_iff] at h
    obtain ⟨i, hi, h⟩ := h
    split at h <;> simp only [Option.bind_eq_some_iff, reduceCtorEq, Option.some.injEq, and_false, exists_false] at h
  case slice t y lo hi mx =>
    simp only [trOp, Option.bind_eq_some_iff] at h
    obtain ⟨y', h1, lo', h2, hi', h3, mx', h4, h⟩ := h
    split at h
    · split at h <;> cases h
    · simp only [Option.bind_eq_some_iff, reduceCtorEq, Option.some.injEq, and_false, exists_false] at h
    · cases h
  case fieldAddr t y f =>
    simp only [trOp, Option.bind_eq_some_iff] at h
    obtain ⟨y', h1, h⟩ := h
    split at h
    · simp only [Option.bind_eq_some_iff] at h
      obtain ⟨fd, h2, i, hi, h⟩ := h
      revert h; cases Nat.beq i.size 0 <;> simp
    · cases h
  case field t y f =>
    simp only [trOp, Option.bind_eq_some_iff] at h
    obtain ⟨y', h1, h⟩ := h
    split at h <;> simp only [Option.bind_eq_some_iff, reduceCtorEq, Option.some.injEq, and_false, exists_false] at h
  case indexAddr t y i =>
    simp only [trOp, Option.bind_eq_some_iff] at h
    obtain ⟨y', h1, i', h2, h⟩ := h
    split at h <;> simp only [Option.bind_eq_some_iff, reduceCtorEq, Option.some.injEq, and_false, exists_false] at h
  case index t y i =>
    simp only [trOp, Option.bind_eq_some_iff] at h
    obtain ⟨y', h1, i', h2, h⟩ := h
    split at h <;> simp only [Option.bind_eq_some_iff, reduceCtorEq, Option.some.injEq, and_false, exists_false] at h
  case lookup t m k ok =>
    simp only [trOp, Option.bind_eq_some_iff] at h
    obtain ⟨m', h1, k', h2, h⟩ := h
    split at h <;> simp only [Option.bind_eq_some_iff, reduceCtorEq, Option.some.injEq, and_false, exists_false] at h
  case mapUpdate t m k v =>
    simp only [trOp, Option.bind_eq_some_iff] at h
    obtain ⟨m', h1, k', h2, v', h3, h⟩ := h
    split at h <;> simp only [Option.bind_eq_some_iff, reduceCtorEq, Option.some.injEq, and_false, exists_false] at h
  case range t y =>
    simp only [trOp, Option.bind_eq_some_iff] at h
    obtain ⟨m', h1, h⟩ := h
    split at h <;> simp only [reduceCtorEq, Option.some.injEq] at h
  all_goals simp only [trOp, Option.bind_eq_some_iff, reduceCtorEq, Option.some.injEq, and_false, exists_false] at h
end
end Go.Proofs.YtohmaikcmaapjaaGreat.LI
