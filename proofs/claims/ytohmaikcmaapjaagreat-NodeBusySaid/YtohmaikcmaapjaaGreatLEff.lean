/- Each operation that acts on memory: what the interpreter says of it, the machine does. -/
import Derived.Test.YtohmaikcmaapjaaGreatLMem
namespace Go.Proofs.YtohmaikcmaapjaaGreat.LI
variable {I S : Type}
section
variable {P : Program} {γ : I → Int} {σ : Sg I S} {D : Dom I S} {ty : Nat → Option (TyI I S)} {φ : Phi} {w : World} {h : H I S}

/-- What an act comes to. -/
def EDone (P : Program) (γ : I → Int) (σ : Sg I S) (φ : Phi) (h : H I S) (w : World) (s : Sem Next) (v : LV I S) (h' : H I S) : Prop :=
  ∃ φ' nx v' w', s.run P w = .ok nx w' ∧ (nx = .value v' ∨ (nx = .skip ∧ v' = undef)) ∧ VRel γ σ φ' h'.ids v v' ∧ Rel γ σ φ' h' w' ∧ Goes φ h.ids h.t.get w φ' h'.ids h'.t.get w'

theorem get_set' (t : Tr (LObj I S)) (b : Nat) (o : LObj I S) : (t.set b o).get = fun m => if m = b then some o else t.get m := funext fun m => Tr.get_set t b m o

/-- Cells of a block written over. -/
theorem over_run (hr : Rel γ σ φ h w) {b : Nat} {q : Nat} {c c' vs : List (LV I S)} (hb : h.t.get b = some (.cells q c)) (hq : Nat.blt q 2 = true) {o : Nat} (ho : over c o vs = some c') {vs' : List Value}
    (hv : VRels γ σ φ h.ids vs vs') (h1 : ∀ v ∈ vs, one? v = true) :
    ∃ w', (storeCells ⟨(φ b).blk, (φ b).off + o, none⟩ vs').run P w = .ok () w' ∧ Rel γ σ φ { h with t := h.t.set b (.cells q c') } w' ∧ Goes φ h.ids h.t.get w φ h.ids (h.t.set b (.cells q c')).get w' := by
  obtain ⟨cur, e, fz, i1, i2, i3, i4, i5, i6, i7⟩ := (hr.obj b _ hb).cells_inv
  obtain ⟨rfl, hle⟩ := over_eq _ _ _ _ ho
  have hvl := hv.length
  obtain ⟨w', s1, s2, s3, s4, s5, s6, cur', s7, s8⟩ := storeCells_run (P := P) (φ b).blk ((φ b).off + o) e fz vs' 0 cur w i1 i6 (by omega) (hv.ones h1)
  have hcs : cur'.size = cur.size := by
    have := congrArg List.length s8
    simp only [Array.length_toList, List.length_append, List.length_take, List.length_drop] at this
    omega
  have hlen : (c.take o ++ vs ++ c.drop (o + vs.length)).length = c.length := by simp; omega
  have hob : ORel γ σ φ h.ids w' (φ b) (.cells q (c.take o ++ vs ++ c.drop (o + vs.length))) := by
    refine .cells q _ cur' e fz s7 (by omega) (by omega) ?_ (fun v hv => ?_) (by rw [hcs]; exact i6) i7
    · rw [hlen]
      have e1 : (cur'.toList.drop (φ b).off).take c.length = ((cur.toList.drop (φ b).off).take c.length).take o ++ vs' ++ ((cur.toList.drop (φ b).off).take c.length).drop (o + vs'.length) := by
        rw [s8]
        apply List.ext_getElem?
        intro j
        simp only [List.getElem?_take, List.getElem?_drop, List.getElem?_append, List.length_append, List.length_take, List.length_drop, Array.length_toList, Nat.add_zero]
        have m1 : min ((φ b).off + o) cur.size = (φ b).off + o := by omega
        have m2 : min o (min c.length (cur.size - (φ b).off)) = o := by omega
        rw [m1, m2]
        by_cases j1 : j < o
        · rw [if_pos (by omega), if_pos (by omega), if_pos (by omega), if_pos (by omega), if_pos (by omega), if_pos j1, if_pos (by omega), if_pos (by omega)]
        · by_cases j2 : j < o + vs'.length
          · rw [if_pos (by omega), if_pos (by omega), if_neg (by omega), if_pos (by omega), if_neg (by omega)]
            congr 1; omega
          · by_cases j3 : j < c.length
            · rw [if_pos j3, if_neg (by omega), if_neg (by omega), if_pos (by omega)]
              congr 1; omega
            · rw [if_neg j3, if_neg (by omega), if_neg (by omega)]
      rw [e1]
      have := ((i4.take o).append hv).append (i4.drop (o + vs.length))
      rwa [hvl] at this ⊢
    · simp only [List.mem_append] at hv
      rcases hv with (hv | hv) | hv
      · exact i5 v (List.mem_of_mem_take hv)
      · exact h1 v hv
      · exact i5 v (List.mem_of_mem_drop hv)
  obtain ⟨r1, r2⟩ := hr.update hb hq (o' := .cells q (c.take o ++ vs ++ c.drop (o + vs.length))) hq s2 s3 s4 s5 s6 hob
  exact ⟨w', s1, r1.congr (fun m => by rw [get_set']), r2.congr (fun m => by rw [get_set'])⟩

theorem eStore (hr : Rel γ σ φ h w) {t : TypeId} {i : TyI I S} (hi : TyOk P γ σ t i) {av xv : LV I S} {av' xv' : Value} (ha : VRel γ σ φ h.ids av av') (hx : VRel γ σ φ h.ids xv xv') {r : LV I S × H I S}
    (hv : (match (generalizing := false) av with
      | .ptr b o => (match h.t.get b with
        | some (.cells q c) => cond (Nat.blt q 2 && Nat.beq (len? xv.cells) i.size && allOne xv.cells)
            ((over c o xv.cells).bind fun c' => some (LV.und, { h with t := h.t.set b (.cells q c') })) none
        | _ => none)
      | _ => none) = some r) : EDone P γ σ φ h w (do Instr.storeAt t av' xv'; pure .skip) r.1 r.2 := by
  cases ha <;> simp only [reduceCtorEq] at hv
  rename_i b o hb
  split at hv
  · rename_i q c hg
    cases hc : (Nat.blt q 2 && Nat.beq (len? xv.cells) i.size && allOne xv.cells)
    · simp [hc] at hv
    · simp only [hc, cond_true, Option.bind_eq_some_iff, Option.some.injEq] at hv
      obtain ⟨c', h1, rfl⟩ := hv
      simp only [Bool.and_eq_true] at hc
      have hl := Nat.eq_of_beq_eq_true hc.1.2
      rw [len?_eq] at hl
      have hvc := hx.cells
      have hsz : xv'.cells.size = i.size := by have := hvc.length; simp at this; omega
      obtain ⟨w', s1, s2, s3⟩ := over_run (P := P) hr hg hc.1.1 h1 hvc (allOne_mem hc.2)
      exact ⟨φ, .skip, undef, w', by simp [Instr.storeAt, Instr.sureAddr, storeVar, hi.sizeOf, hsz, s1], .inr ⟨rfl, rfl⟩, .und, s2, s3⟩
  · cases hv

theorem firsts_sound (hD : D.Ok γ σ) (hr : Rel γ σ φ h w) {sz : Nat} {x : LV I S} {x' : Value} (hx : VRel γ σ φ h.ids x x') {m : Nat} {cs : List (LV I S)} (hf : firsts D h sz x = some (m, cs)) :
    (∀ w1, (Builtin.lenOf x').run P w1 = .ok m w1) ∧ cs.length = m * sz ∧ (∀ v ∈ cs, one? v = true) ∧ ∃ cells' : List Value, VRels γ σ φ h.ids cs cells' ∧
      ∀ k, k ≤ m → ∀ w1 : World, w1.heap = w.heap → (Builtin.firstCells sz k x').run P w1 = .ok (cells'.take (k * sz)).toArray w1 := by
  cases hx <;> simp only [firsts, reduceCtorEq, Option.some.injEq, Prod.mk.injEq] at hf
  case nils =>
    obtain ⟨rfl, rfl⟩ := hf
    exact ⟨fun _ => rfl, by simp, (fun v hv => by cases hv), [], .nil, fun k hk w1 _ => by simp [Builtin.firstCells]⟩
  case empty a c =>
    obtain ⟨rfl, rfl⟩ := hf
    refine ⟨fun _ => rfl, by simp, (fun v hv => by cases hv), [], .nil, fun k hk w1 _ => ?_⟩
    obtain rfl : k = 0 := by omega
    simp [Builtin.firstCells, loadCells, loadCellsFrom]
  case slice b o len cap ex sz' cap' hb e1 e2 e3 e4 =>
    split at hf
    · rename_i q c hg
      simp only [Option.bind_eq_some_iff, Option.some.injEq, Prod.mk.injEq] at hf
      obtain ⟨cs', h1, rfl, rfl⟩ := hf
      obtain ⟨rfl, hl⟩ := cut_eq _ _ _ _ h1
      obtain ⟨cur, e, fz, i1, i2, i3, i4, i5, i6, i7⟩ := (hr.obj b _ hg).cells_inv
      have i4' := (i4.drop o).take (len * sz)
      rw [List.drop_take, List.take_take, List.drop_drop, Nat.min_eq_left (by omega)] at i4'
      refine ⟨fun _ => rfl, by simp; omega, fun v hv => i5 v (List.mem_of_mem_drop (List.mem_of_mem_take hv)), _, i4', fun k hk w1 hw => ?_⟩
      have hk' : k * sz ≤ len * sz := Nat.mul_le_mul_right _ hk
      have i1' : w1.heap[(φ b).blk]? = some (.cells cur e fz) := by rw [hw]; exact i1
      rw [List.take_take, Nat.min_eq_left hk']
      exact cells_run i1' _ (k * sz) (by omega)
    · cases hf
  case str s =>
    cases hb : (Nat.beq sz 1 && Nat.ble (D.sLen s) big)
    · simp [hb] at hf
    · simp only [hb, cond_true, Option.some.injEq, Prod.mk.injEq] at hf
      obtain ⟨rfl, rfl⟩ := hf
      simp only [Bool.and_eq_true] at hb
      cases Nat.eq_of_beq_eq_true hb.1
      have hsz := hD.sLen s
      refine ⟨fun w1 => by simp [Builtin.lenOf, hsz], by rw [sBytes_length]; simp, sBytes_ones s _ _, _, sBytes_rel hD s (D.sLen s) 0 (by omega), fun k hk w1 _ => ?_⟩
      simp only [Builtin.firstCells, Sem.run_pure, Nat.mul_one, List.drop_zero]
      congr 2
      apply Array.ext_getElem?
      intro j
      simp only [ByteArray.data_extract, Array.getElem?_map, List.getElem?_toArray, List.getElem?_take, List.getElem?_map, Array.getElem?_extract, Array.getElem?_toList]
      have hd : (σ s).data.size = (σ s).size := rfl
      by_cases hj : j < k
      · rw [if_pos hj, if_pos (by omega), if_pos (by omega)]; simp
      · rw [if_neg hj, if_neg (by omega)]; rfl

/-- The rest of an append, behind its operands' reckoning. -/
def appRest (elem : TypeId) (size : Nat) (base : Option Addr) (s : Value) (sLen sCap n : Nat) (zeros : Bool) (x : Value) (appended : Sem (Array Value)) : Sem Value := do
  let need := sLen + n
  if need ≤ sCap then
    let new ← appended
    if let some a := base then storeCells (a.add (sLen * size)) new.toList
    pure (.slice base need sCap)
  else
    if (need : Int) > IntKind.i64.max ∧ (zeros ∨ (← typeInfo elem).bytes = 0) then runtimePanic (.error "growslice: len out of range")
    if Builtin.nextslicecap need sCap * (← typeInfo elem).bytes > 2 ^ 48 then (if zeros then runtimePanic (.error "growslice: len out of range") else do
      if !(← Builtin.mayShare size sLen n base x) then mark .noRoom
      unsupported (.resourceLimit "append: a slice or a string whose bytes no memory bears"))
    let newCap ← Go.choose (.appendCap need sCap elem)
    askRoom (newCap * (← typeInfo elem).bytes)
    let old ← Builtin.firstCells size sLen s
    let new ← appended
    let rest := Builtin.zeroCells (← zeroValue elem).cells (newCap - need)
    pure (.slice (some (← newRow elem (old ++ new ++ rest))) need newCap)
theorem append_rest {t u elem : TypeId} {ts : Array TypeId} (h0 : ts[0]? = some t) (h1 : ts[1]? = some u) {i : TyI I S} (ht : P.underlying t = some (.slice elem)) (hi : TyOk P γ σ elem i) {du : TypeDesc} (hu : P.underlying u = some du) (hnot : ∀ k, du ≠ .int k) (rt : TypeId)
    (base : Option Addr) (sLen sCap : Nat) {x' : Value} {m : Nat} (hlen : ∀ w1, (Builtin.lenOf x').run P w1 = .ok m w1) (w : World) :
    (Builtin.append_ ts rt #[.slice base sLen sCap, x']).run P w = (appRest elem i.size base (.slice base sLen sCap) sLen sCap m false x' (Builtin.firstCells i.size m x')).run P w := by
  simp only [Builtin.append_, h0, h1, Sem.run_bind, List.getElem?_toArray, List.getElem?_cons_zero, List.getElem?_cons_succ, run_underlying ht, Result.andThen_ok, hi.sizeOf, run_underlying hu, Sem.run_pure]
  simp only [Bool.false_eq_true, if_false, Sem.run_bind, hlen, Result.andThen_ok, Bool.not_false, if_true]
  unfold appRest
  simp only [Bool.false_eq_true, if_false]
  rfl

theorem append_restZ {t u elem : TypeId} {ts : Array TypeId} (h0 : ts[0]? = some t) (h1 : ts[1]? = some u) {i : TyI I S} (ht : P.underlying t = some (.slice elem)) (hi : TyOk P γ σ elem i) {ku : IntKind} (hu : P.underlying u = some (.int ku)) (rt : TypeId)
    (base : Option Addr) (sLen sCap : Nat) {kx : IntKind} {m : Nat} (hm : m ≤ big) (hb : m * i.bytes ≤ big) (w : World) :
    (Builtin.append_ ts rt #[.slice base sLen sCap, .int kx (m : Int)]).run P w =
      (appRest elem i.size base (.slice base sLen sCap) sLen sCap m true (.int kx (m : Int)) (if m * i.size = 0 then pure #[] else do pure (Builtin.zeroCells (← zeroValue elem).cells m))).run P w := by
  obtain ⟨info, d, z, e1, e2, e3, e4, e5⟩ := hi
  have wm : IntKind.i64.wrap (m : Int) = (m : Int) := by rw [IntKind.wrap_i64]; simp only [big] at hm; omega
  have n1 : ¬ ((m : Int) < 0) := by omega
  have n2 : ¬ ((m : Int) * (info.bytes : Int) > 2 ^ 48) := by
    rw [e4, ← Int.natCast_mul]
    have : m * i.bytes ≤ 281474976710656 := Nat.le_trans hb (by decide)
    omega
  simp only [Builtin.append_, h0, h1, Sem.run_bind, List.getElem?_toArray, List.getElem?_cons_zero, List.getElem?_cons_succ, run_underlying ht, Result.andThen_ok, sizeOf, typeInfo, run_program, e1, e3, run_underlying hu, Sem.run_pure, asInt, asIntOf, wm, if_true, n1, n2, if_false, Int.toNat_natCast, Bool.not_true, Bool.false_eq_true]
  unfold appRest
  simp only [typeInfo, if_true, Bool.not_true, Bool.false_eq_true, if_false]
  rfl

/-- A slice that outgrows its block. -/
theorem grow_run {elem : TypeId} {i : TyI I S} (hi : TyOk P γ σ elem i) {base : Option Addr} {s : Value} {sLen sCap m : Nat} {zeros : Bool} {x : Value} {appended : Sem (Array Value)} (hlt : sCap < sLen + m)
    (hb : (sLen + m) * i.bytes ≤ big) (hm : sLen + m ≤ big) {old new : Array Value} (hold : ∀ w1 : World, w1.heap = w.heap → (Builtin.firstCells i.size sLen s).run P w1 = .ok old w1)
    (happ : ∀ w1 : World, w1.heap = w.heap → appended.run P w1 = .ok new w1) (hol : old.size = sLen * i.size) (hnl : new.size = m * i.size) :
    ∃ (newCap : Nat) (rest : Array Value), sLen + m ≤ newCap ∧ (old ++ new ++ rest).size = newCap * i.size ∧
      (appRest elem i.size base s sLen sCap m zeros x appended).run P w = .ok (.slice (some ⟨w.heap.size, 0, none⟩) (sLen + m) newCap) (w.drew.alloc (.cells (old ++ new ++ rest) elem)) := by
  obtain ⟨info, d, z, e1, e2, e3, e4, e5, e6, e7, e8, e9⟩ := hi
  have hzs : z.cells.size = i.size := by have := (e7 (fun _ => ⟨0, 0, 0⟩) (fun _ => True)).cells.length; simp at this; omega
  have hge := grownCap_ge w (sLen + m) sCap elem
  refine ⟨grownCap w (sLen + m) sCap elem, Builtin.zeroCells z.cells (grownCap w (sLen + m) sCap elem - (sLen + m)), hge, ?_, ?_⟩
  · simp only [Array.size_append, size_zeroCells, hol, hnl, hzs, ← Nat.add_mul]
    congr 1; omega
  · have c1 : ¬ (sLen + m ≤ sCap) := by omega
    have c2 : ¬ (((sLen + m : Nat) : Int) > IntKind.i64.max ∧ (zeros = true ∨ info.bytes = 0)) := by
      intro h; have := h.1; simp only [big] at hm; simp [IntKind.max, IntKind.signed, IntKind.bits] at this; omega
    have c3 : ¬ (Builtin.nextslicecap (sLen + m) sCap * info.bytes > 2 ^ 48) := by
      have := growslice_fits (need := sLen + m) (old := sCap) (bytes := i.bytes) hlt (by simpa [big] using hb)
      rw [e4]; omega
    have h1 := hold w.drew rfl
    have h2 := happ w.drew rfl
    simp only [appRest, if_neg c1, Sem.run_bind, typeInfo, run_program, e1, Sem.run_pure, Result.andThen_ok, Sem.run_ite]
    rw [if_neg c2, if_neg c3]
    simp only [Sem.run_bind, run_choose, Question.forced, Bool.false_eq_true, if_false, Result.andThen_ok, World.drew_eq, run_askRoom, h1, h2, zeroValue, typeInfo, run_program, e1, e6, Sem.run_pure, newRow, run_newObj]
    rfl

theorem cells_first {elem : TypeId} {i : TyI I S} {blk o len cap : Nat} {cur : Array Value} {e : TypeId} {fz : Nat × Nat} (h : w.heap[blk]? = some (.cells cur e fz)) (hl : o + len * i.size ≤ cur.size) :
    ∀ w1 : World, w1.heap = w.heap → (Builtin.firstCells i.size len (.slice (some ⟨blk, o, none⟩) len cap)).run P w1 = .ok ((cur.toList.drop o).take (len * i.size)).toArray w1 := fun w1 hw => by
  have h' : w1.heap[blk]? = some (.cells cur e fz) := by rw [hw]; exact h
  exact cells_run h' o (len * i.size) hl

set_option maxHeartbeats 1000000 in
theorem grow_sound (hr : Rel γ σ φ h w) {elem : TypeId} {i : TyI I S} (hi : TyOk P γ σ elem i) {s : LV I S} {base : Option Addr} {sLen sCap : Nat} (hs : VRel γ σ φ h.ids s (.slice base sLen sCap)) {m : Nat} {new : List (LV I S)} {new' : Array Value}
    {zeros : Bool} {x : Value} {appended : Sem (Array Value)} (happ : ∀ w1 : World, w1.heap = w.heap → appended.run P w1 = .ok new' w1) (hn : VRels γ σ φ h.ids new new'.toList) (hnl : new.length = m * i.size) (h1 : ∀ v ∈ new, one? v = true)
    {r : LV I S × H I S} (hg : grow h i.size i.bytes s m new = some r) : EDone P γ σ φ h w (do pure (.value (← appRest elem i.size base (.slice base sLen sCap) sLen sCap m zeros x appended))) r.1 r.2 := by
  have hnl' : new'.size = m * i.size := by have := hn.length; simp at this; omega
  have fin : ∀ {v' w' v h' φ'}, (appRest elem i.size base (.slice base sLen sCap) sLen sCap m zeros x appended).run P w = .ok v' w' → VRel γ σ φ' h'.ids v v' → Rel γ σ φ' h' w' → Goes φ h.ids h.t.get w φ' h'.ids h'.t.get w' →
      EDone P γ σ φ h w (do pure (.value (← appRest elem i.size base (.slice base sLen sCap) sLen sCap m zeros x appended))) v h' := by
    intro v' w' v h' φ' q1 q2 q3 q4
    exact ⟨φ', .value v', v', w', by simp [q1], .inl rfl, q2, q3, q4⟩
  unfold grow at hg
  cases hm0 : Nat.beq m 0
  · have hm : m ≠ 0 := fun e => by subst e; cases hm0
    simp only [hm0, cond_false] at hg
    cases hz0 : Nat.beq i.size 0
    · have hz : i.size ≠ 0 := fun e => by rw [e] at hz0; cases hz0
      simp only [hz0, cond_false] at hg
      generalize hsv : Value.slice base sLen sCap = sv at hs
      cases hs <;> simp only [reduceCtorEq, Value.slice.injEq] at hg hsv
      case nils =>
        obtain ⟨rfl, rfl, rfl⟩ := hsv
        cases hc : (Nat.ble (m * i.bytes) big && Nat.ble m big)
        · simp [hc] at hg
        · simp only [hc, cond_true, Option.some.injEq] at hg
          subst hg
          simp only [Bool.and_eq_true] at hc
          obtain ⟨newCap, rest, g1, g2, g3⟩ := grow_run (P := P) (w := w) (base := none) (s := .slice none 0 0) (sLen := 0) (sCap := 0) (m := m) (zeros := zeros) (x := x) (appended := appended) hi (by omega) (by simpa using Nat.le_of_ble_eq_true hc.1) (by simpa using Nat.le_of_ble_eq_true hc.2)
            (old := #[]) (new := new') (fun w1 _ => by simp [Builtin.firstCells]) happ (by simp) hnl'
          simp only [Nat.zero_add] at g1 g3
          have hob : ORel γ σ (φ.put h.next ⟨w.heap.size, 0, newCap * i.size⟩) (fun b => b < h.next + 1) (w.drew.alloc (.cells (#[] ++ new' ++ rest) elem)) ⟨w.heap.size, 0, newCap * i.size⟩ (.cells 0 new) := by
            refine .new_cells (heap_alloc_new w.drew _) g2 ?_ (by rw [hnl]; exact Nat.mul_le_mul_right _ g1) h1
            have : (#[] ++ new' ++ rest).toList.take new.length = new'.toList := by
              simp only [Array.toList_append, List.nil_append]
              rw [hn.length, List.take_left]
            rw [this]
            exact hn.mono (fun c (hc : c < h.next) => by omega) (fun c (hc : c < h.next) => Phi.put_ne (by omega))
          obtain ⟨r1, r2⟩ := hr.push (n := h.next) (K' := fun b => b < h.next + 1) (Nat.lt_irrefl _) (fun b (hb : b < h.next) => by omega) (Nat.lt_succ_self _) (robj := .cells (#[] ++ new' ++ rest) elem) (w' := w.drew.alloc (.cells (#[] ++ new' ++ rest) elem)) rfl rfl rfl rfl hob
          refine fin (φ' := φ.put h.next ⟨w.heap.size, 0, newCap * i.size⟩) (h' := newB h (.cells 0 new)) g3 ?_ (r1.congr fun b => by simp [newB, get_set']) (r2.congr fun b => by simp [newB, get_set'])
          have := VRel.slice (γ := γ) (σ := σ) (φ := φ.put h.next ⟨w.heap.size, 0, newCap * i.size⟩) (K := fun b => b < h.next + 1) h.next 0 m m false i.size newCap (by omega) (Nat.le_refl _) g1 (fun h => by cases h) (by rw [Phi.put_same]; simp)
          rw [Phi.put_same] at this
          exact this
      case slice b o len cap ex sz cap' hb e1 e2 e3 e4 =>
        obtain ⟨rfl, rfl, rfl⟩ := hsv
        cases hc : (Nat.beq i.size sz && Nat.ble ((sLen + m) * i.bytes) big && Nat.ble (sLen + m) big)
        · simp [hc] at hg
        · simp only [hc, cond_true] at hg
          simp only [Bool.and_eq_true] at hc
          obtain ⟨⟨hsz, hb1⟩, hb2⟩ := hc
          cases Nat.eq_of_beq_eq_true hsz
          have hb1 := Nat.le_of_ble_eq_true hb1
          have hb2 := Nat.le_of_ble_eq_true hb2
          split at hg
          · rename_i q c hgb
            obtain ⟨cur, e, fz, i1, i2, i3, i4, i5, i6, i7⟩ := (hr.obj b _ hgb).cells_inv
            cases hin : Nat.ble (sLen + m) cap
            · have hlt : cap < sLen + m := by
                rcases Nat.lt_or_ge cap (sLen + m) with g | g
                · exact g
                · rw [Nat.ble_eq_true_of_le g] at hin; cases hin
              simp only [hin, cond_false, Option.bind_eq_some_iff] at hg
              obtain ⟨old, ho, hg⟩ := hg
              obtain ⟨rfl, hol⟩ := cut_eq _ _ _ _ ho
              have hov : VRels γ σ φ h.ids ((c.drop o).take (sLen * i.size)) ((cur.toList.drop ((φ b).off + o)).take (sLen * i.size)) := by
                have := (i4.drop o).take (sLen * i.size)
                rwa [List.drop_take, List.take_take, List.drop_drop, Nat.min_eq_left (by omega)] at this
              have hold : ((c.drop o).take (sLen * i.size)).length = sLen * i.size := by simp; omega
              have hold' : ((cur.toList.drop ((φ b).off + o)).take (sLen * i.size)).length = sLen * i.size := by rw [← hov.length, hold]
              have hone : ∀ v ∈ (c.drop o).take (sLen * i.size) ++ new, one? v = true := by
                intro v hv
                rcases List.mem_append.1 hv with hv | hv
                · exact i5 v (List.mem_of_mem_drop (List.mem_of_mem_take hv))
                · exact h1 v hv
              have hon : ((c.drop o).take (sLen * i.size) ++ new).length = (sLen + m) * i.size := by rw [List.length_append, hold, hnl, Nat.add_mul]
              -- the machine's slice outgrows its block
              have outgrown : sCap < sLen + m → ∀ (q' : Nat) (g' : Mem I S), RelF γ σ φ h.ids g' w → Goes φ h.ids h.t.get w φ h.ids g' w → (∀ b o, h.t.get b = some o → h.ids b) →
                  ∃ newCap w', sLen + m ≤ newCap ∧ (appRest elem i.size (some ⟨(φ b).blk, (φ b).off + o, none⟩) (.slice (some ⟨(φ b).blk, (φ b).off + o, none⟩) sLen sCap) sLen sCap m zeros x appended).run P w = .ok (.slice (some ⟨w.heap.size, 0, none⟩) (sLen + m) newCap) w' ∧
                    VRel γ σ (φ.put h.next ⟨w.heap.size, 0, newCap * i.size⟩) (fun b => b < h.next + 1) (.slice h.next 0 (sLen + m) (sLen + m) false i.size) (.slice (some ⟨w.heap.size, 0, none⟩) (sLen + m) newCap) ∧
                    RelF γ σ (φ.put h.next ⟨w.heap.size, 0, newCap * i.size⟩) (fun b => b < h.next + 1) (fun x => if x = h.next then some (.cells q' ((c.drop o).take (sLen * i.size) ++ new)) else g' x) w' ∧
                    Goes φ h.ids h.t.get w (φ.put h.next ⟨w.heap.size, 0, newCap * i.size⟩) (fun b => b < h.next + 1) (fun x => if x = h.next then some (.cells q' ((c.drop o).take (sLen * i.size) ++ new)) else g' x) w' := by
                intro hlt' q' g' hr' hgo hlt0
                obtain ⟨newCap, rest, g1, g2, g3⟩ := grow_run (P := P) (w := w) (base := some ⟨(φ b).blk, (φ b).off + o, none⟩) (s := .slice (some ⟨(φ b).blk, (φ b).off + o, none⟩) sLen sCap) (sLen := sLen) (sCap := sCap) (m := m) (zeros := zeros) (x := x) (appended := appended) hi hlt' hb1 hb2
                  (old := ((cur.toList.drop ((φ b).off + o)).take (sLen * i.size)).toArray) (new := new') (cells_first (elem := elem) i1 (by omega)) happ (by simpa using hold') hnl'
                have hob : ORel γ σ (φ.put h.next ⟨w.heap.size, 0, newCap * i.size⟩) (fun b => b < h.next + 1) (w.drew.alloc (.cells (((cur.toList.drop ((φ b).off + o)).take (sLen * i.size)).toArray ++ new' ++ rest) elem)) ⟨w.heap.size, 0, newCap * i.size⟩ (.cells q' ((c.drop o).take (sLen * i.size) ++ new)) := by
                  refine .cells q' _ _ elem (0, 0) (heap_alloc_new w.drew _) (by simp only [Nat.zero_add]; omega) (by rw [hon]; exact Nat.mul_le_mul_right _ g1) ?_ hone (fun j _ hj => by omega) (fun _ => rfl)
                  have : ((((cur.toList.drop ((φ b).off + o)).take (sLen * i.size)).toArray ++ new' ++ rest).toList.drop 0).take ((c.drop o).take (sLen * i.size) ++ new).length = ((cur.toList.drop ((φ b).off + o)).take (sLen * i.size)) ++ new'.toList := by
                    rw [List.drop_zero, (hov.append hn).length]
                    simp only [Array.toList_append]
                    exact List.take_left
                  rw [this]
                  exact (hov.append hn).mono (fun c (hc : c < h.next) => by omega) (fun c (hc : c < h.next) => Phi.put_ne (by omega))
                obtain ⟨r1, r2⟩ := hr'.push (n := h.next) (K' := fun b => b < h.next + 1) (Nat.lt_irrefl _) (fun b (hb : b < h.next) => by omega) (Nat.lt_succ_self _) (robj := .cells (((cur.toList.drop ((φ b).off + o)).take (sLen * i.size)).toArray ++ new' ++ rest) elem) (w' := w.drew.alloc (.cells (((cur.toList.drop ((φ b).off + o)).take (sLen * i.size)).toArray ++ new' ++ rest) elem)) rfl rfl rfl rfl hob
                have hv := VRel.slice (γ := γ) (σ := σ) (φ := φ.put h.next ⟨w.heap.size, 0, newCap * i.size⟩) (K := fun b => b < h.next + 1) h.next 0 (sLen + m) (sLen + m) false i.size newCap (by omega) (Nat.le_refl _) g1 (fun h => by cases h) (by rw [Phi.put_same]; simp)
                rw [Phi.put_same] at hv
                exact ⟨newCap, _, g1, g3, hv, r1, Goes.trans hlt0 hr'.lt hgo r2⟩
              cases ex
              · simp only [cond_false] at hg
                cases hq : Nat.blt q 2
                · simp [hq] at hg
                · simp only [hq, cond_true, Option.some.injEq] at hg
                  subst hg
                  by_cases hroom : sLen + m ≤ sCap
                  · -- in place: the block goes on under a new number
                    have hrm : (sLen + m) * i.size ≤ sCap * i.size := Nat.mul_le_mul_right _ hroom
                    obtain ⟨w', s1, s2, s3, s4, s5, s6, cur', s7, s8⟩ := storeCells_run (P := P) (φ b).blk ((φ b).off + o + sLen * i.size) e fz new'.toList 0 cur w i1 i6 (by simp; rw [Nat.add_mul] at hrm; omega) (hn.ones h1)
                    have hcs : cur'.size = cur.size := by
                      have := congrArg List.length s8
                      simp only [Array.length_toList, List.length_append, List.length_take, List.length_drop] at this
                      rw [Nat.add_mul] at hrm
                      omega
                    have hob : ORel γ σ (φ.put h.next ⟨(φ b).blk, (φ b).off + o, (φ b).room - o⟩) (fun b => b < h.next + 1) w' ⟨(φ b).blk, (φ b).off + o, (φ b).room - o⟩ (.cells q ((c.drop o).take (sLen * i.size) ++ new)) := by
                      refine .cells q _ cur' e fz s7 (by simp only; omega) (by rw [hon]; simp only; omega) ?_ hone (by rw [hcs]; exact i6) i7
                      have : (cur'.toList.drop ((φ b).off + o)).take ((c.drop o).take (sLen * i.size) ++ new).length = ((cur.toList.drop ((φ b).off + o)).take (sLen * i.size)) ++ new'.toList := by
                        rw [(hov.append hn).length, s8]
                        simp only [Nat.add_zero]
                        have t1 : (cur.toList.take ((φ b).off + o + sLen * i.size)).drop ((φ b).off + o) = (cur.toList.drop ((φ b).off + o)).take (sLen * i.size) := by
                          rw [List.drop_take]; congr 1; omega
                        rw [List.append_assoc, List.drop_append_of_le_length (by simp; omega), t1, ← List.append_assoc]
                        exact List.take_left
                      rw [this]
                      exact (hov.append hn).mono (fun c (hc : c < h.next) => by omega) (fun c (hc : c < h.next) => Phi.put_ne (by omega))
                    obtain ⟨r1, r2⟩ := hr.rename (n := h.next) (K' := fun b => b < h.next + 1) (Nat.lt_irrefl _) (fun b (hb : b < h.next) => by omega) (Nat.lt_succ_self _) hgb (show (LObj.cells q c).writ = true from hq) s2 s3 s4 s5 s6 (obj := .cells q ((c.drop o).take (sLen * i.size) ++ new)) hq hob
                    refine fin (φ' := φ.put h.next ⟨(φ b).blk, (φ b).off + o, (φ b).room - o⟩) (h' := newB { h with t := h.t.set b .gone } (.cells q ((c.drop o).take (sLen * i.size) ++ new))) (v' := .slice (some ⟨(φ b).blk, (φ b).off + o, none⟩) (sLen + m) sCap) (w' := w') ?_ ?_ (r1.congr fun y => by simp [newB, get_set']) (r2.congr fun y => by simp [newB, get_set'])
                    · simp only [appRest, if_pos hroom, Sem.run_bind, happ w rfl, Result.andThen_ok, add_at, s1, Sem.run_pure]
                    · have := VRel.slice (γ := γ) (σ := σ) (φ := φ.put h.next ⟨(φ b).blk, (φ b).off + o, (φ b).room - o⟩) (K := fun b => b < h.next + 1) h.next 0 (sLen + m) (sLen + m) false i.size sCap (by omega) (Nat.le_refl _) hroom (fun h => by cases h) (by rw [Phi.put_same]; simp only; omega)
                      rw [Phi.put_same] at this
                      exact this
                  · obtain ⟨k1, k2⟩ := hr.kill hgb
                    obtain ⟨newCap, w', g1, g2, g3, g4, g5⟩ := outgrown (by omega) q _ k1 k2 hr.lt
                    exact fin (φ' := φ.put h.next ⟨w.heap.size, 0, newCap * i.size⟩) (h' := newB { h with t := h.t.set b .gone } (.cells q ((c.drop o).take (sLen * i.size) ++ new))) g2 g3 (g4.congr fun y => by simp [newB, get_set']) (g5.congr fun y => by simp [newB, get_set'])
              · simp only [cond_true, Option.some.injEq] at hg
                subst hg
                have hcc := e3 rfl
                obtain ⟨newCap, w', g1, g2, g3, g4, g5⟩ := outgrown (by omega) 0 _ hr (Goes.refl _ _ _ _) hr.lt
                exact fin (φ' := φ.put h.next ⟨w.heap.size, 0, newCap * i.size⟩) (h' := newB h (.cells 0 ((c.drop o).take (sLen * i.size) ++ new))) g2 g3 (g4.congr fun y => by simp [newB, get_set']) (g5.congr fun y => by simp [newB, get_set'])
            · have hle := Nat.le_of_ble_eq_true hin
              simp only [hin, cond_true] at hg
              cases hq : Nat.blt q 2
              · simp [hq] at hg
              · simp only [hq, cond_true, Option.bind_eq_some_iff, Option.some.injEq] at hg
                obtain ⟨c', hov, rfl⟩ := hg
                obtain ⟨w', s1, s2, s3⟩ := over_run (P := P) hr hgb hq hov hn h1
                refine fin (φ' := φ) (v' := .slice (some ⟨(φ b).blk, (φ b).off + o, none⟩) (sLen + m) sCap) (w' := w') ?_ (.slice b o _ _ ex i.size sCap hb hle e2 e3 e4) s2 s3
                have hroom : sLen + m ≤ sCap := by omega
                simp only [appRest, if_pos hroom, Sem.run_bind, happ w rfl, Result.andThen_ok, add_at, Nat.add_assoc, s1, Sem.run_pure]
          · cases hg
    · simp [hz0] at hg
  · cases Nat.eq_of_beq_eq_true hm0
    simp only [hm0, cond_true] at hg
    have hne : new'.toList = [] := List.eq_nil_of_length_eq_zero (by simp [hnl'])
    have hrun : sLen ≤ sCap → (appRest elem i.size base (.slice base sLen sCap) sLen sCap 0 zeros x appended).run P w = .ok (.slice base sLen sCap) w := by
      intro hle
      simp only [appRest, Nat.add_zero, if_pos hle, Sem.run_bind, happ w rfl, Result.andThen_ok, hne]
      cases base <;> simp [storeCells]
    have hsv : VRel γ σ φ h.ids s (.slice base sLen sCap) := hs
    generalize hq : Value.slice base sLen sCap = sv at hs
    cases hs <;> simp only [reduceCtorEq, Value.slice.injEq, Option.some.injEq] at hg hq
    case nils => obtain ⟨rfl, rfl, rfl⟩ := hq; subst hg; exact fin (hrun (by omega)) hsv hr (Goes.refl _ _ _ _)
    case empty => obtain ⟨rfl, rfl, rfl⟩ := hq; subst hg; exact fin (hrun (by omega)) hsv hr (Goes.refl _ _ _ _)
    case slice b o len cap ex sz cap' hb e1 e2 e3 e4 => obtain ⟨rfl, rfl, rfl⟩ := hq; subst hg; exact fin (hrun (by omega)) hsv hr (Goes.refl _ _ _ _)
end
end Go.Proofs.YtohmaikcmaapjaaGreat.LI
