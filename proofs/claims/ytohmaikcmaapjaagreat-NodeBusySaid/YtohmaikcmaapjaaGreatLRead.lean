/- Each operation that reads memory: what the interpreter says of it, the machine does. -/
import Derived.Test.YtohmaikcmaapjaaGreatLPure2
namespace Go.Proofs.YtohmaikcmaapjaaGreat.LI
variable {I S : Type}
section
variable {P : Program} {γ : I → Int} {σ : Sg I S} {D : Dom I S} {ty : Nat → Option (TyI I S)} {φ : Phi} {K : Nat → Prop} {g : Mem I S} {w : World}

/-- What one operation comes to that reads memory. -/
def RDone (P : Program) (γ : I → Int) (σ : Sg I S) (φ : Phi) (K : Nat → Prop) (w : World) (o : Oper) (a : Act) (v : LV I S) : Prop :=
  ∃ v', (execOp a.eval o).run P w = .ok (.value v') w ∧ VRel γ σ φ K v v'

theorem ORel.cells_inv {l : Loc} {m : Nat} {c : List (LV I S)} (h : ORel γ σ φ K w l (.cells m c)) : ∃ cur e fz, w.heap[l.blk]? = some (.cells cur e fz) ∧ l.off + l.room ≤ cur.size ∧ c.length ≤ l.room ∧
    VRels γ σ φ K c ((cur.toList.drop l.off).take c.length) ∧ (∀ v ∈ c, one? v = true) ∧ (∀ i, i < cur.size → ¬ (fz.1 ≤ i ∧ i < fz.2)) ∧ (m = 0 → fz = (0, 0)) := by
  cases h with | cells _ _ cur e fz h1 h2 h3 h4 h5 h6 h7 => exact ⟨cur, e, fz, h1, h2, h3, h4, h5, h6, h7⟩
theorem ORel.map_inv {l : Loc} {es : List (LV I S × LV I S × Nat)} {clock : Nat} (h : ORel γ σ φ K w l (.map es clock)) : ∃ es' : Array MapEntry, w.heap[l.blk]? = some (.map es' clock) ∧ ERel γ σ φ K es es'.toList := by
  cases h with | map _ _ es' h1 h2 => exact ⟨es', h1, h2⟩
theorem ORel.iter_inv {l : Loc} {m : Option Nat} {since : Nat} {seen : List Nat} {stepped : Nat} (h : ORel γ σ φ K w l (.iter m since seen stepped)) :
    (∀ b, m = some b → K b) ∧ w.heap[l.blk]? = some (.mapIter (m.map fun b => (φ b).blk) since seen.toArray stepped) ∧ l.off = 0 := by
  cases h with | iter _ _ _ _ h0 h1 h2 => exact ⟨h0, h1, h2⟩

theorem cell_at {blk j : Nat} {cur : Array Value} {e : TypeId} {fz : Nat × Nat} (h : w.heap[blk]? = some (.cells cur e fz)) : w.cell? ⟨blk, j, none⟩ = cur[j]? := by simp [World.cell?, h]
/-- A run of cells of a block. -/
theorem cells_run {blk : Nat} {cur : Array Value} {e : TypeId} {fz : Nat × Nat} (h : w.heap[blk]? = some (.cells cur e fz)) (o m : Nat) (hl : o + m ≤ cur.size) :
    (loadCells ⟨blk, o, none⟩ m).run P w = .ok ((cur.toList.drop o).take m).toArray w := by
  have := run_loadCells_list (P := P) w ⟨blk, o, none⟩ ((cur.toList.drop o).take m) (fun j v hv => by
    rw [add_at, cell_at h]
    simp only [List.getElem?_take, List.getElem?_drop] at hv
    split at hv
    · simpa using hv
    · cases hv)
  rwa [show ((cur.toList.drop o).take m).length = m by simp; omega] at this

theorem load_run {t : TypeId} {i : TyI I S} (hi : TyOk P γ σ t i) {l : Loc} {m : Nat} {c : List (LV I S)} (hr : ORel γ σ φ K w l (.cells m c)) {o : Nat} {r : LV I S} (h : pick2 i.agg o i.size c = some r) :
    ∃ r', (loadVar t ⟨l.blk, l.off + o, none⟩).run P w = .ok r' w ∧ VRel γ σ φ K r r' := by
  obtain ⟨cur, e, fz, h1, h2, h3, h4, h5, h6, h7⟩ := hr.cells_inv
  obtain ⟨p1, p2⟩ := pick2_sound h h4
  cases ha : i.agg
  · obtain ⟨v', e1, hv⟩ := p2 ha
    refine ⟨v', ?_, hv⟩
    simp only [List.getElem?_take, List.getElem?_drop] at e1
    split at e1
    · have e2 : cur[l.off + o]? = some v' := by simpa using e1
      simp [loadVar, hi.isAgg, ha, cell_at h1, e2]
    · cases e1
  · obtain ⟨hl, q, rfl, hv⟩ := p1 ha
    have hl' : o + i.size ≤ c.length := by simp at hl; omega
    refine ⟨_, ?_, .agg q (((cur.toList.drop (l.off + o)).take i.size).toArray) ?_⟩
    · simp [loadVar, hi.isAgg, ha, hi.sizeOf, cells_run h1 (l.off + o) i.size (by omega)]
    · rw [List.drop_take, List.take_take, List.drop_drop, Nat.min_eq_left (by omega)] at hv
      exact hv

/-! Maps' keys. -/
/-- A key's type. -/
def KeyOk (P : Program) (t : TypeId) : Nat → Prop
  | 0 => ∃ k, P.underlying t = some (.int k)
  | m + 1 => FlatOk P t (m + 1)
theorem keyOf_ok (hty : Tys P γ σ ty) {t km : Nat} (h : keyOf ty t = some km) : KeyOk P t km := by
  unfold keyOf at h
  split at h
  · rename_i i hi
    split at h
    · rename_i k hk
      cases h
      obtain ⟨d, hd, hkd⟩ := kind_of hty hi hk
      cases hkd
      exact ⟨k, hd⟩
    · cases hf : (i.flat && Nat.blt 0 i.size)
      · simp [hf] at h
      · simp only [hf, cond_true, Option.some.injEq] at h
        simp only [Bool.and_eq_true] at hf
        have h0 : 0 < i.size := Nat.le_of_ble_eq_true hf.2
        obtain ⟨info, d, z, i1, i2, i3, i4, i5, i6, i7, i8, i9, i10, i11⟩ := hty t i hi
        have := i11 hf.1
        subst h
        cases hs : i.size with
        | zero => omega
        | succ m => rw [hs] at this; exact this
  · cases h
theorem keyEq_sound (hD : D.Ok γ σ) {t : TypeId} {km : Nat} (ht : KeyOk P t km) {k j : LV I S} {r : Bool} (h : keyEq D km k j = some r) {k' j' : Value} (hk : VRel γ σ φ K k k') (hj : VRel γ σ φ K j j') :
    ∀ w, (Op.equal t k' j').run P w = .ok r w := by
  cases km with
  | zero =>
    obtain ⟨kk, hu⟩ := ht
    cases hk <;> cases hj <;> simp only [keyEq, reduceCtorEq] at h
    rename_i k1 a k2 b
    cases hkk : kindEq k1 k2
    · simp [hkk] at h
    · cases kindEq_eq hkk
      simp only [hkk, cond_true] at h
      have := hD.cmp _ _ _ _ h
      simp only [goCmp, Option.some.injEq] at this
      intro w
      rw [Op.equal, Op.maxDepth, run_equalIn_int w 9999 t k1 kk _ _ hu, this]
  | succ m =>
    obtain ⟨fields, f1, f2, f3, f4, f5⟩ := ht
    have hfo : P.underlying t = some (.struct (P.fieldsOf t)) := by simp [Program.fieldsOf, f1]
    have hff : P.fieldsOf t = fields := by simp [Program.fieldsOf, f1]
    cases hk <;> cases hj <;> simp only [keyEq, sameAgg, reduceCtorEq] at h
    rename_i c c' hc b b' hb
    cases hcc : (Nat.beq (len? c) (m + 1) && Nat.beq (len? b) (m + 1))
    · simp [hcc] at h
    · simp only [hcc, cond_true] at h
      simp only [Bool.and_eq_true] at hcc
      have l1 := Nat.eq_of_beq_eq_true hcc.1
      have l2 := Nat.eq_of_beq_eq_true hcc.2
      rw [len?_eq] at l1 l2
      intro w
      rw [Op.equal, Op.maxDepth, run_equalIn_agg w 9999 t c' b' hfo f3, hff]
      exact sameInts_sound hD h hc hb (.inl (l1.trans l2.symm)) 9998 c' b' fields.toList 0 (fun j f hj => by
        obtain ⟨q1, q2, q3⟩ := f5 j f (by simpa using hj)
        exact ⟨q1, by omega, q3⟩) (fun j => by simp) (fun j => by simp) (by simp; omega) (by simp; omega) w

/-- Where a key stands. -/
def pos (D : Dom I S) (km : Nat) (k : LV I S) : List (LV I S × LV I S × Nat) → Option (Option Nat)
  | [] => some none
  | (j, _, _) :: r => (keyEq D km k j).bind fun t => cond t (some (some 0)) ((pos D km k r).bind fun o => some (o.map (· + 1)))
theorem find_pos {km : Nat} {k : LV I S} : ∀ {es : List (LV I S × LV I S × Nat)} {r : Option (LV I S)}, find D km k es = some r → ∃ p, pos D km k es = some p ∧ (p = none → r = none) ∧ (∀ j, p = some j → ∃ e, es[j]? = some e ∧ r = some e.2.1)
  | [], r, h => by cases h; exact ⟨none, rfl, fun _ => rfl, fun j h => by cases h⟩
  | (j, v, b) :: es, r, h => by
    simp only [find, Option.bind_eq_some_iff] at h
    obtain ⟨t, h1, h2⟩ := h
    cases t
    · simp only [cond_false] at h2
      obtain ⟨p, p1, p2, p3⟩ := find_pos h2
      refine ⟨p.map (· + 1), by simp [pos, h1, p1], fun h => p2 (by simpa using h), fun i hi => ?_⟩
      simp only [Option.map_eq_some_iff] at hi
      obtain ⟨i', e1, rfl⟩ := hi
      obtain ⟨e, e2, e3⟩ := p3 i' e1
      exact ⟨e, by simpa using e2, e3⟩
    · simp only [cond_true, Option.some.injEq] at h2
      exact ⟨some 0, by simp [pos, h1], (fun h => by cases h), (fun i hi => by cases hi; exact ⟨(j, v, b), rfl, h2.symm⟩)⟩

def hit (es' : List MapEntry) (i : Nat) (p : Option Nat) : Option (Nat × Value) := p.bind fun j => (es'[j]?).map fun e => (i + j, e.val)
theorem hit_succ (e : MapEntry) (es : List MapEntry) (i : Nat) (p : Option Nat) : hit (e :: es) i (p.map (· + 1)) = hit es (i + 1) p := by
  cases p with
  | none => rfl
  | some j =>
    simp only [hit, Option.map_some, Option.bind_some, List.getElem?_cons_succ]
    cases es[j]? with
    | none => rfl
    | some e => simp only [Option.map_some]; rw [show i + (j + 1) = i + 1 + j by omega]
theorem findAsking_run (hD : D.Ok γ σ) {t : TypeId} {km : Nat} (ht : KeyOk P t km) {k : LV I S} {k' : Value} (hk : VRel γ σ φ K k k') : ∀ {es : List (LV I S × LV I S × Nat)} {es' : List MapEntry}, ERel γ σ φ K es es' →
    ∀ {p : Option Nat}, pos D km k es = some p → ∀ i w, (Instr.findAsking t k' es' i).run P w = .ok (hit es' i p) w := by
  intro es es' hes
  induction hes with
  | nil => intro p hp i w; cases hp; simp [Instr.findAsking, hit]
  | cons j v j' v' b l l' h1 h2 _ ih =>
    intro p hp i w
    simp only [pos, Option.bind_eq_some_iff] at hp
    obtain ⟨r, h3, h4⟩ := hp
    have := keyEq_sound hD ht h3 hk h1 w
    cases r
    · simp only [cond_false, Option.bind_eq_some_iff, Option.some.injEq] at h4
      obtain ⟨q, h5, rfl⟩ := h4
      simp only [Instr.findAsking, Sem.run_bind, this, Result.andThen_ok, Bool.false_eq_true, if_false, ih h5, hit_succ]
    · simp only [cond_true, Option.some.injEq] at h4
      subst h4
      simp only [Instr.findAsking, Sem.run_bind, this, Result.andThen_ok, if_true, Sem.run_pure]
      rfl
theorem findNow_int (hD : D.Ok γ σ) {kk : IntKind} {k : LV I S} {k' : Value} (hk : VRel γ σ φ K k k') : ∀ {es : List (LV I S × LV I S × Nat)} {es' : List MapEntry}, ERel γ σ φ K es es' →
    ∀ {p : Option Nat}, pos D 0 k es = some p → ∀ i, Instr.findNow (.int kk) k' es' i = some (hit es' i p) := by
  intro es es' hes
  induction hes with
  | nil => intro p hp i; cases hp; rfl
  | cons j v j' v' b l l' h1 h2 _ ih =>
    intro p hp i
    simp only [pos, Option.bind_eq_some_iff] at hp
    obtain ⟨r, h3, h4⟩ := hp
    cases hk <;> cases h1 <;> simp only [keyEq, reduceCtorEq] at h3
    rename_i k1 a k2 c
    cases hkk : kindEq k1 k2
    · simp [hkk] at h3
    · cases kindEq_eq hkk
      simp only [hkk, cond_true] at h3
      have := hD.cmp _ _ _ _ h3
      simp only [goCmp, Option.some.injEq] at this
      cases r
      · simp only [cond_false, Option.bind_eq_some_iff, Option.some.injEq] at h4
        obtain ⟨q, h5, rfl⟩ := h4
        simp only [Instr.findNow, Instr.sameNow, if_true, this]
        rw [ih h5, hit_succ]
      · simp only [cond_true, Option.some.injEq] at h4
        subst h4
        simp only [Instr.findNow, Instr.sameNow, if_true, this]
        rfl
theorem findKey_run (hD : D.Ok γ σ) {t : TypeId} {km : Nat} (ht : KeyOk P t km) {k : LV I S} {k' : Value} (hk : VRel γ σ φ K k k') {es : List (LV I S × LV I S × Nat)} {es' : List MapEntry} (hes : ERel γ σ φ K es es')
    {p : Option Nat} (hp : pos D km k es = some p) (w : World) : (Instr.findKey t k' es').run P w = .ok (hit es' 0 p) w := by
  cases km with
  | zero =>
    obtain ⟨kk, hu⟩ := ht
    simp only [Instr.findKey, Sem.run_bind, run_underlying hu, Result.andThen_ok, findNow_int hD hk hes hp 0, Sem.run_pure]
  | succ m =>
    have ht' := ht
    obtain ⟨fields, f1, _⟩ := ht'
    cases hes with
    | nil => cases hp; simp [Instr.findKey, run_underlying f1, Instr.findNow, hit]
    | cons j v j' v' b l l' h1 h2 h3 =>
      have : Instr.findNow (.struct fields) k' (⟨j', v', b⟩ :: l') 0 = none := by simp [Instr.findNow, Instr.sameNow]
      simp only [Instr.findKey, Sem.run_bind, run_underlying f1, Result.andThen_ok, this]
      exact findAsking_run hD ht hk (.cons j v j' v' b l l' h1 h2 h3) hp 0 w

theorem forIn_yield (P : Program) (f : Field → PUnit → Sem (ForInStep PUnit)) : ∀ (fs : List Field), (∀ x ∈ fs, ∀ u w, (f x u).run P w = .ok (.yield u) w) → ∀ w, (forIn (m := Sem) fs PUnit.unit f).run P w = .ok PUnit.unit w
  | [], _, w => by simp
  | x :: fs, h, w => by
    have := h x (by simp) PUnit.unit w
    simp only [List.forIn_cons, Sem.run_bind, this, Result.andThen_ok]
    exact forIn_yield P f fs (fun y hy => h y (by simp [hy])) w
theorem checkKey_int (d : Nat) {t : TypeId} {k : IntKind} (ht : P.underlying t = some (.int k)) (b : Bool) (v : Value) (w : World) : (Instr.checkKey b (d + 1) t v).run P w = .ok () w := by
  simp [Instr.checkKey, run_underlying ht]
theorem checkKey_run' (d : Nat) {t : TypeId} {km : Nat} (ht : KeyOk P t km) {k : LV I S} {k' : Value} (hk : VRel γ σ φ K k k') (hs : keyShape km k = true) (b : Bool) (w : World) :
    (Instr.checkKey b (d + 2) t k').run P w = .ok () w := by
  cases km with
  | zero => obtain ⟨kk, hu⟩ := ht; exact checkKey_int (d + 1) hu b k' w
  | succ m =>
    obtain ⟨fields, f1, f2, f3, f4, f5⟩ := ht
    cases hk <;> simp only [keyShape, reduceCtorEq] at hs
    rename_i c c' hc
    have hl := Nat.eq_of_beq_eq_true hs
    rw [len?_eq, hc.length] at hl
    rw [Instr.checkKey]
    simp only [Sem.run_bind, run_underlying f1, Result.andThen_ok]
    rw [← Array.forIn_toList, forIn_yield P _ fields.toList (fun f hf u w => by
      obtain ⟨j, hj⟩ := List.mem_iff_getElem?.1 hf
      obtain ⟨q1, q2, kk, q3⟩ := f5 j f (by simpa using hj)
      have hjl : j < c'.size := by
        have := (List.getElem?_eq_some_iff.1 hj).1
        simp at this hl
        omega
      have hp : (part f.type c' f.offset).run P w = .ok c'[j] w := by
        simp [part, isAgg, run_underlying q3, q2, hjl]
      simp only [q1, ne_eq, not_false_eq_true, if_true, Sem.run_bind, hp, Result.andThen_ok, checkKey_int d q3, Sem.run_pure])]
    rfl
theorem checkKey_run {t : TypeId} {km : Nat} (ht : KeyOk P t km) {k : LV I S} {k' : Value} (hk : VRel γ σ φ K k k') (hs : keyShape km k = true) (b : Bool) (w : World) :
    (Instr.checkKey b 10000 t k').run P w = .ok () w := checkKey_run' 9998 ht hk hs b w

/-- The types of what can be held against another. -/
def RKOk (P : Program) (t : TypeId) : RK → Prop
  | .ptr => ∃ e, P.underlying t = some (.pointer e) ∧ ∃ m, m ≠ 0 ∧ ∀ w, (Go.sizeOf e).run P w = .ok m w
  | .sl => ∃ e, P.underlying t = some (.slice e)
  | .mp => ∃ k e, P.underlying t = some (.map k e)
  | .fn => ∃ a b c, P.underlying t = some (.func a b c)
theorem sameAddr_apart {b b' o o' : Nat} {c c' : Array Value} {e e' : TypeId} (h : w.heap[b]? = some (.cells c e (0, 0))) (h' : w.heap[b']? = some (.cells c' e' (0, 0))) (hne : b ≠ b') :
    (sameAddr ⟨b, o, none⟩ ⟨b', o', none⟩).run P w = .ok false w := by
  have f : ∀ q, w.frozen? ⟨b, q, none⟩ = false := fun q => by simp [World.frozen?, h]
  have f' : ∀ q, w.frozen? ⟨b', q, none⟩ = false := fun q => by simp [World.frozen?, h']
  have s : w.shape? b = some (e, c.size) := by simp [World.shape?, h]
  have s' : w.shape? b' = some (e', c'.size) := by simp [World.shape?, h']
  have hb : (b == b') = false := by simpa using hne
  simp [sameAddr, hb, f, f', noView, viewAt, s, s', mayBeOne, stringish]
theorem refEq_sound' (d : Nat) (hr : RelF γ σ φ K g w) {k : RK} {t : TypeId} (ht : RKOk P t k) {a b : LV I S} {r : Bool} (h : refEq g k a b = some r) {a' b' : Value} (ha : VRel γ σ φ K a a') (hb : VRel γ σ φ K b b') :
    (Op.equalIn (d + 1) t a' b').run P w = .ok r w := by
  cases k
  · obtain ⟨e, hu, m, hm, hsz⟩ := ht
    cases ha <;> cases hb <;> simp only [refEq, reduceCtorEq, Option.some.injEq] at h
    case nilp.nilp => subst h; simp [Op.equalIn, run_underlying hu]
    case nilp.ptr => subst h; simp [Op.equalIn, run_underlying hu]
    case ptr.nilp => subst h; simp [Op.equalIn, run_underlying hu]
    case ptr.ptr b o hb b' o' hb' =>
      cases hp : (plain? g b && plain? g b')
      · simp [hp] at h
      · simp only [hp, cond_true, Option.some.injEq] at h
        subst h
        simp only [Bool.and_eq_true] at hp
        have inv : ∀ q, plain? g q = true → ∃ c, g q = some (.cells 0 c) := by
          intro q hq
          unfold plain? at hq
          split at hq
          · exact ⟨_, by assumption⟩
          · cases hq
        obtain ⟨c, hc⟩ := inv b hp.1
        obtain ⟨c', hc'⟩ := inv b' hp.2
        by_cases hbb : b = b'
        · subst hbb
          have : (sameAddr ⟨(φ b).blk, (φ b).off + o, none⟩ ⟨(φ b).blk, (φ b).off + o', none⟩).run P w = .ok (Nat.beq b b && Nat.beq o o') w := by
            by_cases ho : o = o'
            · subst ho; simp [sameAddr]
            · have h1 : Nat.beq o o' = false := beqF ho
              simp [sameAddr, h1, ho]
          simp only [Op.equalIn, Sem.run_bind, run_underlying hu, Result.andThen_ok, hsz, hm, ne_eq, not_false_eq_true, if_true]
          exact this
        · have h1 : Nat.beq b b' = false := beqF hbb
          have hne : (φ b).blk ≠ (φ b').blk := fun e => hbb (hr.inj b _ b' _ hc hc' rfl rfl (.inl rfl) e)
          obtain ⟨cur, e1, fz, i1, _, _, _, _, _, i7⟩ := (hr.obj b _ hc).cells_inv
          obtain ⟨cur', e1', fz', i1', _, _, _, _, _, i7'⟩ := (hr.obj b' _ hc').cells_inv
          have z := i7 rfl
          have z' := i7' rfl
          subst z; subst z'
          simp only [Op.equalIn, Sem.run_bind, run_underlying hu, Result.andThen_ok, hsz, hm, ne_eq, not_false_eq_true, if_true, h1, Bool.false_and]
          exact sameAddr_apart i1 i1' hne
  · obtain ⟨e, hu⟩ := ht
    cases ha <;> cases hb <;> simp only [refEq, reduceCtorEq, Option.some.injEq] at h <;> subst h <;> simp [Op.equalIn, run_underlying hu]
  · obtain ⟨k, e, hu⟩ := ht
    cases ha <;> cases hb <;> simp only [refEq, reduceCtorEq, Option.some.injEq] at h <;> subst h <;> simp [Op.equalIn, run_underlying hu]
  · obtain ⟨x, y, z, hu⟩ := ht
    cases ha <;> cases hb <;> simp only [refEq, reduceCtorEq, Option.some.injEq] at h <;> subst h <;> simp [Op.equalIn, run_underlying hu]
theorem refEq_sound (hr : RelF γ σ φ K g w) {k : RK} {t : TypeId} (ht : RKOk P t k) {a b : LV I S} {r : Bool} (h : refEq g k a b = some r) {a' b' : Value} (ha : VRel γ σ φ K a a') (hb : VRel γ σ φ K b b') :
    (Op.equal t a' b').run P w = .ok r w := refEq_sound' 9999 hr ht h ha hb
end
end Go.Proofs.YtohmaikcmaapjaaGreat.LI
