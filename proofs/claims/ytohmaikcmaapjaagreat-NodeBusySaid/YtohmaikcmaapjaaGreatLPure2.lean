/- Each operation that asks its operands alone: what the interpreter says of it, the machine does (the operations one by one). -/
import Derived.Test.YtohmaikcmaapjaaGreatLPure
import Derived.Laws.Tables
namespace Go.Proofs.YtohmaikcmaapjaaGreat.LI
variable {I S : Type}
section
variable {P : Program} {γ : I → Int} {σ : Sg I S} {D : Dom I S} {ty : Nat → Option (TyI I S)} {φ : Phi} {K : Nat → Prop}

/-- What one operation comes to that asks its operands alone. -/
def PDone (P : Program) (γ : I → Int) (σ : Sg I S) (φ : Phi) (K : Nat → Prop) (o : Oper) (a : Act) (v : LV I S) : Prop :=
  ∃ v', (∀ w, (execOp a.eval o).run P w = .ok (.value v') w) ∧ VRel γ σ φ K v v'

theorem goLen_rel (hD : D.Ok γ σ) (m : Nat) : VRel γ σ φ K (goLen D m) (.int .i64 (m : Int)) := by
  have := VRel.int (γ := γ) (σ := σ) (φ := φ) (K := K) .i64 (D.ofInt (Int.ofNat m))
  rw [hD.ofInt] at this
  exact this

theorem places_run (w : World) : ∀ (fs : List Field), (∀ f ∈ fs, (P.info? f.type).isSome = true) →
    ∃ places : List (Nat × Nat), (fs.mapM fun f => (P.info? f.type).map fun i => (f.offset, i.size)) = some places ∧ (∀ (j : Nat) (f : Field), fs[j]? = some f → ∀ i, P.info? f.type = some i → places[j]? = some (f.offset, i.size))
  | [], _ => ⟨[], rfl, fun j f h => by simp at h⟩
  | f :: fs, h => by
    obtain ⟨i, hi⟩ := Option.isSome_iff_exists.1 (h f (by simp))
    obtain ⟨pl, h1, h2⟩ := places_run w fs fun g hg => h g (by simp [hg])
    refine ⟨(f.offset, i.size) :: pl, by simp [List.mapM_cons, hi, h1], fun j g hg k hk => ?_⟩
    cases j with
    | zero => simp at hg; subst hg; rw [hi] at hk; cases hk; rfl
    | succ j => simpa using h2 j g (by simpa using hg) k hk

theorem pBuild (hD : D.Ok γ σ) (hty : Tys P γ σ ty) {t : TypeId} {parts : Array (Nat × Operand)} {dst : Option Nat} {type : TypeId} {pos : String} {after : Array Edge} {guard : Option (Nat × Bool)} {x : POp I S}
    (h : trOp D ty ⟨dst, .build t parts, type, pos, after, guard⟩ = some (.p x)) {e : EnvF I S} {a : Act} (he : ERelE γ σ φ K e a.tmps) {v : LV I S} (hv : evalP D e x = some v) :
    PDone P γ σ φ K ⟨dst, .build t parts, type, pos, after, guard⟩ a v := by
  simp only [trOp, Option.bind_eq_some_iff] at h
  obtain ⟨i, hi, h⟩ := h
  have hT := hty t i hi
  obtain ⟨zv, hz, hzr⟩ := hT.zeroValue
  obtain ⟨d, hd, hkd⟩ := hT.kind
  split at h
  · rename_i fs hk
    rw [hk] at hkd
    obtain ⟨fields, rfl, rfl, hall⟩ := hkd
    simp only [Option.bind_eq_some_iff, Option.some.injEq, LOp.p.injEq] at h
    obtain ⟨ps, h1, rfl⟩ := h
    simp only [evalP, Option.bind_eq_some_iff] at hv
    obtain ⟨vs, h2, c, h3, h4⟩ := hv
    cases h4
    obtain ⟨pl, hp1, hp2⟩ := places_run (P := P) default fields.toList hall
    have hplace : ∀ (j o m : Nat), ((nth (fields.toList.map fun f => (f.offset, f.type)) j).bind fun f => (ty f.2).bind fun k => some (f.1, k.size)) = some (o, m) → pl[j]? = some (o, m) := by
      intro j o m hj
      simp only [nth_eq, List.getElem?_map, Option.bind_eq_some_iff, Option.map_eq_some_iff] at hj
      obtain ⟨q, ⟨f, hf, rfl⟩, k, hk2, hk3⟩ := hj
      obtain ⟨info, d', z', e1, e2, e3, _⟩ := hty _ _ hk2
      have := hp2 j f hf info e1
      rw [this, e3]
      simpa using hk3
    obtain ⟨l1, g1⟩ := trParts_get h1
    obtain ⟨l2, g2⟩ := evParts_get h2
    obtain ⟨r', h5, h6⟩ := fill_sound (φ := φ) (K := K) (γ := γ) (σ := σ) (pl[·]?) h3 (hzr φ K).cells (ps' := (parts.map fun (p : Nat × Operand) => (p.1, a.eval p.2)).toList) (by simp; simp at l1; omega) (fun j o m v hj => by
      obtain ⟨x, hx, hxe⟩ := g2 j o m v hj
      obtain ⟨i, y, hy, hp, hyx⟩ := g1 j o m x hx
      refine ⟨i, a.eval y, ?_, hplace i o m hp, trA_sound hD hyx he hxe⟩
      rw [Array.toList_map, List.getElem?_map, hy]
      rfl)
    refine ⟨.agg r', fun w => ?_, .agg _ _ h6⟩
    have hr := run_places (P := P) w fields.toList pl hp1
    simp only [execOp, Instr.build, Sem.run_bind, hz, Result.andThen_ok, run_underlying hd, Array.mapM_eq_mapM_toList, bind_pure_comp, Sem.run_map, hr, List.getElem?_toArray, h5, Sem.run_pure]
  · rename_i m el hk
    rw [hk] at hkd
    cases hkd
    simp only [Option.bind_eq_some_iff, Option.some.injEq, LOp.p.injEq] at h
    obtain ⟨k, hk', ps, h1, rfl⟩ := h
    simp only [evalP, Option.bind_eq_some_iff] at hv
    obtain ⟨vs, h2, c, h3, h4⟩ := hv
    cases h4
    obtain ⟨r', h5, h6⟩ := parts_sound hD h1 he h2 h3 (hzr φ K).cells
    refine ⟨.agg r', fun w => ?_, .agg _ _ h6⟩
    simp only [execOp, Instr.build, Sem.run_bind, hz, Result.andThen_ok, run_underlying hd, (hty _ _ hk').sizeOf, h5, Sem.run_pure]
  · cases h

theorem one_arg {e : EnvF I S} {y : LA I S} {vs' : Array Value} (h : ∀ vs, evs e [y] = some vs → VRels γ σ φ K vs vs'.toList) {u : LV I S} (hu : ev e y = some u) : ∃ u', vs' = #[u'] ∧ VRel γ σ φ K u u' := by
  have := h [u] (by simp [evs, hu])
  cases hvs : vs'.toList with
  | nil => rw [hvs] at this; cases this
  | cons u' r =>
    rw [hvs] at this
    cases this with
    | cons _ _ _ _ h1 h2 => cases h2; exact ⟨u', by rw [← Array.toArray_toList (xs := vs'), hvs], h1⟩
theorem two_args {e : EnvF I S} {y z : LA I S} {vs' : Array Value} (h : ∀ vs, evs e [y, z] = some vs → VRels γ σ φ K vs vs'.toList) {u x : LV I S} (hu : ev e y = some u) (hx : ev e z = some x) :
    ∃ u' x', vs' = #[u', x'] ∧ VRel γ σ φ K u u' ∧ VRel γ σ φ K x x' := by
  have := h [u, x] (by simp [evs, hu, hx])
  cases hvs : vs'.toList with
  | nil => rw [hvs] at this; cases this
  | cons u' r =>
    rw [hvs] at this
    cases this with
    | cons _ _ _ _ h1 h2 =>
      cases h2 with
      | cons _ x' _ r' h3 h4 => cases h4; exact ⟨u', x', by rw [← Array.toArray_toList (xs := vs'), hvs], h1, h3⟩

theorem trBuiltin_p (hD : D.Ok γ σ) (hty : Tys P γ σ ty) {b : Builtin} {ts : Array TypeId} {xs : List (LA I S)} {x : POp I S} (h : trBuiltin ty b ts.toList xs = some (.p x)) {e : EnvF I S}
    {v : LV I S} (hv : evalP D e x = some v) {vs' : Array Value} (hxs : ∀ vs, evs e xs = some vs → VRels γ σ φ K vs vs'.toList) (hlen : vs'.size = xs.length) (rt : TypeId) (cs : Array Bool) :
    ∃ v', (∀ w, (builtin b ts rt cs vs').run P w = .ok (.value v') w) ∧ VRel γ σ φ K v v' := by
  unfold trBuiltin at h
  split at h
  · -- len
    rename_i y
    simp only [Option.bind_eq_some_iff, nth_eq] at h
    obtain ⟨t, h1, h2⟩ := h
    have h1' : ts[0]? = some t := by simpa using h1
    split at h2
    · rename_i hk
      cases h2
      obtain ⟨d, hd, hkd⟩ := kindAt_ok hty hk (by simp)
      cases hkd
      simp only [evalP, Option.bind_eq_some_iff] at hv
      obtain ⟨u, hu, hv⟩ := hv
      obtain ⟨u', rfl, hr⟩ := one_arg hxs hu
      cases hr <;> simp only [reduceCtorEq] at hv
      case str s =>
        cases hv
        exact ⟨_, fun w => by simp [builtin, Builtin.len_, h1', run_underlying hd, goInt, hD.sLen], goLen_rel hD _⟩
    · rename_i hk
      cases h2
      obtain ⟨d, hd, hkd⟩ := kindAt_ok hty hk (by simp)
      cases hkd
      simp only [evalP, Option.bind_eq_some_iff] at hv
      obtain ⟨u, hu, hv⟩ := hv
      obtain ⟨u', rfl, hr⟩ := one_arg hxs hu
      cases hr <;> simp only [reduceCtorEq] at hv <;> cases hv
      all_goals exact ⟨_, fun w => by simp [builtin, Builtin.len_, h1', run_underlying hd, goInt], goLen_rel hD _⟩
    · rename_i hk
      cases h2
      obtain ⟨d, hd, hkd⟩ := kindAt_ok hty hk (by simp)
      cases hkd
      cases hv
      obtain ⟨u', hu'⟩ : ∃ u', vs' = #[u'] := by
        obtain ⟨l⟩ := vs'
        match l, hlen with
        | [u], _ => exact ⟨u, rfl⟩
      subst hu'
      exact ⟨_, fun w => by simp [builtin, Builtin.len_, h1', run_underlying hd, goInt], goLen_rel hD _⟩
    · cases h2
    · cases h2
  · -- cap
    simp only [Option.bind_eq_some_iff, nth_eq] at h
    obtain ⟨t, h1, h2⟩ := h
    have h1' : ts[0]? = some t := by simpa using h1
    split at h2
    · rename_i hk
      cases h2
      obtain ⟨d, hd, hkd⟩ := kindAt_ok hty hk (by simp)
      cases hkd
      simp only [evalP, Option.bind_eq_some_iff] at hv
      obtain ⟨u, hu, hv⟩ := hv
      obtain ⟨u', rfl, hr⟩ := one_arg hxs hu
      cases hr <;> try (simp only [reduceCtorEq] at hv; done)
      case nils => cases hv; exact ⟨_, fun w => by simp [builtin, Builtin.cap_, h1', run_underlying hd, goInt], goLen_rel hD _⟩
      case slice b o len cap ex sz cap' hb e1 e2 e3 e4 =>
        cases ex <;> simp only [reduceCtorEq] at hv
        cases hv
        have := e3 rfl
        subst this
        exact ⟨_, fun w => by simp [builtin, Builtin.cap_, h1', run_underlying hd, goInt], goLen_rel hD _⟩
    · cases h2
  · -- min
    cases h
    simp only [evalP, Option.bind_eq_some_iff] at hv
    obtain ⟨vs, h1, h2⟩ := hv
    have hr := hxs vs h1
    split at h2
    · rename_i y r
      cases hl : vs'.toList with
      | nil => rw [hl] at hr; cases hr
      | cons y' r' =>
        rw [hl] at hr
        cases hr with
        | cons _ _ _ _ h3 h4 =>
          obtain ⟨v', h5, h6⟩ := minmax_sound (P := P) hD false h2 h3 h4
          exact ⟨v', fun w => by simp only [builtin, Builtin.min_, hl, Sem.run_bind, Sem.run_pure]; have := h5 w; simp only [Bool.false_eq_true, if_false] at this; simp [this], h6⟩
    · cases h2
  · -- max
    cases h
    simp only [evalP, Option.bind_eq_some_iff] at hv
    obtain ⟨vs, h1, h2⟩ := hv
    have hr := hxs vs h1
    split at h2
    · rename_i y r
      cases hl : vs'.toList with
      | nil => rw [hl] at hr; cases hr
      | cons y' r' =>
        rw [hl] at hr
        cases hr with
        | cons _ _ _ _ h3 h4 =>
          obtain ⟨v', h5, h6⟩ := minmax_sound (P := P) hD true h2 h3 h4
          exact ⟨v', fun w => by simp only [builtin, Builtin.max_, hl, Sem.run_bind, Sem.run_pure]; have := h5 w; simp only [if_true] at this; simp [this], h6⟩
    · cases h2
  · -- append
    simp only [Option.bind_eq_some_iff] at h
    obtain ⟨t, h1, u, h2, h3⟩ := h
    split at h3
    · simp only [Option.bind_eq_some_iff] at h3
      obtain ⟨i, hi, h4⟩ := h3
      split at h4 <;> try (cases h4; done)
      revert h4
      cases u8 ty _ <;> simp
    · cases h3
  · simp only [Option.bind_eq_some_iff] at h
    obtain ⟨t, h1, h3⟩ := h
    split at h3
    · simp only [Option.bind_eq_some_iff] at h3
      obtain ⟨i, hi, h4⟩ := h3
      cases h4
    · cases h3
  · simp only [Option.bind_eq_some_iff] at h
    obtain ⟨t, h1, h3⟩ := h
    split at h3
    · cases h3
    · simp only [Option.bind_eq_some_iff] at h3
      obtain ⟨i, hi, h4⟩ := h3
      cases h4
    · cases h3
  · simp only [Option.bind_eq_some_iff] at h
    obtain ⟨t, h1, h3⟩ := h
    split at h3
    · simp only [Option.bind_eq_some_iff] at h3
      obtain ⟨i, hi, h4⟩ := h3
      cases h4
    · cases h3
  · cases h

theorem kind_of (hty : Tys P γ σ ty) {t : TypeId} {i : TyI I S} (hi : ty t = some i) {k : TK} (hk : i.kind = k) : ∃ d, P.underlying t = some d ∧ KOk P d k := by
  subst hk; exact (hty t i hi).kind

set_option maxHeartbeats 1000000 in
theorem pBin (hD : D.Ok γ σ) (hty : Tys P γ σ ty) {op : BinOp} {t : TypeId} {p q : Operand} {yt : TypeId} {dst : Option Nat} {type : TypeId} {pos : String} {after : Array Edge} {guard : Option (Nat × Bool)} {x : POp I S}
    (h : trOp D ty ⟨dst, .binOp op t p q yt, type, pos, after, guard⟩ = some (.p x)) {e : EnvF I S} {a : Act} (he : ERelE γ σ φ K e a.tmps) {v : LV I S} (hv : evalP D e x = some v) :
    PDone P γ σ φ K ⟨dst, .binOp op t p q yt, type, pos, after, guard⟩ a v := by
  simp only [trOp, Option.bind_eq_some_iff] at h
  obtain ⟨p', h1, q', h2, h⟩ := h
  have bin : ∀ {op'}, op' = op → x = .bin op' p' q' → PDone P γ σ φ K ⟨dst, .binOp op t p q yt, type, pos, after, guard⟩ a v := by
    intro op' ho hx
    subst ho; subst hx
    simp only [evalP, Option.bind_eq_some_iff] at hv
    obtain ⟨u, h4, u', h5, h6⟩ := hv
    obtain ⟨r', h7, h8⟩ := binV_sound (P := P) hD h6 (trA_sound hD h1 he h4) (trA_sound hD h2 he h5) t p q
    refine ⟨r', fun w => ?_, h8⟩
    have := h7 w
    simp only [execOp, Sem.run_bind, Sem.run_pure] at this ⊢
    rw [this]
    rfl
  have agg : ∀ (neg : Bool) {i : TyI I S}, ty t = some i → i.flat = true → (neg = false → op = .eql) → (neg = true → op = .neq) → x = .eqAgg neg i.size p' q' → PDone P γ σ φ K ⟨dst, .binOp op t p q yt, type, pos, after, guard⟩ a v := by
    intro neg i hi hf ho1 ho2 hx
    subst hx
    obtain ⟨info, d, z, i1, i2, i3, i4, i5, i6, i7, i8, i9, i10, i11⟩ := hty t i hi
    obtain ⟨fields, f1, f2, f3, f4, f5⟩ := i11 hf
    have hfo : P.underlying t = some (.struct (P.fieldsOf t)) := by simp [Program.fieldsOf, f1]
    have hff : P.fieldsOf t = fields := by simp [Program.fieldsOf, f1]
    simp only [evalP, Option.bind_eq_some_iff] at hv
    obtain ⟨u, h4, u', h5, tt, h6, h8⟩ := hv
    have r1 := trA_sound hD h1 he h4
    have r2 := trA_sound hD h2 he h5
    generalize hpv : a.eval p = pv at r1
    generalize hqv : a.eval q = qv at r2
    cases r1 <;> cases r2 <;> simp only [sameAgg, reduceCtorEq] at h6
    rename_i c c' hc b b' hb
    cases hcc : (Nat.beq (len? c) i.size && Nat.beq (len? b) i.size)
    · simp [hcc] at h6
    · simp only [hcc, cond_true] at h6
      simp only [Bool.and_eq_true] at hcc
      have l1 := Nat.eq_of_beq_eq_true hcc.1
      have l2 := Nat.eq_of_beq_eq_true hcc.2
      rw [len?_eq] at l1 l2
      have hrun : ∀ w, (Op.equalIn 10000 t (.agg c') (.agg b')).run P w = .ok tt w := fun w => by
        rw [run_equalIn_agg w 9999 t c' b' hfo f3, hff]
        exact sameInts_sound hD h6 hc hb (.inl (l1.trans l2.symm)) 9998 c' b' fields.toList 0 (fun j f hj => by
          obtain ⟨q1, q2, q3⟩ := f5 j f (by simpa using hj)
          exact ⟨q1, by omega, q3⟩) (fun j => by simp) (fun j => by simp) (by simp; omega) (by simp; omega) w
      simp only [Option.some.injEq] at h8
      subst h8
      cases neg
      · cases ho1 rfl
        exact ⟨.bool tt, fun w => by simp only [execOp, hpv, hqv, Sem.run_bind, run_eqGuard_agg w .eql t p q c' b' f4, Result.andThen_ok, run_eql_struct, hrun, Sem.run_pure], .bool _⟩
      · cases ho2 rfl
        exact ⟨.bool (!tt), fun w => by simp only [execOp, hpv, hqv, Sem.run_bind, run_eqGuard_agg w .neq t p q c' b' f4, Result.andThen_ok, run_neq_struct, hrun, Sem.run_pure], .bool _⟩
  have bl : ∀ (neg : Bool), P.underlying t = some .bool → (neg = false → op = .eql) → (neg = true → op = .neq) → x = .eqb neg p' q' → PDone P γ σ φ K ⟨dst, .binOp op t p q yt, type, pos, after, guard⟩ a v := by
    intro neg hb ho1 ho2 hx
    subst hx
    simp only [evalP, Option.bind_eq_some_iff] at hv
    obtain ⟨u, h4, u', h5, h6⟩ := hv
    have r1 := trA_sound hD h1 he h4
    have r2 := trA_sound hD h2 he h5
    generalize hpv : a.eval p = pv at r1
    generalize hqv : a.eval q = qv at r2
    cases r1 <;> cases r2 <;> simp only [reduceCtorEq, Option.some.injEq] at h6
    rename_i b c
    subst h6
    have heq : ∀ w, (Op.equal t (.bool b) (.bool c)).run P w = .ok (b == c) w := fun w => run_equalIn_bool w 9999 t b c hb
    cases neg
    · cases ho1 rfl
      refine ⟨.bool (b == c), fun w => ?_, .bool _⟩
      simp only [execOp, hpv, hqv, eqGuard, binOp, Sem.run_bind, Sem.run_pure, Result.andThen_ok, heq, Bool.not_true, Bool.not_false, Bool.false_eq_true, if_false, if_true]
    · cases ho2 rfl
      refine ⟨.bool (!(b == c)), fun w => ?_, .bool _⟩
      simp only [execOp, hpv, hqv, eqGuard, binOp, Sem.run_bind, Sem.run_pure, Result.andThen_ok, heq, Bool.not_true, Bool.not_false, Bool.false_eq_true, if_false, if_true]
  split at h
  · simp only [Option.bind_eq_some_iff] at h
    obtain ⟨i, hi, h⟩ := h
    split at h
    · cases h; exact bin rfl rfl
    · rename_i hk; cases h
      obtain ⟨d, hd, hkd⟩ := kind_of hty hi hk
      cases hkd
      exact bl false hd (fun _ => rfl) (fun h => by cases h) rfl
    · cases h; exact bin rfl rfl
    · cases hf : i.flat
      · simp [hf] at h
      · simp only [hf, cond_true, Option.some.injEq, LOp.p.injEq] at h
        exact agg false hi hf (fun _ => rfl) (fun h => by cases h) h.symm
    · simp only [Option.bind_eq_some_iff] at h
      obtain ⟨j, hj, h⟩ := h
      revert h
      cases Nat.beq j.size 0 <;> simp
    all_goals cases h
  · simp only [Option.bind_eq_some_iff] at h
    obtain ⟨i, hi, h⟩ := h
    split at h
    · cases h; exact bin rfl rfl
    · rename_i hk; cases h
      obtain ⟨d, hd, hkd⟩ := kind_of hty hi hk
      cases hkd
      exact bl true hd (fun h => by cases h) (fun _ => rfl) rfl
    · cases h; exact bin rfl rfl
    · cases hf : i.flat
      · simp [hf] at h
      · simp only [hf, cond_true, Option.some.injEq, LOp.p.injEq] at h
        exact agg true hi hf (fun h => by cases h) (fun _ => rfl) h.symm
    · simp only [Option.bind_eq_some_iff] at h
      obtain ⟨j, hj, h⟩ := h
      revert h
      cases Nat.beq j.size 0 <;> simp
    all_goals cases h
  · cases h; exact bin rfl rfl

theorem extract_toList (s : ByteArray) (l h : Nat) : s.extract l h = s.extract l h := rfl

set_option maxHeartbeats 1000000 in
theorem pSound (hD : D.Ok γ σ) (hty : Tys P γ σ ty) {o : Oper} {x : POp I S} (h : trOp D ty o = some (.p x)) {e : EnvF I S} {a : Act} (he : ERelE γ σ φ K e a.tmps) {v : LV I S} (hv : evalP D e x = some v) :
    PDone P γ σ φ K o a v := by
  obtain ⟨dst, op, type, pos, after, guard⟩ := o
  cases op
  case build t parts => exact pBuild hD hty h he hv
  case binOp op t p q yt => exact pBin hD hty h he hv
  case move y =>
    simp only [trOp, Option.bind_eq_some_iff, Option.some.injEq, LOp.p.injEq] at h
    obtain ⟨z, h1, rfl⟩ := h
    exact ⟨_, fun w => rfl, trA_sound hD h1 he hv⟩
  case assign y =>
    simp only [trOp, Option.bind_eq_some_iff, Option.some.injEq, LOp.p.injEq] at h
    obtain ⟨z, h1, rfl⟩ := h
    exact ⟨_, fun w => rfl, trA_sound hD h1 he hv⟩
  case pick c y z =>
    simp only [trOp, Option.bind_eq_some_iff, Option.some.injEq, LOp.p.injEq] at h
    obtain ⟨c', h1, y', h2, z', h3, rfl⟩ := h
    simp only [evalP, Option.bind_eq_some_iff] at hv
    obtain ⟨t, h4, h5⟩ := hv
    have hc := trA_sound hD h1 he h4
    split at h5
    · rename_i t
      generalize hcv : a.eval c = cv at hc
      cases hc
      cases t
      · exact ⟨_, fun w => by simp [execOp, hcv, asBool], trA_sound hD h3 he h5⟩
      · exact ⟨_, fun w => by simp [execOp, hcv, asBool], trA_sound hD h2 he h5⟩
    · cases h5
  case nilCheck y =>
    simp only [trOp, Option.bind_eq_some_iff, Option.some.injEq, LOp.p.injEq] at h
    obtain ⟨z, h1, rfl⟩ := h
    simp only [evalP, Option.bind_eq_some_iff] at hv
    obtain ⟨u, h2, h3⟩ := hv
    have hr := trA_sound hD h1 he h2
    generalize hyv : a.eval y = yv at hr
    cases hr <;> simp only [reduceCtorEq, Option.some.injEq] at h3
    case ptr b o hb => subst h3; exact ⟨_, fun w => by simp [execOp, hyv], .ptr b o hb⟩
    case func f l c l' c' h5 h6 => subst h3; exact ⟨_, fun w => by simp [execOp, hyv], .func f l c l' c' h5 h6⟩
  case unOp op t y =>
    simp only [trOp, Option.bind_eq_some_iff, Option.some.injEq, LOp.p.injEq] at h
    obtain ⟨z, h1, rfl⟩ := h
    simp only [evalP, Option.bind_eq_some_iff] at hv
    obtain ⟨u, h2, h3⟩ := hv
    have hr := trA_sound hD h1 he h2
    generalize hyv : a.eval y = yv at hr
    cases hr <;> cases op <;> simp only [reduceCtorEq, Option.some.injEq, Option.bind_eq_some_iff] at h3
    case bool.not b => subst h3; exact ⟨_, fun w => by simp [execOp, hyv, Op.unary], .bool _⟩
    case int.neg k i =>
      obtain ⟨m, h4, rfl⟩ := h3
      have := hD.bin _ _ _ _ _ h4
      simp only [goBin, hD.ofInt, Option.some.injEq] at this
      exact ⟨_, fun w => by simp only [execOp, hyv, Op.unary, Op.intArith, this, Sem.run_bind, Sem.run_pure, Result.andThen_ok], .int k m⟩
    case int.xor k i =>
      obtain ⟨m, h4, rfl⟩ := h3
      have := hD.bin _ _ _ _ _ h4
      simp only [goBin, hD.ofInt, Option.some.injEq] at this
      refine ⟨_, fun w => ?_, .int k m⟩
      cases hk : k.signed
      · simp only [hk, cond_false] at this
        simp only [execOp, hyv, Op.unary, Op.intBits, hk, Bool.false_eq_true, if_false, this, Sem.run_bind, Sem.run_pure, Result.andThen_ok]
      · simp only [hk, cond_true] at this
        simp only [execOp, hyv, Op.unary, Op.intBits, hk, if_true, this, Sem.run_bind, Sem.run_pure, Result.andThen_ok]
  case convert s d y =>
    simp only [trOp, Option.bind_eq_some_iff] at h
    obtain ⟨z, h1, h⟩ := h
    split at h
    · rename_i k k' hk hk'
      cases h
      simp only [evalP, Option.bind_eq_some_iff] at hv
      obtain ⟨u, h2, h3⟩ := hv
      obtain ⟨d1, hd1, hkd1⟩ := kindAt_ok hty hk (by simp)
      obtain ⟨d2, hd2, hkd2⟩ := kindAt_ok hty hk' (by simp)
      cases hkd1; cases hkd2
      have hr := trA_sound hD h1 he h2
      generalize hyv : a.eval y = yv at hr
      cases hr <;> simp only [reduceCtorEq, Option.bind_eq_some_iff, Option.some.injEq] at h3
      obtain ⟨m, h4, rfl⟩ := h3
      have := hD.conv _ _ _ h4
      refine ⟨_, fun w => ?_, .int k' m⟩
      simp [execOp, hyv, convert, run_underlying hd1, run_underlying hd2, Conv.intToInt, this]
    · revert h; cases u8 ty _ <;> simp
    · revert h; cases u8 ty _ <;> simp
    · revert h; cases (u8 ty _ && Nat.beq s d) <;> simp
    · cases h
  case makeFunc f l c =>
    cases f <;> simp only [trOp, reduceCtorEq, Option.bind_eq_some_iff, Option.some.injEq, LOp.p.injEq] at h
    obtain ⟨l', h1, c', h2, rfl⟩ := h
    simp only [evalP, Option.bind_eq_some_iff, Option.some.injEq] at hv
    obtain ⟨vs, h3, cs, h4, rfl⟩ := hv
    refine ⟨.func (.func _) (l.map a.eval) (c.map a.eval), fun w => by simp [execOp, Instr.makeFunc], .func _ _ _ _ _ ?_ ?_⟩
    · simpa using trAs_sound hD he h1 h3
    · simpa using trAs_sound hD he h2 h4
  case slice t y lo hi mx =>
    simp only [trOp, Option.bind_eq_some_iff] at h
    obtain ⟨y', h1, lo', h2, hi', h3, mx', h4, h⟩ := h
    split at h
    · rename_i hk
      split at h
      · cases h
        obtain ⟨d1, hd1, hkd1⟩ := kindAt_ok hty hk (by simp)
        cases hkd1
        simp only [evalP, Option.bind_eq_some_iff] at hv
        obtain ⟨u, h5, l, h6, hh, h7, h8⟩ := hv
        have hr := trA_sound hD h1 he h5
        have r2 := trO_sound hD h2 he h6
        have r3 := trO_sound hD h3 he h7
        have r4 : mx = none := by
          cases mx with
          | none => rfl
          | some m => simp [trO, Option.bind_eq_some_iff] at h4
        subst r4
        generalize hyv : a.eval y = yv at hr
        cases hr <;> simp only [reduceCtorEq] at h8
        rename_i s
        simp only [Option.bind_eq_some_iff, Option.some.injEq] at h8
        obtain ⟨hb, h9, lb, h10, rfl⟩ := h8
        have b2 : Bnd P (hi.map a.eval) (D.sLen s) (D.sLen s) hb := bnd_sound hD r3 h9
        have b3 : Bnd P (lo.map a.eval) 0 hb lb := bnd_sound hD r2 h10
        have k1 := b2.le (Nat.le_refl _)
        have k2 := b3.le (Nat.zero_le _)
        refine ⟨.string ((σ s).extract lb hb), fun w => ?_, ?_⟩
        · have hbr := bounds_run (sl := false) b3 b2 (.inl ⟨rfl, rfl⟩ : Bnd P none (D.sLen s) 0 (D.sLen s)) k2 k1 (Nat.le_refl _) (fun h => by cases h) w
          simp [execOp, hyv, Instr.sliceAt, Instr.slice, run_underlying hd1, hD.sLen, hbr]
        · rw [← hD.sCut s lb hb k2 k1]; exact .str _
      · cases h
    · rename_i el hk
      simp only [Option.bind_eq_some_iff, Option.some.injEq, LOp.p.injEq] at h
      obtain ⟨i, hi', rfl⟩ := h
      obtain ⟨d1, hd1, hkd1⟩ := kindAt_ok hty hk (by simp)
      cases hkd1
      simp only [evalP, Option.bind_eq_some_iff] at hv
      obtain ⟨u, h5, l, h6, hh, h7, m, h8, h9⟩ := hv
      obtain ⟨r', h10, h11⟩ := slSl_sound (P := P) hD hd1 (hty _ _ hi').sizeOf (trA_sound hD h1 he h5) (trO_sound hD h2 he h6) (trO_sound hD h3 he h7) (trO_sound hD h4 he h8) h9
      exact ⟨r', fun w => by simp only [execOp, Sem.run_bind, h10, Result.andThen_ok, Sem.run_pure], h11⟩
    · cases h
  case fieldAddr t y f =>
    simp only [trOp, Option.bind_eq_some_iff] at h
    obtain ⟨y', h1, h⟩ := h
    split at h
    · rename_i fs hk
      obtain ⟨d1, hd1, hkd1⟩ := kindAt_ok hty hk (by simp)
      obtain ⟨fields, rfl, rfl, hall⟩ := hkd1
      simp only [Option.bind_eq_some_iff, nth_eq, List.getElem?_map, Option.map_eq_some_iff] at h
      obtain ⟨q, ⟨fd, hfd, rfl⟩, i, hi, h⟩ := h
      cases hz : Nat.beq i.size 0
      · simp only [hz, cond_false, Option.some.injEq, LOp.p.injEq] at h
        subst h
        have hz' : i.size ≠ 0 := fun e => by rw [e] at hz; cases hz
        simp only [evalP, Option.bind_eq_some_iff] at hv
        obtain ⟨u, h2, h3⟩ := hv
        have hr := trA_sound hD h1 he h2
        generalize hyv : a.eval y = yv at hr
        cases hr <;> simp only [reduceCtorEq, Option.some.injEq] at h3
        rename_i b o hb
        subst h3
        refine ⟨.pointer (some ⟨(φ b).blk, (φ b).off + (o + fd.offset), none⟩), fun w => ?_, .ptr b _ hb⟩
        have hfd' : fields[f]? = some fd := by simpa using hfd
        simp [execOp, hyv, Instr.fieldAt, run_underlying hd1, hfd', Instr.sureAddr, fieldPlace, (hty _ _ hi).sizeOf, hz', add_at, Nat.add_assoc]
      · simp [hz] at h
    · cases h
  case field t y f =>
    simp only [trOp, Option.bind_eq_some_iff] at h
    obtain ⟨y', h1, h⟩ := h
    split at h
    · rename_i fs hk
      obtain ⟨d1, hd1, hkd1⟩ := kindAt_ok hty hk (by simp)
      obtain ⟨fields, rfl, rfl, hall⟩ := hkd1
      simp only [Option.bind_eq_some_iff, nth_eq, List.getElem?_map, Option.map_eq_some_iff, Option.some.injEq, LOp.p.injEq] at h
      obtain ⟨q, ⟨fd, hfd, rfl⟩, i, hi, rfl⟩ := h
      simp only [evalP, Option.bind_eq_some_iff] at hv
      obtain ⟨u, h2, h3⟩ := hv
      have hr := trA_sound hD h1 he h2
      generalize hyv : a.eval y = yv at hr
      cases hr <;> simp only [reduceCtorEq] at h3
      rename_i c c' hc
      obtain ⟨r', h4, h5⟩ := part_run (hty _ _ hi) h3 hc
      have hfd' : fields[f]? = some fd := by simpa using hfd
      refine ⟨r', fun w => ?_, h5⟩
      simp [execOp, hyv, Instr.field, run_underlying hd1, hfd', asAgg, h4]
    · cases h
  case indexAddr t y i =>
    simp only [trOp, Option.bind_eq_some_iff] at h
    obtain ⟨y', h1, i', h2, h⟩ := h
    split at h
    · rename_i el hk
      simp only [Option.bind_eq_some_iff, Option.some.injEq, LOp.p.injEq] at h
      obtain ⟨k, hk', rfl⟩ := h
      obtain ⟨d1, hd1, hkd1⟩ := kindAt_ok hty hk (by simp)
      cases hkd1
      simp only [evalP, Option.bind_eq_some_iff] at hv
      obtain ⟨u, h3, iv, h4, h5⟩ := hv
      have hr := trA_sound hD h1 he h3
      have ri := trA_sound hD h2 he h4
      generalize hyv : a.eval y = yv at hr
      generalize hiv : a.eval i = iv' at ri
      cases hr <;> simp only [reduceCtorEq] at h5
      rename_i b o len cap ex sz' cap' hb e1 e2 e3 e4
      simp only [Option.bind_eq_some_iff] at h5
      obtain ⟨m, h6, h7⟩ := h5
      obtain ⟨kk, rfl⟩ := nat?_sound hD h6 ri
      cases hlt : Nat.blt m len
      · simp [hlt] at h7
      · simp only [hlt, cond_true, Option.some.injEq] at h7
        subst h7
        have hlt' : m < len := Nat.le_of_ble_eq_true hlt
        refine ⟨.pointer (some ⟨(φ b).blk, (φ b).off + (o + m * k.size), none⟩), fun w => ?_, .ptr b _ hb⟩
        simp [execOp, hyv, hiv, Instr.indexAt, asIntOf, run_underlying hd1, hlt', (hty _ _ hk').sizeOf, add_at, Nat.add_assoc]
    · rename_i nn el hk
      simp only [Option.bind_eq_some_iff, Option.some.injEq, LOp.p.injEq] at h
      obtain ⟨k, hk', rfl⟩ := h
      obtain ⟨d1, hd1, hkd1⟩ := kindAt_ok hty hk (by simp)
      cases hkd1
      simp only [evalP, Option.bind_eq_some_iff] at hv
      obtain ⟨u, h3, iv, h4, h5⟩ := hv
      have hr := trA_sound hD h1 he h3
      have ri := trA_sound hD h2 he h4
      generalize hyv : a.eval y = yv at hr
      generalize hiv : a.eval i = iv' at ri
      cases hr <;> simp only [reduceCtorEq] at h5
      rename_i b o hb
      simp only [Option.bind_eq_some_iff] at h5
      obtain ⟨m, h6, h7⟩ := h5
      obtain ⟨kk, rfl⟩ := nat?_sound hD h6 ri
      cases hlt : Nat.blt m nn
      · simp [hlt] at h7
      · simp only [hlt, cond_true, Option.some.injEq] at h7
        subst h7
        have hlt' : m < nn := Nat.le_of_ble_eq_true hlt
        refine ⟨.pointer (some ⟨(φ b).blk, (φ b).off + (o + m * k.size), none⟩), fun w => ?_, .ptr b _ hb⟩
        simp [execOp, hyv, hiv, Instr.indexAt, asIntOf, run_underlying hd1, hlt', (hty _ _ hk').sizeOf, add_at, Nat.add_assoc, Instr.sureAddr]
    · cases h
  case index t y i =>
    simp only [trOp, Option.bind_eq_some_iff] at h
    obtain ⟨y', h1, i', h2, h⟩ := h
    split at h
    · rename_i nn el hk
      simp only [Option.bind_eq_some_iff, Option.some.injEq, LOp.p.injEq] at h
      obtain ⟨k, hk', rfl⟩ := h
      obtain ⟨d1, hd1, hkd1⟩ := kindAt_ok hty hk (by simp)
      cases hkd1
      simp only [evalP, Option.bind_eq_some_iff] at hv
      obtain ⟨u, h3, iv, h4, h5⟩ := hv
      have hr := trA_sound hD h1 he h3
      have ri := trA_sound hD h2 he h4
      generalize hyv : a.eval y = yv at hr
      generalize hiv : a.eval i = iv' at ri
      cases hr <;> simp only [reduceCtorEq] at h5
      rename_i c c' hc
      simp only [Option.bind_eq_some_iff] at h5
      obtain ⟨m, h6, h7⟩ := h5
      obtain ⟨kk, rfl⟩ := nat?_sound hD h6 ri
      cases hlt : Nat.blt m nn
      · simp [hlt] at h7
      · simp only [hlt, cond_true] at h7
        have hlt' : m < nn := Nat.le_of_ble_eq_true hlt
        obtain ⟨r', h8, h9⟩ := part_run (hty _ _ hk') h7 hc
        refine ⟨r', fun w => ?_, h9⟩
        simp [execOp, hyv, hiv, Instr.index, asIntOf, run_underlying hd1, hlt', (hty _ _ hk').sizeOf, h8]
    · rename_i hk
      cases h
      obtain ⟨d1, hd1, hkd1⟩ := kindAt_ok hty hk (by simp)
      cases hkd1
      simp only [evalP, Option.bind_eq_some_iff] at hv
      obtain ⟨u, h3, iv, h4, h5⟩ := hv
      have hr := trA_sound hD h1 he h3
      have ri := trA_sound hD h2 he h4
      generalize hyv : a.eval y = yv at hr
      generalize hiv : a.eval i = iv' at ri
      cases hr <;> simp only [reduceCtorEq] at h5
      rename_i s
      simp only [Option.bind_eq_some_iff] at h5
      obtain ⟨m, h6, h7⟩ := h5
      obtain ⟨kk, rfl⟩ := nat?_sound hD h6 ri
      cases hlt : Nat.blt m (D.sLen s)
      · simp [hlt] at h7
      · simp only [hlt, cond_true, Option.some.injEq] at h7
        subst h7
        have hlt' : m < (σ s).size := by rw [hD.sLen]; exact Nat.le_of_ble_eq_true hlt
        refine ⟨.int .u8 (γ (D.sAt s m)), fun w => ?_, .int _ _⟩
        simp [execOp, hyv, hiv, Instr.index, asIntOf, run_underlying hd1, hlt', hD.sAt s m hlt']
    · cases h
  case extract y i =>
    simp only [trOp, Option.bind_eq_some_iff, Option.some.injEq, LOp.p.injEq] at h
    obtain ⟨z, h1, rfl⟩ := h
    simp only [evalP, Option.bind_eq_some_iff] at hv
    obtain ⟨u, h2, h3⟩ := hv
    have hr := trA_sound hD h1 he h2
    generalize hyv : a.eval y = yv at hr
    cases hr <;> simp only [reduceCtorEq, at?_eq] at h3
    rename_i c c' hc
    obtain ⟨v', h4, h5⟩ := hc.get h3
    have h4' : c'[i]? = some v' := by simpa using h4
    exact ⟨v', fun w => by simp [execOp, hyv, Instr.extract, h4'], h5⟩
  case call c =>
    simp only [trOp, Option.bind_eq_some_iff] at h
    obtain ⟨args, h1, h⟩ := h
    cases hc : c.callee <;> simp only [hc, reduceCtorEq, Option.bind_eq_some_iff, Option.some.injEq, and_false, exists_false] at h
    rename_i b
    obtain ⟨v', h2, h3⟩ := trBuiltin_p (vs' := c.args.map a.eval) hD hty h hv (fun vs hvs => by simpa using trAs_sound hD he h1 hvs) (by
      have : ∀ {l : List Operand} {m : List (LA I S)}, trAs D l = some m → l.length = m.length := by
        intro l
        induction l with
        | nil => intro m h; cases h; rfl
        | cons x l ih => intro m h; simp only [trAs, Option.bind_eq_some_iff, Option.some.injEq] at h; obtain ⟨y, _, m', h2, rfl⟩ := h; simp [ih h2]
      simpa using this h1) type (c.args.map fun | .const _ => true | _ => false)
    refine ⟨v', fun w => ?_, h3⟩
    simp only [execOp, resolve, hc, Sem.run_bind, Sem.run_pure, Result.andThen_ok, invoke]
    exact h2 w
  case makeMap t r => cases r <;> simp only [trOp, reduceCtorEq, Option.some.injEq] at h
  case next y s => cases s <;> simp only [trOp, reduceCtorEq, Option.bind_eq_some_iff, Option.some.injEq, and_false, exists_false] at h
  case buildSlice t m parts =>
    simp only [trOp] at h
    split at h <;> simp only [Option.bind_eq_some_iff, reduceCtorEq, Option.some.injEq, and_false, exists_false] at h
  case makeSlice t l c =>
    simp only [trOp] at h
    split at h <;> simp only [Option.bind_eq_some_iff, reduceCtorEq, Option.some.injEq, and_false, exists_false] at h
  case lookup t m k ok =>
    simp only [trOp, Option.bind_eq_some_iff] at h
    obtain ⟨m', h1, k', h2, h⟩ := h
    split at h <;> simp only [Option.bind_eq_some_iff, reduceCtorEq, Option.some.injEq, and_false, exists_false] at h
  case mapUpdate t m k v =>
    simp only [trOp, Option.bind_eq_some_iff] at h
    obtain ⟨m', h1, k', h2, v', h3, h⟩ := h
    split at h <;> simp only [Option.bind_eq_some_iff, reduceCtorEq, Option.some.injEq, and_false, exists_false] at h
  case range t y =>
    simp only [trOp, Option.bind_eq_some_iff] at h
    obtain ⟨m', h1, h⟩ := h
    split at h <;> simp only [reduceCtorEq, Option.some.injEq] at h
  all_goals simp only [trOp, Option.bind_eq_some_iff, reduceCtorEq, Option.some.injEq, and_false, exists_false] at h
end
end Go.Proofs.YtohmaikcmaapjaaGreat.LI
