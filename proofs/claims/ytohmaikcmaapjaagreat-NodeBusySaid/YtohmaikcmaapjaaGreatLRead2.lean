/- Each operation that reads memory: what the interpreter says of it, the machine does (the operations one by one). -/
import Derived.Test.YtohmaikcmaapjaaGreatLRead
namespace Go.Proofs.YtohmaikcmaapjaaGreat.LI
variable {I S : Type}
section
variable {P : Program} {γ : I → Int} {σ : Sg I S} {D : Dom I S} {ty : Nat → Option (TyI I S)} {φ : Phi} {K : Nat → Prop} {g : Mem I S} {w : World}

theorem entries_sound (hr : RelF γ σ φ K g w) {m : LV I S} {es : List (LV I S × LV I S × Nat)} (h : entries g m = some es) {m' : Value} (hm : VRel γ σ φ K m m') :
    (m' = .map none ∧ es = []) ∨ (∃ r clock, ∃ es' : Array MapEntry, m' = .map (some r) ∧ w.heap[r]? = some (.map es' clock) ∧ ERel γ σ φ K es es'.toList) := by
  cases hm <;> simp only [entries, reduceCtorEq] at h
  case nilm => cases h; exact .inl ⟨rfl, rfl⟩
  case map b hb =>
    split at h
    · rename_i es0 clock hg
      cases h
      obtain ⟨es', h1, h2⟩ := (hr.obj b _ hg).map_inv
      exact .inr ⟨_, clock, es', rfl, h1, h2⟩
    · cases h

theorem bytesOf_sound : ∀ {l : List (LV I S)} {r : List I}, bytesOf l = some r → ∀ {l' : List Value}, VRels γ σ φ K l l' → l' = (r.map γ).map (Value.int .u8)
  | [], r, h, l', hl => by cases h; cases hl; rfl
  | v :: l, r, h, l', hl => by
    cases hl with
    | cons _ v' _ l' h1 h2 =>
      cases h1 <;> try (simp only [bytesOf, reduceCtorEq] at h; done)
      rename_i k i
      cases k <;> simp only [bytesOf, reduceCtorEq, Option.bind_eq_some_iff, Option.some.injEq] at h
      obtain ⟨r', h3, rfl⟩ := h
      rw [bytesOf_sound h3 h2]
      rfl
theorem foldl_push (γ : I → Int) : ∀ (l : List I) (s : ByteArray), ((l.map γ).foldl (fun r m => r.push (UInt8.ofNat m.toNat)) s) = ⟨s.data ++ (l.map fun i => UInt8.ofNat (γ i).toNat).toArray⟩
  | [], s => by simp
  | x :: l, s => by
    simp only [List.map_cons, List.foldl_cons]
    rw [foldl_push γ l]
    simp [ByteArray.push]

theorem last?_eq : ∀ (l : List Nat), last? l = l.getLast?
  | [] => rfl
  | [x] => rfl
  | _ :: y :: r => by simp [last?, last?_eq (y :: r), List.getLast?_cons]
theorem stamped_sound {st : Nat} : ∀ {es : List (LV I S × LV I S × Nat)} {k v : LV I S}, stamped st es = some (k, v) → ∀ {es' : List MapEntry}, ERel γ σ φ K es es' →
    ∃ e, es'.find? (·.born == st) = some e ∧ VRel γ σ φ K k e.key ∧ VRel γ σ φ K v e.val := by
  intro es
  induction es with
  | nil => intro k v h; cases h
  | cons x es ih =>
    intro k v h es' hes
    obtain ⟨k0, v0, b0⟩ := x
    cases hes with
    | cons _ _ k' v' _ _ l' h1 h2 h3 =>
      cases hb : Nat.beq b0 st
      · simp only [stamped, hb, cond_false] at h
        obtain ⟨e, e1, e2⟩ := ih h h3
        refine ⟨e, ?_, e2⟩
        rw [List.find?_cons_of_neg (by simp; intro hh; subst hh; rw [Nat.beq_refl] at hb; cases hb)]
        exact e1
      · simp only [stamped, hb, cond_true, Option.some.injEq, Prod.mk.injEq] at h
        obtain ⟨rfl, rfl⟩ := h
        cases Nat.eq_of_beq_eq_true hb
        exact ⟨_, List.find?_cons_of_pos (by simp), h1, h2⟩

theorem rBin {op : BinOp} {t : TypeId} {p q : Operand} {yt : TypeId} {dst : Option Nat} {type : TypeId} {pos : String} {after : Array Edge} {guard : Option (Nat × Bool)} (hD : D.Ok γ σ) (hty : Tys P γ σ ty) {x : ROp I S}
    (h : trOp D ty ⟨dst, .binOp op t p q yt, type, pos, after, guard⟩ = some (.r x)) {e : EnvF I S} {a : Act} (he : ERelE γ σ φ K e a.tmps) (hr : RelF γ σ φ K g w) {v : LV I S} (hv : evalR D e g x = some v) :
    RDone P γ σ φ K w ⟨dst, .binOp op t p q yt, type, pos, after, guard⟩ a v := by
  simp only [trOp, Option.bind_eq_some_iff] at h
  obtain ⟨p', h1, q', h2, h⟩ := h
  have main : ∀ (k : RK) (neg : Bool), RKOk P t k → (neg = false → op = .eql) → (neg = true → op = .neq) → x = .eqRef k neg p' q' → RDone P γ σ φ K w ⟨dst, .binOp op t p q yt, type, pos, after, guard⟩ a v := by
    intro k neg hk ho1 ho2 hx
    subst hx
    simp only [evalR, Option.bind_eq_some_iff, Option.some.injEq] at hv
    obtain ⟨u, h4, u', h5, tt, h6, h7⟩ := hv
    have r1 := trA_sound hD h1 he h4
    have r2 := trA_sound hD h2 he h5
    have heq := refEq_sound hr hk h6 r1 r2
    subst h7
    have hg : (eqGuard op t p q (a.eval p) (a.eval q)).run P w = .ok () w ∧ (op = .eql → (binOp .eql t (a.eval p) (a.eval q)).run P w = .ok (.bool tt) w) ∧ (op = .neq → (binOp .neq t (a.eval p) (a.eval q)).run P w = .ok (.bool (!tt)) w) := by
      generalize a.eval p = pv at *
      generalize a.eval q = qv at *
      cases r1 <;> cases r2 <;> (try (cases k <;> simp only [refEq, reduceCtorEq] at h6 <;> done)) <;>
        refine ⟨by cases op <;> simp [eqGuard], fun _ => ?_, fun _ => ?_⟩ <;> simp only [binOp, Sem.run_bind, heq, Result.andThen_ok, Sem.run_pure]
    cases neg
    · cases ho1 rfl
      exact ⟨.bool tt, by simp only [execOp, Sem.run_bind, hg.1, Result.andThen_ok, hg.2.1 rfl, Sem.run_pure], .bool _⟩
    · cases ho2 rfl
      exact ⟨.bool (!tt), by simp only [execOp, Sem.run_bind, hg.1, Result.andThen_ok, hg.2.2 rfl, Sem.run_pure], .bool _⟩
  split at h
  · simp only [Option.bind_eq_some_iff] at h
    obtain ⟨i, hi, h⟩ := h
    split at h
    · cases h
    · cases h
    · cases h
    · revert h; cases i.flat <;> simp
    · rename_i el hk
      obtain ⟨d, hd, hkd⟩ := kind_of hty hi hk
      cases hkd
      simp only [Option.bind_eq_some_iff] at h
      obtain ⟨j, hj, h⟩ := h
      cases hz : Nat.beq j.size 0
      · simp only [hz, cond_false, Option.some.injEq, LOp.r.injEq] at h
        exact main .ptr false ⟨el, hd, j.size, (fun e => by rw [e] at hz; cases hz), (hty _ _ hj).sizeOf⟩ (fun _ => rfl) (fun h => by cases h) h.symm
      · simp [hz] at h
    · rename_i el hk
      obtain ⟨d, hd, hkd⟩ := kind_of hty hi hk
      cases hkd
      cases h
      exact main .sl false ⟨el, hd⟩ (fun _ => rfl) (fun h => by cases h) rfl
    · rename_i k el hk
      obtain ⟨d, hd, hkd⟩ := kind_of hty hi hk
      cases hkd
      cases h
      exact main .mp false ⟨k, el, hd⟩ (fun _ => rfl) (fun h => by cases h) rfl
    · rename_i hk
      obtain ⟨d, hd, q1, q2, q3, rfl⟩ := kind_of hty hi hk
      cases h
      exact main .fn false ⟨q1, q2, q3, hd⟩ (fun _ => rfl) (fun h => by cases h) rfl
    · cases h
  · simp only [Option.bind_eq_some_iff] at h
    obtain ⟨i, hi, h⟩ := h
    split at h
    · cases h
    · cases h
    · cases h
    · revert h; cases i.flat <;> simp
    · rename_i el hk
      obtain ⟨d, hd, hkd⟩ := kind_of hty hi hk
      cases hkd
      simp only [Option.bind_eq_some_iff] at h
      obtain ⟨j, hj, h⟩ := h
      cases hz : Nat.beq j.size 0
      · simp only [hz, cond_false, Option.some.injEq, LOp.r.injEq] at h
        exact main .ptr true ⟨el, hd, j.size, (fun e => by rw [e] at hz; cases hz), (hty _ _ hj).sizeOf⟩ (fun h => by cases h) (fun _ => rfl) h.symm
      · simp [hz] at h
    · rename_i el hk
      obtain ⟨d, hd, hkd⟩ := kind_of hty hi hk
      cases hkd
      cases h
      exact main .sl true ⟨el, hd⟩ (fun h => by cases h) (fun _ => rfl) rfl
    · rename_i k el hk
      obtain ⟨d, hd, hkd⟩ := kind_of hty hi hk
      cases hkd
      cases h
      exact main .mp true ⟨k, el, hd⟩ (fun h => by cases h) (fun _ => rfl) rfl
    · rename_i hk
      obtain ⟨d, hd, q1, q2, q3, rfl⟩ := kind_of hty hi hk
      cases h
      exact main .fn true ⟨q1, q2, q3, hd⟩ (fun h => by cases h) (fun _ => rfl) rfl
    · cases h
  · cases h

set_option maxHeartbeats 1000000 in
theorem rSound (hD : D.Ok γ σ) (hty : Tys P γ σ ty) {o : Oper} {x : ROp I S} (h : trOp D ty o = some (.r x)) {e : EnvF I S} {a : Act} (he : ERelE γ σ φ K e a.tmps) (hr : RelF γ σ φ K g w) {v : LV I S} (hv : evalR D e g x = some v) :
    RDone P γ σ φ K w o a v := by
  obtain ⟨dst, op, type, pos, after, guard⟩ := o
  cases op
  case binOp op t p q yt => exact rBin hD hty h he hr hv
  case load t y =>
    simp only [trOp, Option.bind_eq_some_iff, Option.some.injEq, LOp.r.injEq] at h
    obtain ⟨i, hi, y', h1, rfl⟩ := h
    simp only [evalR, Option.bind_eq_some_iff] at hv
    obtain ⟨u, h2, h3⟩ := hv
    have hu := trA_sound hD h1 he h2
    generalize hyv : a.eval y = yv at hu
    cases hu <;> simp only [reduceCtorEq] at h3
    rename_i b o hb
    split at h3
    · rename_i m c hg
      obtain ⟨r', h4, h5⟩ := load_run (hty _ _ hi) (hr.obj b _ hg) h3
      exact ⟨r', by simp [execOp, hyv, Instr.loadAt, Instr.sureAddr, h4], h5⟩
    · cases h3
  case lookup t m k ok =>
    simp only [trOp, Option.bind_eq_some_iff] at h
    obtain ⟨m', h1, k', h2, h⟩ := h
    split at h
    · rename_i kt el hk
      obtain ⟨d, hd, hkd⟩ := kindAt_ok hty hk (by simp)
      cases hkd
      simp only [Option.bind_eq_some_iff, Option.some.injEq, LOp.r.injEq] at h
      obtain ⟨km, hkm, i, hi, rfl⟩ := h
      have hkey := keyOf_ok hty hkm
      obtain ⟨z, hz, hzr⟩ := (hty _ _ hi).zeroValue
      simp only [evalR, Option.bind_eq_some_iff] at hv
      obtain ⟨mv, h3, kv, h4, es, h5, r, h6, h7⟩ := hv
      have hm := trA_sound hD h1 he h3
      have hkv := trA_sound hD h2 he h4
      generalize hmv : a.eval m = mv' at hm
      generalize hkv' : a.eval k = kv' at hkv
      cases hs : keyShape km kv
      · simp [hs] at h6
      · simp only [hs, cond_true] at h6
        obtain ⟨p, p1, p2, p3⟩ := find_pos h6
        have hck : ∀ b w, (Instr.checkKey b 10000 kt kv').run P w = .ok () w := fun b w => checkKey_run hkey hkv hs b w
        -- what is found
        have fin : ∀ (es' : List MapEntry), ERel γ σ φ K es es' → ((Instr.findKey kt kv' es').run P w = .ok none w ∧ r = none) ∨ ∃ ix v' u, (Instr.findKey kt kv' es').run P w = .ok (some (ix, v')) w ∧ r = some u ∧ VRel γ σ φ K u v' := by
          intro es' hes
          have hf := findKey_run (P := P) hD hkey hkv hes p1 w
          cases p with
          | none => exact .inl ⟨by simpa [hit] using hf, p2 rfl⟩
          | some j =>
            obtain ⟨en, e1, e2⟩ := p3 j rfl
            have : ∀ {es : List (LV I S × LV I S × Nat)} {es' : List MapEntry}, ERel γ σ φ K es es' → ∀ {j : Nat} {en : LV I S × LV I S × Nat}, es[j]? = some en → ∃ en', es'[j]? = some en' ∧ VRel γ σ φ K en.2.1 en'.val := by
              intro es es' h
              induction h with
              | nil => intro j en h; simp at h
              | cons k v k' v' b l l' h1 h2 _ ih =>
                intro j en hj
                cases j with
                | zero => simp at hj; subst hj; exact ⟨_, rfl, h2⟩
                | succ j => simpa using ih (by simpa using hj)
            obtain ⟨en', e3, e4⟩ := this hes e1
            exact .inr ⟨j, en'.val, en.2.1, by simpa [hit, e3] using hf, e2, e4⟩
        have run : ∀ (es' : Array MapEntry) (mm : Value), (mm = .map none ∧ es' = #[]) ∨ (∃ rr clock, mm = .map (some rr) ∧ w.heap[rr]? = some (.map es' clock)) → ERel γ σ φ K es es'.toList → mm = mv' →
            RDone P γ σ φ K w ⟨dst, .lookup t m k ok, type, pos, after, guard⟩ a v := by
          intro es' mm hmm hes hmm2
          subst hmm2
          rcases fin es'.toList hes with ⟨f1, rfl⟩ | ⟨ix, v', u, f1, rfl, f2⟩
          · simp only [Option.some.injEq] at h7
            refine ⟨if ok then .tuple #[z, .bool false] else z, ?_, ?_⟩
            · rcases hmm with ⟨rfl, rfl⟩ | ⟨rr, clock, rfl, hw⟩
              · simp only [execOp, hmv, hkv', Instr.lookup, Sem.run_bind, run_underlying hd, Result.andThen_ok, Sem.run_pure, hck, f1, hz]
              · simp only [execOp, hmv, hkv', Instr.lookup, Sem.run_bind, run_underlying hd, Result.andThen_ok, Sem.run_pure, getObj, Sem.run, hw, hck, f1, hz]
            · subst h7
              cases ok
              · exact hzr φ K
              · exact .tuple _ _ (.cons _ _ _ _ (hzr φ K) (.cons _ _ _ _ (.bool _) .nil))
          · simp only [Option.some.injEq] at h7
            refine ⟨if ok then .tuple #[v', .bool true] else v', ?_, ?_⟩
            · rcases hmm with ⟨rfl, rfl⟩ | ⟨rr, clock, rfl, hw⟩
              · simp only [execOp, hmv, hkv', Instr.lookup, Sem.run_bind, run_underlying hd, Result.andThen_ok, Sem.run_pure, hck, f1]
              · simp only [execOp, hmv, hkv', Instr.lookup, Sem.run_bind, run_underlying hd, Result.andThen_ok, Sem.run_pure, getObj, Sem.run, hw, hck, f1]
            · subst h7
              cases ok
              · exact f2
              · exact .tuple _ _ (.cons _ _ _ _ f2 (.cons _ _ _ _ (.bool _) .nil))
        rcases entries_sound hr h5 hm with ⟨rfl, rfl⟩ | ⟨rr, clock, es', rfl, g1, g2⟩
        · exact run #[] _ (.inl ⟨rfl, rfl⟩) .nil rfl
        · exact run es' _ (.inr ⟨rr, clock, rfl, g1⟩) g2 rfl
    · cases h
  case convert s d y =>
    simp only [trOp, Option.bind_eq_some_iff] at h
    obtain ⟨z, h1, h⟩ := h
    split at h
    · cases h
    · revert h; cases u8 ty _ <;> simp
    · rename_i el hk hk'
      cases hu8 : u8 ty el
      · simp [hu8] at h
      · simp only [hu8, cond_true, Option.some.injEq, LOp.r.injEq] at h
        subst h
        obtain ⟨d1, hd1, hkd1⟩ := kindAt_ok hty hk (by simp)
        obtain ⟨d2, hd2, hkd2⟩ := kindAt_ok hty hk' (by simp)
        cases hkd1; cases hkd2
        have hel : P.underlying el = some (.int .u8) := by
          unfold u8 at hu8
          split at hu8
          · rename_i hk3
            obtain ⟨d3, hd3, hkd3⟩ := kindAt_ok hty hk3 (by simp)
            cases hkd3
            exact hd3
          · cases hu8
        simp only [evalR, Option.bind_eq_some_iff] at hv
        obtain ⟨u, h2, h3⟩ := hv
        have hu := trA_sound hD h1 he h2
        generalize hyv : a.eval y = yv at hu
        have empty : ∀ {q : Option Addr} {c : Nat}, yv = .slice q 0 c → some (LV.str (D.sMk [])) = some v → RDone P γ σ φ K w ⟨dst, .convert s d y, type, pos, after, guard⟩ a v := by
          intro q c hy hv
          cases hv
          refine ⟨.string .empty, ?_, ?_⟩
          · subst hy
            simp only [execOp, hyv, Sem.run_bind, run_convert_bytes_string w s d el q 0 c hd1 hel hd2]
            cases q with
            | none => simp [Conv.bytesToString]
            | some q => rw [run_bytesToString (P := P) w q 0 c [] (by simp [loadCells, loadCellsFrom])]; simp
          · have := VRel.str (γ := γ) (σ := σ) (φ := φ) (K := K) (D.sMk [])
            rw [hD.sMk] at this
            exact this
        cases hu <;> simp only [reduceCtorEq] at h3
        case nils => exact empty rfl h3
        case empty q c => exact empty rfl h3
        case slice b o len cap ex sz cap' hb e1 e2 e3 e4 =>
          split at h3
          · rename_i m c hg
            simp only [Option.bind_eq_some_iff, Option.some.injEq] at h3
            obtain ⟨cs, h4, l, h5, rfl⟩ := h3
            obtain ⟨rfl, hl⟩ := cut_eq _ _ _ _ h4
            obtain ⟨cur, ee, fz, i1, i2, i3, i4, i5, i6, i7⟩ := (hr.obj b _ hg).cells_inv
            have i4' := (i4.drop o).take len
            rw [List.drop_take, List.take_take, List.drop_drop, Nat.min_eq_left (by omega)] at i4'
            have hb := bytesOf_sound h5 i4'
            refine ⟨.string (((l.map γ).foldl (fun r m => r.push (UInt8.ofNat m.toNat)) ByteArray.empty)), ?_, ?_⟩
            · simp only [execOp, hyv, Sem.run_bind, run_convert_bytes_string w s d el _ len cap' hd1 hel hd2]
              rw [run_bytesToString (P := P) w _ len cap' (l.map γ) (by rw [cells_run i1 _ len (by omega), hb])]
              simp
            · rw [foldl_push]
              have := VRel.str (γ := γ) (σ := σ) (φ := φ) (K := K) (D.sMk l)
              rw [hD.sMk] at this
              simpa using this
          · cases h3
    · revert h; cases (u8 ty _ && Nat.beq s d) <;> simp
    · cases h
  case entry y =>
    simp only [trOp, Option.bind_eq_some_iff, Option.some.injEq, LOp.r.injEq] at h
    obtain ⟨z, h1, rfl⟩ := h
    simp only [evalR, Option.bind_eq_some_iff] at hv
    obtain ⟨u, h2, h3⟩ := hv
    have hu := trA_sound hD h1 he h2
    generalize hyv : a.eval y = yv at hu
    cases hu <;> try (simp only [reduceCtorEq] at h3; done)
    rename_i b o hb
    cases o with
    | succ o => simp only [reduceCtorEq] at h3
    | zero =>
      simp only at h3
      split at h3
      · rename_i m since seen stepped hg
        obtain ⟨j0, j1, j2⟩ := (hr.obj b _ hg).iter_inv
        simp only [Option.bind_eq_some_iff, last?_eq] at h3
        obtain ⟨st, h4, h5⟩ := h3
        split at h5
        · rename_i es clock hg2
          cases hc : Nat.beq clock stepped
          · simp [hc] at h5
          · cases Nat.eq_of_beq_eq_true hc
            simp only [hc, cond_true, Option.bind_eq_some_iff, Option.some.injEq] at h5
            obtain ⟨⟨kk, vv⟩, h6, rfl⟩ := h5
            obtain ⟨es', k1, k2⟩ := (hr.obj m _ hg2).map_inv
            obtain ⟨en, e1, e2, e3⟩ := stamped_sound h6 k2
            have e1' : es'.find? (·.born == st) = some en := by rw [← Array.find?_toList]; exact e1
            have hback : (seen.toArray).back? = some st := by simpa using h4
            refine ⟨.tuple #[en.key, en.val], ?_, .tuple _ _ (.cons _ _ _ _ e2 (.cons _ _ _ _ e3 .nil))⟩
            simp only [Option.map_some] at j1
            simp only [execOp, hyv, Instr.entry, j2, Nat.add_zero, Sem.run_bind, getObj, Sem.run, j1, Result.andThen_ok, hback, Sem.run_pure, k1, e1', bne_self_eq_false, Bool.false_eq_true, if_false]
        · cases h5
      · cases h3
  case call c =>
    simp only [trOp, Option.bind_eq_some_iff] at h
    obtain ⟨args, h1, h⟩ := h
    cases hc : c.callee <;> simp only [hc, reduceCtorEq, Option.bind_eq_some_iff, Option.some.injEq, and_false, exists_false] at h
    rename_i b
    unfold trBuiltin at h
    split at h
    · rename_i y
      simp only [Option.bind_eq_some_iff, nth_eq] at h
      obtain ⟨t, h2, h3⟩ := h
      have h2' : c.argTypes[0]? = some t := by simpa using h2
      split at h3 <;> try (cases h3; done)
      rename_i hk
      cases h3
      obtain ⟨d, hd, hkd⟩ := kindAt_ok hty hk (by simp)
      cases hkd
      simp only [evalR, Option.bind_eq_some_iff, Option.some.injEq] at hv
      obtain ⟨u, hu, es, h4, rfl⟩ := hv
      obtain ⟨u', hu', hru⟩ := one_arg (vs' := c.args.map a.eval) (fun vs hvs => by simpa using trAs_sound hD he h1 hvs) hu
      rcases entries_sound hr h4 hru with ⟨rfl, rfl⟩ | ⟨rr, clock, es', rfl, g1, g2⟩
      · refine ⟨_, ?_, goLen_rel hD 0⟩
        simp only [execOp, resolve, hc, Sem.run_bind, Sem.run_pure, Result.andThen_ok, invoke, hu']
        simp [builtin, Builtin.len_, h2', run_underlying hd, goInt]
      · refine ⟨_, ?_, goLen_rel hD es.length⟩
        simp only [execOp, resolve, hc, Sem.run_bind, Sem.run_pure, Result.andThen_ok, invoke, hu']
        have hlen := g2.length
        simp only [Array.length_toList] at hlen
        simp [builtin, Builtin.len_, h2', run_underlying hd, goInt, getObj, Sem.run, g1, hlen]
    · simp only [Option.bind_eq_some_iff] at h
      obtain ⟨t, h2, h3⟩ := h
      split at h3 <;> cases h3
    · cases h
    · cases h
    · simp only [Option.bind_eq_some_iff] at h
      obtain ⟨t, h1, u, h2, h3⟩ := h
      split at h3
      · simp only [Option.bind_eq_some_iff] at h3
        obtain ⟨i, hi, h4⟩ := h3
        split at h4 <;> try (cases h4; done)
        revert h4
        cases u8 ty _ <;> simp
      · cases h3
    · simp only [Option.bind_eq_some_iff] at h
      obtain ⟨t, h1, h3⟩ := h
      split at h3
      · simp only [Option.bind_eq_some_iff] at h3
        obtain ⟨i, hi, h4⟩ := h3
        cases h4
      · cases h3
    · simp only [Option.bind_eq_some_iff] at h
      obtain ⟨t, h1, h3⟩ := h
      split at h3
      · cases h3
      · simp only [Option.bind_eq_some_iff] at h3
        obtain ⟨i, hi, h4⟩ := h3
        cases h4
      · cases h3
    · simp only [Option.bind_eq_some_iff] at h
      obtain ⟨t, h1, h3⟩ := h
      split at h3
      · simp only [Option.bind_eq_some_iff] at h3
        obtain ⟨i, hi, h4⟩ := h3
        cases h4
      · cases h3
    · cases h
  case makeFunc f l c => cases f <;> simp only [trOp, reduceCtorEq, Option.bind_eq_some_iff, Option.some.injEq, and_false, exists_false] at h
  case makeMap t r => cases r <;> simp only [trOp, reduceCtorEq, Option.some.injEq] at h
  case next y s => cases s <;> simp only [trOp, reduceCtorEq, Option.bind_eq_some_iff, Option.some.injEq, and_false, exists_false] at h
  case buildSlice t m parts =>
    simp only [trOp] at h
    split at h <;> simp only [Option.bind_eq_some_iff, reduceCtorEq, Option.some.injEq, and_false, exists_false] at h
  case build t parts =>
    simp only [trOp, Option.bind_eq_some_iff] at h
    obtain ⟨i, hi, h⟩ := h
    split at h <;> simp only [Option.bind_eq_some_iff, reduceCtorEq, Option.some.injEq, and_false, exists_false] at h
  case makeSlice t l c =>
    simp only [trOp] at h
    split at h <;> simp only [Option.bind_eq_some_iff, reduceCtorEq, Option.some.injEq, and_false, exists_false] at h
  case slice t y lo hi mx =>
    simp only [trOp, Option.bind_eq_some_iff] at h
    obtain ⟨y', h1, lo', h2, hi', h3, mx', h4, h⟩ := h
    split at h
    · split at h <;> cases h
    · simp only [Option.bind_eq_some_iff, reduceCtorEq, Option.some.injEq, and_false, exists_false] at h
    · cases h
  case fieldAddr t y f =>
    simp only [trOp, Option.bind_eq_some_iff] at h
    obtain ⟨y', h1, h⟩ := h
    split at h
    · simp only [Option.bind_eq_some_iff] at h
      obtain ⟨fd, h2, i, hi, h⟩ := h
      revert h; cases Nat.beq i.size 0 <;> simp
    · cases h
  case field t y f =>
    simp only [trOp, Option.bind_eq_some_iff] at h
    obtain ⟨y', h1, h⟩ := h
    split at h <;> simp only [Option.bind_eq_some_iff, reduceCtorEq, Option.some.injEq, and_false, exists_false] at h
  case indexAddr t y i =>
    simp only [trOp, Option.bind_eq_some_iff] at h
    obtain ⟨y', h1, i', h2, h⟩ := h
    split at h <;> simp only [Option.bind_eq_some_iff, reduceCtorEq, Option.some.injEq, and_false, exists_false] at h
  case index t y i =>
    simp only [trOp, Option.bind_eq_some_iff] at h
    obtain ⟨y', h1, i', h2, h⟩ := h
    split at h <;> simp only [Option.bind_eq_some_iff, reduceCtorEq, Option.some.injEq, and_false, exists_false] at h
  case mapUpdate t m k v =>
    simp only [trOp, Option.bind_eq_some_iff] at h
    obtain ⟨m', h1, k', h2, v', h3, h⟩ := h
    split at h <;> simp only [Option.bind_eq_some_iff, reduceCtorEq, Option.some.injEq, and_false, exists_false] at h
  case range t y =>
    simp only [trOp, Option.bind_eq_some_iff] at h
    obtain ⟨m', h1, h⟩ := h
    split at h <;> simp only [reduceCtorEq, Option.some.injEq] at h
  all_goals simp only [trOp, Option.bind_eq_some_iff, reduceCtorEq, Option.some.injEq, and_false, exists_false] at h
end
end Go.Proofs.YtohmaikcmaapjaaGreat.LI
