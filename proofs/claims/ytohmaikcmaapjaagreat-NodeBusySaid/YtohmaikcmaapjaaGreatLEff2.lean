/- Maps, their ranges, marks, copies: what the interpreter says of them, the machine does. -/
import Derived.Test.YtohmaikcmaapjaaGreatLEff
namespace Go.Proofs.YtohmaikcmaapjaaGreat.LI
variable {I S : Type}
section
variable {P : Program} {γ : I → Int} {σ : Sg I S} {D : Dom I S} {ty : Nat → Option (TyI I S)} {φ : Phi} {K : Nat → Prop} {w : World} {h : H I S}

theorem EDone.of_value {s : Sem Value} {v : LV I S} {h' : H I S} {φ' : Phi} {v' : Value} {w' : World} (q1 : s.run P w = .ok v' w') (q2 : VRel γ σ φ' h'.ids v v') (q3 : Rel γ σ φ' h' w') (q4 : Goes φ h.ids h.t.get w φ' h'.ids h'.t.get w') :
    EDone P γ σ φ h w (do pure (.value (← s))) v h' := ⟨φ', .value v', v', w', by simp [q1], .inl rfl, q2, q3, q4⟩
theorem EDone.of_unit {s : Sem Unit} {h' : H I S} {φ' : Phi} {w' : World} (q1 : s.run P w = .ok () w') (q3 : Rel γ σ φ' h' w') (q4 : Goes φ h.ids h.t.get w φ' h'.ids h'.t.get w') :
    EDone P γ σ φ h w (do s; pure .skip) .und h' := ⟨φ', .skip, undef, w', by simp [q1], .inr ⟨rfl, rfl⟩, .und, q3, q4⟩

/-- A map or an iterator is written. -/
theorem setObj_run (hr : Rel γ σ φ h w) {b : Nat} {o o' : LObj I S} (hb : h.t.get b = some o) (hw : o.writ = true) (hw' : o'.writ = true) {old new : Obj} (hold : w.heap[(φ b).blk]? = some old) (hc : ∀ c e f, old ≠ .cells c e f)
    (ho : ∀ w' : World, w'.heap[(φ b).blk]? = some new → ORel γ σ φ h.ids w' (φ b) o') :
    ∃ w', (setObj (φ b).blk new).run P w = .ok () w' ∧ Rel γ σ φ { h with t := h.t.set b o' } w' ∧ Goes φ h.ids h.t.get w φ h.ids (h.t.set b o').get w' := by
  have hlt : (φ b).blk < w.heap.size := (Array.getElem?_eq_some_iff.1 hold).1
  have hrun : (setObj (φ b).blk new).run P w = .ok () { w with heap := w.heap.setIfInBounds (φ b).blk new } := by
    simp only [setObj, Sem.run, hold]
    all_goals (cases old <;> first | exact absurd rfl (hc _ _ _) | rfl)
  obtain ⟨r1, r2⟩ := hr.update (w' := { w with heap := w.heap.setIfInBounds (φ b).blk new }) hb hw hw' (by simp) rfl rfl rfl (fun r hne => by simp [Array.getElem?_setIfInBounds_ne (Ne.symm hne)])
    (ho _ (by simp [hlt]))
  exact ⟨_, hrun, r1.congr (fun m => by rw [get_set']), r2.congr (fun m => by rw [get_set'])⟩

theorem dropAt_pos {km : Nat} {k : LV I S} : ∀ {es es2 : List (LV I S × LV I S × Nat)}, dropAt D km k es = some es2 → ∃ p, pos D km k es = some p ∧ es2 = (match p with | some j => es.eraseIdx j | none => es)
  | [], es2, h => by cases h; exact ⟨none, rfl, rfl⟩
  | (j, u, b) :: es, es2, h => by
    simp only [dropAt, Option.bind_eq_some_iff] at h
    obtain ⟨t, h1, h2⟩ := h
    cases t
    · simp only [cond_false, Option.bind_eq_some_iff, Option.some.injEq] at h2
      obtain ⟨l, h3, rfl⟩ := h2
      obtain ⟨p, p1, p2⟩ := dropAt_pos h3
      refine ⟨p.map (· + 1), by simp [pos, h1, p1], ?_⟩
      subst p2
      cases p <;> rfl
    · simp only [cond_true, Option.some.injEq] at h2
      exact ⟨some 0, by simp [pos, h1], by rw [← h2]; rfl⟩
theorem setAt_pos {km : Nat} {k v : LV I S} : ∀ {es : List (LV I S × LV I S × Nat)} {r : Option (List (LV I S × LV I S × Nat))}, setAt D km k v es = some r → ∃ p, pos D km k es = some p ∧
    (p = none → r = none) ∧ (∀ j, p = some j → ∃ e, es[j]? = some e ∧ keyEq D km k e.1 = some true ∧ r = some (es.set j (k, v, e.2.2)))
  | [], r, h => by cases h; exact ⟨none, rfl, fun _ => rfl, fun j h => by cases h⟩
  | (j, u, b) :: es, r, h => by
    simp only [setAt, Option.bind_eq_some_iff] at h
    obtain ⟨t, h1, h2⟩ := h
    cases t
    · simp only [cond_false, Option.bind_eq_some_iff, Option.some.injEq] at h2
      obtain ⟨l, h3, rfl⟩ := h2
      obtain ⟨p, p1, p2, p3⟩ := setAt_pos h3
      refine ⟨p.map (· + 1), by simp [pos, h1, p1], fun hp => by rw [p2 (by simpa using hp)]; rfl, fun i hi => ?_⟩
      simp only [Option.map_eq_some_iff] at hi
      obtain ⟨i', rfl, rfl⟩ := hi
      obtain ⟨e, e1, e2, e3⟩ := p3 i' rfl
      exact ⟨e, by simpa using e1, e2, by rw [e3]; rfl⟩
    · simp only [cond_true, Option.some.injEq] at h2
      exact ⟨some 0, by simp [pos, h1], (fun h => by cases h), (fun i hi => by cases hi; exact ⟨(j, u, b), rfl, h1, h2.symm⟩)⟩
theorem ERel.eraseIdx {es : List (LV I S × LV I S × Nat)} {es' : List MapEntry} (h : ERel γ σ φ K es es') : ∀ j, ERel γ σ φ K (es.eraseIdx j) (es'.eraseIdx j) := by
  induction h with
  | nil => intro j; exact .nil
  | cons k v k' v' b l l' h1 h2 h3 ih =>
    intro j
    cases j with
    | zero => exact h3
    | succ j => exact .cons k v k' v' b _ _ h1 h2 (ih j)
theorem ERel.set {es : List (LV I S × LV I S × Nat)} {es' : List MapEntry} (h : ERel γ σ φ K es es') {k v : LV I S} {k' v' : Value} (hk : VRel γ σ φ K k k') (hv : VRel γ σ φ K v v') : ∀ (j : Nat) (e : LV I S × LV I S × Nat), es[j]? = some e →
    ∃ e', es'[j]? = some e' ∧ VRel γ σ φ K e.1 e'.key ∧ e'.born = e.2.2 ∧ ERel γ σ φ K (es.set j (k, v, e.2.2)) (es'.set j { e' with key := k', val := v' }) := by
  induction h with
  | nil => intro j e he; simp at he
  | cons k0 v0 k0' v0' b l l' h1 h2 h3 ih =>
    intro j e he
    cases j with
    | zero => simp at he; subst he; exact ⟨_, rfl, h1, rfl, .cons _ _ _ _ _ _ _ hk hv h3⟩
    | succ j =>
      obtain ⟨e', q1, q2, q3, q4⟩ := ih j e (by simpa using he)
      exact ⟨e', by simpa using q1, q2, q3, .cons k0 v0 k0' v0' b _ _ h1 h2 q4⟩

theorem sameInts_bits (hD : D.Ok γ σ) (d : Nat) : ∀ {a b : List (LV I S)}, sameInts D a b = some true → ∀ {a' b' : List Value}, VRels γ σ φ K a a' → VRels γ σ φ K b b' → ((b'.zip a').all fun (x, y) => Instr.sameBits d x y) = true ∧ a'.length = b'.length
  | [], [], h, a', b', ha, hb => by cases ha; cases hb; exact ⟨rfl, rfl⟩
  | x :: a, y :: b, h, a', b', ha, hb => by
    cases ha with
    | cons _ x' _ a' h1 h2 =>
    cases hb with
    | cons _ y' _ b' h3 h4 =>
    cases h1 <;> cases h3 <;> simp only [sameInts, reduceCtorEq] at h
    rename_i k i k' i'
    cases hk : kindEq k k'
    · simp [hk] at h
    · cases kindEq_eq hk
      simp only [hk, cond_true, Option.bind_eq_some_iff] at h
      obtain ⟨t, h5, h6⟩ := h
      cases t
      · simp at h6
      · simp only [cond_true] at h6
        have := hD.cmp _ _ _ _ h5
        simp only [goCmp, Option.some.injEq, beq_iff_eq] at this
        obtain ⟨q1, q2⟩ := sameInts_bits hD d h6 h2 h4
        refine ⟨?_, by simp [q2]⟩
        simp only [List.zip_cons_cons, List.all_cons, q1, Bool.and_true]
        cases d <;> simp [Instr.sameBits, this]
  | [], _ :: _, h, _, _, _, _ => by simp [sameInts] at h
  | x :: _, [], h, _, _, _, _ => by cases x <;> simp [sameInts] at h
theorem keyStays (hD : D.Ok γ σ) {km : Nat} {k j : LV I S} (h : keyEq D km k j = some true) {k' j' : Value} (hk : VRel γ σ φ K k k') (hj : VRel γ σ φ K j j') (w : World) : (Instr.keyThatStays j' k').run P w = .ok k' w := by
  have : ∀ d, Instr.sameBits (d + 1) j' k' = true := by
    intro d
    cases km with
    | zero =>
      cases hk <;> cases hj <;> simp only [keyEq, reduceCtorEq] at h
      rename_i k1 a k2 b
      cases hkk : kindEq k1 k2
      · simp [hkk] at h
      · cases kindEq_eq hkk
        simp only [hkk, cond_true] at h
        have := hD.cmp _ _ _ _ h
        simp only [goCmp, Option.some.injEq, beq_iff_eq] at this
        simp [Instr.sameBits, this]
    | succ m =>
      cases hk <;> cases hj <;> simp only [keyEq, sameAgg, reduceCtorEq] at h
      rename_i c c' hc b b' hb
      cases hcc : (Nat.beq (len? c) (m + 1) && Nat.beq (len? b) (m + 1))
      · simp [hcc] at h
      · simp only [hcc, cond_true] at h
        obtain ⟨q1, q2⟩ := sameInts_bits hD d h hc hb
        simp only [Array.length_toList] at q2
        simp only [Instr.sameBits, q2, beq_self_eq_true, Bool.true_and]
        exact q1
  have h2 : Instr.sameBits 10000 j' k' = true := this 9999
  simp only [Instr.keyThatStays, h2, if_true, Sem.run_pure]
end
end Go.Proofs.YtohmaikcmaapjaaGreat.LI
