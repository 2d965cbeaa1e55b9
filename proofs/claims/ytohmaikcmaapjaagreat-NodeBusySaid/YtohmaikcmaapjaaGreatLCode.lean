/- Code, functions, calls. -/
import Derived.Test.YtohmaikcmaapjaaGreatLRange
namespace Go.Proofs.YtohmaikcmaapjaaGreat.LI
variable {I S : Type}
section
variable {P : Program} {γ : I → Int} {σ : Sg I S} {D : Dom I S} {ty : Nat → Option (TyI I S)} {cf : CallF I S}

theorem exec_wp {F : Fence} (hF : Wide F) (n0 : Nat) (hm : P.follows .mixedOrders = true) (hcf : CallOk P γ σ cf) (hD : D.Ok γ σ) (hty : Tys P γ σ ty) (htc : TcOk D ty σ) {inr : Bool} (hround : inr = false → F.round = none) (ntm fuel : Nat) : (c : Code) → (φ : Phi) → (a : Act) → (w : World) → (e : Env I S) → (h : H I S) → ERelE γ σ φ h.ids e.get a.tmps → Rel γ σ φ h w → a.tmps.size = ntm →
    Does F n0 P γ σ c φ h a w (exec D cf fuel (trCode D ty ntm inr c) e h)
  | .skip, φ, a, w, e, h, he, hr, hs => by
    simp only [trCode, exec, Does]
    exact fun Q hQ => wpIn_skip (hQ a w (Good.refl he hr))
  | .region id ops draw, φ, a, w, e, h, he, hr, hs => by
    simp only [trCode]
    cases ht : trReg D ty ntm ops draw with
    | none => simp only [exec, Does]
    | some its =>
      simp only [exec]
      cases hi : items D cf its e h with
      | none => simp only [Does]
      | some p =>
        obtain ⟨e', h'⟩ := p
        simp only [Does]
        intro Q hQ
        refine region_wp hF hm hcf hD hty (hs ▸ ht) he hr hi fun φ' a' w' h1 h2 h3 h4 h5 => ?_
        exact hQ a' w' ⟨⟨φ', h1, h2, h3⟩, h4, .of_eq h5⟩
  | .seq c1 c2, φ, a, w, e, h, he, hr, hs => by
    simp only [trCode, exec]
    have h1 := exec_wp hF n0 hm hcf hD hty htc hround ntm fuel c1 φ a w e h he hr hs
    cases hx : exec D cf fuel (trCode D ty ntm inr c1) e h with
    | fail => simp only [Does]
    | exit id e' h' =>
      rw [hx] at h1
      simp only [Does] at h1 ⊢
      exact fun Q hQ => wpIn_seq (h1 _ hQ)
    | ret e' h' =>
      rw [hx] at h1
      simp only [Does] at h1 ⊢
      exact fun Q hQ => wpIn_seq (h1 _ hQ)
    | normal e1 h1' =>
      rw [hx] at h1
      simp only [Does] at h1 ⊢
      have step : ∀ (Q : Exit → Act → World → Prop), (∀ φ1 a1 w1, ERelE γ σ φ1 h1'.ids e1.get a1.tmps → Rel γ σ φ1 h1' w1 → Goes φ h.ids h.t.get w φ1 h1'.ids h1'.t.get w1 → a1.tmps.size = a.tmps.size → Marks w a.defers a1.defers w1 → c2.wpIn F n0 P Q a1 w1) → (Code.seq c1 c2).wpIn F n0 P Q a w := by
        intro Q hQ
        refine wpIn_seq (h1 _ fun a1 w1 g => ?_)
        obtain ⟨⟨φ1, q1, q2, q3⟩, s, d⟩ := g
        exact hQ φ1 a1 w1 q1 q2 q3 s d
      have rec2 := fun φ1 a1 w1 q1 q2 s => exec_wp hF n0 hm hcf hD hty htc hround ntm fuel c2 φ1 a1 w1 e1 h1' q1 q2 s
      cases hy : exec D cf fuel (trCode D ty ntm inr c2) e1 h1' with
      | fail => trivial
      | normal e2 h2 =>
        exact fun Q hQ => step Q fun φ1 a1 w1 q1 q2 q3 s d => by
          have := rec2 φ1 a1 w1 q1 q2 (s.trans hs)
          rw [hy] at this
          exact this Q fun a2 w2 g => hQ a2 w2 (Good.trans hr q2 q3 s d g)
      | exit id e2 h2 =>
        exact fun Q hQ => step Q fun φ1 a1 w1 q1 q2 q3 s d => by
          have := rec2 φ1 a1 w1 q1 q2 (s.trans hs)
          rw [hy] at this
          exact this Q fun a2 w2 g => hQ a2 w2 (Good.trans hr q2 q3 s d g)
      | ret e2 h2 =>
        exact fun Q hQ => step Q fun φ1 a1 w1 q1 q2 q3 s d => by
          have := rec2 φ1 a1 w1 q1 q2 (s.trans hs)
          rw [hy] at this
          exact this Q fun a2 w2 g => hQ a2 w2 (Good.trans hr q2 q3 s d g)
  | .cond c c1 c2, φ, a, w, e, h, he, hr, hs => by
    simp only [trCode]
    cases hc : trA D c with
    | none => simp only [exec, Does]
    | some c' =>
      simp only [exec]
      cases hv : ev e.get c' with
      | none => simp only [Does]
      | some v =>
        have hcv := trA_sound hD hc he hv
        cases v <;> (try (simp only [Does]; done))
        rename_i b
        generalize hx : a.eval c = x at hcv
        cases hcv
        cases b
        · simp only
          have h1 := exec_wp hF n0 hm hcf hD hty htc hround ntm fuel c2 φ a w e h he hr hs
          cases ho : exec D cf fuel (trCode D ty ntm inr c2) e h <;> rw [ho] at h1 <;> simp only [Does] at h1 ⊢ <;> exact fun Q hQ => wpIn_cond_false hx (h1 Q hQ)
        · simp only
          have h1 := exec_wp hF n0 hm hcf hD hty htc hround ntm fuel c1 φ a w e h he hr hs
          cases ho : exec D cf fuel (trCode D ty ntm inr c1) e h <;> rw [ho] at h1 <;> simp only [Does] at h1 ⊢ <;> exact fun Q hQ => wpIn_cond_true hx (h1 Q hQ)
  | .block id c, φ, a, w, e, h, he, hr, hs => by
    simp only [trCode, exec]
    have h1 := exec_wp hF n0 hm hcf hD hty htc hround ntm fuel c φ a w e h he hr hs
    cases ho : exec D cf fuel (trCode D ty ntm inr c) e h with
    | fail => trivial
    | normal e' h' =>
      rw [ho] at h1
      exact fun Q hQ => wpIn_block (h1 _ fun a' w' g => hQ a' w' g)
    | ret e' h' =>
      rw [ho] at h1
      exact fun Q hQ => wpIn_block (h1 _ fun a' w' g => hQ a' w' g)
    | exit j e' h' =>
      rw [ho] at h1
      simp only
      cases hj : Nat.beq j id with
      | true =>
        cases Nat.eq_of_beq_eq_true hj
        simp only [cond_true]
        exact fun Q hQ => wpIn_block (h1 _ fun a' w' g => by simp only [Exit.inBlock, if_true]; exact hQ a' w' g)
      | false =>
        simp only [cond_false]
        have hne : ¬ j = id := fun he => by rw [he, Nat.beq_refl] at hj; cases hj
        exact fun Q hQ => wpIn_block (h1 _ fun a' w' g => by simp only [Exit.inBlock, if_neg hne]; exact hQ a' w' g)
  | .loop c, φ, a, w, e, h, he, hr, hs => by
    simp only [trCode, exec]
    have body := fun φ a w e h he hr hs => exec_wp hF n0 hm hcf hD hty htc hround ntm fuel c φ a w e h he hr hs
    have key : ∀ (n : Nat) (φ : Phi) (a : Act) (w : World) (e : Env I S) (h : H I S), ERelE γ σ φ h.ids e.get a.tmps → Rel γ σ φ h w → a.tmps.size = ntm →
        match loopN (exec D cf fuel (trCode D ty ntm inr c)) n e h with
        | .normal _ _ => True
        | .exit id e' h' => ∀ Q : Exit → Act → World → Prop, (∀ a' w', Good γ σ φ h a w e' h' a' w' → Q (.exit id) a' w') → Code.roundsIn F n0 P c Q n a w
        | .ret e' h' => ∀ Q : Exit → Act → World → Prop, (∀ a' w', Good γ σ φ h a w e' h' a' w' → Q .ret a' w') → Code.roundsIn F n0 P c Q n a w
        | .fail => True := by
      intro n
      induction n with
      | zero => intro φ a w e h _ _ _; simp only [loopN]
      | succ n ih =>
        intro φ a w e h he hr hs
        simp only [loopN]
        have h1 := body φ a w e h he hr hs
        cases ho : exec D cf fuel (trCode D ty ntm inr c) e h with
        | fail => simp only
        | exit id e' h' =>
          rw [ho] at h1
          simp only
          intro Q hQ
          rw [roundsIn_succ]
          exact h1 _ hQ
        | ret e' h' =>
          rw [ho] at h1
          simp only
          intro Q hQ
          rw [roundsIn_succ]
          exact h1 _ hQ
        | normal e1 h1' =>
          rw [ho] at h1
          simp only
          have rec2 := fun φ1 a1 w1 q1 q2 s => ih φ1 a1 w1 e1 h1' q1 q2 s
          cases hy : loopN (exec D cf fuel (trCode D ty ntm inr c)) n e1 h1' with
          | fail => simp only
          | normal _ _ => simp only
          | exit id e2 h2 =>
            simp only
            intro Q hQ
            rw [roundsIn_succ]
            refine h1 _ fun a1 w1 g => ?_
            obtain ⟨⟨φ1, q1, q2, q3⟩, s, d⟩ := g
            have := rec2 φ1 a1 w1 q1 q2 (s.trans hs)
            rw [hy] at this
            exact this Q fun a2 w2 g => hQ a2 w2 (Good.trans hr q2 q3 s d g)
          | ret e2 h2 =>
            simp only
            intro Q hQ
            rw [roundsIn_succ]
            refine h1 _ fun a1 w1 g => ?_
            obtain ⟨⟨φ1, q1, q2, q3⟩, s, d⟩ := g
            have := rec2 φ1 a1 w1 q1 q2 (s.trans hs)
            rw [hy] at this
            exact this Q fun a2 w2 g => hQ a2 w2 (Good.trans hr q2 q3 s d g)
    have nonorm : ∀ (n : Nat) (e : Env I S) (h : H I S) e' h', loopN (exec D cf fuel (trCode D ty ntm inr c)) n e h ≠ .normal e' h' := by
      intro n
      induction n with
      | zero => intro e h e' h' hx; simp only [loopN, reduceCtorEq] at hx
      | succ n ih =>
        intro e h e' h' hx
        simp only [loopN] at hx
        cases ho : exec D cf fuel (trCode D ty ntm inr c) e h with
        | normal e1 h1 => rw [ho] at hx; exact ih _ _ _ _ hx
        | fail => rw [ho] at hx; cases hx
        | exit _ _ _ => rw [ho] at hx; cases hx
        | ret _ _ => rw [ho] at hx; cases hx
    have hk := key fuel φ a w e h he hr hs
    cases hy : loopN (exec D cf fuel (trCode D ty ntm inr c)) fuel e h with
    | fail => trivial
    | normal e' h' => exact absurd hy (nonorm _ _ _ _ _)
    | exit id e' h' => rw [hy] at hk; exact fun Q hQ => wpIn_loop_rounds fuel (hk Q hQ)
    | ret e' h' => rw [hy] at hk; exact fun Q hQ => wpIn_loop_rounds fuel (hk Q hQ)
  | .exit id, φ, a, w, e, h, he, hr, hs => by
    simp only [trCode, exec, Does]
    exact fun Q hQ => wpIn_exit (hQ a w (Good.refl he hr))
  | .ret, φ, a, w, e, h, he, hr, hs => by
    simp only [trCode, exec, Does]
    exact fun Q hQ => wpIn_ret (hQ a w (Good.refl he hr))
  | .rangeFunc g ps c1 c2, φ, a, w, e, h, he, hr, hs => by
    simp only [trCode]
    cases inr with
    | true => simp only [cond_true, exec, Does]
    | false =>
      simp only [cond_false]
      cases hg : trA D g with
      | none => simp only [exec, Does]
      | some g' =>
        simp only
        cases hps : allB (fun p => Nat.blt p ntm) ps.toList with
        | false => simp only [cond_false, exec, Does]
        | true =>
          simp only [cond_true]
          exact rangef_wp hF (hround rfl) n0 hcf hD htc ntm fuel hg hps c1 c2 he hr hs
  | .scope .., _, _, _, _, _, _, _, _ => trivial
  | .label .., _, _, _, _, _, _, _, _ => trivial
  | .goto .., _, _, _, _, _, _, _, _ => trivial
  | .refuse .., _, _, _, _, _, _, _, _ => trivial

def resOne (tmps : Array Value) : ResultVar → Sem Value
  | .tmp t => pure (tmps.getD t undef)
  | .cell a t => do loadVar t (← asAddr (tmps.getD a undef))
theorem resVs_sound (hD : D.Ok γ σ) (hty : Tys P γ σ ty) {φ : Phi} {h : H I S} {w : World} (hr : Rel γ σ φ h w) {e : Env I S} {tmps : Array Value} (he : ERelE γ σ φ h.ids e.get tmps) : ∀ {l : List ResultVar} {rs : List LRes} {vs : List (LV I S)}, trRes ty l = some rs → resVs D e h rs = some vs →
    ∃ vs', (l.mapM (resOne tmps)).run P w = .ok vs' w ∧ VRels γ σ φ h.ids vs vs'
  | [], rs, vs, h1, h2 => by
    simp only [trRes, Option.some.injEq] at h1
    subst h1
    simp only [resVs, Option.some.injEq] at h2
    subst h2
    exact ⟨[], by simp [List.mapM_nil], .nil⟩
  | .tmp t :: l, rs, vs, h1, h2 => by
    simp only [trRes, Option.bind_eq_some_iff, Option.some.injEq] at h1
    obtain ⟨rs', h1, rfl⟩ := h1
    simp only [resVs, resV, Option.bind_eq_some_iff, Option.some.injEq] at h2
    obtain ⟨v, h3, vs', h4, rfl⟩ := h2
    obtain ⟨vs'', h5, h6⟩ := resVs_sound hD hty hr he h1 h4
    refine ⟨tmps.getD t undef :: vs'', ?_, .cons _ _ _ _ (he t v h3) h6⟩
    simp only [List.mapM_cons, Sem.run_bind, Sem.run_pure, Result.andThen_ok, resOne, h5]
  | .cell c t :: l, rs, vs, h1, h2 => by
    simp only [trRes, Option.bind_eq_some_iff, Option.some.injEq] at h1
    obtain ⟨i, hi, rs', h1, rfl⟩ := h1
    simp only [resVs, resV, Option.bind_eq_some_iff, Option.some.injEq] at h2
    obtain ⟨v, h3, vs', h4, rfl⟩ := h2
    obtain ⟨vs'', h5, h6⟩ := resVs_sound hD hty hr he h1 h4
    obtain ⟨v', hrun, hv⟩ := rSound (w := w) (o := { dst := none, op := .load t (.tmp c), type := t, pos := "", after := #[], guard := none }) (x := .load i.agg i.size (.tmp c)) (a := { tmps, defers := [] }) hD hty (by simp [trOp, hi, trA]) he hr h3
    refine ⟨v' :: vs'', ?_, .cons _ _ _ _ hv h6⟩
    simp only [evalR, ev, Option.bind_eq_some_iff] at h3
    obtain ⟨p, hp, h3⟩ := h3
    cases p <;> simp only [reduceCtorEq] at h3
    rename_i pb po
    have hpr := he c _ hp
    generalize hx : tmps.getD c undef = x at hpr
    cases hpr
    have hrun' : ((do pure (.value (← Instr.loadAt t (tmps.getD c undef)))) : Sem Next).run P w = .ok (.value v') w := hrun
    rw [hx] at hrun'
    simp only [Instr.loadAt, Instr.sureAddr, Sem.run_bind, Sem.run_pure, Result.andThen_ok] at hrun'
    have hl : (loadVar t ⟨(φ pb).blk, (φ pb).off + po, none⟩).run P w = .ok v' w := by
      revert hrun'
      generalize (loadVar t _).run P w = r
      intro hrun'
      cases r with
      | ok y w' =>
        simp only [Result.andThen_ok, Sem.run_pure, Result.ok.injEq, Next.value.injEq] at hrun'
        rw [hrun'.1, hrun'.2]
      | halt y w' => simp [Result.andThen] at hrun'
    simp only [List.mapM_cons, Sem.run_bind, Sem.run_pure, Result.andThen_ok, resOne, hx, asAddr, hl, h5]

theorem finish_sound (hD : D.Ok γ σ) (hty : Tys P γ σ ty) {φ : Phi} {h h' : H I S} {w : World} (hr : Rel γ σ φ h w) {e : Env I S} {tmps : Array Value} (he : ERelE γ σ φ h.ids e.get tmps) {fn : Func} {rs : List LRes} (hrs : trRes ty fn.results.toList = some rs)
    {v : LV I S} (hf : finish D e h rs = some (v, h')) : h' = h ∧ ∃ v', (results fn tmps).run P w = .ok v' w ∧ VRel γ σ φ h.ids v v' := by
  simp only [finish, Option.bind_eq_some_iff] at hf
  obtain ⟨vs, h1, h2⟩ := hf
  obtain ⟨vs', h3, h4⟩ := resVs_sound hD hty hr he hrs h1
  have hrun : (results fn tmps).run P w = .ok (if h : vs'.toArray.size = 1 then vs'.toArray[0] else .tuple vs'.toArray) w := by
    show (do let vs ← fn.results.mapM (resOne tmps); pure (if h : vs.size = 1 then vs[0] else .tuple vs) : Sem Value).run P w = _
    rw [Array.mapM_eq_mapM_toList]
    simp only [map_eq_pure_bind, Sem.run_bind, h3, Result.andThen_ok, Sem.run_pure]
  split at h2
  · rename_i u
    cases h2
    cases h4 with
    | cons _ u' _ l' q1 q2 =>
      cases q2
      exact ⟨rfl, u', hrun, q1⟩
  · rename_i hne
    cases h2
    refine ⟨rfl, .tuple vs'.toArray, ?_, .tuple _ _ (by simpa using h4)⟩
    rw [hrun, dif_neg]
    intro hs
    have hl := h4.length
    simp only [List.size_toArray] at hs
    match vs, hl with
    | [], hl => simp [← hl] at hs
    | [u], _ => exact hne u rfl
    | _ :: _ :: _, hl => simp [← hl] at hs

/-- The functions are the program's own. -/
def FnOk (P : Program) (D : Dom I S) (ty : Nat → Option (TyI I S)) (fn : Nat → Option (LFunc I S)) : Prop :=
  ∀ (f : Nat) (lf : LFunc I S), fn f = some lf → ∃ fnc, P.funcs[f]? = some fnc ∧ (∀ (args : Array Value) (w : World), (callFunc f args).run P w = .ok (.enter f args) w) ∧ trFunc D ty fnc = some lf
/-- One call's contract. -/
def CallDoes (P : Program) (γ : I → Int) (σ : Sg I S) (f : Nat) (args : List (LV I S)) (h : H I S) (v : LV I S) (h' : H I S) : Prop :=
  h.next ≤ h'.next ∧ ∀ (φ : Phi) (w : World) (args' : Array Value), Rel γ σ φ h w → VRels γ σ φ h.ids args args'.toList →
    ∃ nx w1, (callFunc f args').run P w = .ok nx w1 ∧
      ((∃ v', nx = .value v' ∧ Post γ σ φ h w v h' v' w1) ∨ (∃ g as, nx = .enter g as ∧ Calls P g as w1 fun e w'' => ∃ v', e = .returned v' ∧ Post γ σ φ h w v h' v' w''))
def OvOk (P : Program) (γ : I → Int) (σ : Sg I S) (ov : Over I S) : Prop := ∀ f args h v h', ov f args h = some (some (v, h')) → CallDoes P γ σ f args h v h'

theorem enter_rel {φ : Phi} {K : Nat → Prop} : ∀ (l : List (LV I S)) (l' : List Value) (n : Nat) (e : Env I S) (tmps : Array Value), VRels γ σ φ K l l' → ERelE γ σ φ K e.get tmps → (∀ (i : Nat) (v : Value), l'[i]? = some v → tmps.getD (n + i) undef = v) →
    ERelE γ σ φ K (enter n l e).get tmps
  | [], l', n, e, tmps, h, he, hl => by simpa only [enter] using he
  | v :: l, l', n, e, tmps, h, he, hl => by
    cases h with
    | cons _ v' _ l' h1 h2 =>
    simp only [enter]
    refine enter_rel l l' n.succ (e.set n v) tmps h2 ?_ fun i u hi => by rw [← hl (i + 1) u (by simpa using hi)]; congr 1; omega
    intro t u hu
    rw [Tr.get_set] at hu
    by_cases ht : t = n
    · rw [if_pos ht] at hu; cases hu
      rw [ht, ← Nat.add_zero n, hl 0 v' rfl]; exact h1
    · rw [if_neg ht] at hu; exact he t u hu

theorem exec_next (hcf : CallOk P γ σ cf) (fuel : Nat) : (c : LCode I S) → (e : Env I S) → (h : H I S) → match exec D cf fuel c e h with
    | .normal _ h' => h.next ≤ h'.next
    | .exit _ _ h' => h.next ≤ h'.next
    | .ret _ h' => h.next ≤ h'.next
    | .fail => True := by
  have hitems : ∀ (is : List (LItem I S)) (e : Env I S) (h : H I S) e' h', items D cf is e h = some (e', h') → h.next ≤ h'.next := by
    intro is
    induction is with
    | nil => intro e h e' h' hi; simp only [items, Option.some.injEq, Prod.mk.injEq] at hi; rw [hi.2]; exact Nat.le_refl _
    | cons x r ih =>
      intro e h e' h' hi
      simp only [items, Option.bind_eq_some_iff] at hi
      obtain ⟨⟨e1, h1⟩, ho, hi⟩ := hi
      obtain ⟨_, hi⟩ := cond_some hi
      refine Nat.le_trans ?_ (ih _ _ _ _ hi)
      simp only [oper, Option.bind_eq_some_iff] at ho
      obtain ⟨b, hb, ho⟩ := ho
      cases b
      · simp only [cond_false, Option.some.injEq, Prod.mk.injEq] at ho; rw [ho.2]; exact Nat.le_refl _
      · simp only [cond_true, Option.bind_eq_some_iff, Option.some.injEq, Prod.mk.injEq] at ho
        obtain ⟨⟨v, h2⟩, hs, _, rfl⟩ := ho
        exact step_next hcf hs
  intro c
  induction c with
  | skip => intro e h; exact Nat.le_refl _
  | region is =>
    intro e h
    simp only [exec]
    cases hi : items D cf is e h with
    | none => trivial
    | some p => exact hitems _ _ _ _ _ hi
  | seq a b iha ihb =>
    intro e h
    simp only [exec]
    have h1 := iha e h
    cases hx : exec D cf fuel a e h with
    | normal e1 h1' =>
      rw [hx] at h1
      have h2 := ihb e1 h1'
      simp only at h1 ⊢
      cases hy : exec D cf fuel b e1 h1' <;> rw [hy] at h2 <;> first | trivial | exact Nat.le_trans h1 h2
    | exit _ _ _ => rw [hx] at h1; exact h1
    | ret _ _ => rw [hx] at h1; exact h1
    | fail => trivial
  | cond c a b iha ihb =>
    intro e h
    simp only [exec]
    split <;> rename_i heq
    · split at heq <;> first | exact (by have := iha e h; rw [heq] at this; exact this) | exact (by have := ihb e h; rw [heq] at this; exact this) | cases heq
    · split at heq <;> first | exact (by have := iha e h; rw [heq] at this; exact this) | exact (by have := ihb e h; rw [heq] at this; exact this) | cases heq
    · split at heq <;> first | exact (by have := iha e h; rw [heq] at this; exact this) | exact (by have := ihb e h; rw [heq] at this; exact this) | cases heq
    · trivial
  | block id a iha =>
    intro e h
    simp only [exec]
    have h1 := iha e h
    cases hx : exec D cf fuel a e h with
    | exit j e1 h1' =>
      rw [hx] at h1
      simp only
      cases Nat.beq j id <;> exact h1
    | normal _ _ => rw [hx] at h1; exact h1
    | ret _ _ => rw [hx] at h1; exact h1
    | fail => trivial
  | loop a iha =>
    intro e h
    simp only [exec]
    have : ∀ (n : Nat) (e : Env I S) (h : H I S), match loopN (exec D cf fuel a) n e h with
        | .normal _ h' => h.next ≤ h'.next
        | .exit _ _ h' => h.next ≤ h'.next
        | .ret _ h' => h.next ≤ h'.next
        | .fail => True := by
      intro n
      induction n with
      | zero => intro e h; trivial
      | succ n ih =>
        intro e h
        simp only [loopN]
        have h1 := iha e h
        cases hx : exec D cf fuel a e h with
        | normal e1 h1' =>
          rw [hx] at h1
          have h2 := ih e1 h1'
          simp only at h1 ⊢
          cases hy : loopN (exec D cf fuel a) n e1 h1' <;> rw [hy] at h2 <;> first | trivial | exact Nat.le_trans h1 h2
        | exit _ _ _ => rw [hx] at h1; exact h1
        | ret _ _ => rw [hx] at h1; exact h1
        | fail => trivial
    exact this fuel e h
  | exit id => intro e h; exact Nat.le_refl _
  | ret => intro e h; exact Nat.le_refl _
  | rangef f ps assign body _ _ =>
    intro e h
    simp only [exec]
    cases hv : ev e.get f with
    | none => trivial
    | some v =>
    cases v <;> (try (trivial; done))
    rename_i g first cap
    cases first with
    | cons _ _ => trivial
    | nil =>
    simp only
    cases hc : cf (.iter g) (.yield h.next :: cap) (newB h (.loop ⟨0, e, ps, assign, body, none⟩)) with
    | none => trivial
    | some p =>
    have h1 : h.next + 1 ≤ p.2.next := (hcf _ _ _ _ _ hc).1
    have h2 : h.next ≤ p.2.next := by omega
    obtain ⟨v1, h1'⟩ := p
    simp only at h2 ⊢
    cases hb : h1'.t.get h.next with
    | none => trivial
    | some o =>
    cases o <;> (try (trivial; done))
    rename_i l
    simp only [behind]
    cases hst : Nat.beq l.st 1 with
    | true => trivial
    | false =>
    simp only [cond_false]
    cases hp : l.pend with
    | none => exact h2
    | some j => cases j <;> exact h2
  | no => intro e h; trivial

theorem call1_next {cf : CallF I S} (hcf : CallOk P γ σ cf) {fn : Nat → Option (LFunc I S)} {fuel f : Nat} {args : List (LV I S)} {h h' : H I S} {v : LV I S} (hc : call1 D fn cf fuel f args h = some (v, h')) : h.next ≤ h'.next := by
  unfold call1 at hc
  cases hf : fn f with
  | none => rw [hf] at hc; cases hc
  | some lf =>
    rw [hf] at hc
    simp only at hc
    obtain ⟨_, hc⟩ := cond_some hc
    have hnext := exec_next (D := D) hcf fuel lf.body (enter 0 args .leaf) h
    cases hx : exec D cf fuel lf.body (enter 0 args .leaf) h with
    | normal e1 h1' =>
      rw [hx] at hnext hc
      simp only [finish, Option.bind_eq_some_iff] at hc
      obtain ⟨vs, _, hc⟩ := hc
      split at hc <;> cases hc <;> exact hnext
    | ret e1 h1' =>
      rw [hx] at hnext hc
      simp only [finish, Option.bind_eq_some_iff] at hc
      obtain ⟨vs, _, hc⟩ := hc
      split at hc <;> cases hc <;> exact hnext
    | exit _ _ _ => rw [hx] at hc; cases hc
    | fail => rw [hx] at hc; cases hc
theorem ends_some {h h' : H I S} {b st : Nat} {pend : Option (Option Nat)} {t : Bool} {v : LV I S} (he : ends h b st pend t = some (v, h')) : ∃ l, h.t.get b = some (.loop l) ∧ v = .bool t ∧ h' = { h with t := h.t.set b (.loop { l with st := st, pend := pend }) } := by
  unfold ends at he
  split at he
  · rename_i l hl; cases he; exact ⟨l, hl, rfl, rfl⟩
  · cases he

/-- A function, by its code. -/
theorem call1_ok (hm : P.follows .mixedOrders = true) (hD : D.Ok γ σ) (hty : Tys P γ σ ty) (htc : TcOk D ty σ) {fn : Nat → Option (LFunc I S)} (hfn : FnOk P D ty fn) {cf : CallF I S} (hcf : CallOk P γ σ cf) {fuel f : Nat} {args : List (LV I S)} {h h' : H I S} {v : LV I S}
    (hc : call1 D fn cf fuel f args h = some (v, h')) {φ : Phi} {w : World} {args' : Array Value} (hr : Rel γ σ φ h w) (hargs : VRels γ σ φ h.ids args args'.toList) :
    (callFunc f args').run P w = .ok (.enter f args') w ∧ Calls P f args' w fun e w'' => ∃ v', e = .returned v' ∧ Post γ σ φ h w v h' v' w'' := by
  unfold call1 at hc
  cases hf : fn f with
  | none => rw [hf] at hc; cases hc
  | some lf =>
    rw [hf] at hc
    simp only at hc
    obtain ⟨hlen, hc⟩ := cond_some hc
    rw [len?_eq] at hlen
    have hlen := Nat.le_of_ble_eq_true hlen
    obtain ⟨fnc, h1, h2, h3⟩ := hfn f lf hf
    simp only [trFunc, Option.bind_eq_some_iff, Option.some.injEq] at h3
    obtain ⟨c, hb, rs, hrs, rfl⟩ := h3
    simp only at hc hlen
    refine ⟨h2 args' w, ?_⟩
    have hal : args'.size = args.length := by have := hargs.length; simpa using this.symm
    have he : ERelE γ σ φ h.ids (enter 0 args (.leaf : Env I S)).get (args' ++ Array.replicate (fnc.ntmps - args'.size) undef) := by
      refine enter_rel args args'.toList 0 .leaf _ hargs (fun t v hv => by simp only [Tr.get_leaf, reduceCtorEq] at hv) fun i v hi => ?_
      have hi' : args'[i]? = some v := by simpa using hi
      have hlt := (Array.getElem?_eq_some_iff.1 hi').1
      rw [Nat.zero_add, Array.getD_eq_getD_getElem?, Array.getElem?_append, if_pos hlt, hi']; rfl
    have hdo := exec_wp (F := Fence.wide) ⟨none, rfl⟩ 0 hm hcf hD hty htc (inr := false) (fun _ => rfl) fnc.ntmps fuel c φ { tmps := args' ++ Array.replicate (fnc.ntmps - args'.size) undef, defers := [] } w (enter 0 args .leaf) h he hr (by simp; omega)
    have done : ∀ (e1 : Env I S) (h1' : H I S) (a' : Act) (w' : World), finish D e1 h1' rs = some (v, h') → Good γ σ φ h { tmps := args' ++ Array.replicate (fnc.ntmps - args'.size) undef, defers := [] } w e1 h1' a' w' →
        LeavesInM Fence.wide 0 P fnc a'.tmps (fun e w'' => ∃ v', e = .returned v' ∧ Post γ σ φ h w v h' v' w'') a'.defers .returning w' := by
      intro e1 h1' a' w' hfin g
      obtain ⟨⟨φ', q1, q2, q3⟩, s, ms, hd, hn, hms⟩ := g
      rw [hd, List.append_nil]
      refine leaves_marks ms w' hn (fun r hr => (hms r hr).2) fun w'' ho => ?_
      have q2' := ho.rel q2 fun r hr => (hms r hr).2
      have q3' := ho.goes q3 fun r hr => (hms r hr).1
      obtain ⟨rfl, v', hres, hv⟩ := finish_sound hD hty q2' q1 hrs hfin
      exact ⟨v', hres, v', rfl, φ', hv, q2', q3'⟩
    refine callsIn_wide (n := 0).1 (callsIn_of_wp_marks h1 hb trivial ?_ rfl)
    cases hx : exec D cf fuel (trCode D ty fnc.ntmps false c) (enter 0 args .leaf) h with
    | normal e1 h1' =>
      rw [hx] at hc hdo
      exact hdo _ fun a' w' g => done _ _ _ _ hc g
    | ret e1 h1' =>
      rw [hx] at hc hdo
      exact hdo _ fun a' w' g => done _ _ _ _ hc g
    | exit _ _ _ => rw [hx] at hc; cases hc
    | fail => rw [hx] at hc; cases hc

theorem puts_rel {φ : Phi} {K : Nat → Prop} : ∀ (ps : List Nat) (l : List (LV I S)) (l' : List Value) (e : Env I S) (tmps : Array Value), VRels γ σ φ K l l' → ERelE γ σ φ K e.get tmps → (∀ p ∈ ps, p < tmps.size) →
    ERelE γ σ φ K (puts ps l e).get ((ps.zip l').foldl (fun t p => t.setIfInBounds p.1 p.2) tmps) ∧ ((ps.zip l').foldl (fun t p => t.setIfInBounds p.1 p.2) tmps).size = tmps.size
  | [], l, l', e, tmps, _, he, _ => by
    simp only [puts, List.zip_nil_left, List.foldl_nil, and_true]; exact he
  | p :: ps, [], l', e, tmps, h, he, _ => by
    cases h
    simp only [puts, List.zip_nil_right, List.foldl_nil, and_true]; exact he
  | p :: ps, v :: l, l', e, tmps, h, he, hp => by
    cases h with
    | cons _ v' _ l' h1 h2 =>
    simp only [puts, List.zip_cons_cons, List.foldl_cons]
    have := puts_rel ps l l' (e.set p v) (tmps.setIfInBounds p v') h2 (he.set (hp p (by simp)) h1 fun t => Tr.get_set e p t v) fun q hq => by simpa using hp q (by simp [hq])
    simpa using this

/-- A round. -/
theorem round_ok (hm : P.follows .mixedOrders = true) (hD : D.Ok γ σ) (hty : Tys P γ σ ty) (htc : TcOk D ty σ) {cf : CallF I S} (hcf : CallOk P γ σ cf) {fuel b : Nat} {args : List (LV I S)} {h h' : H I S} {v : LV I S} (hc : round D cf fuel b args h = some (v, h')) : h.next ≤ h'.next ∧
    ∀ (φ : Phi) (w : World) (args' : Array Value), Rel γ σ φ h w → VRels γ σ φ h.ids args args'.toList → ∀ (F : Fence) (n : Nat), Wide F → ∃ fn tmps assign body, (Instr.yield (φ b).blk args').run P w = .ok (.round (φ b).blk fn tmps assign body) w ∧
        RoundIn F n P (φ b).blk fn tmps assign body w fun e w'' => ∃ v', e = .returned v' ∧ Post γ σ φ h w v h' v' w'' := by
  unfold round at hc
  split at hc
  next l hl =>
    obtain ⟨hlen, hc⟩ := cond_some hc
    split at hc
    next e1 h1 hx =>
      unfold roundB at hc
      split at hc
      next l1 hl1 =>
        obtain ⟨hst, hc⟩ := cond_some hc
        have hst := Nat.eq_of_beq_eq_true hst
        have hn1 := exec_next (D := D) hcf fuel l.assign (puts l.ps args l.env) h
        rw [hx] at hn1
        have hn2 := exec_next (D := D) hcf fuel l.body e1 { h1 with t := h1.t.set b (.loop { l1 with st := 1 }) }
        -- the round's end, whichever
        have fin : ∃ (o : Out I S) (e2 : Env I S) (h2 : H I S) (st : Nat) (pend : Option (Option Nat)) (t : Bool), exec D cf fuel l.body e1 { h1 with t := h1.t.set b (.loop { l1 with st := 1 }) } = o ∧ ends h2 b st pend t = some (v, h') ∧
            ((o = .normal e2 h2 ∧ st = 0 ∧ pend = none ∧ t = true) ∨ (o = .ret e2 h2 ∧ st = 2 ∧ pend = some none ∧ t = false) ∨ (∃ id, o = .exit id e2 h2 ∧ st = 2 ∧ pend = some (some id) ∧ t = false)) := by
          cases hy : exec D cf fuel l.body e1 { h1 with t := h1.t.set b (.loop { l1 with st := 1 }) } with
          | fail => rw [hy] at hc; cases hc
          | normal e2 h2 => rw [hy] at hc; exact ⟨_, e2, h2, _, _, _, rfl, hc, .inl ⟨rfl, rfl, rfl, rfl⟩⟩
          | ret e2 h2 => rw [hy] at hc; exact ⟨_, e2, h2, _, _, _, rfl, hc, .inr (.inl ⟨rfl, rfl, rfl, rfl⟩)⟩
          | exit id e2 h2 => rw [hy] at hc; exact ⟨_, e2, h2, _, _, _, rfl, hc, .inr (.inr ⟨id, rfl, rfl, rfl, rfl⟩)⟩
        obtain ⟨o, e2, h2, st, pend, t, hy, hends, hcase⟩ := fin
        obtain ⟨l2, hl2, rfl, rfl⟩ := ends_some hends
        have hn3 : h1.next ≤ h2.next := by
          rw [hy] at hn2
          rcases hcase with ⟨rfl, _⟩ | ⟨rfl, _⟩ | ⟨id, rfl, _⟩ <;> exact hn2
        refine ⟨Nat.le_trans hn1 hn3, fun φ w args' hr hargs F n hF => ?_⟩
        obtain ⟨r, hheap, hlr, _⟩ := loop_set P hr hl
        have hal : args'.size = r.params.size := by
          have h1 := hargs.length
          rw [len?_eq] at hlen
          have h2 := Nat.eq_of_beq_eq_true hlen
          rw [← hlr.ps] at h2
          simp only [Array.length_toList] at h1 h2
          omega
        refine ⟨r.fn, _, r.assign, r.body, run_yield hheap hal, roundIn_of_wpIn (hF.fn _) ?_⟩
        have hF' : Wide (F.inRound (φ b).blk) := by obtain ⟨q, rfl⟩ := hF; exact ⟨_, rfl⟩
        have hfold : (r.params.zip args').foldl (fun tmps (t, a) => tmps.setIfInBounds t a) r.tmps = (l.ps.zip args'.toList).foldl (fun t p => t.setIfInBounds p.1 p.2) r.tmps := by
          rw [← Array.foldl_toList, Array.toList_zip, hlr.ps]
        rw [hfold]
        obtain ⟨henv, hsz⟩ := puts_rel l.ps args args'.toList l.env r.tmps hargs hlr.env hlr.lt
        have ha := (htc _ _).2 _ hlr.assign
        have hbd := (htc _ _).2 _ hlr.body
        have hA := exec_wp hF' n hm hcf hD hty htc (inr := true) (fun h => by cases h) r.tmps.size fuel r.assign φ { tmps := (l.ps.zip args'.toList).foldl (fun t p => t.setIfInBounds p.1 p.2) r.tmps, defers := [] } w (puts l.ps args l.env) h henv hr hsz
        rw [← ha, hx] at hA
        refine hA _ fun a1 w1 g1 => ?_
        obtain ⟨⟨φ1, he1, hr1, hg1⟩, s1, _⟩ := g1
        obtain ⟨r1, hheap1, hlr1, hset1⟩ := loop_set P hr1 hl1
        have hag1 : φ1 b = φ b := hg1.agree b (hr.lt b _ hl)
        obtain ⟨hr2, hg2⟩ := hset1 1 l1.pend
        rw [← hlr1.pend] at hr2 hg2
        rw [hag1] at hheap1 hr2 hg2
        refine ⟨_, run_beginRound hheap1 (by rw [hlr1.st, hst]; rfl), ?_⟩
        have hB := exec_wp hF' n hm hcf hD hty htc (inr := true) (fun h => by cases h) r.tmps.size fuel r.body φ1 a1 (w1.putObj (φ b).blk (.loop { r1 with state := .busy })) e1 { h1 with t := h1.t.set b (.loop { l1 with st := 1 }) } he1 hr2 (s1.trans hsz)
        rw [← hbd, hy] at hB
        have close : ∀ (a2 : Act) (w3 : World) (jump : Option Code), Good γ σ φ1 { h1 with t := h1.t.set b (.loop { l1 with st := 1 }) } a1 (w1.putObj (φ b).blk (.loop { r1 with state := .busy })) e2 h2 a2 w3 → jump = pend.map jumpOf → st = (if jump.isNone then 0 else 2) → t = jump.isNone →
            ∃ v w', (Instr.endRound (φ b).blk jump).run P w3 = .ok v w' ∧ (∃ v', Ending.returned v = .returned v' ∧ Post γ σ φ h w (.bool t) { h2 with t := h2.t.set b (.loop { l2 with st := st, pend := pend }) } v' w') := by
          intro a2 w3 jump g2 hj hs2 ht2
          obtain ⟨⟨φ2, he2, hr3, hg3⟩, _, _⟩ := g2
          obtain ⟨r2, hheap2, hlr2, hset2⟩ := loop_set P hr3 hl2
          have hag2 : φ2 b = φ b := (hg3.agree b (hr2.lt b _ (by rw [get_set']; exact if_pos rfl))).trans hag1
          obtain ⟨hr4, hg4⟩ := hset2 st pend
          rw [hag2] at hheap2 hr4 hg4
          refine ⟨_, _, run_endRound jump hheap2, _, rfl, φ2, ?_, ?_, ?_⟩
          · rw [ht2]; exact .bool _
          · have e1 : (if jump.isNone then LoopState.ready else LoopState.done) = stOf st := by rw [hs2]; cases jump <;> rfl
            rw [e1, hj]; exact hr4
          · have e1 : (if jump.isNone then LoopState.ready else LoopState.done) = stOf st := by rw [hs2]; cases jump <;> rfl
            rw [e1, hj]
            exact Goes.trans hr.lt hr3.lt (Goes.trans hr.lt hr2.lt (Goes.trans hr.lt hr1.lt hg1 hg2) hg3) hg4
        rcases hcase with ⟨rfl, rfl, rfl, rfl⟩ | ⟨rfl, rfl, rfl, rfl⟩ | ⟨id, rfl, rfl, rfl, rfl⟩
        · exact hB _ fun a2 w3 g2 => close a2 w3 none g2 rfl rfl rfl
        · exact hB _ fun a2 w3 g2 => close a2 w3 (some .ret) g2 rfl rfl rfl
        · exact hB _ fun a2 w3 g2 => close a2 w3 (some (.exit id)) g2 rfl rfl rfl
      · cases hc
    · cases hc
  · cases hc

/-- What the interpreter says of calls, the machine does. -/
theorem callN_ok (hm : P.follows .mixedOrders = true) (hD : D.Ok γ σ) (hty : Tys P γ σ ty) (htc : TcOk D ty σ) {fn : Nat → Option (LFunc I S)} (hfn : FnOk P D ty fn) {ov : Over I S} (hov : OvOk P γ σ ov) (fuel : Nat) : ∀ n, CallOk P γ σ (callN D fn ov fuel n) := by
  intro n
  induction n with
  | zero => intro f args h v h' hc; simp only [callN, reduceCtorEq] at hc
  | succ n ih =>
    intro c args h v h' hc
    cases c with
    | fn f =>
      simp only [callN] at hc
      cases ho : ov f args h with
      | some r =>
        rw [ho] at hc
        simp only at hc
        subst hc
        exact hov f args h v h' ho
      | none =>
        rw [ho] at hc
        simp only at hc
        refine ⟨call1_next ih hc, fun φ w args' hr hargs => ?_⟩
        obtain ⟨q1, q2⟩ := call1_ok hm hD hty htc hfn ih hc hr hargs
        exact ⟨.enter f args', w, q1, .inr ⟨f, args', rfl, q2⟩⟩
    | iter f =>
      simp only [callN] at hc
      exact ⟨call1_next ih hc, fun φ w args' hr hargs => call1_ok hm hD hty htc hfn ih hc hr hargs⟩
    | yield b =>
      simp only [callN] at hc
      obtain ⟨q1, q2⟩ := round_ok hm hD hty htc ih hc
      exact ⟨q1, fun φ w args' hr hargs _ => q2 φ w args' hr hargs⟩
end
end Go.Proofs.YtohmaikcmaapjaaGreat.LI
