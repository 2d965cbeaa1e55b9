/- A drawn region: any order. -/
import Derived.Test.YtohmaikcmaapjaaGreatLReg5
namespace Go.Proofs.YtohmaikcmaapjaaGreat.LI
variable {I S : Type}
section
variable {P : Program} {γ : I → Int} {σ : Sg I S} {D : Dom I S} {ty : Nat → Option (TyI I S)} {cf : CallF I S} {ops : Array Oper} {ntm n : Nat} {Ix : Nat → Nat} {O : Nat → LOper I S} {RS : Nat → List (LOper I S)} {E : Nat → Env I S} {G : Nat → H I S} {V : Nat → LV I S} {W : Nat → Bool}
variable {φ0 : Phi} {w0 : World} {a0 : Act} {T : Nat → Prop} {a : Act} {w : World} {φ : Phi} {bp : Nat} {K : Nat → Prop} {g : Mem I S}

/-- Only these slots. -/
def rest (e : EnvF I S) (l : List Nat) : EnvF I S := fun t => if t ∈ l then e t else none
theorem rest_eq {e : EnvF I S} {l : List Nat} {t : Nat} (h : t ∈ l) : rest e l t = e t := if_pos h
theorem rest_rel {e : EnvF I S} {l : List Nat} {K : Nat → Prop} {tmps : Array Value} (h : ∀ t ∈ l, ∀ v, e t = some v → VRel γ σ φ K v (tmps.getD t undef)) : ERelE γ σ φ K (rest e l) tmps := by
  intro t v hv
  unfold rest at hv
  split at hv
  · rename_i ht; exact h t ht v hv
  · cases hv

theorem agains_mem {e : Env I S} {m : Mem I S} : ∀ {l : List (LOper I S)}, agains D e m l = true → ∀ o ∈ l, again D e m o = true
  | [], _, o, ho => by cases ho
  | x :: l, h, o, ho => by
    simp only [agains, Bool.and_eq_true] at h
    cases ho with
    | head => exact h.1
    | tail _ ho => exact agains_mem h.2 o ho

/-- One operation of a drawn region, when it may come. -/
theorem Inv.one {Fe : Fence} (hFe : Wide Fe) {n1 : Nat} (hcf : CallOk P γ σ cf) (hD : D.Ok γ σ) (hty : Tys P γ σ ty) (L : Plan D ty ops ntm n Ix O RS) (R : Run D cf n O RS E G V W) (hsz0 : a0.tmps.size = ntm) (hg0 : ∀ b o, (G 0).t.get b = some o → b < (G 0).next) (i : Inv γ σ n O E G V W φ0 w0 a0 T a w φ bp K g)
    (hclo : ∀ j, j < n → T j → ∀ q, q < n → (maskAt ops (Ix j)).testBit (Ix q) = true → T q) {k : Nat} (hk : k < n) (hkT : ¬ T k) (hdeps : ∀ q, q < n → (maskAt ops (Ix k)).testBit (Ix q) = true → T q)
    {X : Act → World → Prop} {Q : Exit → Act → World → Prop} (hX : ∀ a' w' φ' bp' K' g', Inv γ σ n O E G V W φ0 w0 a0 (fun j => T j ∨ j = k) a' w' φ' bp' K' g' → X a' w') : wpOpL Fe n1 P ops Q (Ix k) X a w := by
  obtain ⟨o, ho, hto⟩ := L.op k hk
  obtain ⟨ht1, ht2, ht3⟩ := trOper_eq hto
  have hops : ∀ t ∈ (O k).slots, ∀ v, (E k).get t = some v → VRel γ σ φ (fun b => K b ∧ b < max (G bp).next (G k).next) v (a.tmps.getD t undef) :=
    fun t ht v hv => i.operands hcf L R hclo hk hkT hdeps ht hv
  have hslots : (O k).slots = slotsG (O k).guard ++ (O k).op.slots := rfl
  have henv : ERelE γ σ φ (fun b => K b ∧ b < max (G bp).next (G k).next) (rest (E k).get (O k).slots) a.tmps := rest_rel hops
  have hwant : wanted (rest (E k).get (O k).slots) (O k).guard = some (W k) := by
    rw [wanted_congr (e := (E k).get) fun t ht => rest_eq (by rw [hslots]; exact List.mem_append_left _ ht)]; exact R.want k hk
  have hw := wanted_sound hto henv hwant
  have hres : ∀ t ∈ (O k).op.slots, rest (E k).get (O k).slots t = (E k).get t := fun t ht => rest_eq (by rw [hslots]; exact List.mem_append_right _ ht)
  -- an act's place
  have place : (O k).op.cls = .e → bp ≤ k ∧ (∀ j, bp ≤ j → j < k → (O j).op.cls ≠ .e) ∧ (∀ j, bp ≤ j → j < k → (O j).op.cls = .a → T j) := by
    intro hc
    refine ⟨?_, ?_, ?_⟩
    · rcases Nat.lt_or_ge k bp with h | h
      · exact absurd (i.c1 k h (.inl hc)) hkT
      · exact h
    · intro j hj hjk hjc
      exact i.c2 j hj (by omega) hjc (hdeps j (by omega) (L.mem j k hjk hk (by rw [hc, hjc]; rfl)))
    · intro j hj hjk hjc
      exact hdeps j (by omega) (L.mem j k hjk hk (by rw [hc, hjc]; rfl))
  have relk : (O k).op.cls = .e → Rel γ σ φ (G k) w ∧ ERelE γ σ φ (G k).ids (rest (E k).get (O k).slots) a.tmps := by
    intro hc
    obtain ⟨p1, p2, p3⟩ := place hc
    obtain ⟨h1, h2, h3⟩ := i.chain R p1 (by omega) p2 p3
    have hbn := R.next hcf p1 (by omega)
    have hKe : (fun c => K c ∧ c < (G k).next) = (G k).ids := funext fun b => propext ⟨fun h => h.2, fun h => ⟨h1 b h, h⟩⟩
    have hge : (fun b => if b < (G k).next then g b else none) = (G k).t.get := funext fun b => by
      by_cases h : b < (G k).next
      · rw [if_pos h]; exact h2 b h
      · rw [if_neg h, h3 b (by omega)]
    refine ⟨?_, henv.mono (fun b hb => (by have := hb.2; show b < (G k).next; omega)) (fun _ _ => rfl)⟩
    have := i.rel.cut hbn
    rwa [hKe, hge] at this
  unfold wpOpL
  simp only [ho, hw]
  cases hwk : W k
  · -- not wanted
    simp only [Bool.false_eq_true, if_false]
    obtain ⟨hv, hG⟩ := R.no k hk hwk
    rw [← ht2]
    by_cases hc : (O k).op.cls = .e
    · obtain ⟨p1, p2, p3⟩ := place hc
      obtain ⟨r1, _⟩ := relk hc
      obtain ⟨φ', K', g', hi⟩ := i.act hcf L R hsz0 hg0 hk p1 hc p2 p3 (v' := undef) (w' := w) ⟨φ, by rw [hv]; exact .und, by rw [hG]; exact r1, by rw [hG]; exact Goes.refl _ _ _ _⟩
      exact hX _ _ _ _ _ _ hi
    · exact hX _ _ _ _ _ _ (i.still L hsz0 hk hc (fun _ => hwk) (by rw [hv]; exact .und))
  · simp only [if_true]
    have hy := R.yes k hk hwk
    by_cases hc : (O k).op.cls = .e
    · obtain ⟨p1, p2, p3⟩ := place hc
      obtain ⟨r1, r2⟩ := relk hc
      have hact : (O k).op.act = true := by
        cases hop : (O k).op <;> simp only [hop, LOp.cls, reduceCtorEq] at hc <;> rfl
      refine actSound hFe hcf hD hty hact ht1 r2 r1 (by rw [step_congr (e := (E k).get) hres]; exact hy) fun v' w' hp => ?_
      obtain ⟨φ', K', g', hi⟩ := i.act hcf L R hsz0 hg0 hk p1 hc p2 p3 hp
      rw [← ht2]
      exact hX _ _ _ _ _ _ hi
    · cases hop : (O k).op with
      | e x => rw [hop] at hc; exact absurd rfl hc
      | call f args => rw [hop] at hc; exact absurd rfl hc
      | p x =>
        rw [hop] at ht1 hy hres
        simp only [step, Option.bind_eq_some_iff, Option.some.injEq, Prod.mk.injEq] at hy
        obtain ⟨v1, hs, hv1, hG⟩ := hy
        obtain ⟨v', hrun, hrel⟩ := pSound hD hty ht1 henv (by rw [evalP_congr (e := (E k).get) hres]; exact hs)
        refine wpIn_of_wp hFe (trOp_defer ht1) ?_
        unfold Oper.wp
        rw [hrun w]
        show X (a.put o.dst v') w
        rw [← ht2]
        refine hX _ _ _ _ _ _ (i.still L hsz0 hk hc (fun h => by rw [hop] at h; cases h) ?_)
        rw [← hv1, ← hG]; exact hrel
      | r x =>
        have hcr : (O k).op.cls = .r := by rw [hop]; rfl
        rw [hop] at ht1 hy hres
        simp only [step, Option.bind_eq_some_iff, Option.some.injEq, Prod.mk.injEq] at hy
        obtain ⟨v1, hs, hv1, hG⟩ := hy
        have fin : ∀ v', (execOp a.eval o).run P w = .ok (.value v') w → VRel γ σ φ (fun b => K b ∧ b < max (G bp).next (G k).next) v1 v' → o.wpIn Fe n1 P a w X Q := by
          intro v' hrun hrel
          refine wpIn_of_wp hFe (trOp_defer ht1) ?_
          unfold Oper.wp
          rw [hrun]
          show X (a.put o.dst v') w
          rw [← ht2]
          refine hX _ _ _ _ _ _ (i.still L hsz0 hk hc (fun h => by rw [hop] at h; cases h) ?_)
          rw [← hv1, ← hG]; exact hrel
        rcases Nat.lt_or_ge k bp with hkb | hbk
        · -- an act that comes behind it has been
          obtain ⟨q, hq⟩ : ∃ q, bp = q + 1 := ⟨bp - 1, by omega⟩
          have hqc := i.c3 q hq
          have hbn := i.bpn
          have hqT := i.c1 q (by omega) (.inl hqc)
          have hkq : k < q := by
            rcases Nat.lt_or_eq_of_le (show k ≤ q by omega) with h | h
            · exact h
            · subst h; rw [hcr] at hqc; cases hqc
          rcases L.re k q hkq (by omega) hqc hcr with hm | ⟨hmem, hwri⟩
          · exact absurd (hclo q (by omega) hqT k hk hm) hkT
          · have hag := agains_mem (R.again q (by omega)) (O k) hmem
            rw [← hq] at hag
            have hsame : ∀ t ∈ (O k).slots, (E bp).get t = (E k).get t := by
              intro t ht
              by_cases hex : ∃ j, j < bp ∧ (O j).dst = some t
              · obtain ⟨j, hj, hjt⟩ := hex
                obtain ⟨j', hj', hje⟩ := L.topo k hk _ (hwri j (by omega) t hjt ht)
                have : j' = j := by
                  rcases Nat.lt_trichotomy j' j with h | h | h
                  · exact absurd hje (L.nodup j' j h (by omega))
                  · exact h
                  · exact absurd hje.symm (L.nodup j j' h (by omega))
                subst this
                rw [R.slot L hj hbn hjt, R.slot L hj' (by omega) hjt]
              · rw [R.slot0 hbn fun j hj hjt => hex ⟨j, hj, hjt⟩, R.slot0 (k := k) (by omega) fun j hj hjt => hex ⟨j, by omega, hjt⟩]
            unfold again at hag
            rw [wanted_congr (e := (E k).get) (e' := (E bp).get) fun t ht => hsame t (by rw [hslots]; exact List.mem_append_left _ ht), R.want k hk, hwk, hop] at hag
            cases hd : (O k).dst with
            | none => rw [hd] at hag; cases hag
            | some d =>
              simp only [hd] at hag
              rw [evalR_congr (e := (E k).get) (e' := (E bp).get) fun t ht => hsame t (by rw [hslots]; exact List.mem_append_right _ (by rw [hop]; exact ht)), R.slot L hkb hbn hd] at hag
              split at hag
              · rename_i v u h1 h2
                cases h2
                have hkn := R.next hcf (show k ≤ bp by omega) hbn
                obtain ⟨v', hrun, hrel⟩ := rSound (w := w) (K := fun c => K c ∧ c < (G bp).next) hD hty ht1 (henv.mono (fun b hb => ⟨hb.1, by have := hb.2; omega⟩) (fun _ _ => rfl)) (i.rel.cut (Nat.le_refl _)) (v := v) (by
                  rw [evalR_congr (e := (E k).get) hres]
                  refine evalR_mono (fun b ob hb => ?_) h1
                  have : b < (G bp).next := by
                    rcases Nat.lt_or_ge b (G bp).next with h | h
                    · exact h
                    · rw [i.g2 b h] at hb; cases hb
                  rw [if_pos this, i.g1 b this]; exact hb)
                have := same_sound hD 2 v (V k) v' hag hrel
                rw [← hv1] at this
                exact fin v' hrun (this.mono (fun b hb => ⟨hb.1, by have := hb.2; omega⟩) (fun _ _ => rfl))
              · cases hag
        · have he : ∀ j, bp ≤ j → j < k → (O j).op.cls ≠ .e := fun j hj hjk hjc => i.c2 j hj (by omega) hjc (hdeps j (by omega) (L.mem j k hjk hk (by rw [hcr, hjc]; rfl)))
          have ha : ∀ j, bp ≤ j → j < k → (O j).op.cls = .a → T j := fun j hj hjk hjc => hdeps j (by omega) (L.mem j k hjk hk (by rw [hcr, hjc]; rfl))
          obtain ⟨h1, h2, h3⟩ := i.chain R hbk (by omega) he ha
          have hbn := R.next hcf hbk (by omega)
          obtain ⟨v', hrun, hrel⟩ := rSound (w := w) (K := fun c => K c ∧ c < (G k).next) hD hty ht1 (henv.mono (fun b hb => ⟨hb.1, by have := hb.2; omega⟩) (fun _ _ => rfl)) (i.rel.cut hbn) (v := v1) (by
            rw [evalR_congr (e := (E k).get) hres]
            refine evalR_mono (fun b ob hb => ?_) hs
            have : b < (G k).next := by
              rcases Nat.lt_or_ge b (G k).next with h | h
              · exact h
              · rw [h3 b h] at hb; cases hb
            rw [if_pos this, h2 b this]; exact hb)
          exact fin v' hrun (hrel.mono (fun b hb => ⟨hb.1, by have := hb.2; omega⟩) (fun _ _ => rfl))
      | a x =>
        have hca : (O k).op.cls = .a := by rw [hop]; rfl
        have hbk : bp ≤ k := by
          rcases Nat.lt_or_ge k bp with h | h
          · exact absurd (i.c1 k h (.inr hca)) hkT
          · exact h
        rw [hop] at ht1 hres
        obtain ⟨x', r, hx', hev, hV, hG⟩ := R.making hk hca hwk
        rw [hop] at hx'
        cases hx'
        obtain ⟨robj, v', w', room, hrun, hheap, hos, htape, hout, _, hall⟩ := aSound (w := w) hD hty ht1 henv (r := r) (by rw [evalA_congr (e := (E k).get) hres]; exact hev)
        refine wpIn_of_wp hFe (trOp_defer ht1) ?_
        unfold Oper.wp
        rw [hrun]
        show X (a.put o.dst v') w'
        rw [← ht2]
        exact hX _ _ _ _ _ _ (i.make hcf L R hsz0 hg0 hk hkT hca hwk hV hG (evalA_writ hev) hheap hos htape hout hall)

theorem Inv.congr {T' : Nat → Prop} (i : Inv γ σ n O E G V W φ0 w0 a0 T a w φ bp K g) (h : ∀ j, j < n → (T' j ↔ T j)) : Inv γ σ n O E G V W φ0 w0 a0 T' a w φ bp K g where
  bpn := i.bpn
  c1 j hj hc := (h j (Nat.lt_of_lt_of_le hj i.bpn)).2 (i.c1 j hj hc)
  c2 j hj hjn hc hT := i.c2 j hj hjn hc ((h j hjn).1 hT)
  c3 := i.c3
  k1 := i.k1
  k2 m hm hmn hT := i.k2 m hm hmn ((h m hmn).1 hT)
  k3 b hb := by
    rcases i.k3 b hb with q | ⟨m, q1, q2, q3, q4, q5, q6⟩
    · exact .inl q
    · exact .inr ⟨m, q1, q2, (h m q2).2 q3, q4, q5, q6⟩
  g1 := i.g1
  g2 := i.g2
  g3 := i.g3
  rel := i.rel
  goes := i.goes
  s1 j hj hT := i.s1 j hj ((h j hj).1 hT)
  s2 t v hno hv := i.s2 t v (fun j hj hT => hno j hj ((h j hj).2 hT)) hv
  sz := i.sz
  df := i.df

theorem maskOf_has {acc : Array Nat} {o : Oper} {e : Edge} (he : e ∈ o.after) (hb : Region.binds .any e = true) : (maskOf acc o).testBit e.on = true := by
  unfold maskOf
  rw [← Array.foldl_toList]
  have keep : ∀ (l : List Edge) (s : Nat), s.testBit e.on = true → (l.foldl (fun s e => if Region.binds .any e then s ||| 2 ^ e.on ||| acc.getD e.on 0 else s) s).testBit e.on = true := by
    intro l
    induction l with
    | nil => intro s h; exact h
    | cons x l ih =>
      intro s h
      rw [List.foldl_cons]
      refine ih _ ?_
      split
      · rw [Nat.testBit_or, Nat.testBit_or, h]; rfl
      · exact h
  have : ∀ (l : List Edge) (s : Nat), e ∈ l → (l.foldl (fun s e => if Region.binds .any e then s ||| 2 ^ e.on ||| acc.getD e.on 0 else s) s).testBit e.on = true := by
    intro l
    induction l with
    | nil => intro s h; cases h
    | cons x l ih =>
      intro s h
      rw [List.foldl_cons]
      cases h with
      | head =>
        refine keep l _ ?_
        rw [if_pos hb, Nat.testBit_or, Nat.testBit_or, Nat.testBit_two_pow]
        simp
      | tail _ h => exact ih _ h
  exact this _ _ (by simpa using he)
theorem mask_of_edge {ops : Array Oper} {i : Nat} {o : Oper} {e : Edge} (ho : ops[i]? = some o) (he : e ∈ o.after) (hb : Region.binds .any e = true) : (maskAt ops i).testBit e.on = true := by
  have hbf : Region.before ops = ops.toList.foldl (fun acc o => acc.push (maskOf acc o)) #[] := by
    unfold Region.before; rw [← Array.foldl_toList]; rfl
  obtain ⟨_, _, h3⟩ := before_fold ops.toList #[]
  rw [← hbf] at h3
  simp only [List.size_toArray, List.length_nil, Nat.zero_add, Array.length_toList] at h3
  obtain ⟨o', acc', q1, _, _, q4⟩ := h3 i (Array.getElem?_eq_some_iff.1 ho).1
  have : o' = o := by
    have q : ops[i]? = some o' := by simpa using q1
    rw [ho] at q; cases q; rfl
  subst this
  unfold maskAt
  rw [Array.getD_eq_getD_getElem?, q4]
  exact maskOf_has he hb

/-- How many are not through. -/
def left (l : Array Bool) : Nat := l.toList.count false
theorem left_set {l : Array Bool} {i : Nat} (h : l[i]? = some false) : left (l.setIfInBounds i true) + 1 = left l := by
  unfold left
  rw [Array.toList_setIfInBounds]
  have h' : l.toList[i]? = some false := by simpa using h
  generalize l.toList = L at h'
  clear h l
  induction L generalizing i with
  | nil => simp at h'
  | cons b r ih =>
    cases i with
    | zero => simp at h'; subst h'; simp
    | succ i =>
      simp only [List.getElem?_cons_succ] at h'
      have := ih h'
      simp only [List.set_cons_succ, List.count_cons]
      omega
theorem left_zero {l : Array Bool} (h : left l = 0) {i : Nat} (hi : i < l.size) : l.getD i false = true := by
  unfold left at h
  rw [List.count_eq_zero] at h
  rw [Array.getD_eq_getD_getElem?, Array.getElem?_eq_getElem hi]
  cases e : l[i] with
  | true => rfl
  | false => exact absurd (by rw [← e]; simp) h

theorem any_wp {Fe : Fence} (hFe : Wide Fe) {n0 : Nat} (hcf : CallOk P γ σ cf) (hD : D.Ok γ σ) (hty : Tys P γ σ ty) (L : Plan D ty ops ntm n Ix O RS) (R : Run D cf n O RS E G V W) (hsz0 : a0.tmps.size = ntm) (hg0 : ∀ b o, (G 0).t.get b = some o → b < (G 0).next)
    {Q : Exit → Act → World → Prop} (hQ : ∀ φ' a' w', ERelE γ σ φ' (G n).ids (E n).get a'.tmps → Rel γ σ φ' (G n) w' → Goes φ0 (G 0).ids (G 0).t.get w0 φ' (G n).ids (G n).t.get w' → a'.tmps.size = a0.tmps.size → a'.defers = a0.defers → Q .normal a' w') :
    ∀ (fuel : Nat) (listed : Array Bool) (a : Act) (w : World), listed.size = ops.size → left listed = fuel → (∀ i, listed.getD i false = true → ∀ j, (maskAt ops i).testBit j = true → listed.getD j false = true) →
      (∃ φ bp K g, Inv γ σ n O E G V W φ0 w0 a0 (fun k => listed.getD (Ix k) false = true) a w φ bp K g) → wpAnyIn Fe n0 P .any ops Q fuel listed a w := by
  have hlt : ∀ k, k < n → Ix k < ops.size := fun k hk => by obtain ⟨o, ho, _⟩ := L.op k hk; exact (Array.getElem?_eq_some_iff.1 ho).1
  have inj : ∀ j k, j < n → k < n → Ix j = Ix k → j = k := by
    intro j k hj hk h
    rcases Nat.lt_trichotomy j k with h' | h' | h'
    · exact absurd h (L.nodup j k h' hk)
    · exact h'
    · exact absurd h.symm (L.nodup k j h' hj)
  -- no one ready: all through
  have stop : ∀ (listed : Array Bool) (a : Act) (w : World), listed.size = ops.size → (∀ k, k < n → listed.getD (Ix k) false = true) → (∃ φ bp K g, Inv γ σ n O E G V W φ0 w0 a0 (fun k => listed.getD (Ix k) false = true) a w φ bp K g) → Q .normal a w := by
    rintro listed a w hs hall ⟨φ, bp, K, g, hi⟩
    obtain ⟨h1, h2, h3⟩ := hi.done hcf L R hall
    exact hQ φ a w h1 h2 h3 hi.sz hi.df
  have least : ∀ (listed : Array Bool), listed.size = ops.size → Region.ready .any ops listed = [] → ∀ k, k < n → listed.getD (Ix k) false = true := by
    intro listed hs hr k
    induction k using Nat.strongRecOn with
    | ind k ih =>
      intro hk
      cases hl : listed.getD (Ix k) false with
      | true => rfl
      | false =>
        exfalso
        have : Ix k ∈ Region.ready .any ops listed := by
          obtain ⟨o, ho, _⟩ := L.op k hk
          have hkl := hlt k hk
          refine mem_ready.2 ⟨?_, o, ho, fun e he hb => ?_⟩
          · simp only [Array.getD, hs, hkl, dite_true] at hl ⊢; exact hl
          · have hbit : (maskAt ops (Ix k)).testBit e.on = true := mask_of_edge ho he hb
            obtain ⟨j, hj, hje⟩ := L.topo k hk _ hbit
            rw [← hje]; exact ih j hj (by omega)
        rw [hr] at this; cases this
  intro fuel
  induction fuel with
  | zero =>
    intro listed a w hs hl hclo hi
    have hall : ∀ i, i < ops.size → listed.getD i false = true := fun i hi => left_zero hl (by omega)
    refine ⟨?_, stop listed a w hs (fun k hk => hall _ (hlt k hk)) hi⟩
    apply List.eq_nil_iff_forall_not_mem.2
    intro i hmem
    obtain ⟨h0, o, ho, _⟩ := mem_ready.1 hmem
    have hio : i < ops.size := (Array.getElem?_eq_some_iff.1 ho).1
    have := hall i hio
    simp only [Array.getD, hs, hio, dite_true] at h0 this
    rw [h0] at this; cases this
  | succ fuel ih =>
    intro listed a w hs hl hclo hi
    refine ⟨fun hr => stop listed a w hs (least listed hs hr) hi, fun i hmem => ?_⟩
    obtain ⟨h0, o, ho, hall⟩ := mem_ready.1 hmem
    have hio : i < ops.size := (Array.getElem?_eq_some_iff.1 ho).1
    have h0' : listed[i]? = some false := by
      rw [Array.getD_eq_getD_getElem?] at h0
      cases e : listed[i]? with
      | none => rw [e] at h0; cases h0
      | some b => rw [e] at h0; simp at h0; rw [h0]
    have h0f : ¬ listed.getD i false = true := by
      simp only [Array.getD, hs, hio, dite_true] at h0 ⊢; rw [h0]; simp
    obtain ⟨k, hk, rfl⟩ := L.surj i hio
    obtain ⟨φ, bp, K, g, hi⟩ := hi
    have hdep : ∀ j, (maskAt ops (Ix k)).testBit j = true → listed.getD j false = true := by
      intro j hj
      obtain ⟨o', ho', e, he, hb, hor⟩ := before_get ops (Ix k) j hj
      rw [ho] at ho'; cases ho'
      have hon := hall e he hb
      rcases hor with rfl | hor
      · exact hon
      · exact hclo e.on hon j hor
    refine wpOpL.into hFe (hi.one hFe hcf hD hty L R hsz0 hg0 (fun j hj hT q hq hb => hclo _ hT _ hb) hk h0f (fun q hq hb => hdep _ hb) fun a' w' φ' bp' K' g' hi' => ?_)
    have hset : ∀ j, (listed.setIfInBounds (Ix k) true).getD j false = true ↔ (listed.getD j false = true ∨ j = Ix k) := by
      intro j
      by_cases hj : Ix k = j
      · subst hj
        simp [Array.getD, hs, hio]
      · rw [getD_set_ne false hj]
        constructor
        · exact .inl
        · rintro (h | h)
          · exact h
          · exact absurd h.symm hj
    refine ih (listed.setIfInBounds (Ix k) true) a' w' (by simpa using hs) (by have := left_set h0'; omega) ?_ ⟨φ', bp', K', g', ?_⟩
    · intro j hj q hq
      rw [hset] at hj ⊢
      rcases hj with hj | rfl
      · exact .inl (hclo j hj q hq)
      · exact .inl (hdep q hq)
    · refine hi'.congr fun j hj => ?_
      rw [hset]
      exact or_congr Iff.rfl ⟨fun h => inj j k hj hk h, fun h => by rw [h]⟩
end
end Go.Proofs.YtohmaikcmaapjaaGreat.LI
