/- A drawn region's operations, one by one in any order that the region allows. -/
import Derived.Test.YtohmaikcmaapjaaGreatLReg3
namespace Go.Proofs.YtohmaikcmaapjaaGreat.LI
variable {I S : Type}

def maskAt (ops : Array Oper) (i : Nat) : Nat := (Region.before ops).getD i 0
/-- What was looked over of a region's order. -/
structure Plan (D : Dom I S) (ty : Nat → Option (TyI I S)) (ops : Array Oper) (ntm n : Nat) (Ix : Nat → Nat) (O : Nat → LOper I S) (RS : Nat → List (LOper I S)) : Prop where
  op : ∀ k, k < n → ∃ o, ops[Ix k]? = some o ∧ trOper D ty ops o = some (O k)
  surj : ∀ i, i < ops.size → ∃ k, k < n ∧ Ix k = i
  topo : ∀ k, k < n → ∀ i, (maskAt ops (Ix k)).testBit i = true → ∃ j, j < k ∧ Ix j = i
  nodup : ∀ j k, j < k → k < n → Ix j ≠ Ix k
  mem : ∀ j k, j < k → k < n → need (O k).op.cls (O j).op.cls = true → (maskAt ops (Ix k)).testBit (Ix j) = true
  re : ∀ j k, j < k → k < n → (O k).op.cls = .e → (O j).op.cls = .r → (maskAt ops (Ix k)).testBit (Ix j) = true ∨
    (O j ∈ RS k ∧ ∀ q, q ≤ k → ∀ d, (O q).dst = some d → d ∈ (O j).slots → (maskAt ops (Ix j)).testBit (Ix q) = true)
  sl1 : ∀ j k, j < k → k < n → ∀ d, (O j).dst = some d → d ∈ (O k).slots → (maskAt ops (Ix k)).testBit (Ix j) = true
  sl2 : ∀ j k, j < k → k < n → ∀ d, (O k).dst = some d → d ∈ (O j).slots → (maskAt ops (Ix k)).testBit (Ix j) = true
  dst : ∀ j k, j < k → k < n → ∀ d, (O j).dst = some d → (O k).dst ≠ some d
  bound : ∀ k, k < n → ∀ d, (O k).dst = some d → d < ntm

/-- The interpreter's run of a region. -/
structure Run (D : Dom I S) (cf : CallF I S) (n : Nat) (O : Nat → LOper I S) (RS : Nat → List (LOper I S)) (E : Nat → Env I S) (G : Nat → H I S) (V : Nat → LV I S) (W : Nat → Bool) : Prop where
  want : ∀ k, k < n → wanted (E k).get (O k).guard = some (W k)
  yes : ∀ k, k < n → W k = true → step D cf (E k).get (G k) (O k).op = some (V k, G (k + 1))
  no : ∀ k, k < n → W k = false → V k = .und ∧ G (k + 1) = G k
  env : ∀ k, k < n → E (k + 1) = put (E k) (O k).dst (V k)
  again : ∀ k, k < n → agains D (E (k + 1)) (G (k + 1)).t.get (RS k) = true

def shift {α : Type} (x : α) (f : Nat → α) : Nat → α
  | 0 => x
  | k + 1 => f k
theorem run_of_items {D : Dom I S} {cf : CallF I S} (dflt : LItem I S) : ∀ (its : List (LItem I S)) (e e' : Env I S) (h h' : H I S), items D cf its e h = some (e', h') →
    ∃ E G V W, E 0 = e ∧ G 0 = h ∧ E its.length = e' ∧ G its.length = h' ∧ Run D cf its.length (fun k => (its[k]?.getD dflt).o) (fun k => (its[k]?.getD dflt).rs) E G V W := by
  intro its
  induction its with
  | nil =>
    intro e e' h h' hi
    simp only [items, Option.some.injEq, Prod.mk.injEq] at hi
    obtain ⟨rfl, rfl⟩ := hi
    exact ⟨fun _ => e, fun _ => h, fun _ => .und, fun _ => true, rfl, rfl, rfl, rfl, ⟨fun k hk => by simp at hk, fun k hk => by simp at hk, fun k hk => by simp at hk, fun k hk => by simp at hk, fun k hk => by simp at hk⟩⟩
  | cons x r ih =>
    intro e e' h h' hi
    simp only [items, Option.bind_eq_some_iff] at hi
    obtain ⟨⟨e1, h1⟩, ho, hi⟩ := hi
    obtain ⟨hag, hi⟩ := cond_some hi
    obtain ⟨E, G, V, W, hE, hG, hE', hG', hrun⟩ := ih _ _ _ _ hi
    simp only [oper, Option.bind_eq_some_iff] at ho
    obtain ⟨b, hb, ho⟩ := ho
    have : ∃ v, (b = true → step D cf e.get h x.o.op = some (v, h1)) ∧ (b = false → v = .und ∧ h1 = h) ∧ e1 = put e x.o.dst v := by
      cases b
      · simp only [cond_false, Option.some.injEq, Prod.mk.injEq] at ho
        obtain ⟨rfl, rfl⟩ := ho
        exact ⟨.und, (by simp), fun _ => ⟨rfl, rfl⟩, rfl⟩
      · simp only [cond_true, Option.bind_eq_some_iff, Option.some.injEq, Prod.mk.injEq] at ho
        obtain ⟨⟨v, h2⟩, hs, rfl, rfl⟩ := ho
        exact ⟨v, fun _ => hs, (by simp), rfl⟩
    obtain ⟨v, hv1, hv2, hv3⟩ := this
    refine ⟨shift e E, shift h G, shift v V, shift b W, rfl, rfl, hE', hG', ⟨?_, ?_, ?_, ?_, ?_⟩⟩
    · intro k hk
      cases k with
      | zero => simpa [shift] using hb
      | succ k => simpa [shift] using hrun.want k (by simpa using hk)
    · intro k hk
      cases k with
      | zero => simpa [shift, hG] using hv1
      | succ k => simpa [shift] using hrun.yes k (by simpa using hk)
    · intro k hk
      cases k with
      | zero => simpa [shift, hG] using hv2
      | succ k => simpa [shift] using hrun.no k (by simpa using hk)
    · intro k hk
      cases k with
      | zero => simpa [shift, hE] using hv3
      | succ k => simpa [shift] using hrun.env k (by simpa using hk)
    · intro k hk
      cases k with
      | zero => simpa [shift, hE, hG] using hag
      | succ k => simpa [shift] using hrun.again k (by simpa using hk)

section
variable {P : Program} {γ : I → Int} {σ : Sg I S} {D : Dom I S} {ty : Nat → Option (TyI I S)} {cf : CallF I S} {ops : Array Oper} {ntm n : Nat} {Ix : Nat → Nat} {O : Nat → LOper I S} {RS : Nat → List (LOper I S)} {E : Nat → Env I S} {G : Nat → H I S} {V : Nat → LV I S} {W : Nat → Bool}

theorem step_next (hcf : CallOk P γ σ cf) {e : EnvF I S} {h h' : H I S} {x : LOp I S} {v : LV I S} (hv : step D cf e h x = some (v, h')) : h.next ≤ h'.next := by
  cases x <;> simp only [step, Option.bind_eq_some_iff, Option.some.injEq, Prod.mk.injEq] at hv
  · obtain ⟨_, _, _, rfl⟩ := hv; exact Nat.le_refl _
  · obtain ⟨_, _, _, rfl⟩ := hv; exact Nat.le_refl _
  · obtain ⟨_, _, _, rfl⟩ := hv; simp [newB]
  · exact evalE_next hv
  · obtain ⟨fv, _, vs, _, h3⟩ := hv
    cases fv <;> simp only [reduceCtorEq] at h3 <;> exact (hcf _ _ _ _ _ h3).1

theorem Run.next1 (hcf : CallOk P γ σ cf) (R : Run D cf n O RS E G V W) {k : Nat} (hk : k < n) : (G k).next ≤ (G (k + 1)).next := by
  cases hw : W k
  · rw [(R.no k hk hw).2]; exact Nat.le_refl _
  · exact step_next hcf (R.yes k hk hw)
theorem Run.next (hcf : CallOk P γ σ cf) (R : Run D cf n O RS E G V W) {j k : Nat} (hjk : j ≤ k) (hk : k ≤ n) : (G j).next ≤ (G k).next := by
  induction k with
  | zero => cases Nat.le_zero.1 hjk; exact Nat.le_refl _
  | succ k ih =>
    rcases Nat.lt_or_eq_of_le hjk with h | h
    · exact Nat.le_trans (ih (by omega) (by omega)) (R.next1 hcf (by omega))
    · rw [h]; exact Nat.le_refl _

/-- A slot's value: the one writer's, or the first. -/
theorem Run.slot (L : Plan D ty ops ntm n Ix O RS) (R : Run D cf n O RS E G V W) {j k t : Nat} (hjk : j < k) (hk : k ≤ n) (ht : (O j).dst = some t) : (E k).get t = some (V j) := by
  induction k with
  | zero => omega
  | succ k ih =>
    rw [R.env k (by omega)]
    rcases Nat.lt_or_eq_of_le (Nat.le_of_lt_succ hjk) with h | h
    · cases hd : (O k).dst with
      | none => exact ih h (by omega)
      | some d =>
        have : d ≠ t := fun he => L.dst j k h (by omega) t ht (by rw [hd, he])
        simp only [put, Tr.get_set, if_neg (Ne.symm this)]
        exact ih h (by omega)
    · subst h; rw [ht]; simp only [put, Tr.get_set, if_true]
theorem Run.slot0 (R : Run D cf n O RS E G V W) {k t : Nat} (hk : k ≤ n) (ht : ∀ j, j < k → (O j).dst ≠ some t) : (E k).get t = (E 0).get t := by
  induction k with
  | zero => rfl
  | succ k ih =>
    rw [R.env k (by omega), ← ih (by omega) fun j hj => ht j (by omega)]
    cases hd : (O k).dst with
    | none => rfl
    | some d =>
      have : d ≠ t := fun he => ht k (by omega) (by rw [hd, he])
      simp only [put, Tr.get_set, if_neg (Ne.symm this)]

/-- Where the machine stands when these positions are through: the last act's place, the numbers known, the blocks. -/
structure Inv (γ : I → Int) (σ : Sg I S) (n : Nat) (O : Nat → LOper I S) (E : Nat → Env I S) (G : Nat → H I S) (V : Nat → LV I S) (W : Nat → Bool) (φ0 : Phi) (w0 : World) (a0 : Act) (T : Nat → Prop) (a : Act) (w : World) (φ : Phi) (bp : Nat) (K : Nat → Prop) (g : Mem I S) : Prop where
  bpn : bp ≤ n
  c1 : ∀ j, j < bp → (O j).op.cls = .e ∨ (O j).op.cls = .a → T j
  c2 : ∀ j, bp ≤ j → j < n → (O j).op.cls = .e → ¬ T j
  c3 : ∀ q, bp = q + 1 → (O q).op.cls = .e
  k1 : ∀ b, b < (G bp).next → K b
  k2 : ∀ m, bp ≤ m → m < n → T m → (O m).op.cls = .a → W m = true → K (G m).next ∧ g (G m).next = (G (m + 1)).t.get (G m).next
  k3 : ∀ b, K b → b < (G bp).next ∨ ∃ m, bp ≤ m ∧ m < n ∧ T m ∧ (O m).op.cls = .a ∧ W m = true ∧ b = (G m).next
  g1 : ∀ b, b < (G bp).next → g b = (G bp).t.get b
  g2 : ∀ b, (G bp).next ≤ b → (G bp).t.get b = none
  g3 : ∀ b o, g b = some o → (G bp).next ≤ b → o.writ = true
  rel : RelB γ σ φ K (G bp).next g w
  goes : Goes φ0 (G 0).ids (G 0).t.get w0 φ K g w
  s1 : ∀ j, j < n → T j → ∀ t, (O j).dst = some t → VRel γ σ φ (fun b => K b ∧ b < max (G bp).next (G (j + 1)).next) (V j) (a.tmps.getD t undef)
  s2 : ∀ t v, (∀ j, j < n → T j → (O j).dst ≠ some t) → (E 0).get t = some v → VRel γ σ φ (G 0).ids v (a.tmps.getD t undef)
  sz : a.tmps.size = a0.tmps.size
  df : a.defers = a0.defers

variable {φ0 : Phi} {w0 : World} {a0 : Act} {T : Nat → Prop} {a : Act} {w : World} {φ : Phi} {bp : Nat} {K : Nat → Prop} {g : Mem I S}

/-- The making's own memory. -/
theorem Run.making (R : Run D cf n O RS E G V W) {m : Nat} (hm : m < n) (hc : (O m).op.cls = .a) (hw : W m = true) :
    ∃ x r, (O m).op = .a x ∧ evalA D (E m).get x = some r ∧ V m = r.1 (G m).next ∧ G (m + 1) = newB (G m) r.2 := by
  have := R.yes m hm hw
  cases ho : (O m).op <;> simp only [ho, LOp.cls, reduceCtorEq] at hc
  rename_i x
  rw [ho] at this
  simp only [step, Option.bind_eq_some_iff, Option.some.injEq, Prod.mk.injEq] at this
  obtain ⟨r, h1, h2, h3⟩ := this
  exact ⟨x, r, rfl, h1, h2.symm, h3.symm⟩
theorem Run.quiet (R : Run D cf n O RS E G V W) {k : Nat} (hk : k < n) (h1 : (O k).op.cls ≠ .e) (h2 : (O k).op.cls = .a → W k = false) : G (k + 1) = G k := by
  cases hw : W k
  · exact (R.no k hk hw).2
  · have := R.yes k hk hw
    cases ho : (O k).op <;> simp only [ho, LOp.cls, reduceCtorEq, ne_eq, not_true_eq_false, not_false_eq_true] at h1 h2
    · rw [ho] at this
      simp only [step, Option.bind_eq_some_iff, Option.some.injEq, Prod.mk.injEq] at this
      obtain ⟨_, _, _, h⟩ := this; exact h.symm
    · rw [ho] at this
      simp only [step, Option.bind_eq_some_iff, Option.some.injEq, Prod.mk.injEq] at this
      obtain ⟨_, _, _, h⟩ := this; exact h.symm
    · rw [h2 trivial] at hw; cases hw

/-- From the last act on, the blocks known are those made since. -/
theorem Inv.chain (R : Run D cf n O RS E G V W) (i : Inv γ σ n O E G V W φ0 w0 a0 T a w φ bp K g) {k : Nat} (hk : bp ≤ k) (hkn : k ≤ n) (he : ∀ j, bp ≤ j → j < k → (O j).op.cls ≠ .e) (ha : ∀ j, bp ≤ j → j < k → (O j).op.cls = .a → T j) :
    (∀ b, b < (G k).next → K b) ∧ (∀ b, b < (G k).next → g b = (G k).t.get b) ∧ (∀ b, (G k).next ≤ b → (G k).t.get b = none) := by
  induction k with
  | zero =>
    cases Nat.le_zero.1 hk
    exact ⟨i.k1, i.g1, i.g2⟩
  | succ k ih =>
    rcases Nat.lt_or_eq_of_le hk with hlt | heq
    · obtain ⟨h1, h2, h3⟩ := ih (by omega) (by omega) (fun j hj hj' => he j hj (by omega)) (fun j hj hj' => ha j hj (by omega))
      by_cases hm : (O k).op.cls = .a ∧ W k = true
      · obtain ⟨x, r, _, _, _, hG⟩ := R.making (by omega) hm.1 hm.2
        obtain ⟨q1, q2⟩ := i.k2 k (by omega) (by omega) (ha k (by omega) (by omega) hm.1) hm.1 hm.2
        have hget : (G (k + 1)).t.get = fun m => if m = (G k).next then some r.2 else (G k).t.get m := by rw [hG]; exact get_set' _ _ _
        have hnx : (G (k + 1)).next = (G k).next + 1 := by rw [hG]; rfl
        rw [hnx]
        refine ⟨fun b hb => ?_, fun b hb => ?_, fun b hb => ?_⟩
        · rcases Nat.lt_or_eq_of_le (Nat.le_of_lt_succ hb) with h | h
          · exact h1 b h
          · rw [h]; exact q1
        · rcases Nat.lt_or_eq_of_le (Nat.le_of_lt_succ hb) with h | h
          · rw [h2 b h, hget]; simp only [if_neg (Nat.ne_of_lt h)]
          · rw [h]; exact q2
        · rw [hget]; simp only [if_neg (show ¬ b = (G k).next by omega)]; exact h3 b (by omega)
      · rw [R.quiet (by omega) (he k (by omega) (by omega)) (fun hc => by
          cases hw : W k
          · rfl
          · exact absurd ⟨hc, hw⟩ hm)]
        exact ⟨h1, h2, h3⟩
    · rw [← heq]; exact ⟨i.k1, i.g1, i.g2⟩

/-- The operands of one that is not through, all it waits for being through. -/
theorem Inv.operands (hcf : CallOk P γ σ cf) (L : Plan D ty ops ntm n Ix O RS) (R : Run D cf n O RS E G V W) (i : Inv γ σ n O E G V W φ0 w0 a0 T a w φ bp K g) (hclo : ∀ j, j < n → T j → ∀ q, q < n → (maskAt ops (Ix j)).testBit (Ix q) = true → T q)
    {k : Nat} (hk : k < n) (hkT : ¬ T k) (hdeps : ∀ q, q < n → (maskAt ops (Ix k)).testBit (Ix q) = true → T q) {t : Nat} (ht : t ∈ (O k).slots) {v : LV I S} (hv : (E k).get t = some v) :
    VRel γ σ φ (fun b => K b ∧ b < max (G bp).next (G k).next) v (a.tmps.getD t undef) := by
  by_cases hex : ∃ j, j < n ∧ T j ∧ (O j).dst = some t
  · obtain ⟨j, hj, hjT, hjt⟩ := hex
    have hjk : j < k := by
      rcases Nat.lt_trichotomy j k with h | h | h
      · exact h
      · subst h; exact absurd hjT hkT
      · exact absurd (hclo j hj hjT k hk (L.sl2 k j h hj t hjt ht)) hkT
    rw [R.slot L hjk (by omega) hjt] at hv
    cases hv
    have := R.next hcf (show j + 1 ≤ k by omega) (by omega)
    exact (i.s1 j hj hjT t hjt).mono (fun b hb => ⟨hb.1, by have := hb.2; omega⟩) (fun _ _ => rfl)
  · have hno : ∀ j, j < n → T j → (O j).dst ≠ some t := fun j hj hjT hjt => hex ⟨j, hj, hjT, hjt⟩
    rw [R.slot0 (by omega) fun j hj hjt => hno j (by omega) (hdeps j (by omega) (L.sl1 j k hj hk t hjt ht)) hjt] at hv
    have h0 := R.next hcf (Nat.zero_le bp) i.bpn
    exact (i.s2 t v hno hv).mono (fun b (hb : b < (G 0).next) => ⟨i.k1 b (by omega), by omega⟩) (fun _ _ => rfl)

/-- A slot written. -/
theorem Inv.write1 (L : Plan D ty ops ntm n Ix O RS) {B : Nat → Nat → Prop} (hsz : a.tmps.size = ntm) {k : Nat} (hk : k < n) {v' : Value}
    (h1 : ∀ j, j < n → T j → j ≠ k → ∀ t, (O j).dst = some t → VRel γ σ φ (B j) (V j) (a.tmps.getD t undef)) (hv : VRel γ σ φ (B k) (V k) v') :
    ∀ j, j < n → (T j ∨ j = k) → ∀ t, (O j).dst = some t → VRel γ σ φ (B j) (V j) ((a.put (O k).dst v').tmps.getD t undef) := by
  intro j hj hT t ht
  by_cases hjk : j = k
  · subst hjk
    rw [ht]
    have := L.bound j hj t ht
    simpa [Act.put, Array.getD, hsz, this] using hv
  · have hT' := hT.resolve_right hjk
    have hne : (O k).dst ≠ some t := by
      rcases Nat.lt_or_gt_of_ne hjk with h | h
      · exact L.dst j k h hk t ht
      · intro he; exact L.dst k j h hj t he ht
    have := h1 j hj hT' hjk t ht
    cases hd : (O k).dst with
    | none => exact this
    | some d =>
      have hdt : d ≠ t := fun he => hne (by rw [hd, he])
      simpa [Act.put, Array.getD_eq_getD_getElem?, Array.getElem?_setIfInBounds_ne hdt] using this
theorem Inv.write2 {k : Nat} (hk : k < n) {v' : Value} {B : Nat → Prop}
    (h2 : ∀ t v, (∀ j, j < n → T j → (O j).dst ≠ some t) → (E 0).get t = some v → VRel γ σ φ B v (a.tmps.getD t undef)) :
    ∀ t v, (∀ j, j < n → (T j ∨ j = k) → (O j).dst ≠ some t) → (E 0).get t = some v → VRel γ σ φ B v ((a.put (O k).dst v').tmps.getD t undef) := by
  intro t v hno hv
  have := h2 t v (fun j hj hT => hno j hj (.inl hT)) hv
  cases hd : (O k).dst with
  | none => exact this
  | some d =>
    have hdt : d ≠ t := fun he => hno k hk (.inr rfl) (by rw [hd, he])
    simpa [Act.put, Array.getD_eq_getD_getElem?, Array.getElem?_setIfInBounds_ne hdt] using this

/-- One through that touches no memory. -/
theorem Inv.still (L : Plan D ty ops ntm n Ix O RS) (hsz0 : a0.tmps.size = ntm) (i : Inv γ σ n O E G V W φ0 w0 a0 T a w φ bp K g) {k : Nat} (hk : k < n) (h1 : (O k).op.cls ≠ .e) (h2 : (O k).op.cls = .a → W k = false) {v' : Value}
    (hv : VRel γ σ φ (fun b => K b ∧ b < max (G bp).next (G (k + 1)).next) (V k) v') :
    Inv γ σ n O E G V W φ0 w0 a0 (fun j => T j ∨ j = k) (a.put (O k).dst v') w φ bp K g where
  bpn := i.bpn
  c1 j hj hc := .inl (i.c1 j hj hc)
  c2 j hj hjn hc hT := hT.elim (i.c2 j hj hjn hc) fun h => h1 (h ▸ hc)
  c3 := i.c3
  k1 := i.k1
  k2 m hm hmn hT hc hw := by
    rcases hT with hT | rfl
    · exact i.k2 m hm hmn hT hc hw
    · rw [h2 hc] at hw; cases hw
  k3 b hb := by
    rcases i.k3 b hb with h | ⟨m, q1, q2, q3, q4, q5, q6⟩
    · exact .inl h
    · exact .inr ⟨m, q1, q2, .inl q3, q4, q5, q6⟩
  g1 := i.g1
  g2 := i.g2
  g3 := i.g3
  rel := i.rel
  goes := i.goes
  s1 := Inv.write1 (B := fun j b => K b ∧ b < max (G bp).next (G (j + 1)).next) L (i.sz.trans hsz0) hk (fun j hj hT _ t ht => i.s1 j hj hT t ht) hv
  s2 := Inv.write2 hk i.s2
  sz := (Act.put_size _ _ _).trans i.sz
  df := (Act.put_defers' _ _ _).trans i.df
end
end Go.Proofs.YtohmaikcmaapjaaGreat.LI
