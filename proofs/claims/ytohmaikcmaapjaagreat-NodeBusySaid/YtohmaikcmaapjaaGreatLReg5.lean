/- A drawn region: a making, an act, the end. -/
import Derived.Test.YtohmaikcmaapjaaGreatLReg4
namespace Go.Proofs.YtohmaikcmaapjaaGreat.LI
variable {I S : Type}
theorem evalA_writ {D : Dom I S} {e : EnvF I S} {x : AOp I S} {r : (Nat → LV I S) × LObj I S} (h : evalA D e x = some r) : r.2.writ = true := by
  cases x <;> simp only [evalA, Option.bind_eq_some_iff, Option.some.injEq] at h
  · obtain ⟨v, _, h⟩ := h; obtain ⟨_, h⟩ := cond_some h; cases h; rfl
  · obtain ⟨ps, _, c, _, h⟩ := h; obtain ⟨_, h⟩ := cond_some h; cases h; rfl
  · cases h; rfl
  · obtain ⟨_, _, _, _, _, _, _, _, h⟩ := h; obtain ⟨_, h⟩ := cond_some h; cases h; rfl
  · obtain ⟨v, _, h⟩ := h
    cases v <;> simp only [reduceCtorEq] at h
    obtain ⟨_, h⟩ := cond_some h; cases h; rfl
section
variable {P : Program} {γ : I → Int} {σ : Sg I S} {D : Dom I S} {ty : Nat → Option (TyI I S)} {cf : CallF I S} {ops : Array Oper} {ntm n : Nat} {Ix : Nat → Nat} {O : Nat → LOper I S} {RS : Nat → List (LOper I S)} {E : Nat → Env I S} {G : Nat → H I S} {V : Nat → LV I S} {W : Nat → Bool}
variable {φ0 : Phi} {w0 : World} {a0 : Act} {T : Nat → Prop} {a : Act} {w : World} {φ : Phi} {bp : Nat} {K : Nat → Prop} {g : Mem I S}

/-- The numbers that makings have are their own. -/
theorem Run.apart (hcf : CallOk P γ σ cf) (R : Run D cf n O RS E G V W) {m k : Nat} (hm : m < n) (hk : k < n) (hc : (O m).op.cls = .a) (hw : W m = true) (hmk : m < k) : (G m).next < (G k).next := by
  obtain ⟨x, r, _, _, _, hG⟩ := R.making hm hc hw
  have h1 : (G (m + 1)).next = (G m).next + 1 := by rw [hG]; rfl
  have := R.next hcf (show m + 1 ≤ k by omega) (by omega)
  omega

/-- A making. -/
theorem Inv.make (hcf : CallOk P γ σ cf) (L : Plan D ty ops ntm n Ix O RS) (R : Run D cf n O RS E G V W) (hsz0 : a0.tmps.size = ntm) (hg0 : ∀ b o, (G 0).t.get b = some o → b < (G 0).next) (i : Inv γ σ n O E G V W φ0 w0 a0 T a w φ bp K g)
    {k : Nat} (hk : k < n) (hkT : ¬ T k) (hc : (O k).op.cls = .a) (hw : W k = true) {mk : Nat → LV I S} {obj : LObj I S} (hV : V k = mk (G k).next) (hG : G (k + 1) = newB (G k) obj) (hwr : obj.writ = true)
    {robj : Obj} {v' : Value} {w' : World} {room : Nat} (hheap : w'.heap = w.heap.push robj) (hos : w'.os = w.os) (htape : w'.tape = w.tape) (hout : w'.output = w.output)
    (hall : ∀ (φ' : Phi) (K' : Nat → Prop) (b : Nat), (∀ c, (K c ∧ c < max (G bp).next (G k).next) → K' c) → (∀ c, (K c ∧ c < max (G bp).next (G k).next) → φ' c = φ c) → K' b → φ' b = ⟨w.heap.size, 0, room⟩ → VRel γ σ φ' K' (mk b) v' ∧
      ∀ w2 : World, w2.heap[w.heap.size]? = some robj → ORel γ σ φ' K' w2 (φ' b) obj) :
    Inv γ σ n O E G V W φ0 w0 a0 (fun j => T j ∨ j = k) (a.put (O k).dst v') w' (φ.put (G k).next ⟨w.heap.size, 0, room⟩) bp (fun c => K c ∨ c = (G k).next) (fun m => if m = (G k).next then some obj else g m) := by
  have hbk : bp ≤ k := by
    rcases Nat.lt_or_ge k bp with h | h
    · exact absurd (i.c1 k h (.inr hc)) hkT
    · exact h
  have hbn := R.next hcf hbk (by omega)
  have h0n := R.next hcf (Nat.zero_le bp) i.bpn
  have hnew : ¬ K (G k).next := by
    intro hK
    rcases i.k3 _ hK with h | ⟨m, q1, q2, q3, q4, q5, q6⟩
    · omega
    · rcases Nat.lt_trichotomy m k with h | h | h
      · have := R.apart hcf q2 hk q4 q5 h; omega
      · subst h; exact hkT q3
      · have := R.apart hcf hk q2 hc hw h; omega
  have hput : ∀ c, K c → (φ.put (G k).next ⟨w.heap.size, 0, room⟩) c = φ c := fun c hcK => Phi.put_ne (fun e => hnew (e ▸ hcK))
  have hnx : (G (k + 1)).next = (G k).next + 1 := by rw [hG]; rfl
  have hinst := hall (φ.put (G k).next ⟨w.heap.size, 0, room⟩) (fun c => (K c ∨ c = (G k).next) ∧ c < max (G bp).next ((G k).next + 1)) (G k).next (fun c hcK => ⟨.inl hcK.1, by have := hcK.2; omega⟩) (fun c hcK => hput c hcK.1) ⟨.inr rfl, by omega⟩ Phi.put_same
  have hpush := i.rel.push hnew hheap hos htape hout (by
    have := hinst.2 w' (by rw [hheap]; simp)
    rwa [Phi.put_same] at this)
  have hget : (G (k + 1)).t.get = fun m => if m = (G k).next then some obj else (G k).t.get m := by rw [hG]; exact get_set' _ _ _
  refine ⟨i.bpn, fun j hj hjc => .inl (i.c1 j hj hjc), ?_, i.c3, fun b hb => .inl (i.k1 b hb), ?_, ?_, ?_, i.g2, ?_, hpush.1, ?_, ?_, ?_, (Act.put_size _ _ _).trans i.sz, (Act.put_defers' _ _ _).trans i.df⟩
  · intro j hj hjn hjc hT
    rcases hT with hT | rfl
    · exact i.c2 j hj hjn hjc hT
    · rw [hc] at hjc; cases hjc
  · intro m hm hmn hT hmc hmw
    rcases hT with hT | rfl
    · obtain ⟨q1, q2⟩ := i.k2 m hm hmn hT hmc hmw
      exact ⟨.inl q1, by simp only [if_neg (show (G m).next ≠ (G k).next from fun e => hnew (e ▸ q1))]; exact q2⟩
    · exact ⟨.inr rfl, by rw [hget]; simp⟩
  · intro b hb
    rcases hb with hb | rfl
    · rcases i.k3 b hb with h | ⟨m, q1, q2, q3, q4, q5, q6⟩
      · exact .inl h
      · exact .inr ⟨m, q1, q2, .inl q3, q4, q5, q6⟩
    · exact .inr ⟨k, hbk, hk, .inr rfl, hc, hw, rfl⟩
  · intro b hb
    simp only [if_neg (show b ≠ (G k).next by omega)]
    exact i.g1 b hb
  · intro b o hb hbl
    by_cases e : b = (G k).next
    · rw [if_pos e] at hb; cases hb; exact hwr
    · rw [if_neg e] at hb; exact i.g3 b o hb hbl
  · exact Goes.trans hg0 i.rel.lt i.goes hpush.2
  · refine Inv.write1 (B := fun j b => (K b ∨ b = (G k).next) ∧ b < max (G bp).next (G (j + 1)).next) L (i.sz.trans hsz0) hk (fun j hj hT _ t ht => ?_) ?_
    · exact (i.s1 j hj hT t ht).mono (fun b hb => ⟨.inl hb.1, hb.2⟩) (fun b hb => hput b hb.1)
    · show VRel γ σ _ (fun b => (K b ∨ b = (G k).next) ∧ b < max (G bp).next (G (k + 1)).next) (V k) v'
      rw [hV, hnx]; exact hinst.1
  · refine Inv.write2 hk fun t v hno hv => ?_
    exact (i.s2 t v hno hv).mono (fun _ h => h) (fun b (hb : b < (G 0).next) => hput b (i.k1 b (by omega)))

/-- An act. -/
theorem Inv.act (hcf : CallOk P γ σ cf) (L : Plan D ty ops ntm n Ix O RS) (R : Run D cf n O RS E G V W) (hsz0 : a0.tmps.size = ntm) (hg0 : ∀ b o, (G 0).t.get b = some o → b < (G 0).next) (i : Inv γ σ n O E G V W φ0 w0 a0 T a w φ bp K g)
    {k : Nat} (hk : k < n) (hbk : bp ≤ k) (hc : (O k).op.cls = .e) (he : ∀ j, bp ≤ j → j < k → (O j).op.cls ≠ .e) (ha : ∀ j, bp ≤ j → j < k → (O j).op.cls = .a → T j)
    {v' : Value} {w' : World} (hp : Post γ σ φ (G k) w (V k) (G (k + 1)) v' w') :
    ∃ φ' K' g', Inv γ σ n O E G V W φ0 w0 a0 (fun j => T j ∨ j = k) (a.put (O k).dst v') w' φ' (k + 1) K' g' := by
  obtain ⟨φ1, hv, hr1, hgo⟩ := hp
  obtain ⟨h1, h2, h3⟩ := i.chain R hbk (by omega) he ha
  have hn1 := R.next1 hcf hk
  have hbn := R.next hcf hbk (by omega)
  have h0n := R.next hcf (Nat.zero_le bp) i.bpn
  have hex : ∀ b, K b → b < (G k).next ∨ (G (k + 1)).next ≤ b := by
    intro b hb
    rcases i.k3 b hb with h | ⟨m, q1, q2, q3, q4, q5, q6⟩
    · exact .inl (by omega)
    · rcases Nat.lt_trichotomy m k with h | h | h
      · have := R.apart hcf q2 hk q4 q5 h; exact .inl (by omega)
      · subst h; rw [hc] at q4; cases q4
      · have := R.next hcf (show k + 1 ≤ m by omega) (by omega); exact .inr (by omega)
  obtain ⟨hf1, hf2⟩ := i.rel.frame hbn hn1 h1 hex h2 h3 (fun b o hb hl => i.g3 b o hb (by omega)) hr1 hgo
  have hagree : ∀ b, K b → (if b < (G (k + 1)).next then φ1 b else φ b) = φ b := hf2.agree
  refine ⟨fun b => if b < (G (k + 1)).next then φ1 b else φ b, fun b => b < (G (k + 1)).next ∨ K b, fun b => if b < (G (k + 1)).next then (G (k + 1)).t.get b else g b, by omega, ?_, ?_, ?_, fun b hb => .inl hb, ?_, ?_, ?_, ?_, ?_, hf1, Goes.trans hg0 i.rel.lt i.goes hf2, ?_, ?_, (Act.put_size _ _ _).trans i.sz, (Act.put_defers' _ _ _).trans i.df⟩
  · intro j hj hjc
    by_cases hjk : j = k
    · exact .inr hjk
    · rcases Nat.lt_or_ge j bp with h | h
      · exact .inl (i.c1 j h hjc)
      · rcases hjc with hjc | hjc
        · exact absurd hjc (he j h (by omega))
        · exact .inl (ha j h (by omega) hjc)
  · intro j hj hjn hjc hT
    rcases hT with hT | rfl
    · exact i.c2 j (by omega) hjn hjc hT
    · omega
  · intro q hq; cases hq; exact hc
  · intro m hm hmn hT hmc hmw
    have hT' : T m := hT.resolve_right (by omega)
    obtain ⟨q1, q2⟩ := i.k2 m (by omega) hmn hT' hmc hmw
    have := R.next hcf hm (by omega)
    exact ⟨.inr q1, by simp only [if_neg (show ¬ (G m).next < (G (k + 1)).next by omega)]; exact q2⟩
  · intro b hb
    rcases hb with hb | hb
    · exact .inl hb
    · rcases i.k3 b hb with h | ⟨m, q1, q2, q3, q4, q5, q6⟩
      · exact .inl (by omega)
      · rcases Nat.lt_trichotomy m k with h | h | h
        · have := R.apart hcf q2 hk q4 q5 h; exact .inl (by omega)
        · subst h; rw [hc] at q4; cases q4
        · exact .inr ⟨m, by omega, q2, .inl q3, q4, q5, q6⟩
  · intro b hb; simp only [if_pos hb]
  · intro b hb
    cases hh : (G (k + 1)).t.get b with
    | none => rfl
    | some o => exact absurd (hr1.lt b o hh) (Nat.not_lt.2 hb)
  · intro b o hb hl
    rw [if_neg (Nat.not_lt.2 hl)] at hb
    exact i.g3 b o hb (by omega)
  · refine Inv.write1 (B := fun j b => (b < (G (k + 1)).next ∨ K b) ∧ b < max (G (k + 1)).next (G (j + 1)).next) L (i.sz.trans hsz0) hk (fun j hj hT _ t ht => ?_) ?_
    · exact (i.s1 j hj hT t ht).mono (fun b hb => ⟨.inr hb.1, by have := hb.2; omega⟩) (fun b hb => hagree b hb.1)
    · exact hv.mono (fun b (hb : b < (G (k + 1)).next) => ⟨.inl hb, by omega⟩) (fun b (hb : b < (G (k + 1)).next) => if_pos hb)
  · refine Inv.write2 hk fun t v hno hv => ?_
    exact (i.s2 t v hno hv).mono (fun _ h => h) (fun b (hb : b < (G 0).next) => hagree b (i.k1 b (by omega)))

/-- All through. -/
theorem Inv.done (hcf : CallOk P γ σ cf) (L : Plan D ty ops ntm n Ix O RS) (R : Run D cf n O RS E G V W) (i : Inv γ σ n O E G V W φ0 w0 a0 T a w φ bp K g) (hT : ∀ j, j < n → T j) :
    ERelE γ σ φ (G n).ids (E n).get a.tmps ∧ Rel γ σ φ (G n) w ∧ Goes φ0 (G 0).ids (G 0).t.get w0 φ (G n).ids (G n).t.get w := by
  obtain ⟨h1, h2, h3⟩ := i.chain R i.bpn (Nat.le_refl n) (fun j hj hjn hc => i.c2 j hj hjn hc (hT j hjn)) (fun j _ hjn _ => hT j hjn)
  have hbn := R.next hcf i.bpn (Nat.le_refl n)
  have hK : ∀ b, K b → b < (G n).next := by
    intro b hb
    rcases i.k3 b hb with h | ⟨m, q1, q2, q3, q4, q5, q6⟩
    · omega
    · obtain ⟨x, r, _, _, _, hG⟩ := R.making q2 q4 q5
      have h1 : (G (m + 1)).next = (G m).next + 1 := by rw [hG]; rfl
      have := R.next hcf (show m + 1 ≤ n by omega) (Nat.le_refl n)
      omega
  have hKe : K = (G n).ids := funext fun b => propext ⟨hK b, h1 b⟩
  have hge : g = (G n).t.get := funext fun b => by
    rcases Nat.lt_or_ge b (G n).next with h | h
    · exact h2 b h
    · rw [h3 b h]
      cases hg : g b with
      | none => rfl
      | some o => have := hK b (i.rel.lt b o hg); omega
  refine ⟨?_, ?_, ?_⟩
  · intro t v hv
    by_cases hex : ∃ j, j < n ∧ (O j).dst = some t
    · obtain ⟨j, hj, hjt⟩ := hex
      rw [R.slot L hj (Nat.le_refl n) hjt] at hv
      cases hv
      exact (i.s1 j hj (hT j hj) t hjt).mono (fun b hb => hK b hb.1) (fun _ _ => rfl)
    · rw [R.slot0 (Nat.le_refl n) fun j hj hjt => hex ⟨j, hj, hjt⟩] at hv
      have h0n := R.next hcf (Nat.zero_le n) (Nat.le_refl n)
      exact (i.s2 t v (fun j hj _ hjt => hex ⟨j, hj, hjt⟩) hv).mono (fun b (hb : b < (G 0).next) => (show b < (G n).next by omega)) (fun _ _ => rfl)
  · have := i.rel.full; rwa [hKe, hge] at this
  · have := i.goes; rwa [hKe, hge] at this
end
end Go.Proofs.YtohmaikcmaapjaaGreat.LI
