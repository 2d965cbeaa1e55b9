/- Regions: what was looked over holds. -/
import Derived.Test.YtohmaikcmaapjaaGreatLReg6
namespace Go.Proofs.YtohmaikcmaapjaaGreat.LI
variable {I S : Type}

theorem within_bit {a d : Nat} (h : within a d = true) {i : Nat} (hi : a.testBit i = true) : d.testBit i = true := by
  unfold within at h
  have : a &&& d = a := Nat.eq_of_beq_eq_true h
  rw [← this, Nat.testBit_and, Bool.and_eq_true] at hi
  exact hi.2
theorem lor_bit {d i j : Nat} : (Nat.lor d (2 ^ i)).testBit j = true ↔ d.testBit j = true ∨ j = i := by
  have : Nat.lor d (2 ^ i) = d ||| 2 ^ i := rfl
  rw [this, Nat.testBit_or, Bool.or_eq_true, Nat.testBit_two_pow]
  exact or_congr Iff.rfl ⟨fun h => (of_decide_eq_true h).symm, fun h => decide_eq_true h.symm⟩
theorem readsOf_mem {m : Nat} : ∀ {l : List (SOp I S)} {s : SOp I S}, s ∈ readsOf m l ↔ s ∈ l ∧ s.cls = .r ∧ bit m s.i = false
  | [], s => by simp [readsOf]
  | x :: l, s => by
    unfold readsOf
    cases hc : x.cls with
    | r =>
      cases hb : bit m x.i with
      | true =>
        simp only [cond_true, readsOf_mem (l := l), List.mem_cons]
        constructor
        · rintro ⟨h1, h2⟩; exact ⟨.inr h1, h2⟩
        · rintro ⟨rfl | h1, h2, h3⟩
          · rw [hb] at h3; cases h3
          · exact ⟨h1, h2, h3⟩
      | false =>
        simp only [cond_false, readsOf_mem (l := l), List.mem_cons]
        constructor
        · rintro (rfl | ⟨h1, h2⟩)
          · exact ⟨.inl rfl, hc, hb⟩
          · exact ⟨.inr h1, h2⟩
        · rintro ⟨rfl | h1, h2, h3⟩
          · exact .inl rfl
          · exact .inr ⟨h1, h2, h3⟩
    | _ =>
      simp only [readsOf_mem (l := l), List.mem_cons]
      constructor
      · rintro ⟨h1, h2⟩; exact ⟨.inr h1, h2⟩
      · rintro ⟨rfl | h1, h2, h3⟩
        · rw [hc] at h2; cases h2
        · exact ⟨h1, h2, h3⟩
theorem opsOf_eq : ∀ (l : List (SOp I S)), opsOf l = l.map (·.op)
  | [] => rfl
  | s :: l => by simp [opsOf, opsOf_eq l]

theorem annot_spec {full ntm : Nat} {tab : Nat → Option (SOp I S)} (htab : ∀ i s, tab i = some s → s.i = i) : ∀ (idx : List Nat) (d : Nat) (done : List (SOp I S)) (its : List (LItem I S)), annot full ntm tab idx d done = some its →
    (∀ i, d.testBit i = true → ∃ s ∈ done, s.i = i) →
    ∃ ss : List (SOp I S), its.length = ss.length ∧ (∀ (k : Nat) (s : SOp I S), ss[k]? = some s → tab s.i = some s ∧ its[k]? = some ⟨s.op, opsOf (rereads s ((ss.take k).reverse ++ done))⟩ ∧
      (∀ i, s.ahead.testBit i = true → ∃ j ∈ (ss.take k).reverse ++ done, j.i = i) ∧ (∀ j ∈ (ss.take k).reverse ++ done, pairOk s j = true) ∧ dstLt ntm s.op = true ∧
      (∀ r ∈ rereads s ((ss.take k).reverse ++ done), againOk (s :: ((ss.take k).reverse ++ done)) r = true)) ∧ (∀ i, full.testBit i = true → ∃ s ∈ ss.reverse ++ done, s.i = i) := by
  intro idx
  induction idx with
  | nil =>
    intro d done its h hd
    simp only [annot] at h
    obtain ⟨h1, h2⟩ := cond_some h
    cases h2
    cases Nat.eq_of_beq_eq_true h1
    exact ⟨[], rfl, fun k s hs => by simp at hs, by simpa using hd⟩
  | cons i idx ih =>
    intro d done its h hd
    simp only [annot, Option.bind_eq_some_iff] at h
    obtain ⟨s, hs, h⟩ := h
    obtain ⟨hc, h⟩ := cond_some h
    simp only [Option.bind_eq_some_iff, Option.some.injEq] at h
    obtain ⟨l, hl, rfl⟩ := h
    have hsi := htab i s hs
    simp only [Bool.and_eq_true] at hc
    obtain ⟨⟨⟨c1, c2⟩, c3⟩, c4⟩ := hc
    obtain ⟨ss, h1, h2, h3⟩ := ih _ _ _ hl (by
      intro j hj
      rcases lor_bit.1 hj with hj | rfl
      · obtain ⟨x, hx, e⟩ := hd j hj; exact ⟨x, by simp [hx], e⟩
      · exact ⟨s, by simp, hsi⟩)
    refine ⟨s :: ss, by simp [h1], ?_, ?_⟩
    · intro k x hk
      cases k with
      | zero =>
        simp only [List.getElem?_cons_zero, Option.some.injEq] at hk
        subst hk
        simp only [List.take_zero, List.reverse_nil, List.nil_append, List.getElem?_cons_zero, Option.some.injEq]
        exact ⟨by rw [hsi]; exact hs, trivial, fun j hj => hd j (within_bit c1 hj), fun j hj => allB_mem c2 j hj, c3, fun r hr => allB_mem c4 r hr⟩
      | succ k =>
        simp only [List.getElem?_cons_succ] at hk
        have := h2 k x hk
        simpa only [List.take_succ_cons, List.reverse_cons, List.append_assoc, List.singleton_append, List.getElem?_cons_succ] using this
    · intro j hj
      obtain ⟨x, hx, e⟩ := h3 j hj
      refine ⟨x, ?_, e⟩
      simp only [List.mem_append, List.mem_reverse, List.mem_cons] at hx ⊢
      rcases hx with h | h | h
      · exact .inl (.inr h)
      · exact .inl (.inl h)
      · exact .inr h

section
variable {P : Program} {γ : I → Int} {σ : Sg I S} {D : Dom I S} {ty : Nat → Option (TyI I S)} {cf : CallF I S}

def dI : LItem I S := ⟨⟨none, none, .p (.num 0)⟩, []⟩
theorem plan_of {ops : Array Oper} {ntm : Nat} {l : List (LOper I S)} (hl : trOpers D ty ops ops.toList = some l) {idx : List Nat} {its : List (LItem I S)} (h : annot (2 ^ ops.size - 1) ntm (entry l (Region.before ops).toList) idx 0 [] = some its) :
    ∃ Ix, Plan D ty ops ntm its.length Ix (fun k => (its[k]?.getD dI).o) (fun k => (its[k]?.getD dI).rs) := by
  obtain ⟨hlen, hget⟩ := trOpers_get hl
  have ent : ∀ i s, entry l (Region.before ops).toList i = some s → s.i = i ∧ l[i]? = some s.op ∧ maskAt ops i = s.ahead ∧ s.cls = s.op.op.cls := by
    intro i s hs
    simp only [entry, Option.bind_eq_some_iff, Option.some.injEq, nth_eq] at hs
    obtain ⟨o, h1, b, h2, rfl⟩ := hs
    refine ⟨rfl, h1, ?_, rfl⟩
    unfold maskAt
    have : (Region.before ops)[i]? = some b := by simpa using h2
    rw [Array.getD_eq_getD_getElem?, this]; rfl
  obtain ⟨ss, h1, h2, h3⟩ := annot_spec (fun i s hs => (ent i s hs).1) idx 0 [] its h (by simp)
  simp only [List.append_nil] at h2 h3
  -- the place of an element ahead
  have ahead : ∀ (k : Nat) (j : SOp I S), j ∈ (ss.take k).reverse → ∃ q, q < k ∧ ss[q]? = some j := by
    intro k j hj
    rw [List.mem_reverse] at hj
    obtain ⟨q, hq⟩ := List.mem_iff_getElem?.1 hj
    rw [List.getElem?_take] at hq
    split at hq
    · exact ⟨q, by assumption, hq⟩
    · cases hq
  have back : ∀ (k q : Nat) (j : SOp I S), q < k → ss[q]? = some j → j ∈ (ss.take k).reverse := by
    intro k q j hq hj
    rw [List.mem_reverse]
    exact List.mem_iff_getElem?.2 ⟨q, by rw [List.getElem?_take, if_pos hq, hj]⟩
  let dS : SOp I S := ⟨0, .p, 0, ⟨none, none, .p (.num 0)⟩⟩
  have at' : ∀ k, k < its.length → ∃ s, ss[k]? = some s := fun k hk => ⟨ss[k]'(by omega), List.getElem?_eq_getElem (by omega)⟩
  refine ⟨fun k => (ss[k]?.getD dS).i, ?_⟩
  -- a pair in its order
  have pair : ∀ j k, j < k → k < its.length → ∃ sj sk, ss[j]? = some sj ∧ ss[k]? = some sk ∧ (its[j]?.getD dI).o = sj.op ∧ (its[k]?.getD dI).o = sk.op ∧ (ss[j]?.getD dS).i = sj.i ∧ (ss[k]?.getD dS).i = sk.i ∧ maskAt ops sk.i = sk.ahead ∧ pairOk sk sj = true := by
    intro j k hjk hk
    obtain ⟨sj, hj⟩ := at' j (by omega)
    obtain ⟨sk, hk'⟩ := at' k hk
    obtain ⟨a1, a2, a3, a4, a5, a6⟩ := h2 k sk hk'
    obtain ⟨b1, b2, _⟩ := h2 j sj hj
    exact ⟨sj, sk, hj, hk', by rw [b2]; rfl, by rw [a2]; rfl, by rw [hj]; rfl, by rw [hk']; rfl, (ent _ _ a1).2.2.1, a4 sj (back k j sj hjk hj)⟩
  refine ⟨?_, ?_, ?_, ?_, ?_, ?_, ?_, ?_, ?_, ?_⟩
  · intro k hk
    obtain ⟨s, hs⟩ := at' k hk
    obtain ⟨a1, a2, _⟩ := h2 k s hs
    obtain ⟨o, ho, hto⟩ := hget s.i s.op (ent _ _ a1).2.1
    refine ⟨o, ?_, ?_⟩
    · simp only [hs, Option.getD_some]; simpa using ho
    · simp only [a2, Option.getD_some]; exact hto
  · intro i hi
    obtain ⟨s, hs, hsi⟩ := h3 i (by rw [Nat.testBit_two_pow_sub_one]; simpa using hi)
    rw [List.mem_reverse] at hs
    obtain ⟨k, hk⟩ := List.mem_iff_getElem?.1 hs
    have : k < ss.length := (List.getElem?_eq_some_iff.1 hk).1
    exact ⟨k, by omega, by rw [hk]; exact hsi⟩
  · intro k hk i hi
    obtain ⟨s, hs⟩ := at' k hk
    obtain ⟨a1, a2, a3, _⟩ := h2 k s hs
    simp only [hs, Option.getD_some] at hi
    rw [(ent _ _ a1).2.2.1] at hi
    obtain ⟨j, hj, hji⟩ := a3 i hi
    obtain ⟨q, hq, hq'⟩ := ahead k j hj
    exact ⟨q, hq, by rw [hq']; exact hji⟩
  · intro j k hjk hk
    obtain ⟨sj, sk, _, _, _, _, e1, e2, _, hp⟩ := pair j k hjk hk
    simp only [e1, e2]
    intro he
    simp only [pairOk, Bool.and_eq_true, Bool.not_eq_true'] at hp
    rw [he, Nat.beq_refl] at hp
    cases hp.1.1
  · intro j k hjk hk hn
    obtain ⟨sj, sk, hj, hk', e3, e4, e1, e2, hm, hp⟩ := pair j k hjk hk
    simp only [e1, e2, hm]
    simp only [e3, e4] at hn
    rw [← (ent _ _ (h2 j sj hj).1).2.2.2, ← (ent _ _ (h2 k sk hk').1).2.2.2] at hn
    simp only [pairOk, Bool.and_eq_true, hn, Bool.true_or, imp, cond_true] at hp
    rw [← bit_eq]; exact hp.1.2
  · intro j k hjk hk hkc hjc
    obtain ⟨sj, sk, hj, hk', e3, e4, e1, e2, hm, hp⟩ := pair j k hjk hk
    simp only [e3, e4] at hkc hjc
    rw [← (ent _ _ (h2 j sj hj).1).2.2.2] at hjc
    rw [← (ent _ _ (h2 k sk hk').1).2.2.2] at hkc
    obtain ⟨a1, a2, a3, a4, a5, a6⟩ := h2 k sk hk'
    simp only [e1, e2, hm]
    cases hb : bit sk.ahead sj.i with
    | true => left; rw [← bit_eq]; exact hb
    | false =>
      right
      have hmem : sj ∈ rereads sk (ss.take k).reverse := by
        unfold rereads
        rw [hkc]
        exact readsOf_mem.2 ⟨back k j sj hjk hj, hjc, hb⟩
      refine ⟨?_, ?_⟩
      · simp only [a2, Option.getD_some, e3]
        rw [opsOf_eq]
        exact List.mem_map.2 ⟨sj, hmem, rfl⟩
      · intro q hq d hd hds
        have hag := a6 sj hmem
        obtain ⟨sq, hq'⟩ := at' q (by omega)
        obtain ⟨b1, b2, _⟩ := h2 q sq hq'
        have hqm : sq ∈ sk :: (ss.take k).reverse := by
          rcases Nat.lt_or_eq_of_le hq with h | h
          · exact List.mem_cons_of_mem _ (back k q sq h hq')
          · subst h; rw [hk'] at hq'; cases hq'; exact List.mem_cons_self
        have hx := allB_mem hag sq hqm
        simp only [b2, Option.getD_some] at hd
        simp only [e3] at hds
        have hin : dstIn sq.op sj.op.slots = true := dstIn_iff.2 ⟨d, hd, hds⟩
        simp only [hin, imp, cond_true] at hx
        rw [(ent _ _ (h2 j sj hj).1).2.2.1, hq', ← bit_eq]; exact hx
  · intro j k hjk hk d hd hds
    obtain ⟨sj, sk, hj, hk', e3, e4, e1, e2, hm, hp⟩ := pair j k hjk hk
    simp only [e3] at hd
    simp only [e4] at hds
    simp only [e1, e2, hm]
    have hin : dstIn sj.op sk.op.slots = true := dstIn_iff.2 ⟨d, hd, hds⟩
    simp only [pairOk, Bool.and_eq_true, hin, Bool.or_true, Bool.true_or, imp, cond_true] at hp
    rw [← bit_eq]; exact hp.1.2
  · intro j k hjk hk d hd hds
    obtain ⟨sj, sk, hj, hk', e3, e4, e1, e2, hm, hp⟩ := pair j k hjk hk
    simp only [e4] at hd
    simp only [e3] at hds
    simp only [e1, e2, hm]
    have hin : dstIn sk.op sj.op.slots = true := dstIn_iff.2 ⟨d, hd, hds⟩
    simp only [pairOk, Bool.and_eq_true, hin, Bool.or_true, imp, cond_true] at hp
    rw [← bit_eq]; exact hp.1.2
  · intro j k hjk hk d hd hdk
    obtain ⟨sj, sk, hj, hk', e3, e4, e1, e2, hm, hp⟩ := pair j k hjk hk
    simp only [e3] at hd
    simp only [e4] at hdk
    simp only [pairOk, Bool.and_eq_true, sameDst, hd, hdk, Nat.beq_refl, Bool.not_true, Bool.false_eq_true, and_false] at hp
  · intro k hk d hd
    obtain ⟨s, hs⟩ := at' k hk
    obtain ⟨a1, a2, a3, a4, a5, a6⟩ := h2 k s hs
    simp only [a2, Option.getD_some] at hd
    simpa [dstLt, hd, Nat.blt_eq] using a5

theorem region_wp {F : Fence} (hF : Wide F) {n0 : Nat} (hm : P.follows .mixedOrders = true) (hcf : CallOk P γ σ cf) (hD : D.Ok γ σ) (hty : Tys P γ σ ty) {id : Nat} {ops : Array Oper} {draw : Bool} {its : List (LItem I S)} {a : Act} (ht : trReg D ty a.tmps.size ops draw = some its) {Q : Exit → Act → World → Prop}
    {φ : Phi} {w : World} {e e' : Env I S} {h h' : H I S} (he : ERelE γ σ φ h.ids e.get a.tmps) (hr : Rel γ σ φ h w) (hi : items D cf its e h = some (e', h'))
    (hQ : ∀ φ' a' w', ERelE γ σ φ' h'.ids e'.get a'.tmps → Rel γ σ φ' h' w' → Goes φ h.ids h.t.get w φ' h'.ids h'.t.get w' → a'.tmps.size = a.tmps.size → a'.defers = a.defers → Q .normal a' w') :
    (Code.region id ops draw).wpIn F n0 P Q a w := by
  simp only [trReg, Option.bind_eq_some_iff] at ht
  obtain ⟨l, hl, ht⟩ := ht
  cases draw
  · simp only [cond_false] at ht
    obtain ⟨hb, ht⟩ := cond_some ht
    cases ht
    refine wpIn_region ?_
    rw [List.range_eq_range']
    exact text_wp hF hcf hD hty hl ops.size 0 φ a w e e' h h' (by omega) hb he hr (by simpa using hi) hQ
  · simp only [cond_true] at ht
    obtain ⟨Ix, L⟩ := plan_of hl ht
    obtain ⟨E, G, V, W, hE, hG, hE', hG', R⟩ := run_of_items dI its e e' h h' hi
    refine wpIn_region_any hm ?_
    have hr' : Rel γ σ φ (G 0) { w with drawn := w.drawn + 1 } := by
      rw [hG]
      exact ⟨hr.lt, fun b o hb => ORel.mono (w := w) (w' := { w with drawn := w.drawn + 1 }) (fun _ h => h) (fun _ _ => rfl) rfl (hr.obj b o hb), hr.inj⟩
    refine any_wp hF (φ0 := φ) (w0 := { w with drawn := w.drawn + 1 }) (a0 := a) hcf hD hty L R rfl hr'.lt ?_ ops.size _ a _ (by simp) ?_ ?_ ⟨φ, 0, (G 0).ids, (G 0).t.get, ?_⟩
    · intro φ' a' w' h1 h2 h3 h4 h5
      rw [hE', hG'] at *
      rw [hG] at h3
      refine hQ φ' a' w' h1 h2 ⟨h3.le, h3.agree, h3.size, h3.os, h3.tape, h3.output, h3.frame, h3.prov, h3.fresh⟩ h4 h5
    · unfold left; simp [List.count_replicate]
    · intro i hi
      rw [Array.getD_eq_getD_getElem?] at hi
      simp only [Array.getElem?_replicate] at hi
      split at hi <;> simp at hi
    · have hno : ∀ k, ¬ ((Array.replicate ops.size false).getD (Ix k) false = true) := by
        intro k hi
        rw [Array.getD_eq_getD_getElem?] at hi
        simp only [Array.getElem?_replicate] at hi
        split at hi <;> simp at hi
      refine ⟨Nat.zero_le _, fun j hj => by omega, fun j _ _ _ hT => hno j hT, fun q hq => by omega, fun b hb => hb, fun m _ _ hT => absurd hT (hno m), fun b hb => .inl hb, fun b _ => rfl, ?_, ?_, RelB.of_rel hr', Goes.refl _ _ _ _, fun j _ hT => absurd hT (hno j), ?_, rfl, rfl⟩
      · intro b hb
        cases hh : (G 0).t.get b with
        | none => rfl
        | some o => exact absurd (hr'.lt b o hh) (Nat.not_lt.2 hb)
      · intro b o hb hl
        exact absurd (hr'.lt b o hb) (Nat.not_lt.2 hl)
      · intro t v _ hv
        rw [hE] at hv; rw [hG]; exact he t v hv
end
end Go.Proofs.YtohmaikcmaapjaaGreat.LI
