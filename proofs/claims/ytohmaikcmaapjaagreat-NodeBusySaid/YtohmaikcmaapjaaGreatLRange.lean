/- A range over a function: its record, the marks that it leaves, the statement. -/
import Derived.Test.YtohmaikcmaapjaaGreatLReg7
import Derived.LoopNIn
namespace Go.Proofs.YtohmaikcmaapjaaGreat.LI
variable {I S : Type}
section
variable {P : Program} {γ : I → Int} {σ : Sg I S} {D : Dom I S} {ty : Nat → Option (TyI I S)} {cf : CallF I S} {φ φ' : Phi} {h h' : H I S} {w w' : World}
/-- The memory goes on as it lay. -/
theorem Rel.keep (hr : Rel γ σ φ h w) (hs : w.heap.size ≤ w'.heap.size) (hb : ∀ r, r < w.heap.size → w'.heap[r]? = w.heap[r]?) (hos : w'.os = w.os) (ht : w'.tape = w.tape) (ho : w'.output = w.output) :
    Rel γ σ φ h w' ∧ Goes φ h.ids h.t.get w φ h.ids h.t.get w' := by
  refine ⟨⟨hr.lt, fun b o hbo => ?_, hr.inj⟩, ⟨fun _ h => h, fun _ _ => rfl, hs, hos, ht, ho, fun r hlt _ => hb r hlt, fun b o hbo _ => .inl hbo, fun b o h1 h2 => by rw [h1] at h2; cases h2⟩⟩
  have := hr.obj b o hbo
  by_cases hl : o.live = true
  · exact this.mono (fun _ h => h) (fun _ _ => rfl) (hb _ (this.blk_lt hl))
  · cases o <;> first | exact .gone | (exact absurd rfl hl)

/-- The code that stands for the machine's is its translation. -/
def TcOk (D : Dom I S) (ty : Nat → Option (TyI I S)) (σ : Sg I S) : Prop := ∀ ntm rc, σ.tc ntm rc (trCode D ty ntm true rc) ∧ ∀ lc, σ.tc ntm rc lc → lc = trCode D ty ntm true rc

/-- The block of the rounds' deferred calls. -/
abbrev Shut (w : World) (r : Nat) : Prop := w.heap[r]? = some (.deferred (some []))
def mark (r : Nat) : Deferred := { target := .collected r, args := #[] }
/-- The marks that code leaves. -/
def Marks (w : World) (ds ds' : List Deferred) (w' : World) : Prop := ∃ ms : List Nat, ds' = ms.map mark ++ ds ∧ ms.Nodup ∧ ∀ r ∈ ms, w.heap.size ≤ r ∧ Shut w' r
theorem Marks.refl {ds : List Deferred} : Marks w ds ds w' := ⟨[], rfl, .nil, fun _ h => nomatch h⟩
theorem Marks.of_eq {ds ds' : List Deferred} (h : ds' = ds) : Marks w ds ds' w' := by subst h; exact .refl
theorem Shut.lt {r : Nat} (h : Shut w r) : r < w.heap.size := (Array.getElem?_eq_some_iff.1 h).1
theorem Marks.trans {ds ds1 ds2 : List Deferred} {w1 w2 : World} (h1 : Marks w ds ds1 w1) (h2 : Marks w1 ds1 ds2 w2) (hs : w.heap.size ≤ w1.heap.size) (hk : ∀ r, Shut w1 r → Shut w2 r) : Marks w ds ds2 w2 := by
  obtain ⟨m1, rfl, n1, a1⟩ := h1
  obtain ⟨m2, rfl, n2, a2⟩ := h2
  refine ⟨m2 ++ m1, by simp, List.nodup_append.2 ⟨n2, n1, fun a ha b hb hab => ?_⟩, fun r hr => ?_⟩
  · have := (a2 a ha).1
    have := (a1 b hb).2.lt
    omega
  · rcases List.mem_append.1 hr with hr | hr
    · exact ⟨Nat.le_trans hs (a2 r hr).1, (a2 r hr).2⟩
    · exact ⟨(a1 r hr).1, hk r (a1 r hr).2⟩
/-- No block of a logical memory is one of those. -/
theorem Shut.ne (hr : Rel γ σ φ h w) {r : Nat} (hs : Shut w r) : ∀ b o, h.t.get b = some o → o.live = true → (φ b).blk ≠ r := by
  intro b o hb hl he
  have ho := hr.obj b o hb
  rw [← he] at hs
  cases ho with
  | cells m c cur e fz h1 => rw [Shut, h1] at hs; cases hs
  | map es clock es' h1 => rw [Shut, h1] at hs; cases hs
  | iter m since seen stepped _ h1 => rw [Shut, h1] at hs; cases hs
  | loop x r h1 => rw [Shut, h1] at hs; cases hs
  | gone => cases hl
theorem Shut.goes (hr : Rel γ σ φ h w) {K' : Nat → Prop} {m' : Mem I S} (hg : Goes φ h.ids h.t.get w φ' K' m' w') {r : Nat} (hs : Shut w r) : Shut w' r := by
  have := hg.frame r hs.lt fun b o hb ho => hs.ne hr b o hb (LObj.live_of_writ ho)
  rw [Shut, this]; exact hs

/-- Nothing but the marks' blocks has turned. -/
structure Off (ms : List Nat) (w w' : World) : Prop where
  size : w'.heap.size = w.heap.size
  os : w'.os = w.os
  tape : w'.tape = w.tape
  output : w'.output = w.output
  heap : ∀ r, r ∉ ms → w'.heap[r]? = w.heap[r]?
theorem Off.rel {ms : List Nat} (ho : Off ms w w') (hr : Rel γ σ φ h w) (hm : ∀ r ∈ ms, Shut w r) : Rel γ σ φ h w' := by
  refine ⟨hr.lt, fun b o hbo => ?_, hr.inj⟩
  have := hr.obj b o hbo
  by_cases hl : o.live = true
  · exact this.mono (fun _ h => h) (fun _ _ => rfl) (ho.heap _ fun hmem => (hm _ hmem).ne hr b o hbo hl rfl)
  · cases o <;> first | exact .gone | (exact absurd rfl hl)
theorem Off.goes {ms : List Nat} (ho : Off ms w w') {φ0 : Phi} {K0 K : Nat → Prop} {m0 m : Mem I S} {w0 : World} (hg : Goes φ0 K0 m0 w0 φ K m w) (hm : ∀ r ∈ ms, w0.heap.size ≤ r) : Goes φ0 K0 m0 w0 φ K m w' where
  le := hg.le
  agree := hg.agree
  size := ho.size ▸ hg.size
  os := ho.os.trans hg.os
  tape := ho.tape.trans hg.tape
  output := ho.output.trans hg.output
  frame r hlt hno := (ho.heap r fun hmem => (by have := hm r hmem; omega)).trans (hg.frame r hlt hno)
  prov := hg.prov
  fresh := hg.fresh
/-- A function leaves, its marks shut. -/
theorem leaves_marks {F : Fence} {n : Nat} {fn : Func} {tmps : Array Value} {R : Ending → World → Prop} : ∀ (ms : List Nat) (w : World), ms.Nodup → (∀ r ∈ ms, Shut w r) → (∀ w', Off ms w w' → ∃ v, (results fn tmps).run P w' = .ok v w' ∧ R (.returned v) w') →
    LeavesInM F n P fn tmps R (ms.map mark) .returning w
  | [], w, _, _, hq => by
    show ∃ v, (results fn tmps).run P w = .ok v w ∧ R (.returned v) w
    exact hq w ⟨rfl, rfl, rfl, rfl, fun _ _ => rfl⟩
  | r :: ms, w, hn, hm, hq => by
    have hr := hm r (by simp)
    obtain ⟨hn1, hn2⟩ := List.nodup_cons.1 hn
    refine ⟨by simp, .inl ⟨r, w.putObj r (.deferred none), rfl, run_takeDeferred hr, ?_⟩⟩
    have hoth : ∀ k, k ≠ r → (w.putObj r (.deferred none)).heap[k]? = w.heap[k]? := fun k hk => World.putObj_heap_other hk
    refine leaves_marks ms _ hn2 (fun k hk => ?_) fun w' ho => hq w' ?_
    · rw [Shut, hoth k (fun e => hn1 (e ▸ hk))]; exact hm k (by simp [hk])
    · refine ⟨ho.size.trans (by simp), ho.os, ho.tape, ho.output, fun k hk => ?_⟩
      simp only [List.mem_cons, not_or] at hk
      exact (ho.heap k hk.2).trans (hoth k hk.1)

/-- The record, turned. -/
theorem loop_set (P : Program) (hr : Rel γ σ φ h w) {b : Nat} {l : LLoop I S} (hb : h.t.get b = some (.loop l)) : ∃ r, w.heap[(φ b).blk]? = some (.loop r) ∧ LoopRel γ σ φ h.ids l r ∧
    ∀ (st : Nat) (pend : Option (Option Nat)), Rel γ σ φ { h with t := h.t.set b (.loop { l with st := st, pend := pend }) } (w.putObj (φ b).blk (.loop { r with state := stOf st, pending := pend.map jumpOf })) ∧
      Goes φ h.ids h.t.get w φ h.ids (h.t.set b (.loop { l with st := st, pend := pend })).get (w.putObj (φ b).blk (.loop { r with state := stOf st, pending := pend.map jumpOf })) := by
  have ho := hr.obj b _ hb
  cases ho with
  | loop _ r h1 h2 =>
  refine ⟨r, h1, h2, fun st pend => ?_⟩
  obtain ⟨w', s1, s2, s3⟩ := setObj_run (P := P) hr hb rfl (o' := .loop { l with st := st, pend := pend }) rfl (new := .loop { r with state := stOf st, pending := pend.map jumpOf }) h1 (fun _ _ _ h => by cases h)
    (fun w' hw' => .loop _ _ hw' ⟨rfl, h2.ps, h2.lt, h2.env, h2.assign, h2.body, rfl⟩)
  rw [run_setObj_loop _ h1] at s1
  simp only [Result.ok.injEq, true_and] at s1
  subst s1
  exact ⟨s2, s3⟩

/-- Where a run of code has come to. -/
structure Good (γ : I → Int) (σ : Sg I S) (φ : Phi) (h : H I S) (a : Act) (w : World) (e' : Env I S) (h' : H I S) (a' : Act) (w' : World) : Prop where
  ex : ∃ φ', ERelE γ σ φ' h'.ids e'.get a'.tmps ∧ Rel γ σ φ' h' w' ∧ Goes φ h.ids h.t.get w φ' h'.ids h'.t.get w'
  sz : a'.tmps.size = a.tmps.size
  df : Marks w a.defers a'.defers w'

/-- What the interpreter says of code. -/
def Does (F : Fence) (n0 : Nat) (P : Program) (γ : I → Int) (σ : Sg I S) (c : Code) (φ : Phi) (h : H I S) (a : Act) (w : World) : Out I S → Prop
  | .normal e' h' => ∀ Q : Exit → Act → World → Prop, (∀ a' w', Good γ σ φ h a w e' h' a' w' → Q .normal a' w') → c.wpIn F n0 P Q a w
  | .exit id e' h' => ∀ Q : Exit → Act → World → Prop, (∀ a' w', Good γ σ φ h a w e' h' a' w' → Q (.exit id) a' w') → c.wpIn F n0 P Q a w
  | .ret e' h' => ∀ Q : Exit → Act → World → Prop, (∀ a' w', Good γ σ φ h a w e' h' a' w' → Q .ret a' w') → c.wpIn F n0 P Q a w
  | .fail => True

theorem Good.refl {a : Act} {e : Env I S} (he : ERelE γ σ φ h.ids e.get a.tmps) (hr : Rel γ σ φ h w) : Good γ σ φ h a w e h a w := ⟨⟨φ, he, hr, Goes.refl _ _ _ _⟩, rfl, .refl⟩
theorem Good.trans {φ1 : Phi} {h1 h2 : H I S} {a a1 a2 : Act} {w1 w2 : World} {e2 : Env I S} (hr : Rel γ σ φ h w) (hr1 : Rel γ σ φ1 h1 w1) (hg : Goes φ h.ids h.t.get w φ1 h1.ids h1.t.get w1) (sz : a1.tmps.size = a.tmps.size) (df : Marks w a.defers a1.defers w1)
    (g : Good γ σ φ1 h1 a1 w1 e2 h2 a2 w2) : Good γ σ φ h a w e2 h2 a2 w2 := by
  obtain ⟨⟨φ2, q1, q2, q3⟩, s, d⟩ := g
  exact ⟨⟨φ2, q1, q2, Goes.trans hr.lt hr1.lt hg q3⟩, s.trans sz, df.trans d hg.size fun r hs => hs.goes hr1 q3⟩

/-- The statement. -/
theorem rangef_wp {F : Fence} (hF : Wide F) (hro : F.round = none) (n0 : Nat) (hcf : CallOk P γ σ cf) (hD : D.Ok γ σ) (htc : TcOk D ty σ) (ntm fuel : Nat) {g : Operand} {g' : LA I S} (hg : trA D g = some g') {ps : Array Nat} (hps : allB (fun p => Nat.blt p ntm) ps.toList = true) (c1 c2 : Code)
    {a : Act} {e : Env I S} (he : ERelE γ σ φ h.ids e.get a.tmps) (hr : Rel γ σ φ h w) (hs : a.tmps.size = ntm) :
    Does F n0 P γ σ (.rangeFunc g ps c1 c2) φ h a w (exec D cf fuel (.rangef g' ps.toList (trCode D ty ntm true c1) (trCode D ty ntm true c2)) e h) := by
  simp only [exec]
  cases hv : ev e.get g' with
  | none => trivial
  | some v =>
  have hgv := trA_sound hD hg he hv
  cases v <;> (try (trivial; done))
  rename_i f first cap
  cases first with
  | cons _ _ => trivial
  | nil =>
  simp only
  obtain ⟨l0, hl0⟩ : ∃ l0 : LLoop I S, l0 = ⟨0, e, ps.toList, trCode D ty ntm true c1, trCode D ty ntm true c2, none⟩ := ⟨_, rfl⟩
  rw [← hl0]
  obtain ⟨h0, hh0⟩ : ∃ h0 : H I S, h0 = newB h (.loop l0) := ⟨_, rfl⟩
  rw [← hh0]
  have hnext : h0.next = h.next + 1 := by rw [hh0]; rfl
  have hget : h0.t.get = fun m => if m = h.next then some (.loop l0) else h.t.get m := by rw [hh0]; exact get_set' h.t h.next _
  have hids : ∀ c, h.ids c → h0.ids c := fun c (hc : c < h.next) => by show c < h0.next; omega
  have hnew : h0.ids h.next := by show h.next < h0.next; omega
  cases hc : cf (.iter f) (.yield h.next :: cap) h0 with
  | none => trivial
  | some p =>
  obtain ⟨v1, h1⟩ := p
  simp only
  generalize hx : a.eval g = x at hgv
  cases hgv with
  | func _ _ _ a' c' q1 q2 =>
  have ha' : a' = #[] := by cases a' with | mk l => cases q1; rfl
  subst ha'
  obtain ⟨hn1, hcall⟩ := hcf _ _ _ _ _ hc
  obtain ⟨wd, hwd⟩ : ∃ wd : World, wd = w.alloc (.deferred (some [])) := ⟨_, rfl⟩
  have hwh : wd.heap = w.heap.push (.deferred (some [])) := by rw [hwd]; rfl
  have hwsz : wd.heap.size = w.heap.size + 1 := by rw [hwh]; simp
  obtain ⟨r1, g1⟩ : Rel γ σ φ h wd ∧ Goes φ h.ids h.t.get w φ h.ids h.t.get wd := by
    refine hr.keep (by omega) (fun r hlt => by rw [hwh, Array.getElem?_push, if_neg (by omega)]) ?_ ?_ ?_ <;> (rw [hwd]; rfl)
  have hlt : ¬ h.ids h.next := Nat.lt_irrefl _
  obtain ⟨φ1, hφ1⟩ : ∃ φ1 : Phi, φ1 = φ.put h.next ⟨w.heap.size + 1, 0, 0⟩ := ⟨_, rfl⟩
  have hput : ∀ c, h.ids c → φ1 c = φ c := fun c hc => by rw [hφ1]; exact Phi.put_ne (fun e => hlt (e ▸ hc))
  have hsame : φ1 h.next = ⟨w.heap.size + 1, 0, 0⟩ := by rw [hφ1]; exact Phi.put_same
  have enter : ∀ (rec : Loop), LoopRel γ σ φ1 h0.ids l0 rec → Rel γ σ φ1 h0 (wd.alloc (.loop rec)) ∧ Goes φ h.ids h.t.get w φ1 h0.ids h0.t.get (wd.alloc (.loop rec)) := by
    intro rec hrec
    have hpush := r1.push hlt (K' := h0.ids) hids hnew (robj := .loop rec) (w' := wd.alloc (.loop rec)) rfl rfl rfl rfl (room := 0) (off := 0) (obj := .loop l0) (.loop _ rec (World.alloc_heap_new _ _) (by rw [hwsz, ← hφ1]; exact hrec))
    rw [hwsz, ← hφ1] at hpush
    obtain ⟨r2, g2⟩ := hpush
    rw [Rel, hget]
    exact ⟨r2, g1.trans hr.lt r1.lt g2⟩
  have main : ∀ (l : LLoop I S), h1.t.get h.next = some (.loop l) → Nat.beq l.st 1 = false → ∀ (Q : Exit → Act → World → Prop),
      (∀ a' w', Good γ σ φ h a w e { h1 with t := h1.t.set h.next (.loop { l with st := 3 }) } a' w' → (match l.pend.map jumpOf with | none => Q .normal a' w' | some c => c.wpIn F n0 P Q a' w')) → (Code.rangeFunc g ps c1 c2).wpIn F n0 P Q a w := by
    intro l hl hst Q hQ
    refine wpIn_rangeFunc fun fn hfn => ?_
    rw [hro]
    obtain ⟨rec, hrec⟩ : ∃ rec : Loop, rec = { state := .ready, pending := none, fn, tmps := a.tmps, params := ps, assign := c1, body := c2, defers := w.heap.size } := ⟨_, rfl⟩
    obtain ⟨r2, g2⟩ := enter rec (by
      subst hrec hl0
      refine ⟨rfl, rfl, fun p hp => ?_, fun t v hv => (he t v hv).mono hids hput, ?_, ?_, rfl⟩
      · have := allB_mem hps p hp
        simp only [Nat.blt_eq] at this
        simp only; omega
      · show σ.tc a.tmps.size c1 _
        rw [hs]; exact (htc ntm c1).1
      · show σ.tc a.tmps.size c2 _
        rw [hs]; exact (htc ntm c2).1)
    obtain ⟨w1, hw1⟩ : ∃ w1 : World, w1 = wd.alloc (.loop rec) := ⟨_, rfl⟩
    rw [← hw1] at r2 g2
    obtain ⟨yv, hyv⟩ : ∃ yv : Value, yv = .func (.yield (w.heap.size + 1)) #[] #[] := ⟨_, rfl⟩
    have hy := VRel.yield (γ := γ) (σ := σ) (φ := φ1) (K := h0.ids) h.next hnew
    rw [hsame, ← hyv] at hy
    have hargs : VRels γ σ φ1 h0.ids (.yield h.next :: cap) (#[yv] ++ c').toList := by
      simp only [Array.toList_append, List.cons_append, List.nil_append]
      exact .cons _ _ _ _ hy (q2.mono hids hput)
    obtain ⟨hrun, hC⟩ := hcall _ _ _ r2 hargs
    have hsh : Shut w1 w.heap.size := by
      rw [hw1, Shut]
      show (wd.heap.push (.loop rec))[w.heap.size]? = _
      rw [Array.getElem?_push, if_neg (by omega), hwh, Array.getElem?_push, if_pos rfl]
    refine ⟨w.heap.size + 1, [mark w.heap.size], w1, { target := .fn (.func f) c', args := #[yv] }, w1, f, #[yv] ++ c', w1, ?_, ?_, fun f' _ => hF.fn f', ?_, fun hd => (by rw [hF.depth] at hd; cases hd), hF.calls (hC.mono fun e' w3 he' => ?_)⟩
    · rw [hw1, hwd, hrec]; exact run_enterLoop_outer _ _ _ _ _
    · rw [hyv]
      simp only [resolve, hx]
      simp [go_sem]
    · simp only [invoke]
      simpa using hrun
    · obtain ⟨v', rfl, φ2, hv2, hr3, hg3⟩ := he'
      obtain ⟨rl, hl1, hl2, hset⟩ := loop_set P hr3 hl
      have hagree : φ2 h.next = ⟨w.heap.size + 1, 0, 0⟩ := (hg3.agree h.next hnew).trans hsame
      rw [hagree] at hl1 hset
      have hne : rl.state ≠ .busy := by
        rw [hl2.st]
        intro hb
        match hls : l.st, hb with
        | 0, hb => cases hb
        | 1, hb => rw [hls] at hst; cases hst
        | 2, hb => cases hb
        | _ + 3, hb => cases hb
      refine ⟨_, _, run_endLoop hl1 hne, ?_⟩
      obtain ⟨hr4, hg4⟩ := hset 3 l.pend
      rw [← hl2.pend] at hr4 hg4
      have hg13 : Goes φ h.ids h.t.get w φ2 h1.ids h1.t.get w3 := g2.trans hr.lt r2.lt hg3
      have hsh3 := hsh.goes r2 hg3
      have hgood : Good γ σ φ h a w e { h1 with t := h1.t.set h.next (.loop { l with st := 3 }) } { a with defers := [mark w.heap.size] ++ a.defers } (w3.putObj (w.heap.size + 1) (.loop { rl with state := .exhausted })) := by
        refine ⟨⟨φ2, he.mono hg13.le hg13.agree, hr4, Goes.trans hr.lt hr3.lt hg13 hg4⟩, rfl, ⟨[w.heap.size], rfl, by simp, fun r hr => ?_⟩⟩
        simp only [List.mem_singleton] at hr
        subst hr
        refine ⟨Nat.le_refl _, ?_⟩
        rw [Shut, World.putObj_heap_other (by omega)]; exact hsh3
      have := hQ _ _ hgood
      rw [← hl2.pend] at this
      exact this
  cases hb : h1.t.get h.next with
  | none => trivial
  | some o =>
  cases o <;> (try (trivial; done))
  rename_i l
  simp only [behind]
  cases hst : Nat.beq l.st 1 with
  | true => trivial
  | false =>
  simp only [cond_false]
  have hm := main l hb hst
  cases hp : l.pend with
  | none =>
    rw [hp] at hm
    exact fun Q hQ => hm Q fun a' w' g => hQ a' w' g
  | some j =>
    rw [hp] at hm
    cases j with
    | none => exact fun Q hQ => hm Q fun a' w' g => wpIn_ret (hQ a' w' g)
    | some id => exact fun Q hQ => hm Q fun a' w' g => wpIn_exit (hQ a' w' g)
end
end Go.Proofs.YtohmaikcmaapjaaGreat.LI
