/- How a logical memory and the machine's go on together: a block written, made, let go. -/
import Derived.Test.YtohmaikcmaapjaaGreatLAlloc
namespace Go.Proofs.YtohmaikcmaapjaaGreat.LI
variable {I S : Type}
section
variable {P : Program} {γ : I → Int} {σ : Sg I S} {D : Dom I S} {ty : Nat → Option (TyI I S)} {φ : Phi} {K : Nat → Prop} {w : World}

theorem RelF.congr {g g' : Mem I S} (h : RelF γ σ φ K g w) (e : ∀ b, g' b = g b) : RelF γ σ φ K g' w := by
  have : g' = g := funext e
  rw [this]; exact h
theorem Goes.congr {g g1 g1' : Mem I S} {φ' : Phi} {K' : Nat → Prop} {w' : World} (h : Goes φ K g w φ' K' g1 w') (e : ∀ b, g1' b = g1 b) : Goes φ K g w φ' K' g1' w' := by
  have : g1' = g1 := funext e
  rw [this]; exact h

/-- A block is written. -/
theorem RelF.update {g : Mem I S} (hr : RelF γ σ φ K g w) {b : Nat} {o o' : LObj I S} (hb : g b = some o) (hw : o.writ = true) (hw' : o'.writ = true) {w' : World}
    (hsize : w'.heap.size = w.heap.size) (hos : w'.os = w.os) (htape : w'.tape = w.tape) (hout : w'.output = w.output) (hother : ∀ r, r ≠ (φ b).blk → w'.heap[r]? = w.heap[r]?) (ho : ORel γ σ φ K w' (φ b) o') :
    RelF γ σ φ K (fun m => if m = b then some o' else g m) w' ∧ Goes φ K g w φ K (fun m => if m = b then some o' else g m) w' := by
  refine ⟨⟨?_, ?_, ?_⟩, ⟨fun _ h => h, fun _ _ => rfl, by omega, hos, htape, hout, ?_, ?_, ?_⟩⟩
  · intro m q h
    by_cases e : m = b
    · subst e; exact hr.lt _ _ hb
    · rw [if_neg e] at h; exact hr.lt _ _ h
  · intro m q h
    by_cases e : m = b
    · subst e; rw [if_pos rfl] at h; cases h; exact ho
    · rw [if_neg e] at h
      have := hr.obj m q h
      by_cases hl : q.live = true
      · exact this.mono (fun _ h => h) (fun _ _ => rfl) (hother _ (fun he => e (hr.inj m q b o h hb hl (LObj.live_of_writ hw) (.inr hw) he)))
      · cases q <;> first | exact .gone | (exact absurd rfl hl)
  · intro m q m' q' h h' hl hl' hwr he
    by_cases e : m = b
    · by_cases e' : m' = b
      · omega
      · subst e
        rw [if_neg e'] at h'
        exact hr.inj m o m' q' hb h' (LObj.live_of_writ hw) hl' (.inl hw) he
    · rw [if_neg e] at h
      by_cases e' : m' = b
      · subst e'
        exact hr.inj m q m' o h hb hl (LObj.live_of_writ hw) (.inr hw) he
      · rw [if_neg e'] at h'
        exact hr.inj m q m' q' h h' hl hl' hwr he
  · intro r _ hno
    exact hother r (fun he => hno b o hb hw he.symm)
  · intro m q h hl
    by_cases e : m = b
    · subst e
      rw [if_pos rfl] at h; cases h
      exact .inr (.inr ⟨hw', m, o, hb, hw, rfl⟩)
    · rw [if_neg e] at h; exact .inl h
  · intro m q h h'
    by_cases e : m = b
    · subst e; rw [hb] at h'; cases h'
    · rw [if_neg e] at h; rw [h] at h'; cases h'

/-- A block is let go. -/
theorem RelF.kill {g : Mem I S} (hr : RelF γ σ φ K g w) {b : Nat} {o : LObj I S} (hb : g b = some o) :
    RelF γ σ φ K (fun m => if m = b then some .gone else g m) w ∧ Goes φ K g w φ K (fun m => if m = b then some .gone else g m) w := by
  refine ⟨⟨?_, ?_, ?_⟩, ⟨fun _ h => h, fun _ _ => rfl, Nat.le_refl _, rfl, rfl, rfl, fun _ _ _ => rfl, ?_, ?_⟩⟩
  · intro m q h
    by_cases e : m = b
    · subst e; exact hr.lt _ _ hb
    · rw [if_neg e] at h; exact hr.lt _ _ h
  · intro m q h
    by_cases e : m = b
    · subst e; rw [if_pos rfl] at h; cases h; exact .gone
    · rw [if_neg e] at h; exact hr.obj m q h
  · intro m q m' q' h h' hl hl' hwr he
    by_cases e : m = b
    · rw [if_pos e] at h; cases h; cases hl
    · rw [if_neg e] at h
      by_cases e' : m' = b
      · rw [if_pos e'] at h'; cases h'; cases hl'
      · rw [if_neg e'] at h'; exact hr.inj m q m' q' h h' hl hl' hwr he
  · intro m q h hl
    by_cases e : m = b
    · rw [if_pos e] at h; cases h; cases hl
    · rw [if_neg e] at h; exact .inl h
  · intro m q h h'
    by_cases e : m = b
    · subst e; rw [hb] at h'; cases h'
    · rw [if_neg e] at h; rw [h] at h'; cases h'

def Phi.put (φ : Phi) (b : Nat) (l : Loc) : Phi := fun m => if m = b then l else φ m
theorem Phi.put_same {b : Nat} {l : Loc} : (φ.put b l) b = l := by simp [Phi.put]
theorem Phi.put_ne {m b : Nat} {l : Loc} (h : b ≠ m) : (φ.put m l) b = φ b := by simp [Phi.put, h]

/-- A block more, at a number that was not given; the machine's: a new one. -/
theorem RelF.push {g : Mem I S} (hr : RelF γ σ φ K g w) {n : Nat} (hnew : ¬ K n) {K' : Nat → Prop} (hK : ∀ b, K b → K' b) (hKn : K' n) {robj : Obj} {w' : World} (hheap : w'.heap = w.heap.push robj) (hos : w'.os = w.os) (htape : w'.tape = w.tape) (hout : w'.output = w.output) {room off : Nat} {obj : LObj I S}
    (ho : ORel γ σ (φ.put n ⟨w.heap.size, off, room⟩) K' w' ⟨w.heap.size, off, room⟩ obj) :
    RelF γ σ (φ.put n ⟨w.heap.size, off, room⟩) K' (fun m => if m = n then some obj else g m) w' ∧ Goes φ K g w (φ.put n ⟨w.heap.size, off, room⟩) K' (fun m => if m = n then some obj else g m) w' := by
  have hold : ∀ r, r < w.heap.size → w'.heap[r]? = w.heap[r]? := fun r h => by rw [hheap, Array.getElem?_push, if_neg (by omega)]
  have hput : ∀ c, K c → (φ.put n ⟨w.heap.size, off, room⟩) c = φ c := fun c hc => Phi.put_ne (fun e => hnew (e ▸ hc))
  refine ⟨⟨?_, ?_, ?_⟩, ⟨hK, hput, by rw [hheap]; simp, hos, htape, hout, fun r h _ => hold r h, ?_, ?_⟩⟩
  · intro m q h
    by_cases e : m = n
    · subst e; exact hKn
    · rw [if_neg e] at h; exact hK _ (hr.lt _ _ h)
  · intro m q h
    by_cases e : m = n
    · subst e; rw [if_pos rfl] at h; cases h; rw [Phi.put_same]; exact ho
    · rw [if_neg e] at h
      have hlt := hr.lt _ _ h
      rw [hput m hlt]
      have := hr.obj m q h
      by_cases hl : q.live = true
      · exact this.mono hK hput (hold _ (this.blk_lt hl))
      · cases q <;> first | exact .gone | (exact absurd rfl hl)
  · intro m q m' q' h h' hl hl' hwr he
    by_cases e : m = n
    · by_cases e' : m' = n
      · omega
      · subst e
        rw [if_neg e'] at h'
        rw [Phi.put_same, hput m' (hr.lt _ _ h')] at he
        have := (hr.obj m' q' h').blk_lt hl'
        simp at he; omega
    · rw [if_neg e] at h
      by_cases e' : m' = n
      · subst e'
        rw [Phi.put_same, hput m (hr.lt _ _ h)] at he
        have := (hr.obj m q h).blk_lt hl
        simp at he; omega
      · rw [if_neg e'] at h'
        rw [hput m (hr.lt _ _ h), hput m' (hr.lt _ _ h')] at he
        exact hr.inj m q m' q' h h' hl hl' hwr he
  · intro m q h hl
    by_cases e : m = n
    · subst e
      exact .inr (.inl (by rw [Phi.put_same]; exact Nat.le_refl _))
    · rw [if_neg e] at h; exact .inl h
  · intro m q h h'
    by_cases e : m = n
    · subst e; exact hnew
    · rw [if_neg e] at h; rw [h] at h'; cases h'

/-- A block more, at a number that was not given; the machine's: one whose old number is let go. -/
theorem RelF.rename {g : Mem I S} (hr : RelF γ σ φ K g w) {n : Nat} (hnew : ¬ K n) {K' : Nat → Prop} (hK : ∀ b, K b → K' b) (hKn : K' n) {b : Nat} {o : LObj I S} (hb : g b = some o) (hw : o.writ = true) {w' : World}
    (hsize : w'.heap.size = w.heap.size) (hos : w'.os = w.os) (htape : w'.tape = w.tape) (hout : w'.output = w.output) (hother : ∀ r, r ≠ (φ b).blk → w'.heap[r]? = w.heap[r]?) {off room : Nat} {obj : LObj I S} (hwo : obj.writ = true)
    (ho : ORel γ σ (φ.put n ⟨(φ b).blk, off, room⟩) K' w' ⟨(φ b).blk, off, room⟩ obj) :
    RelF γ σ (φ.put n ⟨(φ b).blk, off, room⟩) K' (fun m => if m = n then some obj else if m = b then some .gone else g m) w' ∧
      Goes φ K g w (φ.put n ⟨(φ b).blk, off, room⟩) K' (fun m => if m = n then some obj else if m = b then some .gone else g m) w' := by
  have hbn := hr.lt _ _ hb
  have hput : ∀ c, K c → (φ.put n ⟨(φ b).blk, off, room⟩) c = φ c := fun c hc => Phi.put_ne (fun e => hnew (e ▸ hc))
  have inv : ∀ m q, m ≠ n → (if m = n then some obj else if m = b then some .gone else g m) = some q → q.live = true → m ≠ b ∧ g m = some q := by
    intro m q e h hl
    rw [if_neg e] at h
    by_cases e' : m = b
    · rw [if_pos e'] at h; cases h; cases hl
    · rw [if_neg e'] at h; exact ⟨e', h⟩
  refine ⟨⟨?_, ?_, ?_⟩, ⟨hK, hput, by omega, hos, htape, hout, ?_, ?_, ?_⟩⟩
  · intro m q h
    by_cases e : m = n
    · subst e; exact hKn
    · rw [if_neg e] at h
      by_cases e' : m = b
      · subst e'; exact hK _ hbn
      · rw [if_neg e'] at h; exact hK _ (hr.lt _ _ h)
  · intro m q h
    by_cases e : m = n
    · subst e; rw [if_pos rfl] at h; cases h; rw [Phi.put_same]; exact ho
    · by_cases hl : q.live = true
      · obtain ⟨e', h'⟩ := inv m q e h hl
        have hlt := hr.lt _ _ h'
        rw [hput m hlt]
        exact (hr.obj m q h').mono hK hput (hother _ (fun he => e' (hr.inj m q b o h' hb hl (LObj.live_of_writ hw) (.inr hw) he)))
      · cases q <;> first | exact .gone | (exact absurd rfl hl)
  · intro m q m' q' h h' hl hl' hwr he
    by_cases e : m = n
    · by_cases e' : m' = n
      · omega
      · obtain ⟨f, h2⟩ := inv m' q' e' h' hl'
        subst e
        rw [Phi.put_same, hput m' (hr.lt _ _ h2)] at he
        exact absurd (hr.inj m' q' b o h2 hb hl' (LObj.live_of_writ hw) (.inr hw) he.symm) f
    · obtain ⟨f, h2⟩ := inv m q e h hl
      by_cases e' : m' = n
      · subst e'
        rw [Phi.put_same, hput m (hr.lt _ _ h2)] at he
        exact absurd (hr.inj m q b o h2 hb hl (LObj.live_of_writ hw) (.inr hw) he) f
      · obtain ⟨f', h2'⟩ := inv m' q' e' h' hl'
        rw [hput m (hr.lt _ _ h2), hput m' (hr.lt _ _ h2')] at he
        exact hr.inj m q m' q' h2 h2' hl hl' hwr he
  · intro r _ hno
    exact hother r (fun he => hno b o hb hw he.symm)
  · intro m q h hl
    by_cases e : m = n
    · subst e
      rw [if_pos rfl] at h; cases h
      exact .inr (.inr ⟨hwo, b, o, hb, hw, by rw [Phi.put_same]⟩)
    · exact .inl (inv m q e h hl).2
  · intro m q h h'
    by_cases e : m = n
    · subst e; exact hnew
    · rw [if_neg e] at h
      by_cases e' : m = b
      · subst e'; rw [hb] at h'; cases h'
      · rw [if_neg e'] at h; rw [h] at h'; cases h'

/-- Cells written, one behind the other, into a block that nothing marks. -/
theorem storeCells_run (blk o : Nat) (e : TypeId) (fz : Nat × Nat) : ∀ (vs : List Value) (i : Nat) (cur : Array Value) (w : World), w.heap[blk]? = some (.cells cur e fz) → (∀ j, j < cur.size → ¬ (fz.1 ≤ j ∧ j < fz.2)) → o + i + vs.length ≤ cur.size →
    (∀ v ∈ vs, v.oneCell' = true) → ∃ w', (storeCells ⟨blk, o, none⟩ vs i).run P w = .ok () w' ∧ w'.heap.size = w.heap.size ∧ w'.os = w.os ∧ w'.tape = w.tape ∧ w'.output = w.output ∧ (∀ r, r ≠ blk → w'.heap[r]? = w.heap[r]?) ∧
      ∃ cur' : Array Value, w'.heap[blk]? = some (.cells cur' e fz) ∧ cur'.toList = cur.toList.take (o + i) ++ vs ++ cur.toList.drop (o + i + vs.length)
  | [], i, cur, w, h, _, _, _ => ⟨w, by simp [storeCells], rfl, rfl, rfl, rfl, fun _ _ => rfl, cur, h, by simp⟩
  | v :: vs, i, cur, w, h, hf, hl, h1 => by
    simp only [List.length_cons] at hl
    have hi : o + i < cur.size := by omega
    have hcell : w.cell? ⟨blk, o + i, none⟩ = some cur[o + i] := by rw [cell_at h]; simp [hi]
    have hfz : w.frozen? ⟨blk, o + i, none⟩ = false := by
      have := hf (o + i) hi
      simp only [World.frozen?, h]
      simpa using this
    have hlt : blk < w.heap.size := (Array.getElem?_eq_some_iff.1 h).1
    have hset : (w.setCell ⟨blk, o + i, none⟩ v).heap[blk]? = some (.cells (cur.setIfInBounds (o + i) v) e fz) := by
      have hv : w.heap[blk] = .cells cur e fz := (Array.getElem?_eq_some_iff.1 h).2
      unfold World.setCell
      rw [Array.getElem?_eq_getElem (by simpa using hlt), Array.getElem_modify]
      simp [hv]
    obtain ⟨w', r1, r2, r3, r4, r5, r6, cur', r7, r8⟩ := storeCells_run blk o e fz vs (i + 1) (cur.setIfInBounds (o + i) v) (w.setCell ⟨blk, o + i, none⟩ v) hset (by simpa using hf) (by simp; omega) (fun u hu => h1 u (by simp [hu]))
    refine ⟨w', ?_, by rw [r2]; simp, r3, r4, r5, fun r hr => ?_, cur', r7, ?_⟩
    · simp only [storeCells, Sem.run_bind, add_at, run_store P w _ v .plain (h1 v (by simp)), hcell, hfz, Bool.false_eq_true, if_false, Result.andThen_ok]
      exact r1
    · rw [r6 r hr, heap_setCell_other _ _ _ _ hr]
    · rw [r8]
      have := list_seg_step cur.toList (o + i) v vs (by simp; omega)
      rw [Array.toList_setIfInBounds, show o + (i + 1) = o + i + 1 by omega]
      exact this
end
end Go.Proofs.YtohmaikcmaapjaaGreat.LI
