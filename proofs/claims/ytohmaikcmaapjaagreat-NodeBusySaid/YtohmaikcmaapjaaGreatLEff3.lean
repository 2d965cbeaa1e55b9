/- Each operation that acts on memory: what the interpreter says of it, the machine does (the operations one by one). -/
import Derived.Test.YtohmaikcmaapjaaGreatLEff2
namespace Go.Proofs.YtohmaikcmaapjaaGreat.LI
variable {I S : Type}
section
variable {P : Program} {γ : I → Int} {σ : Sg I S} {D : Dom I S} {ty : Nat → Option (TyI I S)} {φ : Phi} {K : Nat → Prop} {w : World} {h : H I S}

theorem EDone.congr {s s' : Sem Next} {v : LV I S} {h' : H I S} (hd : EDone P γ σ φ h w s v h') (e : s'.run P w = s.run P w) : EDone P γ σ φ h w s' v h' := by
  obtain ⟨φ', nx, v', w', q⟩ := hd
  exact ⟨φ', nx, v', w', by rw [e]; exact q.1, q.2⟩
theorem u8_ok (hty : Tys P γ σ ty) {el : TypeId} (hu8 : u8 ty el = true) : P.underlying el = some (.int .u8) := by
  unfold u8 at hu8
  split at hu8
  · rename_i hk3
    obtain ⟨d3, hd3, hkd3⟩ := kindAt_ok hty hk3 (by simp)
    cases hkd3
    exact hd3
  · cases hu8

theorem eMapset (hD : D.Ok γ σ) (hr : Rel γ σ φ h w) {t kt el : TypeId} (hd : P.underlying t = some (.map kt el)) {km : Nat} (hkey : KeyOk P kt km) {m k v : LV I S} {m' k' v' : Value} (hm : VRel γ σ φ h.ids m m') (hk : VRel γ σ φ h.ids k k') (hv : VRel γ σ φ h.ids v v')
    {r : LV I S × H I S} (he : (match (generalizing := false) m with
      | .map b => (match h.t.get b with
        | some (.map es clock) => (cond (keyShape km k) (setAt D km k v es) none).bind fun r => match r with
          | some es => some (LV.und, { h with t := h.t.set b (.map es clock) })
          | none => some (LV.und, { h with t := h.t.set b (.map (es ++ [(k, v, clock)]) clock.succ) })
        | _ => none)
      | _ => none) = some r) : EDone P γ σ φ h w (do Instr.mapUpdate t m' k' v'; pure .skip) r.1 r.2 := by
  cases hm <;> simp only [reduceCtorEq] at he
  rename_i b hb
  split at he
  · rename_i es clock hg
    simp only [Option.bind_eq_some_iff] at he
    obtain ⟨rr, h1, h2⟩ := he
    cases hs : keyShape km k
    · simp [hs] at h1
    · simp only [hs, cond_true] at h1
      obtain ⟨es', k1, k2⟩ := (hr.obj b _ hg).map_inv
      obtain ⟨p, p1, p2, p3⟩ := setAt_pos h1
      have hck : ∀ c w, (Instr.checkKey c 10000 kt k').run P w = .ok () w := fun c w => checkKey_run hkey hk hs c w
      have hfk := findKey_run (P := P) hD hkey hk k2 p1 w
      cases p with
      | none =>
        rw [p2 rfl] at h2
        simp only [Option.some.injEq] at h2
        subst h2
        obtain ⟨w', s1, s2, s3⟩ := setObj_run (P := P) hr hg rfl (o' := .map (es ++ [(k, v, clock)]) clock.succ) rfl (new := .map (es'.push ⟨k', v', clock⟩) (clock + 1)) k1 (fun _ _ _ h => by cases h)
          (fun w' hw' => .map _ _ _ hw' (by rw [Array.toList_push]; exact k2.append (.cons _ _ _ _ _ _ _ hk hv .nil)))
        refine EDone.of_unit (s := Instr.mapUpdate t (.map (some (φ b).blk)) k' v') ?_ s2 s3
        have hfk' : (Instr.findKey kt k' es'.toList).run P w = .ok none w := hfk
        simp only [Instr.mapUpdate, Sem.run_bind, run_underlying hd, Result.andThen_ok, getObj, Sem.run, k1, hck, hfk', s1]
      | some j =>
        obtain ⟨en, e1, e2, e3⟩ := p3 j rfl
        rw [e3] at h2
        simp only [Option.some.injEq] at h2
        subst h2
        obtain ⟨en', f1, f2, f3, f4⟩ := k2.set hk hv j en e1
        have f1' : es'[j]? = some en' := by simpa using f1
        obtain ⟨w', s1, s2, s3⟩ := setObj_run (P := P) hr hg rfl (o' := .map (es.set j (k, v, en.2.2)) clock) rfl (new := .map (es'.modify j fun e => { e with key := k', val := v' }) clock) k1 (fun _ _ _ h => by cases h)
          (fun w' hw' => .map _ _ _ hw' (by
            have : (es'.modify j fun e => { e with key := k', val := v' }).toList = es'.toList.set j { en' with key := k', val := v' } := by
              rw [Array.toList_modify]
              apply List.ext_getElem?
              intro i
              rw [List.getElem?_modify, List.getElem?_set]
              by_cases hij : j = i
              · subst hij
                have hl : j < es'.toList.length := (List.getElem?_eq_some_iff.1 f1).1
                simp [f1', hl]
                simpa using hl
              · simp [hij]
            rw [this]
            exact f4))
        refine EDone.of_unit (s := Instr.mapUpdate t (.map (some (φ b).blk)) k' v') ?_ s2 s3
        have hfk' : (Instr.findKey kt k' es'.toList).run P w = .ok (some (j, en'.val)) w := by rw [hfk]; simp [hit, f1']
        have hks := keyStays (P := P) hD e2 hk f2 w
        simp only [Instr.mapUpdate, Sem.run_bind, run_underlying hd, Result.andThen_ok, getObj, Sem.run, k1, hck, hfk', f1', Option.map_some, Option.getD_some, hks, s1]
  · cases he

theorem eDelete (hD : D.Ok γ σ) (hr : Rel γ σ φ h w) {t kt el : TypeId} (hd : P.underlying t = some (.map kt el)) {km : Nat} (hkey : KeyOk P kt km) {m k : LV I S} {m' k' : Value} (hm : VRel γ σ φ h.ids m m') (hk : VRel γ σ φ h.ids k k') {ts : Array TypeId} (hts : ts[0]? = some t) (rt : TypeId)
    {r : LV I S × H I S} (he : (match (generalizing := false) m with
      | .map b => (match h.t.get b with
        | some (.map es clock) => (cond (keyShape km k) (dropAt D km k es) none).bind fun es => some (LV.tuple [], { h with t := h.t.set b (.map es clock) })
        | _ => none)
      | _ => none) = some r) : EDone P γ σ φ h w (do pure (.value (← Builtin.delete_ ts rt #[m', k']))) r.1 r.2 := by
  cases hm <;> simp only [reduceCtorEq] at he
  rename_i b hb
  split at he
  · rename_i es clock hg
    simp only [Option.bind_eq_some_iff, Option.some.injEq] at he
    obtain ⟨es2, h1, rfl⟩ := he
    cases hs : keyShape km k
    · simp [hs] at h1
    · simp only [hs, cond_true] at h1
      obtain ⟨es', k1, k2⟩ := (hr.obj b _ hg).map_inv
      obtain ⟨p, p1, rfl⟩ := dropAt_pos h1
      have hck : ∀ c w, (Instr.checkKey c 10000 kt k').run P w = .ok () w := fun c w => checkKey_run hkey hk hs c w
      have hfk := findKey_run (P := P) hD hkey hk k2 p1 w
      cases p with
      | none =>
        obtain ⟨w', s1, s2, s3⟩ := setObj_run (P := P) hr hg rfl (o' := .map es clock) rfl (new := .map es' clock) k1 (fun _ _ _ h => by cases h) (fun w' hw' => .map _ _ _ hw' k2)
        refine EDone.of_value (v' := .tuple #[]) ?_ (.tuple _ _ .nil) s2 s3
        have hfk' : (Instr.findKey kt k' es'.toList).run P w = .ok none w := hfk
        simp only [Builtin.delete_, hts, List.getElem?_toArray, List.getElem?_cons_zero, List.getElem?_cons_succ, Sem.run_bind, run_underlying hd, Result.andThen_ok, getObj, Sem.run, k1, hck, hfk', s1, Sem.run_pure]
      | some j =>
        have hj : ∃ en', es'[j]? = some en' := by
          have : ∀ {es : List (LV I S × LV I S × Nat)} {j : Nat}, pos D km k es = some (some j) → j < es.length := by
            intro es
            induction es with
            | nil => intro j h; cases h
            | cons x es ih =>
              obtain ⟨a, b, c⟩ := x
              intro j h
              simp only [pos, Option.bind_eq_some_iff] at h
              obtain ⟨t, q1, q2⟩ := h
              cases t
              · simp only [cond_false, Option.bind_eq_some_iff, Option.some.injEq] at q2
                obtain ⟨o, q3, q4⟩ := q2
                cases o with
                | none => cases q4
                | some i => simp at q4; subst q4; have := ih q3; simp; omega
              · simp at q2; subst q2; simp
          have hl := this p1
          rw [k2.length] at hl
          exact ⟨es'[j]'(by simpa using hl), by simp⟩
        obtain ⟨en', f1'⟩ := hj
        obtain ⟨w', s1, s2, s3⟩ := setObj_run (P := P) hr hg rfl (o' := .map (es.eraseIdx j) clock) rfl (new := .map (es'.eraseIdxIfInBounds j) clock) k1 (fun _ _ _ h => by cases h) (fun w' hw' => .map _ _ _ hw' (by
          have : (es'.eraseIdxIfInBounds j).toList = es'.toList.eraseIdx j := by simp
          rw [this]; exact k2.eraseIdx j))
        refine EDone.of_value (v' := .tuple #[]) ?_ (.tuple _ _ .nil) s2 s3
        have hfk' : (Instr.findKey kt k' es'.toList).run P w = .ok (some (j, en'.val)) w := by rw [hfk]; simp [hit, f1']
        simp only [Builtin.delete_, hts, List.getElem?_toArray, List.getElem?_cons_zero, List.getElem?_cons_succ, Sem.run_bind, run_underlying hd, Result.andThen_ok, getObj, Sem.run, k1, hck, hfk', s1, Sem.run_pure]
  · cases he

theorem eCopy (hD : D.Ok γ σ) (hr : Rel γ σ φ h w) {t el : TypeId} (hd : P.underlying t = some (.slice el)) {i : TyI I S} (hi : TyOk P γ σ el i) {d s : LV I S} {d' s' : Value} (hdv : VRel γ σ φ h.ids d d') (hsv : VRel γ σ φ h.ids s s') {ts : Array TypeId} (hts : ts[0]? = some t) (rt : TypeId)
    {r : LV I S × H I S} (he : (firsts D h i.size s).bind (fun r => match (generalizing := false) d with
      | .nils => some (goLen D 0, h)
      | .empty => some (goLen D 0, h)
      | .slice b o len _ _ sz' => cond (Nat.beq i.size sz') (match h.t.get b with
        | some (.cells q c) => cond (Nat.blt q 2) ((cut r.2 0 (Nat.min r.1 len * i.size)).bind fun new => cond (allOne new) ((over c o new).bind fun c' =>
            some (goLen D (Nat.min r.1 len), { h with t := h.t.set b (.cells q c') })) none) none
        | _ => none) none
      | _ => none) = some r) : EDone P γ σ φ h w (do pure (.value (← Builtin.copy_ ts rt #[d', s']))) r.1 r.2 := by
  simp only [Option.bind_eq_some_iff] at he
  obtain ⟨⟨m, cs⟩, h1, h2⟩ := he
  obtain ⟨f1, f2, f3, cells', f4, f5⟩ := firsts_sound (P := P) hD hr hsv h1
  have base : ∀ (a : Option Addr) (dl cap : Nat) (w' : World), (match a with | some a => storeCells a (cells'.take (Nat.min m dl * i.size)) | none => (pure () : Sem Unit)).run P w = .ok () w' →
      (Builtin.copy_ ts rt #[.slice a dl cap, s']).run P w = .ok (.int .i64 (Nat.min m dl : Nat)) w' := by
    intro a dl cap w' hst
    have hk := f5 (Nat.min m dl) (Nat.min_le_left _ _) w rfl
    cases a with
    | none =>
      simp only [Sem.run_pure, Result.ok.injEq, true_and] at hst
      subst hst
      simp only [Builtin.copy_, hts, List.getElem?_toArray, List.getElem?_cons_zero, List.getElem?_cons_succ, Sem.run_bind, run_underlying hd, Result.andThen_ok, f1, hi.sizeOf, hk, Sem.run_pure]
      rfl
    | some a =>
      simp only [Builtin.copy_, hts, List.getElem?_toArray, List.getElem?_cons_zero, List.getElem?_cons_succ, Sem.run_bind, run_underlying hd, Result.andThen_ok, f1, hi.sizeOf, hk, Sem.run_pure, hst]
      rfl
  cases hdv <;> simp only [reduceCtorEq, Option.some.injEq] at h2
  case nils =>
    subst h2
    refine EDone.of_value (base none 0 0 w rfl) ?_ hr (Goes.refl _ _ _ _)
    rw [show Nat.min m 0 = 0 from Nat.min_zero m]
    exact goLen_rel hD 0
  case empty a cap' =>
    subst h2
    refine EDone.of_value (base (some a) 0 cap' w ?_) ?_ hr (Goes.refl _ _ _ _)
    · rw [show Nat.min m 0 = 0 from Nat.min_zero m]; simp [storeCells]
    · rw [show Nat.min m 0 = 0 from Nat.min_zero m]; exact goLen_rel hD 0
  case slice b o len cap ex sz cap' hb e1 e2 e3 e4 =>
    cases hs : Nat.beq i.size sz
    · simp [hs] at h2
    · simp only [hs, cond_true] at h2
      split at h2
      · rename_i q c hg
        cases hq : Nat.blt q 2
        · simp [hq] at h2
        · simp only [hq, cond_true, Option.bind_eq_some_iff] at h2
          obtain ⟨new, h3, h4⟩ := h2
          cases ho : allOne new
          · simp [ho] at h4
          · simp only [ho, cond_true, Option.bind_eq_some_iff, Option.some.injEq] at h4
            obtain ⟨c', h5, rfl⟩ := h4
            obtain ⟨rfl, _⟩ := cut_eq _ _ _ _ h3
            have hn := (f4.drop 0).take (Nat.min m len * i.size)
            simp only [List.drop_zero] at hn h5 ho
            obtain ⟨w', s1, s2, s3⟩ := over_run (P := P) hr hg hq h5 hn (allOne_mem ho)
            exact EDone.of_value (base _ len cap' w' s1) (goLen_rel hD _) s2 s3
      · cases h2

theorem eClearM (hr : Rel γ σ φ h w) {x : LV I S} {x' : Value} (hx : VRel γ σ φ h.ids x x') {t : TypeId} {d : TypeDesc} (hd : P.underlying t = some d) {ts : Array TypeId} (hts : ts[0]? = some t) (rt : TypeId)
    {r : LV I S × H I S} (he : (match (generalizing := false) x with
      | .nilm => some (LV.tuple [], h)
      | .map b => (match h.t.get b with
        | some (.map _ clock) => some (LV.tuple [], { h with t := h.t.set b (.map [] clock) })
        | _ => none)
      | _ => none) = some r) : EDone P γ σ φ h w (do pure (.value (← Builtin.clear_ ts rt #[x']))) r.1 r.2 := by
  cases hx <;> simp only [reduceCtorEq, Option.some.injEq] at he
  case nilm =>
    subst he
    refine EDone.of_value (v' := .tuple #[]) ?_ (.tuple _ _ .nil) hr (Goes.refl _ _ _ _)
    simp [Builtin.clear_, hts, run_underlying hd]
  case map b hb =>
    split at he
    · rename_i es clock hg
      cases he
      obtain ⟨es', k1, k2⟩ := (hr.obj b _ hg).map_inv
      obtain ⟨w', s1, s2, s3⟩ := setObj_run (P := P) hr hg rfl (o' := .map [] clock) rfl (new := .map #[] clock) k1 (fun _ _ _ h => by cases h) (fun w' hw' => .map _ _ _ hw' .nil)
      refine EDone.of_value (v' := .tuple #[]) ?_ (.tuple _ _ .nil) s2 s3
      simp only [Builtin.clear_, hts, List.getElem?_toArray, List.getElem?_cons_zero, Sem.run_bind, run_underlying hd, Result.andThen_ok, getObj, Sem.run, k1, s1, Sem.run_pure]
    · cases he
theorem eClear (hr : Rel γ σ φ h w) {x : LV I S} {x' : Value} (hx : VRel γ σ φ h.ids x x') {t el : TypeId} (hd : P.underlying t = some (.slice el)) {zero : List (LV I S)} {z : Value}
    (q1 : ∀ w, (zeroValue el).run P w = .ok z w) (q2 : VRels γ σ φ h.ids zero z.cells.toList) (q3 : ∀ v ∈ zero, one? v = true) {ts : Array TypeId} (hts : ts[0]? = some t) (rt : TypeId)
    {r : LV I S × H I S} (he : (match (generalizing := false) x with
      | .nils => some (LV.tuple [], h)
      | .empty => some (LV.tuple [], h)
      | .slice b o n _ _ _ => cond (Nat.beq n 0) (some (LV.tuple [], h)) (match h.t.get b with
        | some (.cells q c) => cond (Nat.blt q 2) ((over c o (reps zero n)).bind fun c' => some (LV.tuple [], { h with t := h.t.set b (.cells q c') })) none
        | _ => none)
      | _ => none) = some r) : EDone P γ σ φ h w (do pure (.value (← Builtin.clear_ ts rt #[x']))) r.1 r.2 := by
  have tup : VRel γ σ φ h.ids (LV.tuple []) (.tuple #[]) := .tuple _ _ .nil
  cases hx <;> simp only [reduceCtorEq, Option.some.injEq] at he
  case nils =>
    subst he
    refine EDone.of_value (v' := .tuple #[]) ?_ tup hr (Goes.refl _ _ _ _)
    simp [Builtin.clear_, hts, run_underlying hd]
  case empty a c =>
    subst he
    refine EDone.of_value (v' := .tuple #[]) ?_ tup hr (Goes.refl _ _ _ _)
    simp [Builtin.clear_, hts, run_underlying hd]
  case slice b o len cap ex sz cap' hb e1 e2 e3 e4 =>
    cases h0 : Nat.beq len 0
    · have hl0 : len ≠ 0 := fun e => by subst e; cases h0
      simp only [h0, cond_false] at he
      split at he
      · rename_i q c hg
        cases hq : Nat.blt q 2
        · simp [hq] at he
        · simp only [hq, cond_true, Option.bind_eq_some_iff, Option.some.injEq] at he
          obtain ⟨c', h5, rfl⟩ := he
          have q3' : ∀ v ∈ reps zero len, one? v = true := by
            have : ∀ (m : Nat), ∀ v ∈ reps zero m, v ∈ zero := by
              intro m
              induction m with
              | zero => intro v h; simp [reps] at h
              | succ m ih => intro v h; simp only [reps, List.mem_append] at h; exact h.elim id (ih v)
            exact fun v hv => q3 v (this len v hv)
          obtain ⟨w', s1, s2, s3⟩ := over_run (P := P) hr hg hq h5 (q2.reps len) q3'
          refine EDone.of_value (v' := .tuple #[]) ?_ (.tuple _ _ .nil) s2 s3
          have hzc : (Builtin.zeroCells z.cells len).toList = reps z.cells.toList len := range_reps _ _ _ rfl
          obtain ⟨l, rfl⟩ : ∃ l, len = l + 1 := ⟨len - 1, by omega⟩
          simp only [Builtin.clear_, hts, List.getElem?_toArray, List.getElem?_cons_zero, Sem.run_bind, run_underlying hd, Result.andThen_ok, q1, hzc, s1, Sem.run_pure]
      · cases he
    · cases Nat.eq_of_beq_eq_true h0
      simp only [h0, cond_true, Option.some.injEq] at he
      subst he
      refine EDone.of_value (v' := .tuple #[]) ?_ tup hr (Goes.refl _ _ _ _)
      simp [Builtin.clear_, hts, run_underlying hd]

theorem eRange (hr : Rel γ σ φ h w) {x : LV I S} {x' : Value} (hx : VRel γ σ φ h.ids x x') {t k el : TypeId} (hd : P.underlying t = some (.map k el))
    {r : LV I S × H I S} (he : (match (generalizing := false) x with
      | .nilm => some (LV.ptr h.next 0, newB h (.iter none 0 [] 0))
      | .map b => (match h.t.get b with
        | some (.map _ clock) => some (LV.ptr h.next 0, newB h (.iter (some b) clock [] clock))
        | _ => none)
      | _ => none) = some r) : EDone P γ σ φ h w (do pure (.value (← Instr.range t x'))) r.1 r.2 := by
  have done : ∀ (m : Option Nat) (c : Nat), (∀ b, m = some b → b < h.next) → (Instr.range t x').run P w = .ok (.pointer (some ⟨w.heap.size, 0, none⟩)) (w.alloc (.mapIter (m.map fun b => (φ b).blk) c #[] c)) →
      EDone P γ σ φ h w (do pure (.value (← Instr.range t x'))) (.ptr h.next 0) (newB h (.iter m c [] c)) := by
    intro m c hm hrun
    obtain ⟨r1, r2⟩ := hr.push (n := h.next) (K' := fun b => b < h.next + 1) (Nat.lt_irrefl _) (fun b (hb : b < h.next) => by omega) (Nat.lt_succ_self _) (robj := .mapIter (m.map fun b => (φ b).blk) c #[] c) (w' := w.alloc (.mapIter (m.map fun b => (φ b).blk) c #[] c)) (off := 0) (room := 0) (obj := .iter m c [] c) rfl rfl rfl rfl
      (.iter m c [] c (fun b hb => Nat.lt_of_lt_of_le (hm b hb) (by omega)) (by
        rw [heap_alloc_new]
        cases m with
        | none => rfl
        | some b => simp only [Option.map_some]; rw [Phi.put_ne (fun e => by have := hm b rfl; omega)]) rfl)
    refine EDone.of_value (φ' := φ.put h.next ⟨w.heap.size, 0, 0⟩) (h' := newB h (.iter m c [] c)) hrun ?_ (r1.congr fun b => by simp [newB, get_set']) (r2.congr fun b => by simp [newB, get_set'])
    have := VRel.ptr (γ := γ) (σ := σ) (φ := φ.put h.next ⟨w.heap.size, 0, 0⟩) (K := fun b => b < h.next + 1) h.next 0 (by omega)
    rw [Phi.put_same] at this
    exact this
  cases hx <;> simp only [reduceCtorEq, Option.some.injEq] at he
  case nilm =>
    subst he
    exact done none 0 (fun b h => by cases h) (by simp [Instr.range, run_underlying hd])
  case map b hb =>
    split at he
    · rename_i es clock hg
      cases he
      obtain ⟨es', k1, k2⟩ := (hr.obj b _ hg).map_inv
      exact done (some b) clock (fun b' h => by cases h; exact hb) (by simp [Instr.range, run_underlying hd, getObj, Sem.run, k1])
    · cases he

theorem memN_iff (n : Nat) : ∀ l : List Nat, memN n l = l.contains n
  | [] => rfl
  | x :: l => by
    simp only [memN, List.contains_cons, memN_iff n l]
    cases hb : Nat.beq x n
    · have : (n == x) = false := by
        rw [beq_eq_false_iff_ne]
        intro e; subst e; rw [Nat.beq_refl] at hb; cases hb
      simp [this]
    · cases Nat.eq_of_beq_eq_true hb; simp
theorem unseen_rel {seen : List Nat} : ∀ {es : List (LV I S × LV I S × Nat)} {es' : List MapEntry}, ERel γ σ φ K es es' → ERel γ σ φ K (unseen seen es) (es'.filter fun e => !seen.contains e.born) := by
  intro es es' h
  induction h with
  | nil => exact .nil
  | cons k v k' v' b l l' h1 h2 _ ih =>
    simp only [unseen, memN_iff, List.filter_cons]
    cases hb : seen.contains b
    · simp only [cond_false, Bool.not_false, if_true]; exact .cons _ _ _ _ _ _ _ h1 h2 ih
    · simp only [cond_true, Bool.not_true, Bool.false_eq_true, if_false]; exact ih
theorem noneSince_all {c : Nat} : ∀ {es : List (LV I S × LV I S × Nat)} {es' : List MapEntry}, ERel γ σ φ K es es' → noneSince c es = true → ∀ e ∈ es', e.born < c := by
  intro es es' h
  induction h with
  | nil => intro _ e he; cases he
  | cons k v k' v' b l l' h1 h2 _ ih =>
    intro hs e he
    simp only [noneSince, Bool.and_eq_true] at hs
    cases he with
    | head => exact Nat.le_of_ble_eq_true hs.1
    | tail _ he => exact ih hs.2 e he
set_option maxHeartbeats 1000000 in
theorem eNext (hr : Rel γ σ φ h w) {x : LV I S} {x' : Value} (hx : VRel γ σ φ h.ids x x') (rt : TypeId) {r : LV I S × H I S} (he : (match (generalizing := false) x with
    | .ptr b 0 => (match h.t.get b with
      | some (.iter none _ _ _) => some (LV.tuple [.bool false], h)
      | some (.iter (some m) since seen stepped) => (match h.t.get m with
        | some (.map es clock) => cond (Nat.beq clock since && Nat.beq stepped since && noneSince since es) (match unseen seen es with
          | [] => some (LV.tuple [.bool false], h)
          | [(k, v, s)] => some (LV.tuple [.bool true, k, v], { h with t := h.t.set b (.iter (some m) since (seen ++ [s]) clock) })
          | _ => none) none
        | _ => none)
      | _ => none)
    | _ => none) = some r) : EDone P γ σ φ h w (do pure (.value (← Instr.next x' false rt))) r.1 r.2 := by
  have over : VRel γ σ φ h.ids (LV.tuple [.bool false]) (.tuple #[.bool false]) := .tuple _ _ (.cons _ _ _ _ (.bool _) .nil)
  cases hx <;> try (simp only [reduceCtorEq] at he; done)
  rename_i b o hb
  cases o with
  | succ o => simp only [reduceCtorEq] at he
  | zero =>
    simp only at he
    split at he
    · rename_i since seen stepped hg
      cases he
      obtain ⟨j0, j1, j2⟩ := (hr.obj b _ hg).iter_inv
      simp only [Option.map_none] at j1
      refine EDone.of_value (v' := .tuple #[.bool false]) ?_ over hr (Goes.refl _ _ _ _)
      simp only [Instr.next, j2, Nat.add_zero, Sem.run_bind, getObj, Sem.run, j1, Result.andThen_ok, Sem.run_pure]
    · rename_i m since seen stepped hg
      split at he
      · rename_i es clock hg2
        cases hc : (Nat.beq clock since && Nat.beq stepped since && noneSince since es)
        · simp [hc] at he
        · simp only [hc, cond_true] at he
          simp only [Bool.and_eq_true] at hc
          obtain ⟨⟨c1, c2⟩, c3⟩ := hc
          cases Nat.eq_of_beq_eq_true c1
          cases Nat.eq_of_beq_eq_true c2
          obtain ⟨j0, j1, j2⟩ := (hr.obj b _ hg).iter_inv
          obtain ⟨es', k1, k2⟩ := (hr.obj m _ hg2).map_inv
          simp only [Option.map_some] at j1
          have hall := noneSince_all k2 c3
          have hun := unseen_rel (seen := seen) k2
          have e1 : (es'.filter fun e => !(seen.toArray).contains e.born).toList = es'.toList.filter fun e => !seen.contains e.born := by simp
          have e2 : ((es'.filter fun e => !(seen.toArray).contains e.born).filter (·.born < since)) = es'.filter fun e => !(seen.toArray).contains e.born := by
            apply Array.filter_eq_self.2
            intro e he
            have := (Array.mem_filter.1 he).1
            simpa using hall e (by simpa using this)
          have e3 : ((es'.filter fun e => !(seen.toArray).contains e.born).filter (·.born ≥ since)) = #[] := by
            apply Array.filter_eq_empty_iff.2
            intro e he
            have := (Array.mem_filter.1 he).1
            have := hall e (by simpa using this)
            simp; omega
          have e4 : (!(seen.toArray).isEmpty && !es'.isEmpty && es'.all (·.born ≥ since)) = false := by
            cases hemp : es'.isEmpty
            · have hne : es' ≠ #[] := fun h => by subst h; cases hemp
              obtain ⟨e, he⟩ := Array.exists_mem_of_ne_empty es' hne
              have hlt := hall e (by simpa using he)
              have : es'.all (·.born ≥ since) = false := by
                exact Bool.eq_false_iff.2 fun hh => by have := Array.all_eq_true_iff_forall_mem.1 hh e he; simp at this; omega
              simp [this]
            · simp
          split at he
          · rename_i hu
            cases he
            rw [hu] at hun
            have hl : (es'.filter fun e => !(seen.toArray).contains e.born) = #[] := by
              apply Array.toList_inj.1
              rw [e1]
              generalize (es'.toList.filter fun e => !seen.contains e.born) = q at hun ⊢
              cases hun; rfl
            refine EDone.of_value (v' := .tuple #[.bool false]) ?_ over hr (Goes.refl _ _ _ _)
            simp only [Instr.next, j2, Nat.add_zero, Sem.run_bind, getObj, Sem.run, j1, Result.andThen_ok, Sem.run_pure, k1, e4, Bool.false_eq_true, if_false, e2, e3, hl]
            simp [Question.forced]
          · rename_i k v s hu
            cases he
            rw [hu] at hun
            obtain ⟨en, hl, hk, hv, hs⟩ : ∃ en : MapEntry, (es'.filter fun e => !(seen.toArray).contains e.born) = #[en] ∧ VRel γ σ φ h.ids k en.key ∧ VRel γ σ φ h.ids v en.val ∧ en.born = s := by
              have : ∃ en : MapEntry, (es'.toList.filter fun e => !seen.contains e.born) = [en] ∧ VRel γ σ φ h.ids k en.key ∧ VRel γ σ φ h.ids v en.val ∧ en.born = s := by
                generalize (es'.toList.filter fun e => !seen.contains e.born) = q at hun ⊢
                cases hun with
                | cons _ _ k' v' _ _ l' q1 q2 q3 => cases q3; exact ⟨_, rfl, q1, q2, rfl⟩
              obtain ⟨en, q1, q2⟩ := this
              exact ⟨en, by apply Array.toList_inj.1; rw [e1, q1], q2⟩
            rw [hl] at e2 e3
            obtain ⟨w', s1, s2, s3⟩ := setObj_run (P := P) hr hg rfl (o' := .iter (some m) since (seen ++ [s]) since) rfl (new := .mapIter (some (φ m).blk) since (seen ++ [en.born]).toArray since) j1 (fun _ _ _ h => by cases h)
              (fun w' hw' => .iter _ _ _ _ j0 (by rw [hw', hs]; rfl) j2)
            refine EDone.of_value (v' := .tuple #[.bool true, en.key, en.val]) ?_ (.tuple _ _ (.cons _ _ _ _ (.bool _) (.cons _ _ _ _ hk (.cons _ _ _ _ hv .nil)))) s2 s3
            simp only [Instr.next, j2, Nat.add_zero, Sem.run_bind, getObj, Sem.run, j1, Result.andThen_ok, Sem.run_pure, k1, e4, Bool.false_eq_true, if_false, e2, e3, hl]
            simp [Question.forced, s1]
          · cases he
      · cases he
    · cases he

theorem eMark (hr : Rel γ σ φ h w) {x : LV I S} {x' : Value} (hx : VRel γ σ φ h.ids x x') {t el : TypeId} (hd : P.underlying t = some (.slice el)) (hel : P.underlying el = some (.int .u8))
    {r : LV I S × H I S} (he : (match (generalizing := false) x with
      | .slice b o len cap ex sz => (match h.t.get b with
        | some (.cells 0 c) => some (LV.slice b o len cap ex sz, { h with t := h.t.set b (.cells 1 c) })
        | _ => none)
      | _ => none) = some r) : EDone P γ σ φ h w (do pure (.value (← convert t t x'))) r.1 r.2 := by
  cases hx <;> simp only [reduceCtorEq] at he
  rename_i b o len cap ex sz cap' hb e1 e2 e3 e4
  split at he
  · rename_i c hg
    cases he
    obtain ⟨cur, e, fz, i1, i2, i3, i4, i5, i6, i7⟩ := (hr.obj b _ hg).cells_inv
    have hz := i7 rfl
    subst hz
    have hlt : (φ b).blk < w.heap.size := (Array.getElem?_eq_some_iff.1 i1).1
    have hv' : w.heap[(φ b).blk] = .cells cur e (0, 0) := (Array.getElem?_eq_some_iff.1 i1).2
    have hnew : (w.freeze ⟨(φ b).blk, cur.size, none⟩ 1).heap[(φ b).blk]? = some (.cells cur e (cur.size, cur.size + 1)) := by
      unfold World.freeze
      rw [if_neg (by decide), Array.getElem?_eq_getElem (by simpa using hlt), Array.getElem_modify]
      simp [hv']
    obtain ⟨r1, r2⟩ := hr.update (w' := w.freeze ⟨(φ b).blk, cur.size, none⟩ 1) hg (o' := .cells 1 c) rfl rfl (by simp [World.freeze]) (by simp [World.freeze]) (by simp [World.freeze]) (by simp [World.freeze])
      (fun r hne => by simp [World.freeze, Array.getElem?_modify, Ne.symm hne]) (.cells 1 c cur e _ hnew i2 i3 i4 i5 (fun j hj hh => by simp at hh; omega) (fun h => by cases h))
    refine EDone.of_value (φ' := φ) (v' := .slice (some ⟨(φ b).blk, (φ b).off + o, none⟩) len cap') ?_ (.slice b o len cap ex sz cap' hb e1 e2 e3 e4) (r1.congr fun m => by rw [get_set']) (r2.congr fun m => by rw [get_set'])
    have hsh : w.shape? (φ b).blk = some (e, cur.size) := by simp [World.shape?, i1]
    simp [convert, run_underlying hd, run_underlying hel, markStringish, hsh]
  · cases he

set_option maxHeartbeats 1000000 in
theorem eBuiltin (hD : D.Ok γ σ) (hty : Tys P γ σ ty) (hr : Rel γ σ φ h w) {b : Builtin} {ts : Array TypeId} {xs : List (LA I S)} {x : EOp I S} (ht : trBuiltin ty b ts.toList xs = some (.e x)) {e : EnvF I S}
    {r : LV I S × H I S} (hv : evalE D e h x = some r) {vs' : Array Value} (hxs : ∀ vs, evs e xs = some vs → VRels γ σ φ h.ids vs vs'.toList) (rt : TypeId) (cs : Array Bool) :
    EDone P γ σ φ h w (builtin b ts rt cs vs') r.1 r.2 := by
  unfold trBuiltin at ht
  split at ht
  · simp only [Option.bind_eq_some_iff] at ht
    obtain ⟨t, h2, h3⟩ := ht
    split at h3 <;> cases h3
  · simp only [Option.bind_eq_some_iff] at ht
    obtain ⟨t, h2, h3⟩ := ht
    split at h3 <;> cases h3
  · cases ht
  · cases ht
  · -- append
    rename_i sx xx
    simp only [Option.bind_eq_some_iff, nth_eq] at ht
    obtain ⟨t, h1, u, h2, h3⟩ := ht
    have h1' : ts[0]? = some t := by simpa using h1
    have h2' : ts[1]? = some u := by simpa using h2
    split at h3
    · rename_i el hk
      obtain ⟨d, hd, hkd⟩ := kindAt_ok hty hk (by simp)
      cases hkd
      simp only [Option.bind_eq_some_iff] at h3
      obtain ⟨i, hi, h4⟩ := h3
      have hT := hty _ _ hi
      -- a slice or a text is appended
      have plain : ∀ {du : TypeDesc}, P.underlying u = some du → (∀ k, du ≠ .int k) → x = .append i.size i.bytes sx xx → EDone P γ σ φ h w (builtin .append ts rt cs vs') r.1 r.2 := by
        intro du hdu hnot hx
        subst hx
        simp only [evalE] at hv
        rw [Option.bind_eq_some_iff] at hv
        obtain ⟨sv, g1, hv⟩ := hv
        rw [Option.bind_eq_some_iff] at hv
        obtain ⟨xv, g2, hv⟩ := hv
        rw [Option.bind_eq_some_iff] at hv
        obtain ⟨⟨m, new⟩, g3, hv⟩ := hv
        obtain ⟨s', x', rfl, q1, q2⟩ := two_args hxs g1 g2
        cases ho : allOne new
        · simp [ho] at hv
        · simp only [ho, cond_true] at hv
          obtain ⟨f1, f2, f3, cells', f4, f5⟩ := firsts_sound (P := P) hD hr q2 g3
          have hcl : cells'.length = m * i.size := by rw [← f4.length, f2]
          have happ : ∀ w1 : World, w1.heap = w.heap → (Builtin.firstCells i.size m x').run P w1 = .ok cells'.toArray w1 := fun w1 hw => by
            rw [f5 m (Nat.le_refl _) w1 hw, List.take_of_length_le (by omega)]
          have hsl : ∃ base sLen sCap, s' = .slice base sLen sCap := by
            cases q1 <;> first | exact ⟨_, _, _, rfl⟩ | (exfalso; unfold grow at hv; cases hm0 : Nat.beq m 0 <;> simp [hm0] at hv)
          obtain ⟨base, sLen, sCap, rfl⟩ := hsl
          have := grow_sound (P := P) (zeros := false) (x := x') hr hT q1 (new' := cells'.toArray) happ (by simpa using f4) f2 f3 hv
          exact this.congr (by simp only [builtin, Sem.run_bind, append_rest h1' h2' hd hT hdu hnot rt base sLen sCap f1 w])
      split at h4
      · rename_i ku hku
        obtain ⟨d2, hd2, hkd2⟩ := kindAt_ok hty hku (by simp)
        cases hkd2
        cases h4
        simp only [evalE] at hv
        rw [Option.bind_eq_some_iff] at hv
        obtain ⟨sv, g1, hv⟩ := hv
        rw [Option.bind_eq_some_iff] at hv
        obtain ⟨xv, g2, hv⟩ := hv
        rw [Option.bind_eq_some_iff] at hv
        obtain ⟨m, g3, hv⟩ := hv
        obtain ⟨s', x', rfl, q1, q2⟩ := two_args hxs g1 g2
        obtain ⟨kx, rfl⟩ := nat?_sound hD g3 q2
        cases hb : Nat.ble m big
        · simp [hb] at hv
        · simp only [hb, cond_true] at hv
          obtain ⟨info, dd, z, e1, e2, e3, e4, e5, e6, e7, e8, e9, e10⟩ := hT
          have hzc := (e7 φ h.ids).cells
          have hzl : z.cells.size = i.size := by have := hzc.length; simp at this; omega
          have hzl' : (Builtin.zeroCells z.cells m).toList = reps z.cells.toList m := range_reps _ _ _ rfl
          have happ : ∀ w1 : World, w1.heap = w.heap → (if m * i.size = 0 then (pure #[] : Sem (Array Value)) else do pure (Builtin.zeroCells (← zeroValue el).cells m)).run P w1 = .ok (Builtin.zeroCells z.cells m) w1 := fun w1 _ => by
            split
            · rename_i h0
              have : Builtin.zeroCells z.cells m = #[] := by
                apply Array.eq_empty_of_size_eq_zero
                rw [size_zeroCells, hzl, h0]
              rw [this]; rfl
            · simp [zeroValue, typeInfo, e1, e6]
          have hsl : ∃ base sLen sCap, s' = .slice base sLen sCap := by
            cases q1 <;> first | exact ⟨_, _, _, rfl⟩ | (exfalso; unfold grow at hv; cases hm0 : Nat.beq m 0 <;> simp [hm0] at hv)
          obtain ⟨base, sLen, sCap, rfl⟩ := hsl
          have hmem : ∀ v ∈ reps i.zero.cells m, one? v = true := by
            have : ∀ (m : Nat), ∀ v ∈ reps i.zero.cells m, v ∈ i.zero.cells := by
              intro m
              induction m with
              | zero => intro v h; simp [reps] at h
              | succ m ih => intro v h; simp only [reps, List.mem_append] at h; exact h.elim id (ih v)
            exact fun v hv => e9 v (this m v hv)
          have hmb : m * i.bytes ≤ big := by
            unfold grow at hv
            cases hm0 : Nat.beq m 0
            · simp only [hm0, cond_false] at hv
              cases hz0 : Nat.beq i.size 0
              · simp only [hz0, cond_false] at hv
                split at hv
                · cases hcc : (Nat.ble (m * i.bytes) big && Nat.ble m big)
                  · simp [hcc] at hv
                  · simp only [Bool.and_eq_true] at hcc; exact Nat.le_of_ble_eq_true hcc.1
                · rename_i b' o' len' cap' ex' sz'
                  cases hcc : (Nat.beq i.size sz' && Nat.ble ((len' + m) * i.bytes) big && Nat.ble (len' + m) big)
                  · simp [hcc] at hv
                  · simp only [Bool.and_eq_true] at hcc
                    have := Nat.le_of_ble_eq_true hcc.1.2
                    exact Nat.le_trans (Nat.mul_le_mul_right _ (Nat.le_add_left _ _)) this
                · cases hv
              · simp [hz0] at hv
            · cases Nat.eq_of_beq_eq_true hm0; simp
          have := grow_sound (P := P) (zeros := true) (x := .int kx (m : Int)) hr (hty _ _ hi) q1 (new' := Builtin.zeroCells z.cells m) happ (by rw [hzl']; exact hzc.reps m) (by rw [reps_length, e8]) hmem hv
          exact this.congr (by simp only [builtin, Sem.run_bind, append_restZ h1' h2' hd (hty _ _ hi) hd2 rt base sLen sCap (Nat.le_of_ble_eq_true hb) hmb w])
      · rename_i e2 hku
        obtain ⟨d2, hd2, hkd2⟩ := kindAt_ok hty hku (by simp)
        cases hkd2
        cases h4
        exact plain hd2 (fun k h => by cases h) rfl
      · rename_i hku
        obtain ⟨d2, hd2, hkd2⟩ := kindAt_ok hty hku (by simp)
        cases hkd2
        cases hu8 : u8 ty el
        · simp [hu8] at h4
        · simp only [hu8, cond_true, Option.some.injEq, LOp.e.injEq] at h4
          exact plain hd2 (fun k h => by cases h) h4.symm
      · cases h4
    · cases h3
  · simp only [Option.bind_eq_some_iff, nth_eq] at ht
    obtain ⟨t, h1, h3⟩ := ht
    have h1' : ts[0]? = some t := by simpa using h1
    split at h3
    · rename_i el hk
      obtain ⟨d, hd, hkd⟩ := kindAt_ok hty hk (by simp)
      cases hkd
      simp only [Option.bind_eq_some_iff, Option.some.injEq, LOp.e.injEq] at h3
      obtain ⟨i, hi, rfl⟩ := h3
      simp only [evalE] at hv
      rw [Option.bind_eq_some_iff] at hv
      obtain ⟨dv, h4, hv⟩ := hv
      rw [Option.bind_eq_some_iff] at hv
      obtain ⟨sv, h5, hv⟩ := hv
      obtain ⟨u', x', rfl, q1, q2⟩ := two_args hxs h4 h5
      exact eCopy hD hr hd (hty _ _ hi) q1 q2 h1' rt hv
    · cases h3
  · simp only [Option.bind_eq_some_iff, nth_eq] at ht
    obtain ⟨t, h1, h3⟩ := ht
    have h1' : ts[0]? = some t := by simpa using h1
    split at h3
    · rename_i k el hk
      obtain ⟨d, hd, hkd⟩ := kindAt_ok hty hk (by simp)
      cases h3
      simp only [evalE] at hv
      rw [Option.bind_eq_some_iff] at hv
      obtain ⟨dv, h4, hv⟩ := hv
      obtain ⟨u', rfl, q1⟩ := one_arg hxs h4
      exact eClearM hr q1 hd h1' rt hv
    · rename_i el hk
      obtain ⟨d, hd, hkd⟩ := kindAt_ok hty hk (by simp)
      cases hkd
      simp only [Option.bind_eq_some_iff, Option.some.injEq, LOp.e.injEq] at h3
      obtain ⟨i, hi, rfl⟩ := h3
      obtain ⟨info, dd, z, e1, e2, e3, e4, e5, e6, e7, e8, e9, e10⟩ := hty _ _ hi
      simp only [evalE] at hv
      rw [Option.bind_eq_some_iff] at hv
      obtain ⟨dv, h4, hv⟩ := hv
      obtain ⟨u', rfl, q1⟩ := one_arg hxs h4
      exact eClear hr q1 hd (z := z) (fun w => by simp [zeroValue, typeInfo, e1, e6]) (e7 φ h.ids).cells e9 h1' rt hv
    · cases h3
  · simp only [Option.bind_eq_some_iff, nth_eq] at ht
    obtain ⟨t, h1, h3⟩ := ht
    have h1' : ts[0]? = some t := by simpa using h1
    split at h3
    · rename_i k el hk
      obtain ⟨d, hd, hkd⟩ := kindAt_ok hty hk (by simp)
      cases hkd
      simp only [Option.bind_eq_some_iff, Option.some.injEq, LOp.e.injEq] at h3
      obtain ⟨km, hkm, rfl⟩ := h3
      simp only [evalE] at hv
      rw [Option.bind_eq_some_iff] at hv
      obtain ⟨mv, h4, hv⟩ := hv
      rw [Option.bind_eq_some_iff] at hv
      obtain ⟨kv, h5, hv⟩ := hv
      obtain ⟨u', x', rfl, q1, q2⟩ := two_args hxs h4 h5
      exact eDelete hD hr hd (keyOf_ok hty hkm) q1 q2 h1' rt hv
    · cases h3
  · cases ht
end
end Go.Proofs.YtohmaikcmaapjaaGreat.LI
