/- The walk of furlonglaw1.SumMixes, at every two texts. -/
import Derived.Test.YtajgngijmmkemaaSumCalls
import Derived.Test.YtajgngijmmkemaaCrcMore
import Derived.Lib.Hide
namespace Go.Proofs.Ytajgngijmmkemaa.MixWalk
open Go.RowKit Go.Proofs.YtajgngijmmkemaaW.PrintWords Go.Proofs.YtajgngijmmkemaaW.PrintLast Go.Proofs.YtajgngijmmkemaaW.PrintMore
open SumCalls
attribute [local go_sem] max2_int min2_int max_two min_two max_three min_three max_four min_four

theorem info5 : (Try.prog.info? 5).map (fun i => (i.zero, i.size, i.bytes)) = some (some (.int .u8 0), 1, 1) := by kernel_rfl
/-- k bytes 0, as make lays them. -/
def zeroCells (k : Nat) : Array Value := madeCells (Value.int .u8 0).cells k
theorem make_k (k : Nat) (hk : k ≤ 140737488351232) (W : World) : (Instr.makeSlice 32 (.int .i64 (k : Int)) (.int .i64 (k : Int))).run Try.prog W = .ok (.slice (some ⟨W.heap.size, 0, none⟩) k k) (W.alloc (.cells (zeroCells k) 5)) := by
  obtain ⟨i, hi, h1, h2, h3⟩ := info_parts info5
  have h := run_make (P := Try.prog) W 32 5 i (.int .u8 0) Try.underlying32 hi h1 .i64 .i64 k k (by omega) (by omega) (by rw [h3]; omega) (by omega)
  rw [h2] at h
  simpa [zeroCells] using h

/-- A block that reads as the first k bytes of a text; one that holds k bytes 0 and may be written. -/
def RX (W : World) (b : Nat) (t : ByteArray) (k : Nat) : Prop := b < W.heap.size ∧ ∀ i, i < k → W.cell? ⟨b, i, none⟩ = some (.int .u8 (bt t i))
def RZ (W : World) (b k : Nat) : Prop := b < W.heap.size ∧ ∀ i, i < k → W.cell? ⟨b, i, none⟩ = some (.int .u8 0) ∧ W.frozen? ⟨b, i, none⟩ = false

set_option linter.unusedSimpArgs false
theorem alloc_sz (W : World) (o : Obj) : (W.alloc o).heap.size = W.heap.size + 1 := by simp [World.alloc, -World.alloc_eq]
theorem rx_new (W : World) (b : Nat) (t : ByteArray) (k : Nat) (hk : k ≤ t.size) (hb : b = W.heap.size) : RX (Lib.bytesWorld W 5 (t.extract 0 k)) b t k := by
  subst hb
  refine ⟨by rw [Lib.bytesWorld_size]; omega, fun i hi => ?_⟩
  have hz : i < (t.extract 0 k).size := by rw [ByteArray.size_extract]; omega
  rw [Lib.bytesWorld_cell W 5 _ i hz]
  have : (t.extract 0 k).data.toList.getD i 0 = t.data.toList.getD i 0 := by
    simp [ByteArray.data_extract, List.getD_eq_getElem?_getD, List.getElem?_take, hi, List.extract_eq_take_drop]
  rw [this, ← rd_bytesOf]
  unfold rd bytesOf
  have hlt : i < t.data.toList.length := by rw [data_length]; omega
  simp [List.getD_eq_getElem?_getD, List.getElem?_eq_getElem hlt]
theorem rx_bytes {W : World} {b : Nat} {t : ByteArray} {k : Nat} (h : RX W b t k) (u : ByteArray) : RX (Lib.bytesWorld W 5 u) b t k :=
  ⟨by rw [Lib.bytesWorld_size]; have := h.1; omega, fun i hi => by rw [Lib.bytesWorld_old W 5 u ⟨b, i, none⟩ h.1]; exact h.2 i hi⟩
theorem rz_bytes {W : World} {b : Nat} {k : Nat} (h : RZ W b k) (u : ByteArray) : RZ (Lib.bytesWorld W 5 u) b k :=
  ⟨by rw [Lib.bytesWorld_size]; have := h.1; omega, fun i hi => by
    refine ⟨by rw [Lib.bytesWorld_old W 5 u ⟨b, i, none⟩ h.1]; exact (h.2 i hi).1, ?_⟩
    have := (h.2 i hi).2
    unfold World.frozen? at this ⊢
    rw [Lib.bytesWorld_at_old W 5 u b h.1]
    exact this⟩
theorem at_alloc (W : World) (o : Obj) (b : Nat) (hb : b < W.heap.size) : (W.alloc o).heap[b]? = W.heap[b]? := by
  simp [World.alloc, -World.alloc_eq, Array.getElem?_push, Nat.ne_of_lt hb]
theorem rx_alloc {W : World} {b : Nat} {t : ByteArray} {k : Nat} (h : RX W b t k) (o : Obj) : RX (W.alloc o) b t k :=
  ⟨by have := h.1; simp [World.alloc, -World.alloc_eq]; omega, fun i hi => by
    have := h.2 i hi
    unfold World.cell? at this ⊢
    rw [at_alloc W o b h.1]
    exact this⟩
theorem rz_new (W : World) (b k : Nat) (hb : b = W.heap.size) : RZ (W.alloc (.cells (zeroCells k) 5)) b k := by
  subst hb
  have hn : (W.alloc (.cells (zeroCells k) 5)).heap[W.heap.size]? = some (.cells (zeroCells k) 5) := by
    simp [World.alloc, -World.alloc_eq]
  refine ⟨by simp [World.alloc, -World.alloc_eq], fun i hi => ⟨?_, ?_⟩⟩
  · unfold World.cell?
    rw [hn]
    simp [zeroCells, madeCells, Value.cells, hi, Nat.mod_one]
  · unfold World.frozen?
    rw [hn]
    simp

/-- What the three slices are, in whatever order they were made. -/
def Made (x y : ByteArray) (k B : Nat) (w' : World) (vx vy vz : Value) : Prop := ∃ bx bY bz cx cy : Nat, vx = .slice (some ⟨bx, 0, none⟩) k cx ∧ vy = .slice (some ⟨bY, 0, none⟩) k cy ∧ vz = .slice (some ⟨bz, 0, none⟩) k k ∧
  B ≤ bz ∧ bx ≠ bz ∧ bY ≠ bz ∧ RX w' bx x k ∧ RX w' bY y k ∧ RZ w' bz k

theorem made_xyz (w W : World) (B : Nat) (x y : ByteArray) (k cx cy : Nat) (hB : W.heap.size = B) (hw : Below B w W) (hkx : k ≤ x.size) (hky : k ≤ y.size) :
    Made x y k B ((Lib.bytesWorld (Lib.bytesWorld W 5 (x.extract 0 k)) 5 (y.extract 0 k)).alloc (.cells (zeroCells k) 5)) (.slice (some ⟨B, 0, none⟩) k cx) (.slice (some ⟨(Lib.bytesWorld W 5 (x.extract 0 k)).heap.size, 0, none⟩) k cy) (.slice (some ⟨(Lib.bytesWorld (Lib.bytesWorld W 5 (x.extract 0 k)) 5 (y.extract 0 k)).heap.size, 0, none⟩) k k) ∧ Below B w ((Lib.bytesWorld (Lib.bytesWorld W 5 (x.extract 0 k)) 5 (y.extract 0 k)).alloc (.cells (zeroCells k) 5)) := by
  refine ⟨⟨_, _, _, cx, cy, rfl, rfl, rfl, ?_, ?_, ?_, (rx_alloc (rx_bytes (rx_new W (B) x k hkx hB.symm) _) _), (rx_alloc (rx_new (Lib.bytesWorld W 5 (x.extract 0 k)) ((Lib.bytesWorld W 5 (x.extract 0 k)).heap.size) y k hky (by first | omega | (simp only [Lib.bytesWorld_size, alloc_sz] <;> omega))) _), (rz_new (Lib.bytesWorld (Lib.bytesWorld W 5 (x.extract 0 k)) 5 (y.extract 0 k)) ((Lib.bytesWorld (Lib.bytesWorld W 5 (x.extract 0 k)) 5 (y.extract 0 k)).heap.size) k (by first | omega | (simp only [Lib.bytesWorld_size, alloc_sz] <;> omega)))⟩, (((bytes_below (bytes_below hw (by first | omega | (simp only [Lib.bytesWorld_size, alloc_sz] <;> omega)) 5 _) (by first | omega | (simp only [Lib.bytesWorld_size, alloc_sz] <;> omega)) 5 _)).alloc (by first | omega | (simp only [Lib.bytesWorld_size, alloc_sz] <;> omega)) _)⟩
  all_goals (first | omega | (simp only [Lib.bytesWorld_size, alloc_sz] <;> omega))

theorem made_xzy (w W : World) (B : Nat) (x y : ByteArray) (k cx cy : Nat) (hB : W.heap.size = B) (hw : Below B w W) (hkx : k ≤ x.size) (hky : k ≤ y.size) :
    Made x y k B (Lib.bytesWorld ((Lib.bytesWorld W 5 (x.extract 0 k)).alloc (.cells (zeroCells k) 5)) 5 (y.extract 0 k)) (.slice (some ⟨B, 0, none⟩) k cx) (.slice (some ⟨((Lib.bytesWorld W 5 (x.extract 0 k)).heap.size) + 1, 0, none⟩) k cy) (.slice (some ⟨(Lib.bytesWorld W 5 (x.extract 0 k)).heap.size, 0, none⟩) k k) ∧ Below B w (Lib.bytesWorld ((Lib.bytesWorld W 5 (x.extract 0 k)).alloc (.cells (zeroCells k) 5)) 5 (y.extract 0 k)) := by
  refine ⟨⟨_, _, _, cx, cy, rfl, rfl, rfl, ?_, ?_, ?_, (rx_bytes (rx_alloc (rx_new W (B) x k hkx hB.symm) _) _), (rx_new ((Lib.bytesWorld W 5 (x.extract 0 k)).alloc (.cells (zeroCells k) 5)) (((Lib.bytesWorld W 5 (x.extract 0 k)).heap.size) + 1) y k hky (by first | omega | (simp only [Lib.bytesWorld_size, alloc_sz] <;> omega))), (rz_bytes (rz_new (Lib.bytesWorld W 5 (x.extract 0 k)) ((Lib.bytesWorld W 5 (x.extract 0 k)).heap.size) k (by first | omega | (simp only [Lib.bytesWorld_size, alloc_sz] <;> omega))) _)⟩, (bytes_below (((bytes_below hw (by first | omega | (simp only [Lib.bytesWorld_size, alloc_sz] <;> omega)) 5 _)).alloc (by first | omega | (simp only [Lib.bytesWorld_size, alloc_sz] <;> omega)) _) (by first | omega | (simp only [Lib.bytesWorld_size, alloc_sz] <;> omega)) 5 _)⟩
  all_goals (first | omega | (simp only [Lib.bytesWorld_size, alloc_sz] <;> omega))

theorem made_yxz (w W : World) (B : Nat) (x y : ByteArray) (k cx cy : Nat) (hB : W.heap.size = B) (hw : Below B w W) (hkx : k ≤ x.size) (hky : k ≤ y.size) :
    Made x y k B ((Lib.bytesWorld (Lib.bytesWorld W 5 (y.extract 0 k)) 5 (x.extract 0 k)).alloc (.cells (zeroCells k) 5)) (.slice (some ⟨(Lib.bytesWorld W 5 (y.extract 0 k)).heap.size, 0, none⟩) k cx) (.slice (some ⟨B, 0, none⟩) k cy) (.slice (some ⟨(Lib.bytesWorld (Lib.bytesWorld W 5 (y.extract 0 k)) 5 (x.extract 0 k)).heap.size, 0, none⟩) k k) ∧ Below B w ((Lib.bytesWorld (Lib.bytesWorld W 5 (y.extract 0 k)) 5 (x.extract 0 k)).alloc (.cells (zeroCells k) 5)) := by
  refine ⟨⟨_, _, _, cx, cy, rfl, rfl, rfl, ?_, ?_, ?_, (rx_alloc (rx_new (Lib.bytesWorld W 5 (y.extract 0 k)) ((Lib.bytesWorld W 5 (y.extract 0 k)).heap.size) x k hkx (by first | omega | (simp only [Lib.bytesWorld_size, alloc_sz] <;> omega))) _), (rx_alloc (rx_bytes (rx_new W (B) y k hky hB.symm) _) _), (rz_new (Lib.bytesWorld (Lib.bytesWorld W 5 (y.extract 0 k)) 5 (x.extract 0 k)) ((Lib.bytesWorld (Lib.bytesWorld W 5 (y.extract 0 k)) 5 (x.extract 0 k)).heap.size) k (by first | omega | (simp only [Lib.bytesWorld_size, alloc_sz] <;> omega)))⟩, (((bytes_below (bytes_below hw (by first | omega | (simp only [Lib.bytesWorld_size, alloc_sz] <;> omega)) 5 _) (by first | omega | (simp only [Lib.bytesWorld_size, alloc_sz] <;> omega)) 5 _)).alloc (by first | omega | (simp only [Lib.bytesWorld_size, alloc_sz] <;> omega)) _)⟩
  all_goals (first | omega | (simp only [Lib.bytesWorld_size, alloc_sz] <;> omega))

theorem made_yzx (w W : World) (B : Nat) (x y : ByteArray) (k cx cy : Nat) (hB : W.heap.size = B) (hw : Below B w W) (hkx : k ≤ x.size) (hky : k ≤ y.size) :
    Made x y k B (Lib.bytesWorld ((Lib.bytesWorld W 5 (y.extract 0 k)).alloc (.cells (zeroCells k) 5)) 5 (x.extract 0 k)) (.slice (some ⟨((Lib.bytesWorld W 5 (y.extract 0 k)).heap.size) + 1, 0, none⟩) k cx) (.slice (some ⟨B, 0, none⟩) k cy) (.slice (some ⟨(Lib.bytesWorld W 5 (y.extract 0 k)).heap.size, 0, none⟩) k k) ∧ Below B w (Lib.bytesWorld ((Lib.bytesWorld W 5 (y.extract 0 k)).alloc (.cells (zeroCells k) 5)) 5 (x.extract 0 k)) := by
  refine ⟨⟨_, _, _, cx, cy, rfl, rfl, rfl, ?_, ?_, ?_, (rx_new ((Lib.bytesWorld W 5 (y.extract 0 k)).alloc (.cells (zeroCells k) 5)) (((Lib.bytesWorld W 5 (y.extract 0 k)).heap.size) + 1) x k hkx (by first | omega | (simp only [Lib.bytesWorld_size, alloc_sz] <;> omega))), (rx_bytes (rx_alloc (rx_new W (B) y k hky hB.symm) _) _), (rz_bytes (rz_new (Lib.bytesWorld W 5 (y.extract 0 k)) ((Lib.bytesWorld W 5 (y.extract 0 k)).heap.size) k (by first | omega | (simp only [Lib.bytesWorld_size, alloc_sz] <;> omega))) _)⟩, (bytes_below (((bytes_below hw (by first | omega | (simp only [Lib.bytesWorld_size, alloc_sz] <;> omega)) 5 _)).alloc (by first | omega | (simp only [Lib.bytesWorld_size, alloc_sz] <;> omega)) _) (by first | omega | (simp only [Lib.bytesWorld_size, alloc_sz] <;> omega)) 5 _)⟩
  all_goals (first | omega | (simp only [Lib.bytesWorld_size, alloc_sz] <;> omega))

theorem made_zxy (w W : World) (B : Nat) (x y : ByteArray) (k cx cy : Nat) (hB : W.heap.size = B) (hw : Below B w W) (hkx : k ≤ x.size) (hky : k ≤ y.size) :
    Made x y k B (Lib.bytesWorld (Lib.bytesWorld ((W).alloc (.cells (zeroCells k) 5)) 5 (x.extract 0 k)) 5 (y.extract 0 k)) (.slice (some ⟨B + 1, 0, none⟩) k cx) (.slice (some ⟨(Lib.bytesWorld ((W).alloc (.cells (zeroCells k) 5)) 5 (x.extract 0 k)).heap.size, 0, none⟩) k cy) (.slice (some ⟨B, 0, none⟩) k k) ∧ Below B w (Lib.bytesWorld (Lib.bytesWorld ((W).alloc (.cells (zeroCells k) 5)) 5 (x.extract 0 k)) 5 (y.extract 0 k)) := by
  refine ⟨⟨_, _, _, cx, cy, rfl, rfl, rfl, ?_, ?_, ?_, (rx_bytes (rx_new ((W).alloc (.cells (zeroCells k) 5)) (B + 1) x k hkx (by first | omega | (simp only [Lib.bytesWorld_size, alloc_sz] <;> omega))) _), (rx_new (Lib.bytesWorld ((W).alloc (.cells (zeroCells k) 5)) 5 (x.extract 0 k)) ((Lib.bytesWorld ((W).alloc (.cells (zeroCells k) 5)) 5 (x.extract 0 k)).heap.size) y k hky (by first | omega | (simp only [Lib.bytesWorld_size, alloc_sz] <;> omega))), (rz_bytes (rz_bytes (rz_new W (B) k hB.symm) _) _)⟩, (bytes_below (bytes_below ((hw).alloc (by first | omega | (simp only [Lib.bytesWorld_size, alloc_sz] <;> omega)) _) (by first | omega | (simp only [Lib.bytesWorld_size, alloc_sz] <;> omega)) 5 _) (by first | omega | (simp only [Lib.bytesWorld_size, alloc_sz] <;> omega)) 5 _)⟩
  all_goals (first | omega | (simp only [Lib.bytesWorld_size, alloc_sz] <;> omega))

theorem made_zyx (w W : World) (B : Nat) (x y : ByteArray) (k cx cy : Nat) (hB : W.heap.size = B) (hw : Below B w W) (hkx : k ≤ x.size) (hky : k ≤ y.size) :
    Made x y k B (Lib.bytesWorld (Lib.bytesWorld ((W).alloc (.cells (zeroCells k) 5)) 5 (y.extract 0 k)) 5 (x.extract 0 k)) (.slice (some ⟨(Lib.bytesWorld ((W).alloc (.cells (zeroCells k) 5)) 5 (y.extract 0 k)).heap.size, 0, none⟩) k cx) (.slice (some ⟨B + 1, 0, none⟩) k cy) (.slice (some ⟨B, 0, none⟩) k k) ∧ Below B w (Lib.bytesWorld (Lib.bytesWorld ((W).alloc (.cells (zeroCells k) 5)) 5 (y.extract 0 k)) 5 (x.extract 0 k)) := by
  refine ⟨⟨_, _, _, cx, cy, rfl, rfl, rfl, ?_, ?_, ?_, (rx_new (Lib.bytesWorld ((W).alloc (.cells (zeroCells k) 5)) 5 (y.extract 0 k)) ((Lib.bytesWorld ((W).alloc (.cells (zeroCells k) 5)) 5 (y.extract 0 k)).heap.size) x k hkx (by first | omega | (simp only [Lib.bytesWorld_size, alloc_sz] <;> omega))), (rx_bytes (rx_new ((W).alloc (.cells (zeroCells k) 5)) (B + 1) y k hky (by first | omega | (simp only [Lib.bytesWorld_size, alloc_sz] <;> omega))) _), (rz_bytes (rz_bytes (rz_new W (B) k hB.symm) _) _)⟩, (bytes_below (bytes_below ((hw).alloc (by first | omega | (simp only [Lib.bytesWorld_size, alloc_sz] <;> omega)) _) (by first | omega | (simp only [Lib.bytesWorld_size, alloc_sz] <;> omega)) 5 _) (by first | omega | (simp only [Lib.bytesWorld_size, alloc_sz] <;> omega)) 5 _)⟩
  all_goals (first | omega | (simp only [Lib.bytesWorld_size, alloc_sz] <;> omega))

/-- What the loop has made behind i rounds. -/
def Mixed (x y : ByteArray) (k bx bY bz i : Nat) (wr : World) : Prop := (∀ j, j < k → wr.cell? ⟨bx, j, none⟩ = some (.int .u8 (bt x j))) ∧ (∀ j, j < k → wr.cell? ⟨bY, j, none⟩ = some (.int .u8 (bt y j))) ∧
  (∀ j, j < k → wr.cell? ⟨bz, j, none⟩ = some (.int .u8 (if j < i then Go.bits .xor .u8 (bt x j) (bt y j) else 0)) ∧ wr.frozen? ⟨bz, j, none⟩ = false)
theorem mixed_drew {x y : ByteArray} {k bx bY bz i : Nat} {wr : World} (h : Mixed x y k bx bY bz i wr) : Mixed x y k bx bY bz i wr.drew := h
theorem mixed_step {x y : ByteArray} {k bx bY bz i : Nat} {wr : World} (h : Mixed x y k bx bY bz i wr) (hx : bx ≠ bz) (hy : bY ≠ bz) :
    Mixed x y k bx bY bz (i + 1) (wr.setCell ⟨bz, i, none⟩ (.int .u8 (Go.bits .xor .u8 (bt x i) (bt y i)))) := by
  refine ⟨fun j hj => ?_, fun j hj => ?_, fun j hj => ⟨?_, ?_⟩⟩
  · rw [World.cell?_setCell_other wr ⟨bz, i, none⟩ ⟨bx, j, none⟩ _ (by intro h; injection h with h _ _; exact hx h.symm)]; exact h.1 j hj
  · rw [World.cell?_setCell_other wr ⟨bz, i, none⟩ ⟨bY, j, none⟩ _ (by intro h; injection h with h _ _; exact hy h.symm)]; exact h.2.1 j hj
  · by_cases e : i = j
    · subst e
      rw [World.cell?_setCell_same' wr ⟨bz, i, none⟩ _ (by rw [(h.2.2 i hj).1]; rfl), if_pos (by omega)]
    · rw [World.cell?_setCell_other wr ⟨bz, i, none⟩ ⟨bz, j, none⟩ _ (by intro h; injection h with _ h _; exact e h), (h.2.2 j hj).1]
      by_cases c : j < i
      · rw [if_pos c, if_pos (by omega)]
      · rw [if_neg c, if_neg (by omega)]
  · rw [World.frozen?_setCell]; exact (h.2.2 j hj).2
/-- The bytes that come of it. -/
def mixNums (x y : ByteArray) (k : Nat) : List Int := (List.range k).map fun (j : Nat) => Go.bits .xor .u8 (bt x (j : Int)) (bt y (j : Int))
def firstNums (x : ByteArray) (k : Nat) : List Int := (List.range k).map fun (j : Nat) => bt x (j : Int)
theorem mixed_z {x y : ByteArray} {k bx bY bz : Nat} {wr : World} (h : Mixed x y k bx bY bz k wr) (hk : k ≤ 140737488351232) : ReadsInt wr .u8 (some ⟨bz, 0, none⟩) k (mixNums x y k) := by
  refine ⟨by simp [mixNums], by omega, fun _ => ⟨_, rfl, fun i hi => ?_⟩⟩
  rw [add_plain, (h.2.2 i hi).1, if_pos hi]
  simp [mixNums, List.getD_eq_getElem?_getD, hi]
theorem mixed_x {x y : ByteArray} {k bx bY bz : Nat} {wr : World} (h : Mixed x y k bx bY bz k wr) (hk : k ≤ 140737488351232) : ReadsInt wr .u8 (some ⟨bx, 0, none⟩) k (firstNums x k) := by
  refine ⟨by simp [firstNums], by omega, fun _ => ⟨_, rfl, fun i hi => ?_⟩⟩
  rw [add_plain, h.1 i hi]
  simp [firstNums, List.getD_eq_getElem?_getD, hi]
theorem mixed_y {x y : ByteArray} {k bx bY bz : Nat} {wr : World} (h : Mixed x y k bx bY bz k wr) (hk : k ≤ 140737488351232) : ReadsInt wr .u8 (some ⟨bY, 0, none⟩) k (firstNums y k) := by
  refine ⟨by simp [firstNums], by omega, fun _ => ⟨_, rfl, fun i hi => ?_⟩⟩
  rw [add_plain, h.2.1 i hi]
  simp [firstNums, List.getD_eq_getElem?_getD, hi]

theorem xor_u8 (a b : Nat) (ha : a < 256) (hb : b < 256) : Go.bits .xor .u8 (a : Int) (b : Int) = ((a ^^^ b : Nat) : Int) := by
  show IntKind.u8.wrap (((BitVec.ofInt 8 (a : Int)) ^^^ (BitVec.ofInt 8 (b : Int))).toNat : Int) = _
  have hx : a ^^^ b < 2 ^ 8 := Nat.xor_lt_two_pow ha hb
  rw [IntKind.wrap_u8, BitVec.toNat_xor, BitVec.ofInt_natCast, BitVec.ofInt_natCast, BitVec.toNat_ofNat, BitVec.toNat_ofNat, Nat.mod_eq_of_lt (show a < 2 ^ 8 from ha), Nat.mod_eq_of_lt (show b < 2 ^ 8 from hb)]
  omega
theorem xor_i64 (a b : BitVec 32) : Go.bits .xor .i64 (a.toNat : Int) (b.toNat : Int) = ((a ^^^ b).toNat : Int) := by
  show IntKind.i64.wrap (((BitVec.ofInt 64 (a.toNat : Int)) ^^^ (BitVec.ofInt 64 (b.toNat : Int))).toNat : Int) = _
  have ha := a.isLt
  have hb := b.isLt
  have hx : a.toNat ^^^ b.toNat < 2 ^ 32 := Nat.xor_lt_two_pow ha hb
  rw [IntKind.wrap_i64, BitVec.toNat_xor, BitVec.toNat_xor, BitVec.ofInt_natCast, BitVec.ofInt_natCast, BitVec.toNat_ofNat, BitVec.toNat_ofNat, Nat.mod_eq_of_lt (show a.toNat < 2 ^ 64 by omega), Nat.mod_eq_of_lt (show b.toNat < 2 ^ 64 by omega)]
  omega
def asBytes (xs : List Int) : List UInt8 := xs.map fun n => UInt8.ofNat n.toNat
theorem bytes_of (xs : List Int) : (strOfNums xs).data.toList = asBytes xs := by simp [strOfNums, asBytes]
theorem mix_at (x y : ByteArray) (k i : Nat) : (asBytes (mixNums x y k)).getD i 0 = (asBytes (firstNums x k)).getD i 0 ^^^ (asBytes (firstNums y k)).getD i 0 := by
  unfold asBytes mixNums firstNums
  simp only [List.map_map, List.getD_eq_getElem?_getD, List.getElem?_map]
  by_cases h : i < k
  · simp only [List.getElem?_range h, Option.map_some, Option.getD_some, Function.comp]
    have hx := bt_range x i
    have hy := bt_range y i
    obtain ⟨a, ea⟩ := Int.eq_ofNat_of_zero_le hx.1
    obtain ⟨b, eb⟩ := Int.eq_ofNat_of_zero_le hy.1
    rw [ea, eb, xor_u8 a b (by omega) (by omega)]
    simp only [Int.toNat_natCast]
    apply UInt8.toNat_inj.1
    rw [UInt8.toNat_xor, UInt8.toNat_ofNat', UInt8.toNat_ofNat', UInt8.toNat_ofNat', Nat.mod_eq_of_lt (show a < 2 ^ 8 by omega), Nat.mod_eq_of_lt (show b < 2 ^ 8 by omega)]
    exact Nat.mod_eq_of_lt (Nat.xor_lt_two_pow (show a < 2 ^ 8 by omega) (show b < 2 ^ 8 by omega))
  · simp [List.getElem?_eq_none, Nat.le_of_not_lt h]
/-- What the law asks. -/
theorem mix_true (x y : ByteArray) (k : Nat) : (sumOf (strOfNums (mixNums x y k)).data.toList == Go.bits .xor .i64 (Go.bits .xor .i64 (sumOf (strOfNums (firstNums x k)).data.toList) (sumOf (strOfNums (firstNums y k)).data.toList)) (sumOf (strOfNums (List.replicate k 0)).data.toList)) = true := by
  rw [bytes_of, bytes_of, bytes_of, bytes_of]
  have lz : (asBytes (mixNums x y k)).length = k := by simp [asBytes, mixNums]
  have h0 : asBytes (List.replicate k 0) = List.replicate (asBytes (mixNums x y k)).length 0 := by rw [lz]; simp [asBytes]
  have h := Crc.sum_mix (asBytes (firstNums x k)) (asBytes (firstNums y k)) (asBytes (mixNums x y k)) (by rw [lz]; simp [asBytes, firstNums]) (by rw [lz]; simp [asBytes, firstNums]) (mix_at x y k)
  unfold sumOf
  rw [h0, xor_i64, xor_i64, h]
  exact beq_self_eq_true _

set_option maxHeartbeats 1000000 in
set_option maxRecDepth 100000 in
theorem walk (x y : ByteArray) (k : Nat) (w : World) (hx : x.size ≤ 140737488351232) (hkx : k ≤ x.size) (hky : k ≤ y.size) (hm : (if y.size < x.size then (y.size : Int) else (x.size : Int)) = (k : Int)) :
    Calls Try.prog 6 #[.string x, .string y] w fun e w' => e = .returned (.bool true) ∧ Below w.heap.size w w' := by
  have kb := fun s W => print_bytes (P := Try.prog) 9 32 5 Try.underlying9 Try.underlying32 Try.underlying5 s W
  have km := make_k k (by omega)
  have hkx' : (k : Int) ≤ (x.size : Int) := by omega
  have hky' : (k : Int) ≤ (y.size : Int) := by omega
  go_enter Try.func6, Try.ntmps6
  go_upto_region 4 with (first | (go_at_call 16; (with_reducible refine (awake_calls _).mono ?_); rintro e w' ⟨rfl, ⟨nd1, rfl⟩⟩))
  clear hm
  go_cut [6, 7, 8] (fun vx vy vz wc => Made x y k w.heap.size wc vx vy vz ∧ Below w.heap.size w wc)
  case first =>
    go_region
    all_goals (go_wp2_with fail; go_meet)
    all_goals
      case rel =>
        first
          | (with_reducible exact made_xyz w (w.drewN (nd1 + 1)) w.heap.size x y k _ _ rfl (pw_below_drewN (Below.refl _ _) _) hkx hky)
          | (with_reducible exact made_xzy w (w.drewN (nd1 + 1)) w.heap.size x y k _ _ rfl (pw_below_drewN (Below.refl _ _) _) hkx hky)
          | (with_reducible exact made_yxz w (w.drewN (nd1 + 1)) w.heap.size x y k _ _ rfl (pw_below_drewN (Below.refl _ _) _) hkx hky)
          | (with_reducible exact made_yzx w (w.drewN (nd1 + 1)) w.heap.size x y k _ _ rfl (pw_below_drewN (Below.refl _ _) _) hkx hky)
          | (with_reducible exact made_zxy w (w.drewN (nd1 + 1)) w.heap.size x y k _ _ rfl (pw_below_drewN (Below.refl _ _) _) hkx hky)
          | (with_reducible exact made_zyx w (w.drewN (nd1 + 1)) w.heap.size x y k _ _ rfl (pw_below_drewN (Below.refl _ _) _) hkx hky)
  case rest =>
    obtain ⟨⟨bx, bY, bz, cx, cy, rfl, rfl, rfl, hBz, hxz, hyz, hX, hY, hZ⟩, hW⟩ := hcut
    have hx0 := hX.2
    have hy0 := hY.2
    have hz0 := hZ.2
    have rz : ReadsInt wc .u8 (some ⟨bz, 0, none⟩) k (List.replicate k 0) := by
      refine ⟨List.length_replicate, by omega, fun _ => ⟨_, rfl, fun i hi => ?_⟩⟩
      rw [add_plain, (hz0 i hi).1]
      simp [List.getD_eq_getElem?_getD, hi]
    have kc0 := fun c => string_of_reads (c := c) Try.underlying32 Try.underlying5 Try.underlying9 rz
    clear rz
    have Hx := Lib.hid hx0
    have Hy := Lib.hid hy0
    have Hz := Lib.hid hz0
    clear hx0 hy0 hz0 hX hY hZ km kb
    have Hm : Aside0 (Mixed x y k bx bY bz 0 wc) := ⟨⟨Hx.out, Hy.out, fun j hj => ⟨(Hz.out j hj).1, (Hz.out j hj).2⟩⟩⟩
    have HW := Aside0.mk hW
    clear Hx Hy Hz hW
    go_wp2_with fail
    go_loopw [10] (fun vi wr => ∃ i : Nat, i ≤ k ∧ vi = .int .i64 i ∧ Aside0 (Mixed x y k bx bY bz i wr) ∧ Aside0 (Below w.heap.size w wr)) (fun vi _ => k - (intOf vi).toNat)
    case atStart => exact ⟨0, Nat.zero_le _, rfl, Hm, HW⟩
    case round =>
      clear Hm HW
      obtain ⟨i, hi, rfl, Hm, HW⟩ := hrel
      by_cases hlt : i < k
      · have cx := Hm.out.1 i hlt
        have cY := Hm.out.2.1 i hlt
        have cz := (Hm.out.2.2 i hlt).1
        have cf := (Hm.out.2.2 i hlt).2
        have hil : (i : Int) < (k : Int) := by omega
        go_wp2_with fail
        go_region
        go_wp2_with fail
        exact ⟨⟨i + 1, by omega, by go_num, ⟨mixed_drew (mixed_step Hm.out hxz hyz)⟩, ⟨below_drew (HW.out.setCell hBz _)⟩⟩, by simp [intOf]; omega⟩
      · obtain rfl : i = k := by omega
        have hb : i ≤ 140737488351232 := by omega
        have kz := fun (n c : Nat) => string_of_reads (P := Try.prog) (w := wr.drewN n) (c := c) Try.underlying32 Try.underlying5 Try.underlying9 (mixed_z Hm.out hb)
        have kx := fun (n c : Nat) => string_of_reads (P := Try.prog) (w := wr.drewN n) (c := c) Try.underlying32 Try.underlying5 Try.underlying9 (mixed_x Hm.out hb)
        have ky := fun (n c : Nat) => string_of_reads (P := Try.prog) (w := wr.drewN n) (c := c) Try.underlying32 Try.underlying5 Try.underlying9 (mixed_y Hm.out hb)
        have sz : ∀ xs : List Int, (strOfNums xs).size = xs.length := fun xs => by simp only [strOfNums, ByteArray.size, List.size_toArray, List.length_map]
        have z1 : (strOfNums (mixNums x y i)).size ≤ 140737488351232 := by rw [sz]; simpa [mixNums] using hb
        have z2 : (strOfNums (firstNums x i)).size ≤ 140737488351232 := by rw [sz]; simpa [firstNums] using hb
        have z3 : (strOfNums (firstNums y i)).size ≤ 140737488351232 := by rw [sz]; simpa [firstNums] using hb
        have z4 : (strOfNums (List.replicate i 0)).size ≤ 140737488351232 := by rw [sz]; simpa using hb
        clear sz
        have hmt := mix_true x y i
        go_wp2_with fail
        go_quiet (first
          | (go_at_call 11; (with_reducible refine (sum_calls (strOfNums (mixNums x y i)) z1 _).mono ?_); rintro e w' ⟨rfl, ⟨nd, rfl⟩⟩; (first | exact ⟨rfl, _, World.drewN_drewN _ _ _⟩ | exact ⟨rfl, _, Eq.trans (World.drewN_drewN _ _ _) (congrArg (World.drewN _) (Nat.add_assoc _ _ _))⟩))
          | (go_at_call 11; (with_reducible refine (sum_calls (strOfNums (firstNums x i)) z2 _).mono ?_); rintro e w' ⟨rfl, ⟨nd, rfl⟩⟩; (first | exact ⟨rfl, _, World.drewN_drewN _ _ _⟩ | exact ⟨rfl, _, Eq.trans (World.drewN_drewN _ _ _) (congrArg (World.drewN _) (Nat.add_assoc _ _ _))⟩))
          | (go_at_call 11; (with_reducible refine (sum_calls (strOfNums (firstNums y i)) z3 _).mono ?_); rintro e w' ⟨rfl, ⟨nd, rfl⟩⟩; (first | exact ⟨rfl, _, World.drewN_drewN _ _ _⟩ | exact ⟨rfl, _, Eq.trans (World.drewN_drewN _ _ _) (congrArg (World.drewN _) (Nat.add_assoc _ _ _))⟩))
          | (go_at_call 11; (with_reducible refine (sum_calls (strOfNums (List.replicate i 0)) z4 _).mono ?_); rintro e w' ⟨rfl, ⟨nd, rfl⟩⟩; (first | exact ⟨rfl, _, World.drewN_drewN _ _ _⟩ | exact ⟨rfl, _, Eq.trans (World.drewN_drewN _ _ _) (congrArg (World.drewN _) (Nat.add_assoc _ _ _))⟩)))
        go_wp2_with fail
        go_ret
        exact ⟨rfl, pw_below_drewN HW.out _⟩

theorem all (x y : ByteArray) (w : World) (hx : x.size ≤ 140737488351232) :
    Calls Try.prog 6 #[.string x, .string y] w fun e w' => e = .returned (.bool true) ∧ Below w.heap.size w w' := by
  by_cases h : y.size < x.size
  · exact walk x y y.size w hx (by omega) (by omega) (if_pos h)
  · exact walk x y x.size w hx (by omega) (by omega) (if_neg h)
end Go.Proofs.Ytajgngijmmkemaa.MixWalk
