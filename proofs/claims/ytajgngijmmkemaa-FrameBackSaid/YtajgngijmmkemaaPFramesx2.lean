-- Written by a program of this session (a scratch copy of the print, with one rule more)
import Derived.Test.YtajgngijmmkemaaPFramesx0
import Derived.Test.YtajgngijmmkemaaPFramesx1
namespace Go.Proofs.Ytajgngijmmkemaa.PFrames
open Go.RowKit Go.Proofs.YtajgngijmmkemaaW.PrintWords Go.Proofs.YtajgngijmmkemaaW.PrintLast Go.Proofs.YtajgngijmmkemaaW.PrintMore
attribute [local go_sem] max2_int min2_int max_two min_two max_three min_three max_four min_four   -- for this text's walks alone
set_option linter.unusedVariables false
set_option linter.unusedSimpArgs false

/-! ### furlongref8_Be: function 24 -/
def furlongref8_Be.l0 : Nat → Int → List Int → Int → Option (ByteArray)
  | 0, _, _, _ => none
  | k + 1, x0, x5, x6 => if x6 ≥ 0 then (if 0 ≤ x6 then (if x6 < (x5.length : Int) then (furlongref8_Be.l0 k (x0 / 256) (x5.set (x6 : Int).toNat ((Go.bits .and .i64 x0 255) % 256)) (wrap64 (x6 - 1))) else (none)) else (none)) else (some (strOfNums x5))
def furlongref8_Be.f (k : Nat) (a0 : Int) (a1 : Int) : Option (ByteArray) := if 0 ≤ a1 then (if (a1 : Int).toNat ≤ 281474976710656 then (furlongref8_Be.l0 k a0 (List.replicate (a1 : Int).toNat 0) (wrap64 (a1 - 1))) else (none)) else (none)
theorem furlongref8_Be.mono_l : ∀ k, (∀ y0 y1 y2, LeO (furlongref8_Be.l0 k y0 y1 y2) (furlongref8_Be.l0 (k + 1) y0 y1 y2))
  | 0 => fun _ _ _ r h => by simp [furlongref8_Be.l0] at h
  | k + 1 => by
    have ih0 := furlongref8_Be.mono_l k
    · intro y0 y1 y2
      unfold furlongref8_Be.l0
      repeat' first
      | (with_reducible exact ih0 _ _ _)
      | (with_reducible exact LeO.refl _)
      | (with_reducible exact LeO.none _)
      | (with_reducible refine LeO.ite ?_ ?_)
      | (with_reducible refine LeO.bind ?_ (fun _ => ?_))
      | exact ih0 _ _ _
      | exact LeO.none _
      | refine LeO.ite ?_ ?_
      | refine LeO.bind ?_ (fun _ => ?_)
theorem furlongref8_Be.mono : ∀ a0 a1 k, LeO (furlongref8_Be.f k a0 a1) (furlongref8_Be.f (k + 1) a0 a1) := by
  intro a0 a1 k
  have ih0 := furlongref8_Be.mono_l k
  unfold furlongref8_Be.f
  repeat' first
      | (with_reducible exact ih0 _ _ _)
      | (with_reducible exact LeO.refl _)
      | (with_reducible exact LeO.none _)
      | (with_reducible refine LeO.ite ?_ ?_)
      | (with_reducible refine LeO.bind ?_ (fun _ => ?_))
      | exact ih0 _ _ _
      | exact LeO.none _
      | refine LeO.ite ?_ ?_
      | refine LeO.bind ?_ (fun _ => ?_)
set_option maxHeartbeats 8000000 in
set_option maxRecDepth 100000 in
theorem furlongref8_Be.calls (k : Nat) (a0 : Int) (a1 : Int) (r : ByteArray) (w : World) (h : furlongref8_Be.f k a0 a1 = some r) :
    Calls Try.prog 24 #[.int .i64 a0, .int .i64 a1] w fun e w' => e = .returned (.string r) ∧ Below w.heap.size w w' := by
  have HB := Aside0.mk (Below.refl w.heap.size w)
  have H : (if 0 ≤ a1 then (if (a1 : Int).toNat ≤ 281474976710656 then (furlongref8_Be.l0 k a0 (List.replicate (a1 : Int).toNat 0) (wrap64 (a1 - 1))) else (none)) else (none)) = some r := h
  clear h
  by_cases c3 : 0 ≤ a1
  · rw [if_pos c3] at H
    have c3b0 := eq_true c3
    have c3b1 : decide (0 ≤ a1) = true := decide_eq_true c3
    clear c3
    by_cases c4 : (a1 : Int).toNat ≤ 281474976710656
    · rw [if_pos c4] at H
      have c4b0 := eq_true c4
      have c4b1 : decide ((a1 : Int).toNat ≤ 281474976710656) = true := decide_eq_true c4
      clear c4
      obtain ⟨y115, hy115⟩ : ∃ y_ : List Int, y_ = (List.replicate (a1 : Int).toNat 0) := ⟨_, rfl⟩
      replace H : (furlongref8_Be.l0 k a0 y115 (wrap64 (a1 - 1))) = some r := by first | (rw [hy115]; with_reducible exact H) | (have H2_ := (Option.bind_some _ _).symm.trans H; rw [hy115]; with_reducible exact H2_) | (have H2_ := (Option.bind_some _ _).symm.trans H; with_reducible exact H2_) | with_reducible exact H | (rw [hy115]; exact H) | exact H
      have Ny115 := Aside0.mk hy115
      clear hy115
      have H' := Aside0.mk H
      clear H
      go_enter Try.func24, Try.ntmps24
      go_wp2_with (first | ((with_reducible refine gate_dst (N := 8) rfl ?_); refine Kd.R_make (Kd.int .u8) _ 5 rfl (N := 8) rfl 32 _ _ rfl a1 rfl rfl Try.underlying32 (.int .u8 0) 1 info5 rfl (by decide) (by omega) 0 (ok := fun _ => True) (okp := fun _ => True) rfl (fun _ hk => hk) trivial (of_decide_eq_true (by first | (with_reducible assumption) | assumption)) (Nat.le_trans (Nat.mul_le_mul_right _ (of_decide_eq_true (by first | (with_reducible assumption) | assumption) : a1.toNat ≤ 281474976710656)) (by omega)) (Below.refl _ _) (Nat.le_refl _) ?_; intro v116 w5 ho6 hb hg_ hnew_; clear hg_ hnew_; (first | rw [← Ny115.out] at ho6 | (simp only [Int.reduceToNat] at ho6; rw [← Ny115.out] at ho6)); have n0_ := Aside0.mk (Kd.R_lower ho6 (below_size (by repeat (first | (with_reducible first | exact HB.out | apply below_alloc | apply pw_below_drewN | apply below_drew1) | exact HB.out)))); have n1_ := Aside0.mk (below_step (by repeat (first | (with_reducible first | exact HB.out | apply below_alloc | apply pw_below_drewN | apply below_drew1) | exact HB.out)) hb); clear HB; have HO117 := n0_; have HB := n1_; clear n0_ n1_; clear hb ho6))
      go_loopg [0, 6] k (fun kq v0 v6 w' => ∃ (x0_1 : Int) (x5_1 : List Int) (x6_1 : Int), v0 = .int .i64 x0_1 ∧ v6 = .int .i64 x6_1 ∧ Aside0 (furlongref8_Be.l0 kq x0_1 x5_1 x6_1 = some r) ∧ Aside0 (kq ≤ k) ∧ Aside0 (Kd.R (Kd.int .u8) 5 w' w.heap.size (fun _ => True) v116 x5_1) ∧ Aside0 (Below w.heap.size w w'))
      case atStart => exact ⟨(a0), (y115), (wrap64 (a1 - 1)), (by first | rfl | (simp; done) | (simp [*]; done)), (by first | rfl | (simp; done) | (simp [*]; done)), H', ⟨Nat.le_refl _⟩, ⟨by (with_reducible repeat (first | apply Kd.R_alloc | apply Kd.R_drewN | apply Kd.R_drew)); exact HO117.out⟩, ⟨by repeat (first | (with_reducible first | exact HB.out | apply below_alloc | apply pw_below_drewN | apply below_drew1) | exact HB.out)⟩⟩
      case round =>
        clear H'
        try clear c2
        try clear p2
        try clear c3
        try clear c3b0
        try clear c3b1
        try clear c4
        try clear c4b0
        try clear c4b1
        try clear p6
        obtain ⟨x0_1, x5_1, x6_1, rfl, rfl, HA, HK1, HO_5, HB⟩ := hrel
        cases gk with
        | zero => exact absurd HA.out (by simp [furlongref8_Be.l0])
        | succ k1 =>
          have H := HA.out
          clear HA
          simp only [furlongref8_Be.l0] at H
          by_cases c7 : x6_1 ≥ 0
          · rw [if_pos c7] at H
            have c7b0 : decide (0 ≤ x6_1) = true := decide_eq_true c7
            clear c7
            by_cases c8 : 0 ≤ x6_1
            · rw [if_pos c8] at H
              have c8b0 : decide (0 ≤ x6_1) = true := decide_eq_true c8
              clear c8
              by_cases c9 : x6_1 < (x5_1.length : Int)
              · rw [if_pos c9] at H
                have c9b0 : decide (x6_1 < (x5_1.length : Int)) = true := decide_eq_true c9
                clear c9
                obtain ⟨y118, hy118⟩ : ∃ y_ : List Int, y_ = (x5_1.set (x6_1 : Int).toNat ((Go.bits .and .i64 x0_1 255) % 256)) := ⟨_, rfl⟩
                replace H : (furlongref8_Be.l0 k1 (x0_1 / 256) y118 (wrap64 (x6_1 - 1))) = some r := by first | (rw [hy118]; with_reducible exact H) | (have H2_ := (Option.bind_some _ _).symm.trans H; rw [hy118]; with_reducible exact H2_) | (have H2_ := (Option.bind_some _ _).symm.trans H; with_reducible exact H2_) | with_reducible exact H | (rw [hy118]; exact H) | exact H
                have Ny118 := Aside0.mk hy118
                clear hy118
                have H' := Aside0.mk H
                clear H
                have p10 : 0 ≤ (x6_1 : Int) := of_decide_eq_true (by first | (with_reducible assumption) | assumption)
                have q10 : (x6_1 : Int) < ((x5_1.length : Int) : Int) := of_decide_eq_true (by first | (with_reducible assumption) | assumption)
                obtain ⟨go10, co10, eo10, gb10, gl10, cl10, HG10⟩ := Kd.R_form HO_5.out (by omega)
                (first | cases eo10 | (injection eo10 with ea_ en_ ec_; (first | subst ea_ | (injection ea_ with ea_; subst ea_)); subst ec_; clear en_))
                have GB10 := Aside0.mk gb10
                have GG10 := Aside0.mk HG10
                clear gb10 gl10 HG10
                obtain ⟨hx10_0, hf10_0⟩ := Kd.R_celln 0 HO_5.out (x6_1 : Int) p10 q10
                replace p10 := eq_true p10
                replace q10 := eq_true q10
                have HP11 := Kd.R_putg HO_5.out (x6_1 : Int) ((Go.bits .and .i64 x0_1 255) % 256)
                go_wp2_with (first | ((with_reducible refine gate_store (t := 5) (p := 20) rfl ?_); refine store_event (t := 5) (p := 20) (v := ?vo_w12) (w1 := (wr.setCell ⟨go10, (x6_1 : Int).toNat, none⟩ (.int .u8 ((Go.bits .and .i64 x0_1 255) % 256)))) ?hg ?ho ?hn ?hr ?_; (case ho => rfl); (case hg => rfl); (case hn => rfl); (case hr => first | (go_simp; done) | (go_simp; rfl)); intro w12 hw; have hg : wr.grownBy w12 (some go10) := (by rw [hw]; exact HP11.2); have hp_ : Kd.R (Kd.int .u8) 5 w12 w.heap.size (fun _ => True) (.slice (some ⟨go10, 0, none⟩) x5_1.length co10) y118 := (by rw [hw, Ny118.out]; exact HP11.1); clear HP11; have n0_ := Aside0.mk (hp_); have n1_ := Aside0.mk ((by rw [hw]; exact below_set (HB.out) GB10.out : Below w.heap.size w w12)); clear HO_5; clear HB; have HO_5 := n0_; have HB := n1_; clear n0_ n1_; clear hg hw hp_))
                go_roundg k1
                case measure => have := HK1.out; omega
                case rel => exact ⟨(x0_1 / 256), (y118), (wrap64 (x6_1 - 1)), (by first | rfl | (simp; done) | (simp [*]; done)), (by first | rfl | (simp; done) | (simp [*]; done)), H', ⟨by have := HK1.out; omega⟩, ⟨by (with_reducible repeat (first | apply Kd.R_alloc | apply Kd.R_drewN | apply Kd.R_drew)); exact HO_5.out⟩, ⟨by repeat (first | (with_reducible first | exact HB.out | apply below_alloc | apply pw_below_drewN | apply below_drew1) | exact HB.out)⟩⟩
              · rw [if_neg c9] at H
                exact absurd H (by simp)
            · rw [if_neg c8] at H
              exact absurd H (by simp)
          · rw [if_neg c7] at H
            have c7b0 : decide (0 ≤ x6_1) = false := decide_eq_false c7
            clear c7
            obtain rfl := Option.some.inj H
            have hcv13 := own_string (P := Try.prog) Try.underlying32 Try.underlying5 Try.underlying9 (Kd.own_of_R HO_5.out)
            go_wp2
            go_ret
            exact ⟨by first | rfl | (simp [errW_none, errW_some] <;> rfl) | (simp [*, errW_none, errW_some] <;> rfl), by repeat (first | (with_reducible first | exact HB.out | apply below_alloc | apply pw_below_drewN | apply below_drew1) | exact HB.out)⟩
    · rw [if_neg c4] at H
      exact absurd H (by simp)
  · rw [if_neg c3] at H
    exact absurd H (by simp)

/-! ### furlongref8_PutFrame: function 18 -/
def furlongref8_PutFrame.j0 : Nat → Int → ByteArray → Bool → Option (ByteArray × Int)
  | 0, _, _, _ => none
  | k + 1, x0, x1, x18 => if x18 = true then (some ((⟨#[]⟩ : ByteArray), 900)) else ((furlongref8_Be.f k x0 4).bind fun t119 => ((furlongref8_Be.f k (x1.size : Int) 2).bind fun t120 => (if t119.size + t120.size ≤ 9223372036854775807 then (if 2 + (t119 ++ t120).size ≤ 9223372036854775807 then (if (t119 ++ t120).size + x1.size ≤ 9223372036854775807 then ((furlongref1_Sum.f k ((t119 ++ t120) ++ x1)).bind fun t121 => ((furlongref8_Be.f k t121 4).bind fun t122 => (if ((⟨#[70, 82]⟩ : ByteArray) ++ (t119 ++ t120)).size + t122.size ≤ 9223372036854775807 then (if (((⟨#[70, 82]⟩ : ByteArray) ++ (t119 ++ t120)) ++ t122).size + x1.size ≤ 9223372036854775807 then (if 0 ≤ ((64 - ((((((⟨#[70, 82]⟩ : ByteArray) ++ (t119 ++ t120)) ++ t122) ++ x1).size : Int) % 64)) % 64) then (if ((64 - ((((((⟨#[70, 82]⟩ : ByteArray) ++ (t119 ++ t120)) ++ t122) ++ x1).size : Int) % 64)) % 64 : Int).toNat ≤ 281474976710656 then ((some (List.replicate ((64 - ((((((⟨#[70, 82]⟩ : ByteArray) ++ (t119 ++ t120)) ++ t122) ++ x1).size : Int) % 64)) % 64 : Int).toNat 0 : List Int)).bind fun y123 => (if ((((⟨#[70, 82]⟩ : ByteArray) ++ (t119 ++ t120)) ++ t122) ++ x1).size + (strOfNums y123).size ≤ 9223372036854775807 then (some (((((⟨#[70, 82]⟩ : ByteArray) ++ (t119 ++ t120)) ++ t122) ++ x1) ++ (strOfNums y123), 0)) else (none))) else (none)) else (none)) else (none)) else (none)))) else (none)) else (none)) else (none))))
def furlongref8_PutFrame.f (k : Nat) (a0 : Int) (a1 : ByteArray) : Option (ByteArray × Int) := if a0 < 0 then (furlongref8_PutFrame.j0 k a0 a1 true) else (if a0 > 4294967295 then (furlongref8_PutFrame.j0 k a0 a1 true) else (furlongref8_PutFrame.j0 k a0 a1 (decide ((a1.size : Int) > 8192))))
theorem furlongref8_PutFrame.mono_l : ∀ k, (∀ y0 y1 y2, LeO (furlongref8_PutFrame.j0 k y0 y1 y2) (furlongref8_PutFrame.j0 (k + 1) y0 y1 y2))
  | 0 => fun _ _ _ r h => by simp [furlongref8_PutFrame.j0] at h
  | k + 1 => by
    have ih0 := furlongref8_PutFrame.mono_l k
    · intro y0 y1 y2
      unfold furlongref8_PutFrame.j0
      repeat' first
      | (with_reducible exact ih0 _ _ _)
      | (with_reducible exact furlongref1_Sum.mono _ _)
      | (with_reducible exact furlongref8_Be.mono _ _ _)
      | (with_reducible exact LeO.refl _)
      | (with_reducible exact LeO.none _)
      | (with_reducible refine LeO.ite ?_ ?_)
      | (with_reducible refine LeO.bind ?_ (fun _ => ?_))
      | exact ih0 _ _ _
      | exact furlongref1_Sum.mono _ _
      | exact furlongref8_Be.mono _ _ _
      | exact LeO.none _
      | refine LeO.ite ?_ ?_
      | refine LeO.bind ?_ (fun _ => ?_)
theorem furlongref8_PutFrame.mono : ∀ a0 a1 k, LeO (furlongref8_PutFrame.f k a0 a1) (furlongref8_PutFrame.f (k + 1) a0 a1) := by
  intro a0 a1 k
  have ih0 := furlongref8_PutFrame.mono_l k
  unfold furlongref8_PutFrame.f
  repeat' first
      | (with_reducible exact ih0 _ _ _)
      | (with_reducible exact furlongref1_Sum.mono _ _)
      | (with_reducible exact furlongref8_Be.mono _ _ _)
      | (with_reducible exact LeO.refl _)
      | (with_reducible exact LeO.none _)
      | (with_reducible refine LeO.ite ?_ ?_)
      | (with_reducible refine LeO.bind ?_ (fun _ => ?_))
      | exact ih0 _ _ _
      | exact furlongref1_Sum.mono _ _
      | exact furlongref8_Be.mono _ _ _
      | exact LeO.none _
      | refine LeO.ite ?_ ?_
      | refine LeO.bind ?_ (fun _ => ?_)
set_option maxHeartbeats 8000000 in
set_option maxRecDepth 100000 in
theorem furlongref8_PutFrame.calls (k : Nat) (a0 : Int) (a1 : ByteArray) (r1 : ByteArray) (r2 : Int) (w : World) (h : furlongref8_PutFrame.f k a0 a1 = some (r1, r2)) :
    Calls Try.prog 18 #[.int .i64 a0, .string a1] w fun e w' => e = .returned (.tuple #[.string r1, .int .i64 r2]) ∧ Below w.heap.size w w' := by
  have HB := Aside0.mk (Below.refl w.heap.size w)
  have H : (if a0 < 0 then (furlongref8_PutFrame.j0 k a0 a1 true) else (if a0 > 4294967295 then (furlongref8_PutFrame.j0 k a0 a1 true) else (furlongref8_PutFrame.j0 k a0 a1 (decide ((a1.size : Int) > 8192))))) = some (r1, r2) := h
  clear h
  have HC3 := Aside0.mk H
  clear H
  go_enter Try.func18, Try.ntmps18
  go_upto_region 1 with (fail)
  go_cut [18] (fun v18 wc => ∃ (kq : Nat) (x18_2 : Bool), v18 = .bool x18_2 ∧ Aside0 (furlongref8_PutFrame.j0 kq a0 a1 x18_2 = some (r1, r2)) ∧ Aside0 (kq ≤ k) ∧ Aside0 (Below w.heap.size w wc))
  case first =>
    have H := HC3.out
    clear HC3
    by_cases c4 : a0 < 0
    · rw [if_pos c4] at H
      have c4b0 : decide (a0 < 0) = true := decide_eq_true c4
      clear c4
      (first | rw [c4b0] | (simp only [i64_w, i32_w]; rw [c4b0]) | skip)
      have H' := Aside0.mk H
      clear H
      go_wp2
      go_meet
      case rel => exact ⟨_, (true), (by first | rfl | (simp; done) | (simp [*]; done)), H', ⟨by first | omega | exact Nat.le_refl _⟩, ⟨by repeat (first | (with_reducible first | exact HB.out | apply below_alloc | apply pw_below_drewN | apply below_drew1) | exact HB.out)⟩⟩
    · rw [if_neg c4] at H
      have c4b0 : decide (a0 < 0) = false := decide_eq_false c4
      clear c4
      (first | rw [c4b0] | (simp only [i64_w, i32_w]; rw [c4b0]) | skip)
      by_cases c5 : a0 > 4294967295
      · rw [if_pos c5] at H
        have c5b0 : decide (4294967295 < a0) = true := decide_eq_true c5
        clear c5
        have H' := Aside0.mk H
        clear H
        go_wp2
        go_meet
        case rel => exact ⟨_, (true), (by first | rfl | (simp; done) | (simp [*]; done)), H', ⟨by first | omega | exact Nat.le_refl _⟩, ⟨by repeat (first | (with_reducible first | exact HB.out | apply below_alloc | apply pw_below_drewN | apply below_drew1) | exact HB.out)⟩⟩
      · rw [if_neg c5] at H
        have c5b0 : decide (4294967295 < a0) = false := decide_eq_false c5
        clear c5
        have H' := Aside0.mk H
        clear H
        go_wp2
        go_meet
        case rel => exact ⟨_, (decide ((a1.size : Int) > 8192)), (by first | rfl | (simp; done) | (simp [*]; done)), H', ⟨by first | omega | exact Nat.le_refl _⟩, ⟨by repeat (first | (with_reducible first | exact HB.out | apply below_alloc | apply pw_below_drewN | apply below_drew1) | exact HB.out)⟩⟩
  case rest =>
    clear HC3
    try clear c1
    try clear p2
    try clear c4
    try clear c4b0
    try clear c5
    try clear c5b0
    obtain ⟨kq, x18_2, rfl, HA, HJ2, HB⟩ := hcut
    cases kq with
    | zero => exact absurd HA.out (by simp [furlongref8_PutFrame.j0])
    | succ kj2 =>
      have H := HA.out
      clear HA
      simp only [furlongref8_PutFrame.j0] at H
      by_cases c6 : x18_2 = true
      · subst c6
        have H1 : (some ((⟨#[]⟩ : ByteArray), 900)) = some (r1, r2) := by rw [if_pos rfl] at H; exact H
        clear H
        have H := H1
        clear H1
        simp only [Option.some.injEq, Prod.mk.injEq] at H
        obtain ⟨rfl, rfl⟩ := H
        go_wp2
        go_ret2
        exact ⟨by first | rfl | (simp [errW_none, errW_some] <;> rfl) | (simp [*, errW_none, errW_some] <;> rfl), by repeat (first | (with_reducible first | exact HB.out | apply below_alloc | apply pw_below_drewN | apply below_drew1) | exact HB.out)⟩
      · replace c6 := Bool.eq_false_iff.mpr c6
        subst c6
        have H1 : ((furlongref8_Be.f kj2 a0 4).bind fun t119 => ((furlongref8_Be.f kj2 (a1.size : Int) 2).bind fun t120 => (if t119.size + t120.size ≤ 9223372036854775807 then (if 2 + (t119 ++ t120).size ≤ 9223372036854775807 then (if (t119 ++ t120).size + a1.size ≤ 9223372036854775807 then ((furlongref1_Sum.f kj2 ((t119 ++ t120) ++ a1)).bind fun t121 => ((furlongref8_Be.f kj2 t121 4).bind fun t122 => (if ((⟨#[70, 82]⟩ : ByteArray) ++ (t119 ++ t120)).size + t122.size ≤ 9223372036854775807 then (if (((⟨#[70, 82]⟩ : ByteArray) ++ (t119 ++ t120)) ++ t122).size + a1.size ≤ 9223372036854775807 then (if 0 ≤ ((64 - ((((((⟨#[70, 82]⟩ : ByteArray) ++ (t119 ++ t120)) ++ t122) ++ a1).size : Int) % 64)) % 64) then (if ((64 - ((((((⟨#[70, 82]⟩ : ByteArray) ++ (t119 ++ t120)) ++ t122) ++ a1).size : Int) % 64)) % 64 : Int).toNat ≤ 281474976710656 then ((some (List.replicate ((64 - ((((((⟨#[70, 82]⟩ : ByteArray) ++ (t119 ++ t120)) ++ t122) ++ a1).size : Int) % 64)) % 64 : Int).toNat 0 : List Int)).bind fun y123 => (if ((((⟨#[70, 82]⟩ : ByteArray) ++ (t119 ++ t120)) ++ t122) ++ a1).size + (strOfNums y123).size ≤ 9223372036854775807 then (some (((((⟨#[70, 82]⟩ : ByteArray) ++ (t119 ++ t120)) ++ t122) ++ a1) ++ (strOfNums y123), 0)) else (none))) else (none)) else (none)) else (none)) else (none)))) else (none)) else (none)) else (none)))) = some (r1, r2) := by rw [if_neg (show ¬ (false = true) by decide)] at H; exact H
        clear H
        have H := H1
        clear H1
        replace H := Option.bind_eq_some_iff.mp H
        obtain ⟨t119, A70, H⟩ := H
        replace H : ((furlongref8_Be.f kj2 (a1.size : Int) 2).bind fun t120 => (if t119.size + t120.size ≤ 9223372036854775807 then (if 2 + (t119 ++ t120).size ≤ 9223372036854775807 then (if (t119 ++ t120).size + a1.size ≤ 9223372036854775807 then ((furlongref1_Sum.f kj2 ((t119 ++ t120) ++ a1)).bind fun t121 => ((furlongref8_Be.f kj2 t121 4).bind fun t122 => (if ((⟨#[70, 82]⟩ : ByteArray) ++ (t119 ++ t120)).size + t122.size ≤ 9223372036854775807 then (if (((⟨#[70, 82]⟩ : ByteArray) ++ (t119 ++ t120)) ++ t122).size + a1.size ≤ 9223372036854775807 then (if 0 ≤ ((64 - ((((((⟨#[70, 82]⟩ : ByteArray) ++ (t119 ++ t120)) ++ t122) ++ a1).size : Int) % 64)) % 64) then (if ((64 - ((((((⟨#[70, 82]⟩ : ByteArray) ++ (t119 ++ t120)) ++ t122) ++ a1).size : Int) % 64)) % 64 : Int).toNat ≤ 281474976710656 then ((some (List.replicate ((64 - ((((((⟨#[70, 82]⟩ : ByteArray) ++ (t119 ++ t120)) ++ t122) ++ a1).size : Int) % 64)) % 64 : Int).toNat 0 : List Int)).bind fun y123 => (if ((((⟨#[70, 82]⟩ : ByteArray) ++ (t119 ++ t120)) ++ t122) ++ a1).size + (strOfNums y123).size ≤ 9223372036854775807 then (some (((((⟨#[70, 82]⟩ : ByteArray) ++ (t119 ++ t120)) ++ t122) ++ a1) ++ (strOfNums y123), 0)) else (none))) else (none)) else (none)) else (none)) else (none)))) else (none)) else (none)) else (none))) = some (r1, r2) := H
        have A7 := Aside0.mk A70
        clear A70
        replace H := Option.bind_eq_some_iff.mp H
        obtain ⟨t120, A80, H⟩ := H
        replace H : (if t119.size + t120.size ≤ 9223372036854775807 then (if 2 + (t119 ++ t120).size ≤ 9223372036854775807 then (if (t119 ++ t120).size + a1.size ≤ 9223372036854775807 then ((furlongref1_Sum.f kj2 ((t119 ++ t120) ++ a1)).bind fun t121 => ((furlongref8_Be.f kj2 t121 4).bind fun t122 => (if ((⟨#[70, 82]⟩ : ByteArray) ++ (t119 ++ t120)).size + t122.size ≤ 9223372036854775807 then (if (((⟨#[70, 82]⟩ : ByteArray) ++ (t119 ++ t120)) ++ t122).size + a1.size ≤ 9223372036854775807 then (if 0 ≤ ((64 - ((((((⟨#[70, 82]⟩ : ByteArray) ++ (t119 ++ t120)) ++ t122) ++ a1).size : Int) % 64)) % 64) then (if ((64 - ((((((⟨#[70, 82]⟩ : ByteArray) ++ (t119 ++ t120)) ++ t122) ++ a1).size : Int) % 64)) % 64 : Int).toNat ≤ 281474976710656 then ((some (List.replicate ((64 - ((((((⟨#[70, 82]⟩ : ByteArray) ++ (t119 ++ t120)) ++ t122) ++ a1).size : Int) % 64)) % 64 : Int).toNat 0 : List Int)).bind fun y123 => (if ((((⟨#[70, 82]⟩ : ByteArray) ++ (t119 ++ t120)) ++ t122) ++ a1).size + (strOfNums y123).size ≤ 9223372036854775807 then (some (((((⟨#[70, 82]⟩ : ByteArray) ++ (t119 ++ t120)) ++ t122) ++ a1) ++ (strOfNums y123), 0)) else (none))) else (none)) else (none)) else (none)) else (none)))) else (none)) else (none)) else (none)) = some (r1, r2) := H
        have A8 := Aside0.mk A80
        clear A80
        by_cases c9 : t119.size + t120.size ≤ 9223372036854775807
        · rw [if_pos c9] at H
          have c9b0 := eq_true c9
          have c9b1 : decide (t119.size + t120.size ≤ 9223372036854775807) = true := decide_eq_true c9
          try have c9b2 : (9223372036854775807 < t119.size + t120.size) = False := eq_false (Nat.not_lt.2 c9)
          by_cases c10 : 2 + (t119 ++ t120).size ≤ 9223372036854775807
          · rw [if_pos c10] at H
            have c10b0 := eq_true c10
            have c10b1 : decide (2 + (t119 ++ t120).size ≤ 9223372036854775807) = true := decide_eq_true c10
            try have c10b2 : (9223372036854775807 < 2 + (t119 ++ t120).size) = False := eq_false (Nat.not_lt.2 c10)
            have c10b3 : (9223372036854775807 < 2 + (t119.size + t120.size)) = False := by have h := c10; simp only [ByteArray.size_append] at h; exact eq_false (Nat.not_lt.2 h)
            by_cases c11 : (t119 ++ t120).size + a1.size ≤ 9223372036854775807
            · rw [if_pos c11] at H
              have c11b0 := eq_true c11
              have c11b1 : decide ((t119 ++ t120).size + a1.size ≤ 9223372036854775807) = true := decide_eq_true c11
              try have c11b2 : (9223372036854775807 < (t119 ++ t120).size + a1.size) = False := eq_false (Nat.not_lt.2 c11)
              have c11b3 : (9223372036854775807 < t119.size + t120.size + a1.size) = False := by have h := c11; simp only [ByteArray.size_append] at h; exact eq_false (Nat.not_lt.2 h)
              replace H := Option.bind_eq_some_iff.mp H
              obtain ⟨t121, A120, H⟩ := H
              replace H : ((furlongref8_Be.f kj2 t121 4).bind fun t122 => (if ((⟨#[70, 82]⟩ : ByteArray) ++ (t119 ++ t120)).size + t122.size ≤ 9223372036854775807 then (if (((⟨#[70, 82]⟩ : ByteArray) ++ (t119 ++ t120)) ++ t122).size + a1.size ≤ 9223372036854775807 then (if 0 ≤ ((64 - ((((((⟨#[70, 82]⟩ : ByteArray) ++ (t119 ++ t120)) ++ t122) ++ a1).size : Int) % 64)) % 64) then (if ((64 - ((((((⟨#[70, 82]⟩ : ByteArray) ++ (t119 ++ t120)) ++ t122) ++ a1).size : Int) % 64)) % 64 : Int).toNat ≤ 281474976710656 then ((some (List.replicate ((64 - ((((((⟨#[70, 82]⟩ : ByteArray) ++ (t119 ++ t120)) ++ t122) ++ a1).size : Int) % 64)) % 64 : Int).toNat 0 : List Int)).bind fun y123 => (if ((((⟨#[70, 82]⟩ : ByteArray) ++ (t119 ++ t120)) ++ t122) ++ a1).size + (strOfNums y123).size ≤ 9223372036854775807 then (some (((((⟨#[70, 82]⟩ : ByteArray) ++ (t119 ++ t120)) ++ t122) ++ a1) ++ (strOfNums y123), 0)) else (none))) else (none)) else (none)) else (none)) else (none))) = some (r1, r2) := H
              have A12 := Aside0.mk A120
              clear A120
              replace H := Option.bind_eq_some_iff.mp H
              obtain ⟨t122, A130, H⟩ := H
              replace H : (if ((⟨#[70, 82]⟩ : ByteArray) ++ (t119 ++ t120)).size + t122.size ≤ 9223372036854775807 then (if (((⟨#[70, 82]⟩ : ByteArray) ++ (t119 ++ t120)) ++ t122).size + a1.size ≤ 9223372036854775807 then (if 0 ≤ ((64 - ((((((⟨#[70, 82]⟩ : ByteArray) ++ (t119 ++ t120)) ++ t122) ++ a1).size : Int) % 64)) % 64) then (if ((64 - ((((((⟨#[70, 82]⟩ : ByteArray) ++ (t119 ++ t120)) ++ t122) ++ a1).size : Int) % 64)) % 64 : Int).toNat ≤ 281474976710656 then ((some (List.replicate ((64 - ((((((⟨#[70, 82]⟩ : ByteArray) ++ (t119 ++ t120)) ++ t122) ++ a1).size : Int) % 64)) % 64 : Int).toNat 0 : List Int)).bind fun y123 => (if ((((⟨#[70, 82]⟩ : ByteArray) ++ (t119 ++ t120)) ++ t122) ++ a1).size + (strOfNums y123).size ≤ 9223372036854775807 then (some (((((⟨#[70, 82]⟩ : ByteArray) ++ (t119 ++ t120)) ++ t122) ++ a1) ++ (strOfNums y123), 0)) else (none))) else (none)) else (none)) else (none)) else (none)) = some (r1, r2) := H
              have A13 := Aside0.mk A130
              clear A130
              by_cases c14 : ((⟨#[70, 82]⟩ : ByteArray) ++ (t119 ++ t120)).size + t122.size ≤ 9223372036854775807
              · rw [if_pos c14] at H
                have c14b0 := eq_true c14
                have c14b1 : decide (((⟨#[70, 82]⟩ : ByteArray) ++ (t119 ++ t120)).size + t122.size ≤ 9223372036854775807) = true := decide_eq_true c14
                try have c14b2 : (9223372036854775807 < ((⟨#[70, 82]⟩ : ByteArray) ++ (t119 ++ t120)).size + t122.size) = False := eq_false (Nat.not_lt.2 c14)
                have c14b3 : (9223372036854775807 < 2 + (t119.size + t120.size) + t122.size) = False := by have h := c14; simp only [ByteArray.size_append] at h; exact eq_false (Nat.not_lt.2 h)
                by_cases c15 : (((⟨#[70, 82]⟩ : ByteArray) ++ (t119 ++ t120)) ++ t122).size + a1.size ≤ 9223372036854775807
                · rw [if_pos c15] at H
                  have c15b0 := eq_true c15
                  have c15b1 : decide ((((⟨#[70, 82]⟩ : ByteArray) ++ (t119 ++ t120)) ++ t122).size + a1.size ≤ 9223372036854775807) = true := decide_eq_true c15
                  try have c15b2 : (9223372036854775807 < (((⟨#[70, 82]⟩ : ByteArray) ++ (t119 ++ t120)) ++ t122).size + a1.size) = False := eq_false (Nat.not_lt.2 c15)
                  have c15b3 : (9223372036854775807 < 2 + (t119.size + t120.size) + t122.size + a1.size) = False := by have h := c15; simp only [ByteArray.size_append] at h; exact eq_false (Nat.not_lt.2 h)
                  obtain ⟨ji16, hji16⟩ : ∃ j_ : Int, ((64 - ((((((⟨#[70, 82]⟩ : ByteArray) ++ (t119 ++ t120)) ++ t122) ++ a1).size : Int) % 64)) % 64) = j_ := ⟨_, rfl⟩
                  replace H : (if 0 ≤ (ji16) then (if (ji16 : Int).toNat ≤ 281474976710656 then ((some (List.replicate (ji16 : Int).toNat 0 : List Int)).bind fun y123 => (if ((((⟨#[70, 82]⟩ : ByteArray) ++ (t119 ++ t120)) ++ t122) ++ a1).size + (strOfNums y123).size ≤ 9223372036854775807 then (some (((((⟨#[70, 82]⟩ : ByteArray) ++ (t119 ++ t120)) ++ t122) ++ a1) ++ (strOfNums y123), 0)) else (none))) else (none)) else (none)) = some (r1, r2) := by first | (rw [hji16] at H; exact H) | (simp only [hji16] at H ⊢; exact H)
                  have hji16s : (64 - (2 + ((t119.size : Int) + (t120.size : Int)) + (t122.size : Int) + (a1.size : Int)) % 64) % 64 = ji16 := by rw [← hji16]; simp [ByteArray.size_append]; rfl
                  have hji16t : (-((2 + ((t119.size : Int) + (t120.size : Int)) + (t122.size : Int) + (a1.size : Int)) % 64)) % 64 = ji16 := by rw [← hji16s]; omega
                  (try rw [hji16] at A7)
                  (try rw [hji16] at A8)
                  (try rw [hji16] at A12)
                  (try rw [hji16] at A13)
                  by_cases c17 : 0 ≤ (ji16)
                  · rw [if_pos c17] at H
                    have c17b0 := eq_true c17
                    have c17b1 : decide (0 ≤ (ji16)) = true := decide_eq_true c17
                    clear c17
                    by_cases c18 : (ji16 : Int).toNat ≤ 281474976710656
                    · rw [if_pos c18] at H
                      have c18b0 := eq_true c18
                      have c18b1 : decide ((ji16 : Int).toNat ≤ 281474976710656) = true := decide_eq_true c18
                      clear c18
                      obtain ⟨y123, hy123⟩ : ∃ y_ : List Int, y_ = (List.replicate (ji16 : Int).toNat 0) := ⟨_, rfl⟩
                      replace H : (if ((((⟨#[70, 82]⟩ : ByteArray) ++ (t119 ++ t120)) ++ t122) ++ a1).size + (strOfNums y123).size ≤ 9223372036854775807 then (some (((((⟨#[70, 82]⟩ : ByteArray) ++ (t119 ++ t120)) ++ t122) ++ a1) ++ (strOfNums y123), 0)) else (none)) = some (r1, r2) := by first | (rw [hy123]; with_reducible exact H) | (have H2_ := (Option.bind_some _ _).symm.trans H; rw [hy123]; with_reducible exact H2_) | (have H2_ := (Option.bind_some _ _).symm.trans H; with_reducible exact H2_) | with_reducible exact H | (rw [hy123]; exact H) | exact H
                      have Ny123 := Aside0.mk hy123
                      clear hy123
                      by_cases c19 : ((((⟨#[70, 82]⟩ : ByteArray) ++ (t119 ++ t120)) ++ t122) ++ a1).size + (strOfNums y123).size ≤ 9223372036854775807
                      · rw [if_pos c19] at H
                        have c19b0 := eq_true c19
                        have c19b1 : decide (((((⟨#[70, 82]⟩ : ByteArray) ++ (t119 ++ t120)) ++ t122) ++ a1).size + (strOfNums y123).size ≤ 9223372036854775807) = true := decide_eq_true c19
                        try have c19b2 : (9223372036854775807 < ((((⟨#[70, 82]⟩ : ByteArray) ++ (t119 ++ t120)) ++ t122) ++ a1).size + (strOfNums y123).size) = False := eq_false (Nat.not_lt.2 c19)
                        have c19b3 : (9223372036854775807 < 2 + (t119.size + t120.size) + t122.size + a1.size + (strOfNums y123).size) = False := by have h := c19; simp only [ByteArray.size_append] at h; exact eq_false (Nat.not_lt.2 h)
                        simp only [Option.some.injEq, Prod.mk.injEq] at H
                        obtain ⟨rfl, rfl⟩ := H
                        go_wp2_with (first | ((with_reducible refine gate_callee (f := 24) rfl ?_); refine goesL_ (some 20) rfl rfl Try.func24 (by kernel_rfl) rfl #[.int .i64 a0, .int .i64 4] rfl (by (try simp only [List.map_toArray, List.map_cons, List.map_nil]); first | done | rfl | (simp only [List.length_drop, List.length_take]; rfl)) ?_; (with_reducible refine (furlongref8_Be.calls kj2 a0 4 t119 _ A7.out).mono ?_); rintro e w20 ⟨rfl, hb⟩; refine ⟨_, rfl, ?_⟩; have n0_ := Aside0.mk (below_step (by repeat (first | (with_reducible first | exact HB.out | apply below_alloc | apply pw_below_drewN | apply below_drew1) | exact HB.out)) hb); clear HB; have HB := n0_; clear n0_; (try clear hb); (try clear hb2); (try clear hk); (try clear hi)) | ((with_reducible refine gate_callee (f := 24) rfl ?_); refine goesL_ (some 23) rfl rfl Try.func24 (by kernel_rfl) rfl #[.int .i64 (a1.size : Int), .int .i64 2] rfl (by (try simp only [List.map_toArray, List.map_cons, List.map_nil]); first | done | rfl | (simp only [List.length_drop, List.length_take]; rfl)) ?_; (with_reducible refine (furlongref8_Be.calls kj2 (a1.size : Int) 2 t120 _ A8.out).mono ?_); rintro e w21 ⟨rfl, hb⟩; refine ⟨_, rfl, ?_⟩; have n0_ := Aside0.mk (below_step (by repeat (first | (with_reducible first | exact HB.out | apply below_alloc | apply pw_below_drewN | apply below_drew1) | exact HB.out)) hb); clear HB; have HB := n0_; clear n0_; (try clear hb); (try clear hb2); (try clear hk); (try clear hi)) | ((with_reducible refine gate_callee (f := 15) rfl ?_); refine goesL_ (some 30) rfl rfl Try.func15 (by kernel_rfl) rfl #[.string ((t119 ++ t120) ++ a1)] rfl (by (try simp only [List.map_toArray, List.map_cons, List.map_nil]); first | done | rfl | (simp only [List.length_drop, List.length_take]; rfl)) ?_; (with_reducible refine (furlongref1_Sum.calls kj2 ((t119 ++ t120) ++ a1) t121 _ A12.out).mono ?_); rintro e w' ⟨rfl, ⟨nd, rfl⟩⟩; refine ⟨_, rfl, ?_⟩) | ((with_reducible refine gate_callee (f := 24) rfl ?_); refine goesL_ (some 31) rfl rfl Try.func24 (by kernel_rfl) rfl #[.int .i64 t121, .int .i64 4] rfl (by (try simp only [List.map_toArray, List.map_cons, List.map_nil]); first | done | rfl | (simp only [List.length_drop, List.length_take]; rfl)) ?_; (with_reducible refine (furlongref8_Be.calls kj2 t121 4 t122 _ A13.out).mono ?_); rintro e w22 ⟨rfl, hb⟩; refine ⟨_, rfl, ?_⟩; have n0_ := Aside0.mk (below_step (by repeat (first | (with_reducible first | exact HB.out | apply below_alloc | apply pw_below_drewN | apply below_drew1) | exact HB.out)) hb); clear HB; have HB := n0_; clear n0_; (try clear hb); (try clear hb2); (try clear hk); (try clear hi)) | ((with_reducible refine gate_dst (N := 41) rfl ?_); (try (refine gate_guard (by rfl) ?_; dsimp only)); (try simp only [hji16s, hji16t]); refine Kd.R_make (Kd.int .u8) _ 5 rfl (N := 41) rfl 32 _ _ rfl ji16 rfl rfl Try.underlying32 (.int .u8 0) 1 info5 rfl (by decide) (by omega) 0 (ok := fun _ => True) (okp := fun _ => True) rfl (fun _ hk => hk) trivial (of_decide_eq_true (by first | (with_reducible assumption) | assumption)) (Nat.le_trans (Nat.mul_le_mul_right _ (of_decide_eq_true (by first | (with_reducible assumption) | assumption) : ji16.toNat ≤ 281474976710656)) (by omega)) (Below.refl _ _) (Nat.le_refl _) ?_; intro v124 w23 ho24 hb hg_ hnew_; clear hg_ hnew_; (first | rw [← Ny123.out] at ho24 | (simp only [Int.reduceToNat] at ho24; rw [← Ny123.out] at ho24)); have n0_ := Aside0.mk (Kd.R_lower ho24 (below_size (by repeat (first | (with_reducible first | exact HB.out | apply below_alloc | apply pw_below_drewN | apply below_drew1) | exact HB.out)))); have n1_ := Aside0.mk (below_step (by repeat (first | (with_reducible first | exact HB.out | apply below_alloc | apply pw_below_drewN | apply below_drew1) | exact HB.out)) hb); clear HB; have HO125 := n0_; have HB := n1_; clear n0_ n1_; clear hb ho24; have hcv25 := own_string (P := Try.prog) Try.underlying32 Try.underlying5 Try.underlying9 (Kd.own_of_R HO125.out)))
                        go_ret2
                        exact ⟨by first | rfl | (simp [errW_none, errW_some] <;> rfl) | (simp only [← hji16]; first | rfl | (simp [errW_none, errW_some] <;> rfl)) | (simp [*, errW_none, errW_some] <;> rfl), by repeat (first | (with_reducible first | exact HB.out | apply below_alloc | apply pw_below_drewN | apply below_drew1) | exact HB.out)⟩
                      · rw [if_neg c19] at H
                        exact absurd H (by simp)
                    · rw [if_neg c18] at H
                      exact absurd H (by simp)
                  · rw [if_neg c17] at H
                    exact absurd H (by simp)
                · rw [if_neg c15] at H
                  exact absurd H (by simp)
              · rw [if_neg c14] at H
                exact absurd H (by simp)
            · rw [if_neg c11] at H
              exact absurd H (by simp)
          · rw [if_neg c10] at H
            exact absurd H (by simp)
        · rw [if_neg c9] at H
          exact absurd H (by simp)

/-! ### frame_Get: function 19 -/
def frame_Get.j0 : Nat → ByteArray → Int → Int → Int → Bool → Option (ByteArray × Int × Bool)
  | 0, _, _, _, _, _ => none
  | k + 1, x0, x1, x8, x9, x37 => if x37 = true then (some ((⟨#[]⟩ : ByteArray), 0, false)) else (if 12 ≤ (wrap64 (12 + x8)) then (if (wrap64 (12 + x8)) ≤ (x0.size : Int) then ((frame_Put.f k x1 (x0.extract 12 ((wrap64 (12 + x8)) : Int).toNat)).bind fun bt127 => (if bt127.2 = 0 then (if 0 ≤ x9 then (if x9 ≤ (x0.size : Int) then (if bt127.1.toList = (x0.extract 0 (x9 : Int).toNat).toList then (some (x0.extract 12 ((wrap64 (12 + x8)) : Int).toNat, x9, true)) else (some ((⟨#[]⟩ : ByteArray), 0, false))) else (none)) else (none)) else (some ((⟨#[]⟩ : ByteArray), 0, false)))) else (none)) else (none))
def frame_Get.f (k : Nat) (a0 : ByteArray) (a1 : Int) : Option (ByteArray × Int × Bool) := if (a0.size : Int) < 12 then (some ((⟨#[]⟩ : ByteArray), 0, false)) else (if 6 < (a0.size : Int) then (if 0 ≤ (7 : Int) then (if (7 : Int) < (a0.size : Int) then ((frame_Sectors.f (Go.bits .or .i64 (wrap64 ((wrap64 (bt a0 6)) * 256)) (wrap64 (bt a0 (7 : Int))))).bind fun t126 => (if (wrap64 (t126 * 64)) = 0 then (frame_Get.j0 k a0 a1 (Go.bits .or .i64 (wrap64 ((wrap64 (bt a0 6)) * 256)) (wrap64 (bt a0 (7 : Int)))) (wrap64 (t126 * 64)) true) else (frame_Get.j0 k a0 a1 (Go.bits .or .i64 (wrap64 ((wrap64 (bt a0 6)) * 256)) (wrap64 (bt a0 (7 : Int)))) (wrap64 (t126 * 64)) (decide ((wrap64 (t126 * 64)) > (a0.size : Int)))))) else (none)) else (none)) else (none))
theorem frame_Get.mono_l : ∀ k, (∀ y0 y1 y2 y3 y4, LeO (frame_Get.j0 k y0 y1 y2 y3 y4) (frame_Get.j0 (k + 1) y0 y1 y2 y3 y4))
  | 0 => fun _ _ _ _ _ r h => by simp [frame_Get.j0] at h
  | k + 1 => by
    have ih0 := frame_Get.mono_l k
    · intro y0 y1 y2 y3 y4
      unfold frame_Get.j0
      repeat' first
      | (with_reducible exact ih0 _ _ _ _ _)
      | (with_reducible exact frame_Put.mono _ _ _)
      | (with_reducible exact LeO.refl _)
      | (with_reducible exact LeO.none _)
      | (with_reducible refine LeO.ite ?_ ?_)
      | (with_reducible refine LeO.bind ?_ (fun _ => ?_))
      | exact ih0 _ _ _ _ _
      | exact frame_Put.mono _ _ _
      | exact LeO.none _
      | refine LeO.ite ?_ ?_
      | refine LeO.bind ?_ (fun _ => ?_)
theorem frame_Get.mono : ∀ a0 a1 k, LeO (frame_Get.f k a0 a1) (frame_Get.f (k + 1) a0 a1) := by
  intro a0 a1 k
  have ih0 := frame_Get.mono_l k
  unfold frame_Get.f
  repeat' first
      | (with_reducible exact ih0 _ _ _ _ _)
      | (with_reducible exact frame_Put.mono _ _ _)
      | (with_reducible exact LeO.refl _)
      | (with_reducible exact LeO.none _)
      | (with_reducible refine LeO.ite ?_ ?_)
      | (with_reducible refine LeO.bind ?_ (fun _ => ?_))
      | exact ih0 _ _ _ _ _
      | exact frame_Put.mono _ _ _
      | exact LeO.none _
      | refine LeO.ite ?_ ?_
      | refine LeO.bind ?_ (fun _ => ?_)
set_option maxHeartbeats 8000000 in
set_option maxRecDepth 100000 in
theorem frame_Get.calls (k : Nat) (a0 : ByteArray) (a1 : Int) (r1 : ByteArray) (r2 : Int) (r3 : Bool) (w : World) (h : frame_Get.f k a0 a1 = some (r1, r2, r3)) :
    Calls Try.prog 19 #[.string a0, .int .i64 a1] w fun e w' => e = .returned (.tuple #[.string r1, .int .i64 r2, .bool r3]) ∧ Below w.heap.size w w' := by
  have HB := Aside0.mk (Below.refl w.heap.size w)
  have H : (if (a0.size : Int) < 12 then (some ((⟨#[]⟩ : ByteArray), 0, false)) else (if 6 < (a0.size : Int) then (if 0 ≤ (7 : Int) then (if (7 : Int) < (a0.size : Int) then ((frame_Sectors.f (Go.bits .or .i64 (wrap64 ((wrap64 (bt a0 6)) * 256)) (wrap64 (bt a0 (7 : Int))))).bind fun t126 => (if (wrap64 (t126 * 64)) = 0 then (frame_Get.j0 k a0 a1 (Go.bits .or .i64 (wrap64 ((wrap64 (bt a0 6)) * 256)) (wrap64 (bt a0 (7 : Int)))) (wrap64 (t126 * 64)) true) else (frame_Get.j0 k a0 a1 (Go.bits .or .i64 (wrap64 ((wrap64 (bt a0 6)) * 256)) (wrap64 (bt a0 (7 : Int)))) (wrap64 (t126 * 64)) (decide ((wrap64 (t126 * 64)) > (a0.size : Int)))))) else (none)) else (none)) else (none))) = some (r1, r2, r3) := h
  clear h
  by_cases c3 : (a0.size : Int) < 12
  · rw [if_pos c3] at H
    have c3b0 : decide ((a0.size : Int) < 12) = true := decide_eq_true c3
    have c3b1 : decide (a0.size < 12) = true := decide_eq_true (by omega)
    clear c3
    simp only [Option.some.injEq, Prod.mk.injEq] at H
    obtain ⟨rfl, rfl, rfl⟩ := H
    go_enter Try.func19, Try.ntmps19
    go_wp2
    repeat (go_quiet (fail); try go_wp2)
    go_ret3
    exact ⟨by first | rfl | (simp [errW_none, errW_some] <;> rfl) | (simp [*, errW_none, errW_some] <;> rfl), by repeat (first | (with_reducible first | exact HB.out | apply below_alloc | apply pw_below_drewN | apply below_drew1) | exact HB.out)⟩
  · rw [if_neg c3] at H
    have c3b0 : decide ((a0.size : Int) < 12) = false := decide_eq_false c3
    have c3b1 : decide (a0.size < 12) = false := decide_eq_false (by omega)
    clear c3
    by_cases c4 : 6 < (a0.size : Int)
    · rw [if_pos c4] at H
      have c4b0 : decide (6 < (a0.size : Int)) = true := decide_eq_true c4
      have c4b1 : decide (6 < a0.size) = true := decide_eq_true (by omega)
      clear c4
      by_cases c7 : 0 ≤ (7 : Int)
      · rw [if_pos c7] at H
        have c7b0 : decide (0 ≤ (7 : Int)) = true := decide_eq_true c7
        clear c7
        by_cases c8 : (7 : Int) < (a0.size : Int)
        · rw [if_pos c8] at H
          have c8b0 : decide ((7 : Int) < (a0.size : Int)) = true := decide_eq_true c8
          have c8b1 : decide (7 < a0.size) = true := decide_eq_true (by omega)
          clear c8
          replace H := Option.bind_eq_some_iff.mp H
          obtain ⟨t126, A100, H⟩ := H
          replace H : (if (wrap64 (t126 * 64)) = 0 then (frame_Get.j0 k a0 a1 (Go.bits .or .i64 (wrap64 ((wrap64 (bt a0 6)) * 256)) (wrap64 (bt a0 (7 : Int)))) (wrap64 (t126 * 64)) true) else (frame_Get.j0 k a0 a1 (Go.bits .or .i64 (wrap64 ((wrap64 (bt a0 6)) * 256)) (wrap64 (bt a0 (7 : Int)))) (wrap64 (t126 * 64)) (decide ((wrap64 (t126 * 64)) > (a0.size : Int))))) = some (r1, r2, r3) := H
          have A10 := Aside0.mk A100
          clear A100
          have HC11 := Aside0.mk H
          clear H
          have p5 : 0 ≤ (6 : Int) := (by omega)
          have q5 : 6 < a0.size := (by have : (6 : Int) < (a0.size : Int) := of_decide_eq_true (by first | (with_reducible assumption) | assumption); omega)
          have hx5 : ∀ h : 6 < a0.size, ((a0[6]'h).toNat : Int) = bt a0 6 := bt_at a0 6
          clear p5
          have qi5 : (6 < (a0.size : Int)) = True := eq_true (of_decide_eq_true (by first | (with_reducible assumption) | assumption))
          replace q5 := eq_true q5
          have q9 : 7 < a0.size := (by have : (7 : Int) < (a0.size : Int) := of_decide_eq_true (by first | (with_reducible assumption) | assumption); omega)
          have hx9 : ∀ h : 7 < a0.size, ((a0[7]'h).toNat : Int) = bt a0 7 := bt_at a0 7
          have qi9 : (7 < (a0.size : Int)) = True := eq_true (of_decide_eq_true (by first | (with_reducible assumption) | assumption))
          replace q9 := eq_true q9
          go_enter Try.func19, Try.ntmps19
          go_upto_region 6 with (first | (go_at_call 21; (with_reducible refine (frame_Sectors.calls (Go.bits .or .i64 (wrap64 ((wrap64 (bt a0 6)) * 256)) (wrap64 (bt a0 (7 : Int)))) t126 _ A10.out).mono ?_); rintro e w' ⟨rfl, ⟨nd, rfl⟩⟩; (try first | exact ⟨rfl, _, World.drewN_drewN _ _ _⟩ | exact ⟨rfl, _, Eq.trans (World.drewN_drewN _ _ _) (congrArg (World.drewN _) (Nat.add_assoc _ _ _))⟩)))
          repeat (go_quiet (first | (go_at_call 21; (with_reducible refine (frame_Sectors.calls (Go.bits .or .i64 (wrap64 ((wrap64 (bt a0 6)) * 256)) (wrap64 (bt a0 (7 : Int)))) t126 _ A10.out).mono ?_); rintro e w' ⟨rfl, ⟨nd, rfl⟩⟩; (try first | exact ⟨rfl, _, World.drewN_drewN _ _ _⟩ | exact ⟨rfl, _, Eq.trans (World.drewN_drewN _ _ _) (congrArg (World.drewN _) (Nat.add_assoc _ _ _))⟩))); go_upto_region 6 with (first | (go_at_call 21; (with_reducible refine (frame_Sectors.calls (Go.bits .or .i64 (wrap64 ((wrap64 (bt a0 6)) * 256)) (wrap64 (bt a0 (7 : Int)))) t126 _ A10.out).mono ?_); rintro e w' ⟨rfl, ⟨nd, rfl⟩⟩; (try first | exact ⟨rfl, _, World.drewN_drewN _ _ _⟩ | exact ⟨rfl, _, Eq.trans (World.drewN_drewN _ _ _) (congrArg (World.drewN _) (Nat.add_assoc _ _ _))⟩))))
          (try simp only [Act.put, List.setIfInBounds_toArray, List.set_cons_zero, List.set_cons_succ])
          go_cut [37] (fun v37 wc => ∃ (kq : Nat) (x37_10 : Bool), v37 = .bool x37_10 ∧ Aside0 (frame_Get.j0 kq a0 a1 (Go.bits .or .i64 (wrap64 ((wrap64 (bt a0 6)) * 256)) (wrap64 (bt a0 (7 : Int)))) (wrap64 (t126 * 64)) x37_10 = some (r1, r2, r3)) ∧ Aside0 (kq ≤ k) ∧ Aside0 (Below w.heap.size w wc))
          case first =>
            have H := HC11.out
            clear HC11
            by_cases c12 : (wrap64 (t126 * 64)) = 0
            · rw [if_pos c12] at H
              have c12b0 : ((wrap64 (t126 * 64)) == 0) = true := beq_iff_eq.mpr c12
              have c12b1 : ((wrap64 (t126 * 64)) != 0) = false := bne_eq_false_iff_eq.mpr c12
              clear c12
              (first | rw [c12b0] | (simp only [i64_w, i32_w]; rw [c12b0]) | skip)
              have H' := Aside0.mk H
              clear H
              go_wp2
              repeat (go_quiet (fail); try go_wp2)
              go_meet
              case rel => exact ⟨_, (true), (by first | rfl | (simp; done) | (simp [*]; done)), H', ⟨by first | omega | exact Nat.le_refl _⟩, ⟨by repeat (first | (with_reducible first | exact HB.out | apply below_alloc | apply pw_below_drewN | apply below_drew1) | exact HB.out)⟩⟩
            · rw [if_neg c12] at H
              have c12b0 : ((wrap64 (t126 * 64)) == 0) = false := beq_eq_false_iff_ne.mpr c12
              have c12b1 : ((wrap64 (t126 * 64)) != 0) = true := bne_iff_ne.mpr c12
              (first | rw [c12b0] | (simp only [i64_w, i32_w]; rw [c12b0]) | skip)
              have H' := Aside0.mk H
              clear H
              go_wp2
              repeat (go_quiet (fail); try go_wp2)
              go_meet
              case rel => exact ⟨_, (decide ((wrap64 (t126 * 64)) > (a0.size : Int))), (by first | rfl | (simp; done) | (simp [*]; done)), H', ⟨by first | omega | exact Nat.le_refl _⟩, ⟨by repeat (first | (with_reducible first | exact HB.out | apply below_alloc | apply pw_below_drewN | apply below_drew1) | exact HB.out)⟩⟩
          case rest =>
            clear HC11
            try clear c1
            try clear p2
            try clear c3
            try clear c3b0
            try clear c3b1
            try clear c4
            try clear c4b0
            try clear c4b1
            try clear p5
            try clear q5
            try clear hx5
            try clear qi5
            try clear p6
            try clear c7
            try clear c7b0
            try clear c8
            try clear c8b0
            try clear p9
            try clear q9
            try clear hx9
            try clear c12
            try clear c12b0
            try clear c12b1
            try clear p5
            try clear p9
            try clear q5
            try clear q9
            obtain ⟨kq, x37_10, rfl, HA, HJ10, HB⟩ := hcut
            cases kq with
            | zero => exact absurd HA.out (by simp [frame_Get.j0])
            | succ kj10 =>
              have H := HA.out
              clear HA
              simp only [frame_Get.j0] at H
              by_cases c13 : x37_10 = true
              · subst c13
                have H1 : (some ((⟨#[]⟩ : ByteArray), 0, false)) = some (r1, r2, r3) := by rw [if_pos rfl] at H; exact H
                clear H
                have H := H1
                clear H1
                simp only [Option.some.injEq, Prod.mk.injEq] at H
                obtain ⟨rfl, rfl, rfl⟩ := H
                go_wp2
                repeat (go_quiet (fail); try go_wp2)
                go_ret3
                exact ⟨by first | rfl | (simp [errW_none, errW_some] <;> rfl) | (simp only []; first | rfl | (simp [errW_none, errW_some] <;> rfl)) | (simp [*, errW_none, errW_some] <;> rfl), by repeat (first | (with_reducible first | exact HB.out | apply below_alloc | apply pw_below_drewN | apply below_drew1) | exact HB.out)⟩
              · replace c13 := Bool.eq_false_iff.mpr c13
                subst c13
                have H1 : (if 12 ≤ (wrap64 (12 + (Go.bits .or .i64 (wrap64 ((wrap64 (bt a0 6)) * 256)) (wrap64 (bt a0 (7 : Int)))))) then (if (wrap64 (12 + (Go.bits .or .i64 (wrap64 ((wrap64 (bt a0 6)) * 256)) (wrap64 (bt a0 (7 : Int)))))) ≤ (a0.size : Int) then ((frame_Put.f kj10 a1 (a0.extract 12 ((wrap64 (12 + (Go.bits .or .i64 (wrap64 ((wrap64 (bt a0 6)) * 256)) (wrap64 (bt a0 (7 : Int)))))) : Int).toNat)).bind fun bt127 => (if bt127.2 = 0 then (if 0 ≤ (wrap64 (t126 * 64)) then (if (wrap64 (t126 * 64)) ≤ (a0.size : Int) then (if bt127.1.toList = (a0.extract 0 ((wrap64 (t126 * 64)) : Int).toNat).toList then (some (a0.extract 12 ((wrap64 (12 + (Go.bits .or .i64 (wrap64 ((wrap64 (bt a0 6)) * 256)) (wrap64 (bt a0 (7 : Int)))))) : Int).toNat, (wrap64 (t126 * 64)), true)) else (some ((⟨#[]⟩ : ByteArray), 0, false))) else (none)) else (none)) else (some ((⟨#[]⟩ : ByteArray), 0, false)))) else (none)) else (none)) = some (r1, r2, r3) := by rw [if_neg (show ¬ (false = true) by decide)] at H; exact H
                clear H
                have H := H1
                clear H1
                by_cases c14 : 12 ≤ (wrap64 (12 + (Go.bits .or .i64 (wrap64 ((wrap64 (bt a0 6)) * 256)) (wrap64 (bt a0 (7 : Int))))))
                · rw [if_pos c14] at H
                  have c14b0 := eq_true c14
                  have c14b1 : decide (12 ≤ (wrap64 (12 + (Go.bits .or .i64 (wrap64 ((wrap64 (bt a0 6)) * 256)) (wrap64 (bt a0 (7 : Int))))))) = true := decide_eq_true c14
                  by_cases c15 : (wrap64 (12 + (Go.bits .or .i64 (wrap64 ((wrap64 (bt a0 6)) * 256)) (wrap64 (bt a0 (7 : Int)))))) ≤ (a0.size : Int)
                  · rw [if_pos c15] at H
                    have c15b0 := eq_true c15
                    have c15b1 : decide ((wrap64 (12 + (Go.bits .or .i64 (wrap64 ((wrap64 (bt a0 6)) * 256)) (wrap64 (bt a0 (7 : Int)))))) ≤ (a0.size : Int)) = true := decide_eq_true c15
                    replace H := Option.bind_eq_some_iff.mp H
                    obtain ⟨⟨t127, t128⟩, A160, H⟩ := H
                    replace H : (if t128 = 0 then (if 0 ≤ (wrap64 (t126 * 64)) then (if (wrap64 (t126 * 64)) ≤ (a0.size : Int) then (if t127.toList = (a0.extract 0 ((wrap64 (t126 * 64)) : Int).toNat).toList then (some (a0.extract 12 ((wrap64 (12 + (Go.bits .or .i64 (wrap64 ((wrap64 (bt a0 6)) * 256)) (wrap64 (bt a0 (7 : Int)))))) : Int).toNat, (wrap64 (t126 * 64)), true)) else (some ((⟨#[]⟩ : ByteArray), 0, false))) else (none)) else (none)) else (some ((⟨#[]⟩ : ByteArray), 0, false))) = some (r1, r2, r3) := H
                    have A16 := Aside0.mk A160
                    clear A160
                    by_cases c17 : t128 = 0
                    · rw [if_pos c17] at H
                      have c17b0 : (t128 == 0) = true := beq_iff_eq.mpr c17
                      have c17b1 : (t128 != 0) = false := bne_eq_false_iff_eq.mpr c17
                      clear c17
                      obtain ⟨ji18, hji18⟩ : ∃ j_ : Int, (wrap64 (t126 * 64)) = j_ := ⟨_, rfl⟩
                      replace H : (if 0 ≤ (ji18) then (if (ji18) ≤ (a0.size : Int) then (if t127.toList = (a0.extract 0 ((ji18) : Int).toNat).toList then (some (a0.extract 12 ((wrap64 (12 + (Go.bits .or .i64 (wrap64 ((wrap64 (bt a0 6)) * 256)) (wrap64 (bt a0 (7 : Int)))))) : Int).toNat, (ji18), true)) else (some ((⟨#[]⟩ : ByteArray), 0, false))) else (none)) else (none)) = some (r1, r2, r3) := by first | (rw [hji18] at H; exact H) | (simp only [hji18] at H ⊢; exact H)
                      (try rw [hji18] at A16)
                      have hji18w : (IntKind.i64.wrap (t126 * 64)) = ji18 := (i64_w _).trans hji18
                      by_cases c19 : 0 ≤ (ji18)
                      · rw [if_pos c19] at H
                        have c19b0 := eq_true c19
                        have c19b1 : decide (0 ≤ (ji18)) = true := decide_eq_true c19
                        clear c19
                        by_cases c20 : (ji18) ≤ (a0.size : Int)
                        · rw [if_pos c20] at H
                          have c20b0 := eq_true c20
                          have c20b1 : decide ((ji18) ≤ (a0.size : Int)) = true := decide_eq_true c20
                          clear c20
                          by_cases c21 : t127.toList = (a0.extract 0 ((ji18) : Int).toNat).toList
                          · rw [if_pos c21] at H
                            have c21b0 : (t127.toList == (a0.extract 0 ((ji18) : Int).toNat).toList) = true := beq_iff_eq.mpr c21
                            have c21b1 : (t127.toList != (a0.extract 0 ((ji18) : Int).toNat).toList) = false := bne_eq_false_iff_eq.mpr c21
                            clear c21
                            simp only [Option.some.injEq, Prod.mk.injEq] at H
                            obtain ⟨rfl, rfl, rfl⟩ := H
                            go_wp2_with (first | (go_at_call 17; (with_reducible refine (frame_Put.calls kj10 a1 (a0.extract 12 ((wrap64 (12 + (Go.bits .or .i64 (wrap64 ((wrap64 (bt a0 6)) * 256)) (wrap64 (bt a0 (7 : Int)))))) : Int).toNat) t127 t128 _ A16.out).mono ?_); rintro e w22 ⟨rfl, hb⟩; have n0_ := Aside0.mk (below_step (by repeat (first | (with_reducible first | exact HB.out | apply below_alloc | apply pw_below_drewN | apply below_drew1) | exact HB.out)) hb); clear HB; have HB := n0_; clear n0_; (try clear hb); (try clear hb2); (try clear hk); (try clear hi)))
                            repeat (go_quiet (first | (go_at_call 17; (with_reducible refine (frame_Put.calls kj10 a1 (a0.extract 12 ((wrap64 (12 + (Go.bits .or .i64 (wrap64 ((wrap64 (bt a0 6)) * 256)) (wrap64 (bt a0 (7 : Int)))))) : Int).toNat) t127 t128 _ A16.out).mono ?_); rintro e w22 ⟨rfl, hb⟩; have n0_ := Aside0.mk (below_step (by repeat (first | (with_reducible first | exact HB.out | apply below_alloc | apply pw_below_drewN | apply below_drew1) | exact HB.out)) hb); clear HB; have HB := n0_; clear n0_; (try clear hb); (try clear hb2); (try clear hk); (try clear hi))); try go_wp2_with (first | (go_at_call 17; (with_reducible refine (frame_Put.calls kj10 a1 (a0.extract 12 ((wrap64 (12 + (Go.bits .or .i64 (wrap64 ((wrap64 (bt a0 6)) * 256)) (wrap64 (bt a0 (7 : Int)))))) : Int).toNat) t127 t128 _ A16.out).mono ?_); rintro e w22 ⟨rfl, hb⟩; have n0_ := Aside0.mk (below_step (by repeat (first | (with_reducible first | exact HB.out | apply below_alloc | apply pw_below_drewN | apply below_drew1) | exact HB.out)) hb); clear HB; have HB := n0_; clear n0_; (try clear hb); (try clear hb2); (try clear hk); (try clear hi))))
                            go_ret3
                            exact ⟨by first | rfl | (simp [errW_none, errW_some] <;> rfl) | (simp only [← hji18]; first | rfl | (simp [errW_none, errW_some] <;> rfl)) | (simp [*, errW_none, errW_some] <;> rfl), by repeat (first | (with_reducible first | exact HB.out | apply below_alloc | apply pw_below_drewN | apply below_drew1) | exact HB.out)⟩
                          · rw [if_neg c21] at H
                            have c21b0 : (t127.toList == (a0.extract 0 ((ji18) : Int).toNat).toList) = false := beq_eq_false_iff_ne.mpr c21
                            have c21b1 : (t127.toList != (a0.extract 0 ((ji18) : Int).toNat).toList) = true := bne_iff_ne.mpr c21
                            simp only [Option.some.injEq, Prod.mk.injEq] at H
                            obtain ⟨rfl, rfl, rfl⟩ := H
                            go_wp2_with (first | (go_at_call 17; (with_reducible refine (frame_Put.calls kj10 a1 (a0.extract 12 ((wrap64 (12 + (Go.bits .or .i64 (wrap64 ((wrap64 (bt a0 6)) * 256)) (wrap64 (bt a0 (7 : Int)))))) : Int).toNat) t127 t128 _ A16.out).mono ?_); rintro e w23 ⟨rfl, hb⟩; have n0_ := Aside0.mk (below_step (by repeat (first | (with_reducible first | exact HB.out | apply below_alloc | apply pw_below_drewN | apply below_drew1) | exact HB.out)) hb); clear HB; have HB := n0_; clear n0_; (try clear hb); (try clear hb2); (try clear hk); (try clear hi)))
                            repeat (go_quiet (first | (go_at_call 17; (with_reducible refine (frame_Put.calls kj10 a1 (a0.extract 12 ((wrap64 (12 + (Go.bits .or .i64 (wrap64 ((wrap64 (bt a0 6)) * 256)) (wrap64 (bt a0 (7 : Int)))))) : Int).toNat) t127 t128 _ A16.out).mono ?_); rintro e w23 ⟨rfl, hb⟩; have n0_ := Aside0.mk (below_step (by repeat (first | (with_reducible first | exact HB.out | apply below_alloc | apply pw_below_drewN | apply below_drew1) | exact HB.out)) hb); clear HB; have HB := n0_; clear n0_; (try clear hb); (try clear hb2); (try clear hk); (try clear hi))); try go_wp2_with (first | (go_at_call 17; (with_reducible refine (frame_Put.calls kj10 a1 (a0.extract 12 ((wrap64 (12 + (Go.bits .or .i64 (wrap64 ((wrap64 (bt a0 6)) * 256)) (wrap64 (bt a0 (7 : Int)))))) : Int).toNat) t127 t128 _ A16.out).mono ?_); rintro e w23 ⟨rfl, hb⟩; have n0_ := Aside0.mk (below_step (by repeat (first | (with_reducible first | exact HB.out | apply below_alloc | apply pw_below_drewN | apply below_drew1) | exact HB.out)) hb); clear HB; have HB := n0_; clear n0_; (try clear hb); (try clear hb2); (try clear hk); (try clear hi))))
                            go_ret3
                            exact ⟨by first | rfl | (simp [errW_none, errW_some] <;> rfl) | (simp only [← hji18]; first | rfl | (simp [errW_none, errW_some] <;> rfl)) | (simp [*, errW_none, errW_some] <;> rfl), by repeat (first | (with_reducible first | exact HB.out | apply below_alloc | apply pw_below_drewN | apply below_drew1) | exact HB.out)⟩
                        · rw [if_neg c20] at H
                          exact absurd H (by simp)
                      · rw [if_neg c19] at H
                        exact absurd H (by simp)
                    · rw [if_neg c17] at H
                      have c17b0 : (t128 == 0) = false := beq_eq_false_iff_ne.mpr c17
                      have c17b1 : (t128 != 0) = true := bne_iff_ne.mpr c17
                      simp only [Option.some.injEq, Prod.mk.injEq] at H
                      obtain ⟨rfl, rfl, rfl⟩ := H
                      go_wp2_with (first | (go_at_call 17; (with_reducible refine (frame_Put.calls kj10 a1 (a0.extract 12 ((wrap64 (12 + (Go.bits .or .i64 (wrap64 ((wrap64 (bt a0 6)) * 256)) (wrap64 (bt a0 (7 : Int)))))) : Int).toNat) t127 t128 _ A16.out).mono ?_); rintro e w24 ⟨rfl, hb⟩; have n0_ := Aside0.mk (below_step (by repeat (first | (with_reducible first | exact HB.out | apply below_alloc | apply pw_below_drewN | apply below_drew1) | exact HB.out)) hb); clear HB; have HB := n0_; clear n0_; (try clear hb); (try clear hb2); (try clear hk); (try clear hi)))
                      repeat (go_quiet (first | (go_at_call 17; (with_reducible refine (frame_Put.calls kj10 a1 (a0.extract 12 ((wrap64 (12 + (Go.bits .or .i64 (wrap64 ((wrap64 (bt a0 6)) * 256)) (wrap64 (bt a0 (7 : Int)))))) : Int).toNat) t127 t128 _ A16.out).mono ?_); rintro e w24 ⟨rfl, hb⟩; have n0_ := Aside0.mk (below_step (by repeat (first | (with_reducible first | exact HB.out | apply below_alloc | apply pw_below_drewN | apply below_drew1) | exact HB.out)) hb); clear HB; have HB := n0_; clear n0_; (try clear hb); (try clear hb2); (try clear hk); (try clear hi))); try go_wp2_with (first | (go_at_call 17; (with_reducible refine (frame_Put.calls kj10 a1 (a0.extract 12 ((wrap64 (12 + (Go.bits .or .i64 (wrap64 ((wrap64 (bt a0 6)) * 256)) (wrap64 (bt a0 (7 : Int)))))) : Int).toNat) t127 t128 _ A16.out).mono ?_); rintro e w24 ⟨rfl, hb⟩; have n0_ := Aside0.mk (below_step (by repeat (first | (with_reducible first | exact HB.out | apply below_alloc | apply pw_below_drewN | apply below_drew1) | exact HB.out)) hb); clear HB; have HB := n0_; clear n0_; (try clear hb); (try clear hb2); (try clear hk); (try clear hi))))
                      go_ret3
                      exact ⟨by first | rfl | (simp [errW_none, errW_some] <;> rfl) | (simp only []; first | rfl | (simp [errW_none, errW_some] <;> rfl)) | (simp [*, errW_none, errW_some] <;> rfl), by repeat (first | (with_reducible first | exact HB.out | apply below_alloc | apply pw_below_drewN | apply below_drew1) | exact HB.out)⟩
                  · rw [if_neg c15] at H
                    exact absurd H (by simp)
                · rw [if_neg c14] at H
                  exact absurd H (by simp)
        · rw [if_neg c8] at H
          exact absurd H (by simp)
      · rw [if_neg c7] at H
        exact absurd H (by simp)
    · rw [if_neg c4] at H
      exact absurd H (by simp)

/-! ### furlongref8_Sectors: function 22 -/
def furlongref8_Sectors.f (a0 : Int) : Option (Int) := if a0 < 0 then (some 0) else (if a0 > 8192 then (some 0) else (some (wrap64 (Int.tdiv (wrap64 ((wrap64 ((wrap64 (12 + a0)) + 64)) - 1)) 64))))
set_option maxHeartbeats 8000000 in
set_option maxRecDepth 100000 in
theorem furlongref8_Sectors.calls (a0 : Int) (r : Int) (w : World) (h : furlongref8_Sectors.f a0 = some r) :
    Calls Try.prog 22 #[.int .i64 a0] w fun e w' => e = .returned (.int .i64 r) ∧ Drawn0 w w' := by
  have H : (if a0 < 0 then (some 0) else (if a0 > 8192 then (some 0) else (some (wrap64 (Int.tdiv (wrap64 ((wrap64 ((wrap64 (12 + a0)) + 64)) - 1)) 64))))) = some r := h
  clear h
  by_cases c2 : a0 < 0
  · rw [if_pos c2] at H
    have c2b0 : decide (a0 < 0) = true := decide_eq_true c2
    clear c2
    obtain rfl := Option.some.inj H
    go_enter Try.func22, Try.ntmps22
    go_wp2
    go_ret
    exact ⟨by first | rfl | (simp; done) | (simp [*]; done), by repeat (first | exact Drawn0.refl _ | apply Drawn0.step)⟩
  · rw [if_neg c2] at H
    have c2b0 : decide (a0 < 0) = false := decide_eq_false c2
    clear c2
    by_cases c3 : a0 > 8192
    · rw [if_pos c3] at H
      have c3b0 : decide (8192 < a0) = true := decide_eq_true c3
      clear c3
      obtain rfl := Option.some.inj H
      go_enter Try.func22, Try.ntmps22
      go_wp2
      go_ret
      exact ⟨by first | rfl | (simp; done) | (simp [*]; done), by repeat (first | exact Drawn0.refl _ | apply Drawn0.step)⟩
    · rw [if_neg c3] at H
      have c3b0 : decide (8192 < a0) = false := decide_eq_false c3
      clear c3
      obtain rfl := Option.some.inj H
      go_enter Try.func22, Try.ntmps22
      go_wp2
      go_ret
      exact ⟨by first | rfl | (simp; done) | (simp [*]; done), by repeat (first | exact Drawn0.refl _ | apply Drawn0.step)⟩

end Go.Proofs.Ytajgngijmmkemaa.PFrames
