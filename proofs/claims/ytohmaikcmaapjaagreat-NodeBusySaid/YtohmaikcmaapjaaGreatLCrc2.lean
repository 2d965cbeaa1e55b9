/- A pure call's contract, out of a run over the values themselves; the checksum's. -/
import Derived.Test.YtohmaikcmaapjaaGreatLCrc
import Derived.Test.YtohmaikcmaapjaaGreatLSym2
namespace Go.Proofs.YtohmaikcmaapjaaGreat.LI
open Go.Proofs
variable {I S : Type}
section
variable {γ : I → Int} {σ : Sg I S} {φ : Phi} {h : H I S} {w w' : World}
theorem pure_call {P : Program} {I0 S0 : Type} {γ0 : I0 → Int} {σ0 : Sg I0 S0} {cf : CallF I0 S0} (hcf : CallOk P γ0 σ0 cf) {f : Nat} {args0 : List (LV I0 S0)} {v0 : LV I0 S0} {h0 : H I0 S0} (hc : cf (.fn f) args0 ⟨.leaf, 0⟩ = some (v0, h0))
    {args : List (LV I S)} {v : LV I S} (harg : ∀ (φ : Phi) (args' : Array Value), VRels γ σ φ h.ids args args'.toList → VRels γ0 σ0 φ (fun _ => False) args0 args'.toList)
    (hv : ∀ (φ : Phi) (K : Nat → Prop) (φ2 : Phi) (v' : Value), VRel γ0 σ0 φ K v0 v' → VRel γ σ φ2 h.ids v v') : CallDoes P γ σ f args h v h := by
  refine ⟨Nat.le_refl _, fun φ w args' hr hargs => ?_⟩
  have hr0 : Rel γ0 σ0 φ (⟨.leaf, 0⟩ : H I0 S0) w := ⟨fun b o hb => by simp [Tr.get_leaf] at hb, fun b o hb => by simp [Tr.get_leaf] at hb, fun b o b' o' hb => by simp [Tr.get_leaf] at hb⟩
  have ha := (harg φ args' hargs).mono (K' := (⟨.leaf, 0⟩ : H I0 S0).ids) (fun b hb => hb.elim) (φ' := φ) (fun _ _ => rfl)
  obtain ⟨nx, w1, hrun, hres⟩ := (hcf (.fn f) args0 _ v0 h0 hc).2 φ w args' hr0 ha
  have turn : ∀ v' w', Post γ0 σ0 φ (⟨.leaf, 0⟩ : H I0 S0) w v0 h0 v' w' → Post γ σ φ h w v h v' w' := by
    rintro v' w' ⟨φ', q1, q2, q3⟩
    obtain ⟨k1, k2⟩ := hr.keep (w' := w') q3.size (fun r hlt => q3.frame r hlt fun b o hb => by simp [Tr.get_leaf] at hb) q3.os q3.tape q3.output
    exact ⟨φ, hv _ _ _ _ q1, k1, k2⟩
  refine ⟨nx, w1, hrun, ?_⟩
  rcases hres with ⟨v', e, hp⟩ | ⟨g, xs, e, hp⟩
  · exact .inl ⟨v', e, turn _ _ hp⟩
  · exact .inr ⟨g, xs, e, Calls.mono hp fun e w'' ⟨v', he, hq⟩ => ⟨v', he, turn _ _ hq⟩⟩
end

/-! The checksum of known bytes. -/
def bitN (c : Nat) : Nat := Nat.xor (Nat.div c 2) (Nat.mul (Nat.mod c 2) 3988292384)
noncomputable def bitsN (n : Nat) : Nat → Nat := Nat.rec (motive := fun _ => Nat → Nat) (fun c => c) (fun _ ih c => ih (bitN c)) n
noncomputable def crcNat (l : List Nat) : Nat → Nat := List.rec (motive := fun _ => Nat → Nat) (fun c => c) (fun n _ ih c => ih (bitsN 8 (Nat.xor c (Nat.mod n 256)))) l
theorem bitN_ok (c : Nat) (h : c < 4294967296) : bitZ (c : Int) = (bitN c : Int) ∧ bitN c < 4294967296 := by
  have h1 : goBin .and .u32 (c : Int) 1 = some ((c % 2 : Nat) : Int) := by
    have h0 : natBin .u32 c 1 .and = some (((Nat.land c 1 : Nat)) : Int) := by
      have hb : Nat.blt c 4294967296 = true := by rw [Nat.blt_eq]; exact h
      simp only [natBin, lim, hb]; rfl
    have h1 := natBin_ok h0
    have h2 : Nat.land c 1 = c % 2 := Nat.and_one_is_mod c
    rw [h2] at h1; exact h1
  have h2 : goBin .shr .u32 (c : Int) 1 = some ((c / 2 : Nat) : Int) := by
    have : natBin .u32 c 1 .shr = some ((Nat.div c (Nat.pow 2 1) : Nat) : Int) := rfl
    exact natBin_ok this
  have hd : c / 2 < 4294967296 := by omega
  have h3 : goBin .xor .u32 ((c / 2 : Nat) : Int) 3988292384 = some ((Nat.xor (c / 2) 3988292384 : Nat) : Int) := by
    have : natBin .u32 (c / 2) 3988292384 .xor = some ((Nat.xor (c / 2) 3988292384 : Nat) : Int) := by
      have hb : Nat.blt (c / 2) 4294967296 = true := by rw [Nat.blt_eq]; exact hd
      simp only [natBin, lim, hb]; rfl
    exact natBin_ok this
  have hx : Nat.xor (c / 2) 3988292384 < 4294967296 := Nat.xor_lt_two_pow (n := 32) hd (by decide)
  unfold bitZ
  rw [h1, h2]
  simp only [Option.getD_some]
  rcases Nat.mod_two_eq_zero_or_one c with hm | hm
  · have e1 : bitN c = c / 2 := by unfold bitN; show Nat.xor (c / 2) ((c % 2) * 3988292384) = c / 2; rw [hm, Nat.zero_mul]; exact Nat.xor_zero _
    rw [hm, e1]
    exact ⟨rfl, hd⟩
  · have e1 : bitN c = Nat.xor (c / 2) 3988292384 := by unfold bitN; show Nat.xor (c / 2) ((c % 2) * 3988292384) = _; rw [hm, Nat.one_mul]
    rw [hm, e1, h3]
    exact ⟨rfl, hx⟩
theorem bitsN_ok : ∀ (n c : Nat), c < 4294967296 → bitsZ n (c : Int) = (bitsN n c : Int) ∧ bitsN n c < 4294967296
  | 0, c, h => ⟨rfl, h⟩
  | n + 1, c, h => by
    obtain ⟨h1, h2⟩ := bitN_ok c h
    obtain ⟨h3, h4⟩ := bitsN_ok n (bitN c) h2
    refine ⟨?_, h4⟩
    show bitsZ n (bitZ c) = _
    rw [h1, h3]; rfl
theorem crcNat_ok (s : ByteArray) : ∀ (l : List Nat) (i c : Nat), c < 4294967296 → i + l.length = s.size → (∀ (j n : Nat), l[j]? = some n → intDom.sAt s (i + j) = ((n % 256 : Nat) : Int)) → moreZ s l.length i (c : Int) = (crcNat l c : Int) ∧ crcNat l c < 4294967296
  | [], i, c, h, _, _ => ⟨rfl, h⟩
  | n :: l, i, c, h, hl, hat => by
    have h0 := hat 0 n rfl
    rw [Nat.add_zero] at h0
    have hm : n % 256 < 256 := Nat.mod_lt _ (by decide)
    have hx : Nat.xor c (n % 256) < 4294967296 := Nat.xor_lt_two_pow (n := 32) h (by omega)
    have hin : (goBin .xor .u32 (c : Int) (IntKind.u32.wrap (intDom.sAt s i))).getD 0 = ((Nat.xor c (n % 256) : Nat) : Int) := by
      rw [h0, wrap_nat .u32 (n % 256) (by simp only [lim]; omega)]
      have : natBin .u32 c (n % 256) .xor = some ((Nat.xor c (n % 256) : Nat) : Int) := by
        have hb : Nat.blt c 4294967296 = true := by rw [Nat.blt_eq]; exact h
        have hb2 : Nat.blt (n % 256) 4294967296 = true := by rw [Nat.blt_eq]; omega
        simp only [natBin, lim, hb, hb2]; rfl
      rw [natBin_ok this]; rfl
    obtain ⟨h1, h2⟩ := bitsN_ok 8 _ hx
    obtain ⟨h3, h4⟩ := crcNat_ok s l (i + 1) _ h2 (by simpa [Nat.add_assoc, Nat.add_comm 1] using hl) (fun j m hj => by
      have := hat (j + 1) m (by simpa using hj)
      rwa [show i + 1 + j = i + (j + 1) by omega])
    refine ⟨?_, h4⟩
    show moreZ s l.length (i + 1) (bitsZ 8 _) = _
    rw [hin, h1, h3]; rfl
/-- All known? -/
noncomputable def constsN : List N → Option (List Nat)
  | [] => some []
  | x :: r => match x with
    | .c (.ofNat n) => bK (constsN r) fun l => some (n :: l)
    | _ => none
def toNL : List N → NL
  | [] => .nil
  | x :: r => .cons x (toNL r)
noncomputable def crcOf (t : List N) : N := match constsN t with
  | some l => .c (.ofNat (Nat.xor 4294967295 (crcNat l 4294967295)))
  | none => .crc (toNL t)
def crcFn (l : List UInt8) : Int := crcZ ⟨l.toArray⟩
abbrev sg (ρ : Nat → List Int → Int) (tc : Nat → Code → LCode N (List N) → Prop) : Sg N (List N) := ⟨textOf ρ crcFn, tc⟩
theorem crcFn_range (l : List UInt8) : 0 ≤ crcFn l ∧ crcFn l ≤ 4294967295 := crcZ_range _
theorem toNL_bytes (ρ : Nat → List Int → Int) (crcF : List UInt8 → Int) : ∀ t : List N, NL.bytes ρ crcF (toNL t) = t.map fun i => UInt8.ofNat (i.val ρ crcF).toNat
  | [] => rfl
  | x :: t => by simp only [toNL, NL.bytes, List.map_cons, toNL_bytes ρ crcF t]
theorem constsN_get {ρ : Nat → List Int → Int} {crcF : List UInt8 → Int} : ∀ {t : List N} {l : List Nat}, constsN t = some l → t.map (fun i => i.val ρ crcF) = l.map fun (n : Nat) => (n : Int)
  | [], l, h => by cases h; rfl
  | x :: t, l, h => by
    simp only [constsN] at h
    split at h
    · rw [bK_eq, Option.bind_eq_some_iff] at h
      obtain ⟨l', h1, h2⟩ := h
      cases h2
      rw [List.map_cons, List.map_cons, constsN_get h1]; simp only [N.val]; rfl
    · cases h
theorem crcOf_val (ρ : Nat → List Int → Int) (t : List N) : (crcOf t).val ρ crcFn = crcZ (textOf ρ crcFn t) := by
  unfold crcOf
  split
  · rename_i l hl
    have hm := constsN_get (ρ := ρ) (crcF := crcFn) hl
    have hlen : t.length = l.length := by have := congrArg List.length hm; simpa using this
    have hsz : (textOf ρ crcFn t).size = l.length := by simp [textOf, ByteArray.size, hlen]
    obtain ⟨h1, h2⟩ := crcNat_ok (textOf ρ crcFn t) l 0 4294967295 (by decide) (by omega) (fun j n hj => by
      have hj' : j < l.length := (List.getElem?_eq_some_iff.1 hj).1
      have hv : (t.map (fun i => i.val ρ crcFn))[j]? = some (n : Int) := by rw [hm, List.getElem?_map, hj]; rfl
      rw [List.getElem?_map, Option.map_eq_some_iff] at hv
      obtain ⟨x, hx, hxv⟩ := hv
      have hd : (textOf ρ crcFn t).data[0 + j]? = some (UInt8.ofNat n) := by
        simp only [textOf, Nat.zero_add, List.getElem?_toArray, List.getElem?_map, hx, Option.map_some, hxv]; rfl
      simp only [intDom, hd]
      simp [UInt8.toNat_ofNat'])
    have hz : crcZ (textOf ρ crcFn t) = ((Nat.xor 4294967295 (crcNat l 4294967295) : Nat) : Int) := by
      unfold crcZ
      rw [hsz, show (4294967295 : Int) = ((4294967295 : Nat) : Int) from rfl, h1]
      have : natBin .u32 4294967295 (crcNat l 4294967295) .xor = some ((Nat.xor 4294967295 (crcNat l 4294967295) : Nat) : Int) := by
        have hb : Nat.blt (crcNat l 4294967295) 4294967296 = true := by rw [Nat.blt_eq]; exact h2
        simp only [natBin, lim, hb]; rfl
      rw [natBin_ok this]; rfl
    rw [hz]; rfl
  · simp only [N.val, toNL_bytes]; rfl
noncomputable def o190 : OvF N (List N) := fun args h => match args with
  | [.str t] => cond (Nat.ble (lenN t) big) (some (.int .i64 (crcOf t), h)) none
  | _ => none
theorem mixedTryz : Tryz.prog.follows .mixedOrders = true := by kernel_rfl
noncomputable def crcTab (k : Nat) : Option (LFunc Int ByteArray) := if k = 236 then some (lf236 intDom) else if k = 190 then some (lf190 intDom) else none
theorem crcTab_ok : FnOk Tryz.prog intDom (tyFn intDom) crcTab := by
  intro k lf hk
  unfold crcTab at hk
  split at hk
  · rename_i h; subst h; cases hk; exact ⟨_, Tryz.func236, Tryz.call236, lf236_eq intDom⟩
  · split at hk
    · rename_i h; subst h; cases hk; exact ⟨_, Tryz.func190, Tryz.call190, lf190_eq intDom⟩
    · cases hk
theorem o190_ok {tc : Nat → Code → LCode N (List N) → Prop} {ρ : Nat → List Int → Int} : OvFOk Tryz.prog (N.val ρ crcFn) (sg ρ tc) 190 o190 := by
  intro args h v h' ho
  unfold o190 at ho
  split at ho
  · rename_i t
    obtain ⟨hb, ho⟩ := cond_some ho
    cases ho
    have hlen : (textOf ρ crcFn t).size ≤ big := by
      have := Nat.le_of_ble_eq_true hb
      rw [lenN_eq] at this
      simpa [textOf, ByteArray.size] using this
    have hcf := callN_ok (fn := crcTab) (ov := fun _ _ _ => none) mixedTryz intDom_ok (tyFn_ok intDom_ok) tcOf_ok crcTab_ok (fun f args h v h' h0 => by cases h0) ((textOf ρ crcFn t).size + 9) 2
    refine pure_call hcf (sum_run (textOf ρ crcFn t) hlen (by omega) (by omega) rfl rfl (fun _ _ _ => rfl) 0) (fun φ args' ha => ?_) (fun φ K φ2 v' hv => ?_)
    · generalize args'.toList = l at ha
      cases ha with
      | cons _ a _ l' h1 h2 =>
      cases h2
      cases h1
      exact .cons _ _ _ _ (.str _) .nil
    · cases hv
      have := VRel.int (γ := N.val ρ crcFn) (σ := sg ρ tc) (φ := φ2) (K := h.ids) .i64 (crcOf t)
      rw [crcOf_val] at this
      exact this
  · cases ho
end Go.Proofs.YtohmaikcmaapjaaGreat.LI
