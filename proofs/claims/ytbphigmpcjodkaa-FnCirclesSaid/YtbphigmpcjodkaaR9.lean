/-
  Walks: the law LogNumber. Conditions: none.
-/
import Derived.Test.YtbphigmpcjodkaaR8
set_option linter.unusedVariables false
set_option linter.unusedSimpArgs false
namespace Go.Proofs.Ytbphigmpcjodkaa
open Go Go.RowKit Flo Val Fb

attribute [local go_sem] run_store_float run_fadd run_fsub run_fmul run_fquo run_fconv World.drewN_zero run_f64from run_f64bits unary_negF

/-- A positive 32-bit number's wide word. -/
theorem wd_of {y m : Nat} {p : Int} (hy : Ieee.double.read y = .number false m p) (hlt : y < 18446744073709551616) (hm : 4503599627370496 ≤ m) (hp : -201 ≤ p) (hp2 : p ≤ 75) : Wd32 y := by
  have hsw : Ieee.double.signWeight = 9223372036854775808 := by decide +kernel
  obtain ⟨hL, hF, hB, hI, hS⟩ := dblc
  unfold Ieee.Format.read at hy
  dsimp only at hy
  rw [hS, hB, hI, hL] at hy
  split at hy
  · rename_i g1
    injection hy with h1 h2 h3
    omega
  · split at hy
    · rename_i g1 g2
      injection hy with h1 h2 h3
      have h0 : y / 9223372036854775808 % 2 = 0 := by
        have : ¬ y / 9223372036854775808 % 2 = 1 := by simpa using h1
        omega
      unfold Wd32
      omega
    · split at hy <;> cases hy

/-- What holds of a word that is no NaN. -/
structure NoN (x y : Nat) : Prop where
  cres : ∀ w, cres .f32 .f64 w x = y
  ccnt : ccnt .f32 .f64 x = 0
  xx : FloatKind.f32.format.order x x = some .eq
  yy : FloatKind.f64.format.order y y = some .eq
  y0 : FloatKind.f64.format.order y 0 = FloatKind.f32.format.order x 0

theorem non_of {x : Nat} (hn : isNaN .f32 x = false) : NoN x (fconv .f32 .f64 x) := by
  have hc : ∀ w, Flo.cres .f32 .f64 w x = fconv .f32 .f64 x := by
    intro w
    rcases like_cres (w := w) (conv_open x) with h | h
    · exact h
    · have := isNaN_conv x; rw [h.2, hn] at this; cases this
  have hcc : Flo.ccnt .f32 .f64 x = 0 := by
    have ho := conv_open x
    unfold tooGreat at ho
    unfold Flo.ccnt
    rw [if_neg (by decide)] at ho ⊢
    unfold isNaN at hn
    cases he : FloatKind.f32.decode x with
    | nan g t => rw [he] at hn; cases hn
    | infinity g => rfl
    | number g m p =>
      rw [he] at ho
      simp only at ho ⊢
      rw [ho]; exact if_neg (by decide)
  have e0 : fconv .f32 .f64 0 = 0 := by decide +kernel
  have h0 := cmp_conv x 0
  rw [e0] at h0
  refine ⟨hc, hcc, ?_, ?_, h0⟩
  · rw [order_self, hn]; rfl
  · rw [order_self, isNaN_conv, hn]; rfl

def infN : Nat := 18442240474082181120
theorem inf_any (w : World) : Calls Try.prog 48 #[.int .i64 (-1)] w fun e w' => e = .returned (.float .f64 infN) ∧ w = w' := by
  go_enter Try.func48, Try.ntmps48
  go_wp2
  go_ret
  exact ⟨rfl, rfl⟩
theorem infN_open : tooGreat .f64 .f32 infN = false := by decide +kernel

set_option maxHeartbeats 4000000 in
/-- The reference's and the program's logarithm have one value. -/
theorem log_both (x : Nat) (hx : x < 4294967296) : ∃ V, (∀ w, Calls Try.prog 56 #[.float .f32 x] w (F32 V w)) ∧ (∀ w, Calls Try.prog 28 #[.float .f32 x] w (F32 V w)) := by
  cases hn : isNaN .f32 x with
  | true =>
    refine ⟨fconv .f64 .f32 nanC, fun w => ?_, fun w => ?_⟩
    · have wide : ∀ y w, isNaN .f64 y = true → Calls Try.prog 75 #[.float .f64 y] w fun e w' => e = .returned (.float .f64 nanC) ∧ w = w' := by
        intro y w hy
        have h1 : (FloatKind.f64.format.order y y != some .eq) = true := by rw [order_nan_left hy]; rfl
        clear hy
        go_enter Try.func75, Try.ntmps75
        go_wp2_with (go_at_call 51; refine (nan_any _).mono ?_; rintro e w' ⟨rfl, rfl⟩)
        go_ret
        exact ⟨rfl, rfl⟩
      have hw2 : ∀ w, isNaN .f64 (cres .f32 .f64 w x) = true := fun w => by rw [nan_of_like (like_cres (conv_open x)), isNaN_conv]; exact hn
      have HW := Lib.hid hw2; have HWI := Lib.hid wide
      clear hw2 wide hn
      go_enter Try.func56, Try.ntmps56
      go_wp2_with (first
        | (go_at_call 75; refine (HWI.out _ _ (HW.out _)).mono ?_; rintro e w' ⟨rfl, rfl⟩)
        | (go_at_call 69; refine (l01Narrow_any _ _ _ (.refl _ _) nanC_open).mono ?_; rintro e w' ⟨z, rfl, hz, n2, rfl⟩))
      go_ret
      exact F32.mk hz (by first | exact ⟨_, rfl⟩ | exact ((Dr.one _ _).drewN _))
    · have h1 : FloatKind.f32.format.order x 0 = none := order_nan_left32 hn
      have h2 : FloatKind.f32.format.order x x = none := order_nan_left32 hn
      have b1 : (FloatKind.f32.format.order x 0 == some .eq) = false := by rw [h1]; rfl
      have b2 : (FloatKind.f32.format.order x 0 == some .lt) = false := by rw [h1]; rfl
      have b3 : (FloatKind.f32.format.order x x != some .eq) = true := by rw [h2]; rfl
      clear h1 h2 hn
      go_enter Try.func28, Try.ntmps28
      go_wp2_with (go_at_call 51; refine (nan_any _).mono ?_; rintro e w' ⟨rfl, rfl⟩)
      go_ret
      exact F32.mk (like_narrow (.refl _ _) nanC_open) (by first | exact ⟨_, rfl⟩ | exact ((Dr.one _ _).drewN _))
  | false =>
    have H := non_of hn
    have hc1 := H.cres
    have hc2 := H.ccnt
    have b3 : (FloatKind.f32.format.order x x != some .eq) = false := by rw [H.xx]; rfl
    have d3 : (FloatKind.f64.format.order (fconv .f32 .f64 x) (fconv .f32 .f64 x) != some .eq) = false := by rw [H.yy]; rfl
    have hy0 := H.y0
    have hzero : ∀ (h : FloatKind.f32.format.order x 0 = some .eq), ∃ V, (∀ w, Calls Try.prog 56 #[.float .f32 x] w (F32 V w)) ∧ (∀ w, Calls Try.prog 28 #[.float .f32 x] w (F32 V w)) := by
      intro h
      rw [h] at hy0
      have b1 : (FloatKind.f32.format.order x 0 == some .eq) = true := by rw [h]; rfl
      have d1 : (FloatKind.f64.format.order (fconv .f32 .f64 x) 0 == some .lt) = false := by rw [hy0]; rfl
      have d2 : (FloatKind.f64.format.order (fconv .f32 .f64 x) 0 == some .eq) = true := by rw [hy0]; rfl
      clear H hy0 h hn b3
      generalize fconv .f32 .f64 x = y at *
      refine ⟨fconv .f64 .f32 infN, fun w => ?_, fun w => ?_⟩
      · have wide : ∀ w, Calls Try.prog 75 #[.float .f64 y] w fun e w' => e = .returned (.float .f64 infN) ∧ w = w' := by
          intro w
          go_enter Try.func75, Try.ntmps75
          go_wp2_with (go_at_call 48; refine (inf_any _).mono ?_; rintro e w' ⟨rfl, rfl⟩)
          go_ret
          exact ⟨rfl, rfl⟩
        have HWI := Lib.hid wide
        clear wide d1 d2 d3
        go_enter Try.func56, Try.ntmps56
        go_wp2_with (first
          | (go_at_call 75; refine (HWI.out _).mono ?_; rintro e w' ⟨rfl, rfl⟩)
          | (go_at_call 69; refine (l01Narrow_any _ _ _ (.refl _ _) infN_open).mono ?_; rintro e w' ⟨z, rfl, hz, n2, rfl⟩))
        go_ret
        exact F32.mk hz ⟨_, rfl⟩
      · clear d1 d2 d3
        go_enter Try.func28, Try.ntmps28
        go_wp2_with (go_at_call 48; refine (inf_any _).mono ?_; rintro e w' ⟨rfl, rfl⟩)
        go_ret
        exact F32.mk (like_narrow (.refl _ _) infN_open) ⟨_, rfl⟩
    have hneg : ∀ (h : FloatKind.f32.format.order x 0 = some .lt), ∃ V, (∀ w, Calls Try.prog 56 #[.float .f32 x] w (F32 V w)) ∧ (∀ w, Calls Try.prog 28 #[.float .f32 x] w (F32 V w)) := by
      intro h
      rw [h] at hy0
      have b1 : (FloatKind.f32.format.order x 0 == some .eq) = false := by rw [h]; rfl
      have b2 : (FloatKind.f32.format.order x 0 == some .lt) = true := by rw [h]; rfl
      have d1 : (FloatKind.f64.format.order (fconv .f32 .f64 x) 0 == some .lt) = true := by rw [hy0]; rfl
      clear H hy0 h hn b3
      generalize fconv .f32 .f64 x = y at *
      refine ⟨fconv .f64 .f32 nanC, fun w => ?_, fun w => ?_⟩
      · have wide : ∀ w, Calls Try.prog 75 #[.float .f64 y] w fun e w' => e = .returned (.float .f64 nanC) ∧ w = w' := by
          intro w
          go_enter Try.func75, Try.ntmps75
          go_wp2_with (go_at_call 51; refine (nan_any _).mono ?_; rintro e w' ⟨rfl, rfl⟩)
          go_ret
          exact ⟨rfl, rfl⟩
        have HWI := Lib.hid wide
        clear wide d1 d3
        go_enter Try.func56, Try.ntmps56
        go_wp2_with (first
          | (go_at_call 75; refine (HWI.out _).mono ?_; rintro e w' ⟨rfl, rfl⟩)
          | (go_at_call 69; refine (l01Narrow_any _ _ _ (.refl _ _) nanC_open).mono ?_; rintro e w' ⟨z, rfl, hz, n2, rfl⟩))
        go_ret
        exact F32.mk hz ⟨_, rfl⟩
      · clear d1 d3
        go_enter Try.func28, Try.ntmps28
        go_wp2_with (go_at_call 51; refine (nan_any _).mono ?_; rintro e w' ⟨rfl, rfl⟩)
        go_ret
        exact F32.mk (like_narrow (.refl _ _) nanC_open) ⟨_, rfl⟩
    have h32 : ∀ a b, FloatKind.f32.format.order a b = (Ieee.single.read a).order (Ieee.single.read b) := fun _ _ => rfl
    have r0 : Ieee.single.read 0 = .number false 0 (-149) := by decide +kernel
    rcases read32 x with ⟨g, t, e⟩ | ⟨g, e⟩ | ⟨g, m, p, e, hm, hp, hp2⟩
    · exfalso
      unfold isNaN at hn
      have hd : FloatKind.f32.decode x = .nan g t := e
      rw [hd] at hn; cases hn
    · have ho : FloatKind.f32.format.order x 0 = some (if g then .lt else .gt) := by rw [h32, e, r0]; rfl
      cases g with
      | true => exact hneg ho
      | false =>
        -- +Inf: the same number comes back
        have hxv : x = 2139095040 := by
          have hsw : Ieee.single.signWeight = 2147483648 := by decide +kernel
          have hin : Ieee.single.infRung = 2139095040 := by decide +kernel
          unfold Ieee.Format.read at e
          dsimp only at e
          rw [hsw, hin] at e
          split at e
          · cases e
          · split at e
            · cases e
            · split at e
              · rename_i g3
                injection e with h1
                have h0 : x / 2147483648 % 2 = 0 := by
                  have : ¬ x / 2147483648 % 2 = 1 := by simpa using h1
                  omega
                omega
              · cases e
        subst hxv
        refine ⟨2139095040, fun w => ?_, fun w => ?_⟩
        · have wide : ∀ w, Calls Try.prog 75 #[.float .f64 9218868437227405312] w fun e w' => e = .returned (.float .f64 9218868437227405312) ∧ w = w' := by
            intro w
            have d1 : (FloatKind.f64.format.order 9218868437227405312 9218868437227405312 != some .eq) = false := by decide +kernel
            have d2 : (FloatKind.f64.format.order 9218868437227405312 0 == some .lt) = false := by decide +kernel
            have d4 : (FloatKind.f64.format.order 9218868437227405312 0 == some .eq) = false := by decide +kernel
            have d5 : (FloatKind.f64.format.order 9218868437227405312 9218868437227405311 == some .gt) = true := by decide +kernel
            go_enter Try.func75, Try.ntmps75
            go_wp2_with (go_at_call 81; go_in)
            go_ret
            exact ⟨rfl, rfl⟩
          have hcv : fconv .f32 .f64 2139095040 = 9218868437227405312 := by decide +kernel
          have hno : tooGreat .f64 .f32 9218868437227405312 = false := by decide +kernel
          have hback : fconv .f64 .f32 9218868437227405312 = 2139095040 := by decide +kernel
          rw [hcv] at hc1
          have HWI := Lib.hid wide
          clear wide H hy0 d3 b3 hzero hneg hcv h32 r0
          go_enter Try.func56, Try.ntmps56
          go_wp2_with (first
            | (go_at_call 75; refine (HWI.out _).mono ?_; rintro e w' ⟨rfl, rfl⟩)
            | (go_at_call 69; refine (l01Narrow_any _ _ _ (.refl _ _) hno).mono ?_; rintro e w' ⟨z, rfl, hz, n2, rfl⟩))
          go_ret
          exact F32.mk (by rw [hback] at hz; exact hz) ⟨_, rfl⟩
        · have b1 : (FloatKind.f32.format.order 2139095040 0 == some .eq) = false := by decide +kernel
          have b2 : (FloatKind.f32.format.order 2139095040 0 == some .lt) = false := by decide +kernel
          have hn2 : ∀ w, (FloatKind.f32.format.order (fres .sub .f32 w 2139095040 2139095040) 0 == some .eq) = false := by
            intro w
            rw [order_nan_left32 (fres_none (sub_nonum (k := .f32) (fun g m p h => by have h' : Ieee.single.read 2139095040 = .number g m p := h; rw [e] at h'; cases h')))]; rfl
          clear H hy0 d3 hzero hneg hc1 hc2 e ho h32 r0
          go_enter Try.func28, Try.ntmps28
          go_wp2_with (go_at_call 50; go_in)
          go_ret
          exact F32.mk (.refl _ _) ⟨_, rfl⟩
    · have ho : FloatKind.f32.format.order x 0 = some (compare (scal g m p) (scal false 0 (-149))) := by rw [h32, e, r0, order_number _ _ _ _ _ _ (by omega) (by decide)]
      rw [scal_zero] at ho
      have hX : m ≠ 0 → 0 < scal false m p := by
        intro h0
        unfold scal Ieee.signed
        rw [if_neg (by decide), Nat.shiftLeft_eq]
        have := Nat.mul_pos (show 0 < m by omega) (Nat.two_pow_pos (p + 3000).toNat)
        generalize m * 2 ^ (p + 3000).toNat = X at *
        omega
      by_cases hm0 : m = 0
      · subst hm0
        rw [scal_zero, Int.compare_eq_eq.2 rfl] at ho
        exact hzero ho
      · have hX := hX hm0
        cases g with
        | true =>
          rw [scal_neg, Int.compare_eq_lt.2 (by omega)] at ho
          exact hneg ho
        | false =>
          rw [Int.compare_eq_gt.2 hX] at ho
          obtain ⟨m', p', hw⟩ := wid_of e hm hp hp2
          obtain ⟨hrd, hM⟩ := conv_read false m p hm0 hm hp hp2
          have hf : fconv .f32 .f64 x = Ieee.double.nearest false m p := by
            have hd : FloatKind.f32.decode x = .number false m p := e
            unfold fconv
            rw [if_neg (by decide), hd]; rfl
          rw [← hf] at hrd
          have hlog : m.log2 < 24 := (Nat.log2_lt hm0).2 (by omega)
          have hge : 4503599627370496 ≤ m * 2 ^ (52 - m.log2) := by
            have h1 : 2 ^ m.log2 ≤ m := Nat.log2_self_le hm0
            have : 2 ^ m.log2 * 2 ^ (52 - m.log2) ≤ m * 2 ^ (52 - m.log2) := Nat.mul_le_mul_right _ h1
            rw [← Nat.pow_add, show m.log2 + (52 - m.log2) = 52 by omega] at this
            exact this
          have hwd := wd_of hrd hw.lt hge (by omega) (by
            have h4 : p + (m.log2 : Int) ≤ 127 := by omega
            omega)
          have hfin : ∀ w, fres .sub .f32 w x x = 0 := by
            intro w
            have hs0 : floatBits .sub .f32 x x = some 0 := by
              show Ieee.single.sub x x = some 0
              unfold Ieee.Format.sub
              rw [e]
              have hs : ∀ u, Ieee.signed false m u + Ieee.signed (!false) m u = 0 := by intro u; unfold Ieee.signed; simp; omega
              show Option.map Ieee.single.write (some (.number (if Ieee.signed false m (p - min p p).toNat + Ieee.signed (!false) m (p - min p p).toNat = 0 then false && !false else _) _ _)) = _
              rw [hs, if_pos rfl]
              show some (Ieee.single.nearest false 0 _) = _
              rw [nearest_zero]; rfl
            unfold fres; rw [hs0]; rfl
          have hf3 : (FloatKind.f32.format.order 0 0 == some .eq) = true := by decide +kernel
          have b1 : (FloatKind.f32.format.order x 0 == some .eq) = false := by rw [ho]; rfl
          have b2 : (FloatKind.f32.format.order x 0 == some .lt) = false := by rw [ho]; rfl
          have hopen : tooGreat .f64 .f32 (logF (fconv .f32 .f64 x)) = false := by
            obtain ⟨y2a, y2b⟩ := y2_bd hwd
            have hJ1 := j1_bd hwd
            have hJ2 := j2_bd hwd
            exact narrow_bd (logF_ok (e := Ex (fconv .f32 .f64 x)) y2a y2b (by unfold Ex; omega)).bd (by decide)
          clear hrd hM hf hlog hge hw hX ho hzero hneg H hy0 d3 e hn h32 r0
          generalize fconv .f32 .f64 x = y at *
          refine ⟨fconv .f64 .f32 (logF y), fun w => ?_, fun w => ?_⟩
          · go_enter Try.func56, Try.ntmps56
            go_wp2_with (first
              | (go_at_call 75; refine (l01LogWide_any y hwd _).mono ?_; rintro e w' ⟨rfl, rfl⟩)
              | (go_at_call 69; refine (l01Narrow_any _ _ _ (.refl _ _) hopen).mono ?_; rintro e w' ⟨z, rfl, hz, n2, rfl⟩))
            go_ret
            exact F32.mk hz ⟨_, rfl⟩
          · go_enter Try.func28, Try.ntmps28
            go_wp2_with (first
              | (go_at_call 50; go_in)
              | (go_at_call 57; refine (naturalLog_any y hwd _).mono ?_; rintro e w' ⟨rfl, rfl⟩))
            go_ret
            exact F32.mk (like_narrow (.refl _ _) hopen) (by first | exact ⟨_, rfl⟩ | exact ((Dr.one _ _).drewN _))

theorem logNumber_walk (x : Nat) (w : World) (hw : (Lit.float .f32 x).wf = true) : Calls Try.prog 8 #[.float .f32 x] w fun e w' => e = .returned (.bool true) ∧ Below w.heap.size w w' := by
  have hx : x < 4294967296 := by simpa [Lit.wf] using hw
  obtain ⟨V, hs, hi⟩ := log_both x hx
  clear hw
  have spec : ∀ w, Calls Try.prog 27 #[.float .f32 x] w (F32 V w) := by
    intro w
    go_enter Try.func27, Try.ntmps27
    go_wp2_with (go_at_call 56; refine (hs _).mono ?_; rintro e w' ⟨z, rfl, hz, hd⟩)
    go_ret
    exact F32.mk hz hd
  have HS := Lib.hid spec; have HI := Lib.hid hi
  clear hs hi spec
  go_enter Try.func8, Try.ntmps8
  go_wp2_with (first
    | (go_at_call 27; refine (HS.out _).mono ?_; rintro e w' ⟨z1, rfl, hz1, n1, rfl⟩; have H1 := Lib.hid hz1; clear hz1)
    | (go_at_call 28; refine (HI.out _).mono ?_; rintro e w' ⟨z2, rfl, hz2, n2, rfl⟩; have H2 := Lib.hid hz2; clear hz2)
    | (go_at_call 17; refine (sameFloat_like _ _ _ (like_conv2 (H2.out.trans H1.out.symm))).mono ?_; rintro e w' ⟨rfl, n3, rfl⟩))
  go_ret
  exact ⟨rfl, by first | exact below_drewN (Below.refl _ _) _ | exact below_drewN (below_drewN (Below.refl _ _) _) _⟩
end Go.Proofs.Ytbphigmpcjodkaa
