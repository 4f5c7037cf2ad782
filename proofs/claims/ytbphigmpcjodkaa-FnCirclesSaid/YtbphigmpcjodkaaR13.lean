/-
  Walks: the law AngleTurns, its two functions put together. Conditions: none.
-/
import Derived.Test.YtbphigmpcjodkaaR12
set_option linter.unusedVariables false
set_option linter.unusedSimpArgs false
namespace Go.Proofs.Ytbphigmpcjodkaa
open Go Go.RowKit Flo Val Fb

attribute [local go_sem] run_store_float run_fadd run_fsub run_fmul run_fquo run_fconv World.drewN_zero run_f64from run_f64bits unary_negF run_sqrt

theorem ord0 {x m : Nat} {g : Bool} {p : Int} (h : Ieee.single.read x = .number g m p) (hp : -3000 ≤ p) : (FloatKind.f32.format.order x 0 == some .eq) = decide (m = 0) := by
  have r0 : Ieee.single.read 0 = .number false 0 (-149) := by decide +kernel
  have ho : FloatKind.f32.format.order x 0 = some (compare (scal g m p) 0) := by
    show (Ieee.single.read x).order (Ieee.single.read 0) = _
    rw [h, r0, order_number _ _ _ _ _ _ hp (by decide), scal_zero]
  rw [ho]
  by_cases hm : m = 0
  · subst hm
    rw [scal_zero, Int.compare_eq_eq.2 rfl, decide_eq_true rfl]; rfl
  · have hX : 0 < scal false m p := by
      unfold scal Ieee.signed
      rw [if_neg (by decide), Nat.shiftLeft_eq]
      have := Nat.mul_pos (show 0 < m by omega) (Nat.two_pow_pos (p + 3000).toNat)
      generalize m * 2 ^ (p + 3000).toNat = Z at *
      omega
    rw [decide_eq_false hm]
    cases g with
    | true => rw [scal_neg, Int.compare_eq_lt.2 (by omega)]; rfl
    | false => rw [Int.compare_eq_gt.2 hX]; rfl

theorem conv0 (x : Nat) : FloatKind.f64.format.order (fconv .f32 .f64 x) 0 = FloatKind.f32.format.order x 0 := by
  have e0 : fconv .f32 .f64 0 = 0 := by decide +kernel
  have h := cmp_conv x 0
  rw [e0] at h; exact h

/-- A finite 32-bit number, for the walks. -/
structure Fin (x : Nat) (g : Bool) (m : Nat) (p : Int) : Prop where
  rd : Ieee.single.read x = .number g m p
  p0 : -149 ≤ p
  cres : ∀ w, cres .f32 .f64 w x = fconv .f32 .f64 x
  ccnt : ccnt .f32 .f64 x = 0
  lt : fconv .f32 .f64 x < 18446744073709551616
  fs : ∀ w, fres .sub .f32 w x x = 0
  ff : fcnt .sub .f32 x x = 0
  yy : floatBits .sub .f64 (fconv .f32 .f64 x) (fconv .f32 .f64 x) = some 0
  wide : ∃ g' m' p', Ieee.double.read (fconv .f32 .f64 x) = .number g' m' p' ∧ -1074 ≤ p' ∧ (m' = 0 → m = 0)

theorem fin_of {x m : Nat} {g : Bool} {p : Int} (hr : Ieee.single.read x = .number g m p) (h1 : m < 16777216) (h2 : -149 ≤ p) (h3 : p ≤ 104) : Fin x g m p := by
  obtain ⟨m', p', hw⟩ := wid_of hr h1 h2 h3
  have hs := sub_self32 hr
  refine ⟨hr, h2, hw.cres, hw.ccnt, hw.lt, fun w => by unfold fres; rw [hs]; rfl, by unfold fcnt; rw [hs]; rfl, sub_self hw.rd, g, m', p', hw.rd, hw.p0, fun h0 => ?_⟩
  by_cases hm : m = 0
  · exact hm
  · exfalso
    obtain ⟨hrd, hM⟩ := conv_read g m p hm h1 h2 h3
    have hf : fconv .f32 .f64 x = Ieee.double.nearest g m p := by
      have hd : FloatKind.f32.decode x = .number g m p := hr
      unfold fconv
      rw [if_neg (by decide), hd]; rfl
    rw [← hf, hw.rd] at hrd
    injection hrd with _ e _
    omega

theorem num_or (x : Nat) : (∃ g m p, Fin x g m p) ∨ ∀ g m p, Ieee.single.read x ≠ .number g m p := by
  rcases read32 x with ⟨g', t, e'⟩ | ⟨g', e'⟩ | ⟨g', m', p', e', h1, h2, h3⟩
  · right; intro g m p e; rw [e] at e'; cases e'
  · right; intro g m p e; rw [e] at e'; cases e'
  · exact .inl ⟨g', m', p', fin_of e' h1 h2 h3⟩

set_option maxHeartbeats 4000000 in
theorem angle_both (y x : Nat) : ∃ V, (∀ w, Calls Try.prog 61 #[.float .f32 y, .float .f32 x] w (F32 V w)) ∧ (∀ w, Calls Try.prog 32 #[.float .f32 y, .float .f32 x] w (F32 V w)) := by
  rcases num_or y with ⟨g, m, p, hy⟩ | hy
  · rcases num_or x with ⟨h, n, q, hx⟩ | hx
    · have zy := ord0 hy.rd (by have := hy.p0; omega)
      have zx := ord0 hx.rd (by have := hx.p0; omega)
      have cy := conv0 y
      have cx := conv0 x
      have yc := hy.cres; have yn := hy.ccnt; have xc := hx.cres; have xn := hx.ccnt
      by_cases hz : m = 0 ∧ n = 0
      · obtain ⟨hm0, hn0⟩ := hz
        rw [decide_eq_true hm0] at zy
        rw [decide_eq_true hn0] at zx
        refine ⟨0, fun w => ?_, fun w => ?_⟩
        · have hwide : ∀ w, Calls Try.prog 78 #[.float .f64 (fconv .f32 .f64 y), .float .f64 (fconv .f32 .f64 x)] w fun e w' => e = .returned (.float .f64 0) ∧ w = w' := by
            intro w
            obtain ⟨y1, y2⟩ := opf hy.yy
            obtain ⟨x1, x2⟩ := opf hx.yy
            have o00 : (FloatKind.f64.format.order 0 0 != some .eq) = false := by decide +kernel
            rw [← cy] at zy; rw [← cx] at zx
            clear hy hx cy cx yc yn xc xn
            generalize fconv .f32 .f64 y = Y at *
            generalize fconv .f32 .f64 x = X at *
            go_enter Try.func78, Try.ntmps78
            go_wp2
            go_ret
            exact ⟨rfl, rfl⟩
          have HW := Lib.hid hwide
          clear hwide hy hx zy zx cy cx
          go_enter Try.func61, Try.ntmps61
          go_wp2_with (first
            | (go_at_call 78; refine (HW.out _).mono ?_; rintro e w' ⟨rfl, rfl⟩)
            | (go_at_call 69; refine (l01Narrow_any 0 0 _ (.refl _ _) zero_open).mono ?_; rintro e w' ⟨z, rfl, hz, hd⟩))
          go_ret
          exact F32.mk (by rw [zero_conv] at hz; exact hz) hd
        · have ys := hy.fs; have yf := hy.ff; have xs := hx.fs; have xf := hx.ff
          have f00 : (FloatKind.f32.format.order 0 0 == some .eq) = true := by decide +kernel
          clear hy hx cy cx yc yn xc xn
          go_enter Try.func32, Try.ntmps32
          go_wp2_with (go_at_call 50; go_in)
          go_ret
          exact F32.mk (.refl _ _) (.refl _)
      · obtain ⟨g', m', p', ry, py, my⟩ := hy.wide
        obtain ⟨h', n', q', rx, px, mx⟩ := hx.wide
        obtain ⟨t, b1, hpt⟩ := pt_of ry rx py px (by
          by_cases h0 : m' = 0
          · right
            intro h1
            exact hz ⟨my h0, mx h1⟩
          · exact .inl h0)
        have hz32 : (FloatKind.f32.format.order x 0 == some .eq) = false ∨ (FloatKind.f32.format.order y 0 == some .eq) = false := by
          rw [zx, zy]
          by_cases hn0 : n = 0
          · right; exact decide_eq_false (fun hm0 => hz ⟨hm0, hn0⟩)
          · left; exact decide_eq_false hn0
        obtain ⟨b2, hb2⟩ : ∃ b, (FloatKind.f32.format.order x 0 == some .lt) = b := ⟨_, rfl⟩
        obtain ⟨b3, hb3⟩ : ∃ b, (FloatKind.f32.format.order y 0 == some .lt) = b := ⟨_, rfl⟩
        have hopen : tooGreat .f64 .f32 (angF (hfK t 3) b1 b2 b3) = false := narrow_bd (angF_bd (hfK_bd hpt.bd 3) b1 b2 b3) (by decide)
        have hw := fun w => wide_all (fconv .f32 .f64 y) (fconv .f32 .f64 x) t b1 b2 b3 hpt hy.lt hx.lt w hy.yy hx.yy (by rw [cx, cy]; exact hz32) (by rw [cx]; exact hb2) (by rw [cy]; exact hb3)
        have ha := fun w => angle_all y x (fconv .f32 .f64 y) (fconv .f32 .f64 x) t b1 b2 b3 hpt hy.lt hx.lt w yc yn xc xn hy.fs hy.ff hx.fs hx.ff hz32 hb2 hb3 hopen
        refine ⟨_, fun w => ?_, ha⟩
        have HW := Lib.hid hw
        clear hw ha hpt hy hx zy zx cy cx hz32 hb2 hb3 ry rx py px my mx
        go_enter Try.func61, Try.ntmps61
        go_wp2_with (first
          | (go_at_call 78; refine (HW.out _).mono ?_; rintro e w' ⟨rfl, rfl⟩)
          | (go_at_call 69; refine (l01Narrow_any _ _ _ (.refl _ _) hopen).mono ?_; rintro e w' ⟨z, rfl, hz, hd⟩))
        go_ret
        exact F32.mk hz hd
    · -- x is no number
      refine ⟨fconv .f64 .f32 nanC, fun w => ?_, fun w => ?_⟩
      · have wide : ∀ X w, (∀ g m p, Ieee.double.read X ≠ .number g m p) → Calls Try.prog 78 #[.float .f64 (fconv .f32 .f64 y), .float .f64 X] w fun e w' => e = .returned (.float .f64 nanC) ∧ Dr w w' := by
          intro X w hX
          have hn : ∀ w, (FloatKind.f64.format.order (fres .sub .f64 w X X) 0 != some .eq) = true := by
            intro w
            rw [order_nan_left (fres_none (sub_nonum (k := .f64) hX))]; rfl
          obtain ⟨y1, y2⟩ := opf hy.yy
          have o00 : (FloatKind.f64.format.order 0 0 != some .eq) = false := by decide +kernel
          clear hX hy hx
          generalize fconv .f32 .f64 y = Y at *
          go_enter Try.func78, Try.ntmps78
          go_wp2_with (go_at_call 51; refine (nan_any _).mono ?_; rintro e w' ⟨rfl, rfl⟩)
          go_ret
          exact ⟨rfl, _, rfl⟩
        have yc := hy.cres; have yn := hy.ccnt
        have HW := Lib.hid (fun w => wide_nonum (w := w) hx); have HWI := Lib.hid wide
        clear wide hy hx
        go_enter Try.func61, Try.ntmps61
        go_wp2_with (first
          | (go_at_call 78; refine (HWI.out _ _ (HW.out _)).mono ?_; rintro e w' ⟨rfl, n1, rfl⟩)
          | (go_at_call 69; refine (l01Narrow_any _ _ _ (.refl _ _) nanC_open).mono ?_; rintro e w' ⟨z, rfl, hz, n2, rfl⟩))
        go_ret
        exact F32.mk hz (by first | exact ⟨_, rfl⟩ | exact (((Dr.one _ _).drewN _).drewN _))
      · have hn : ∀ w, (FloatKind.f32.format.order (fres .sub .f32 w x x) 0 == some .eq) = false := by
          intro w
          rw [order_nan_left32 (fres_none (sub_nonum (k := .f32) hx))]; rfl
        clear hx hy
        go_enter Try.func32, Try.ntmps32
        go_wp2_with (first
          | (go_at_call 50; go_in)
          | (go_at_call 51; refine (nan_any _).mono ?_; rintro e w' ⟨rfl, rfl⟩))
        go_ret
        exact F32.mk (like_narrow (.refl _ _) nanC_open) (by first | exact ⟨_, rfl⟩ | exact (((Dr.one _ _).drewN _).drewN _))
  · -- y is no number
    refine ⟨fconv .f64 .f32 nanC, fun w => ?_, fun w => ?_⟩
    · have wide : ∀ Y X w, (∀ g m p, Ieee.double.read Y ≠ .number g m p) → Calls Try.prog 78 #[.float .f64 Y, .float .f64 X] w fun e w' => e = .returned (.float .f64 nanC) ∧ Dr w w' := by
        intro Y X w hY
        have hn : ∀ w, (FloatKind.f64.format.order (fres .sub .f64 w Y Y) 0 != some .eq) = true := by
          intro w
          rw [order_nan_left (fres_none (sub_nonum (k := .f64) hY))]; rfl
        clear hY
        go_enter Try.func78, Try.ntmps78
        go_wp2_with (go_at_call 51; refine (nan_any _).mono ?_; rintro e w' ⟨rfl, rfl⟩)
        go_ret
        exact ⟨rfl, _, rfl⟩
      have HW := Lib.hid (fun w => wide_nonum (w := w) hy); have HWI := Lib.hid wide
      clear wide hy
      go_enter Try.func61, Try.ntmps61
      go_wp2_with (first
        | (go_at_call 78; refine (HWI.out _ _ _ (HW.out _)).mono ?_; rintro e w' ⟨rfl, n1, rfl⟩)
        | (go_at_call 69; refine (l01Narrow_any _ _ _ (.refl _ _) nanC_open).mono ?_; rintro e w' ⟨z, rfl, hz, n2, rfl⟩))
      go_ret
      exact F32.mk hz (by first | exact ⟨_, rfl⟩ | exact (((Dr.one _ _).drewN _).drewN _))
    · have hn : ∀ w, (FloatKind.f32.format.order (fres .sub .f32 w y y) 0 == some .eq) = false := by
        intro w
        rw [order_nan_left32 (fres_none (sub_nonum (k := .f32) hy))]; rfl
      rcases num_or x with ⟨h, n, q, hx⟩ | hx
      · have xs := hx.fs; have xf := hx.ff
        have f00 : (FloatKind.f32.format.order 0 0 == some .eq) = true := by decide +kernel
        clear hx hy
        go_enter Try.func32, Try.ntmps32
        go_wp2_with (first
          | (go_at_call 50; go_in)
          | (go_at_call 51; refine (nan_any _).mono ?_; rintro e w' ⟨rfl, rfl⟩))
        go_ret
        exact F32.mk (like_narrow (.refl _ _) nanC_open) (by first | exact ⟨_, rfl⟩ | exact (((Dr.one _ _).drewN _).drewN _))
      · have hnx : ∀ w, (FloatKind.f32.format.order (fres .sub .f32 w x x) 0 == some .eq) = false := by
          intro w
          rw [order_nan_left32 (fres_none (sub_nonum (k := .f32) hx))]; rfl
        clear hx hy hn
        go_enter Try.func32, Try.ntmps32
        go_wp2_with (first
          | (go_at_call 50; go_in)
          | (go_at_call 51; refine (nan_any _).mono ?_; rintro e w' ⟨rfl, rfl⟩))
        go_ret
        exact F32.mk (like_narrow (.refl _ _) nanC_open) (by first | exact ⟨_, rfl⟩ | exact (((Dr.one _ _).drewN _).drewN _))

theorem angleTurns_walk (y x : Nat) (w : World) (_ : (Lit.float .f32 y).wf = true) (_ : (Lit.float .f32 x).wf = true) : Calls Try.prog 10 #[.float .f32 y, .float .f32 x] w fun e w' => e = .returned (.bool true) ∧ Below w.heap.size w w' := by
  obtain ⟨V, hs, hi⟩ := angle_both y x
  have spec : ∀ w, Calls Try.prog 31 #[.float .f32 y, .float .f32 x] w (F32 V w) := by
    intro w
    go_enter Try.func31, Try.ntmps31
    go_wp2_with (go_at_call 61; refine (hs _).mono ?_; rintro e w' ⟨z, rfl, hz, hd⟩)
    go_ret
    exact F32.mk hz hd
  have HS := Lib.hid spec; have HI := Lib.hid hi
  clear hs hi spec
  go_enter Try.func10, Try.ntmps10
  go_wp2_with (first
    | (go_at_call 31; refine (HS.out _).mono ?_; rintro e w' ⟨z1, rfl, hz1, n1, rfl⟩; have H1 := Lib.hid hz1; clear hz1)
    | (go_at_call 32; refine (HI.out _).mono ?_; rintro e w' ⟨z2, rfl, hz2, n2, rfl⟩; have H2 := Lib.hid hz2; clear hz2)
    | (go_at_call 17; refine (sameFloat_like _ _ _ (like_conv2 (H2.out.trans H1.out.symm))).mono ?_; rintro e w' ⟨rfl, n3, rfl⟩))
  go_ret
  exact ⟨rfl, by first | exact below_drewN (Below.refl _ _) _ | exact below_drewN (below_drewN (Below.refl _ _) _) _⟩
end Go.Proofs.Ytbphigmpcjodkaa
