/-
  The square root's words; what is narrowed without being too great; the law RootNumber. Conditions: none.
-/
import Derived.Test.YtbphigmpcjodkaaR1
import Derived.Test.YtbphigmpcjodkaaFb
import Derived.Test.YtbphigmpcjodkaaSine
set_option linter.unusedVariables false
set_option linter.unusedSimpArgs false
namespace Go.Proofs.Ytbphigmpcjodkaa
open Go Go.RowKit Flo Val

attribute [local go_sem] run_store_float run_fadd run_fsub run_fmul run_fquo run_fconv

/-- What math.sqrt gives. -/
def sfix (x : Nat) : Nat := (Ieee.double.sqrt x).getD (nanW .f64)
def sres (w : World) (x : Nat) : Nat := (Ieee.double.sqrt x).getD ((Question.nanBits .f64 x x).cut (w.tape w.drawn (.nanBits .f64 x x)))
def scnt (x : Nat) : Nat := if (Ieee.double.sqrt x).isSome then 0 else 1

theorem run_sqrt (x : Nat) (w : World) : (callFunc 74 #[.float .f64 x]).run Try.prog w = .ok (.value (.float .f64 (sres w x))) (w.drewN (scnt x)) := by
  have h : (callFunc 74 #[.float .f64 x]).run Try.prog w = (((match FloatKind.f64.format.sqrt x with | some r => pure (Value.float .f64 r) | none => (do pure (Value.float .f64 (← choose (.nanBits .f64 x x))))) >>= fun v => pure (.value v)) : Sem Next).run Try.prog w := by kernel_rfl
  rw [h]
  have hf : FloatKind.f64.format = Ieee.double := rfl
  rw [hf]
  unfold sres scnt
  cases he : Ieee.double.sqrt x with
  | some r => simp [World.drewN_zero]
  | none => simp [choose, Sem.run, Question.forced, World.drewN]
attribute [local go_sem] run_sqrt

theorem like_sres (w : World) (x : Nat) : Like .f64 (sres w x) (sfix x) := by
  unfold sres sfix
  cases Ieee.double.sqrt x with
  | some r => exact .inl rfl
  | none => exact .inr ⟨nan_cut .f64 x x _, nan_nanW _⟩
theorem sfix_like {x y : Nat} (h : Like .f64 x y) : Like .f64 (sfix x) (sfix y) := by
  rcases h with rfl | ⟨h1, h2⟩
  · exact .refl _ _
  · have key : ∀ x, isNaN .f64 x = true → Ieee.double.sqrt x = none := by
      intro x h
      obtain ⟨s, t, e⟩ := decode_nan h
      have e' : Ieee.double.read x = .nan s t := e
      unfold Ieee.Format.sqrt
      rw [e']; rfl
    unfold sfix
    rw [key x h1, key y h2]; exact .refl _ _

/-- Nothing is too great that is at most 2 ^ 127. -/
theorem narrow_ok {y : Nat} (h : ∀ s m p, Ieee.double.read y = .number s m p → Fb.Le m p 127) : tooGreat .f64 .f32 y = false := by
  unfold tooGreat
  rw [if_neg (by decide)]
  have hd : FloatKind.f64.decode y = Ieee.double.read y := rfl
  rw [hd]
  cases he : Ieee.double.read y with
  | nan s t => rfl
  | infinity s => rfl
  | number s m p =>
    obtain ⟨s', m', p', h1, _⟩ := Fb.nearest_bd Fb.good_single (neg := s) (h s m p he) (Fb.in_single (by decide) (by decide)).1 (Fb.in_single (by decide) (by decide)).2
    show (Ieee.single.read (Ieee.single.nearest s m p)).isInfinity = false
    rw [h1]; rfl

theorem narrow_bd {y : Nat} {e : Int} (h : Fb.Bd Ieee.double e y) (he : e ≤ 127) : tooGreat .f64 .f32 y = false := by
  refine narrow_ok fun s m p hr => ?_
  obtain ⟨s', m', p', h1, h2⟩ := h
  rw [hr] at h1
  cases h1
  exact h2.mono he

/-- A 32-bit number, widened. -/
theorem widen (x : Nat) (h : ∀ g t, Ieee.single.read x ≠ .nan g t) (h2 : ∀ g, Ieee.single.read x ≠ .infinity g) : Fb.Bd Ieee.double 128 (fconv .f32 .f64 x) := by
  rcases read32 x with ⟨g, t, e⟩ | ⟨g, e⟩ | ⟨g, m, p, e, hm, hp, hp2⟩
  · exact absurd e (h g t)
  · exact absurd e (h2 g)
  · have hf : fconv .f32 .f64 x = Ieee.double.nearest g m p := by
      unfold fconv
      have hd : FloatKind.f32.decode x = Ieee.single.read x := rfl
      rw [if_neg (by decide), hd, e]; rfl
    rw [hf]
    refine Fb.nearest_bd Fb.good_double ?_ (Fb.in_double (by decide) (by decide)).1 (Fb.in_double (by decide) (by decide)).2
    unfold Fb.Le
    have h3 : m * 2 ^ (p - 128).toNat = m := by rw [show (p - 128).toNat = 0 by omega]; omega
    rw [h3]
    have : 2 ^ 24 ≤ 2 ^ (128 - p).toNat := Nat.pow_le_pow_right (by decide) (by omega)
    omega

theorem root_open (x : Nat) : tooGreat .f64 .f32 (sfix (fconv .f32 .f64 x)) = false := by
  by_cases h1 : ∃ g t, Ieee.single.read x = .nan g t
  · obtain ⟨g, t, e⟩ := h1
    have hf : fconv .f32 .f64 x = nanW .f64 := by
      unfold fconv
      have hd : FloatKind.f32.decode x = Ieee.single.read x := rfl
      rw [if_neg (by decide), hd, e]
    rw [hf]
    refine narrow_ok fun s m p hr => ?_
    have : Ieee.double.read (sfix (nanW .f64)) = .nan false 2251799813685248 := by decide +kernel
    rw [this] at hr; cases hr
  by_cases h2 : ∃ g, Ieee.single.read x = .infinity g
  · obtain ⟨g, e⟩ := h2
    have hf : fconv .f32 .f64 x = Ieee.double.write (.infinity g) := by
      unfold fconv
      have hd : FloatKind.f32.decode x = Ieee.single.read x := rfl
      rw [if_neg (by decide), hd, e]; rfl
    rw [hf]
    cases g <;> decide +kernel
  obtain ⟨s, m, p, hr, hle⟩ := widen x (fun g t e => h1 ⟨g, t, e⟩) (fun g e => h2 ⟨g, e⟩)
  by_cases hneg : s = true ∧ m ≠ 0
  · obtain ⟨rfl, hm⟩ := hneg
    have : sfix (fconv .f32 .f64 x) = nanW .f64 := by
      unfold sfix Ieee.Format.sqrt
      rw [hr]
      unfold Ieee.Datum.root
      simp [hm]
    rw [this]; decide +kernel
  · by_cases hs : s = false
    · subst hs
      obtain ⟨z, hz, hb, _⟩ := Fb.sqrt_bd Fb.good_double (x := fconv .f32 .f64 x) (a := 128) (e := 64) ⟨m, p, hr, hle⟩ (by decide) (Fb.in_double (by decide) (by decide))
      have : sfix (fconv .f32 .f64 x) = z := by unfold sfix; rw [hz]; rfl
      rw [this]; exact narrow_bd hb (by decide)
    · have hs' : s = true := by cases s <;> simp_all
      have hm : m = 0 := by
        by_cases h0 : m = 0
        · exact h0
        · exact absurd ⟨hs', h0⟩ hneg
      subst hs' hm
      have : sfix (fconv .f32 .f64 x) = Ieee.double.nearest true 0 p := by
        unfold sfix Ieee.Format.sqrt
        rw [hr]; rfl
      rw [this]
      refine narrow_ok fun s' m' p' hr' => ?_
      have h0 : Ieee.double.nearest true 0 p = Ieee.double.word true 0 := by unfold Ieee.Format.nearest; rw [if_pos rfl]
      rw [h0] at hr'
      have : Ieee.double.read (Ieee.double.word true 0) = .number true 0 (-1074) := by decide +kernel
      rw [this] at hr'
      cases hr'
      exact Fb.Le.zero _ _

theorem like_narrow {w : World} {x y : Nat} (h : Like .f64 x y) (ho : tooGreat .f64 .f32 y = false) : Like .f32 (cres .f64 .f32 w x) (fconv .f64 .f32 y) :=
  (like_cres (by rw [tooGreat_like h]; exact ho)).trans (fconv_like h)

/-- The plain root. -/
def rootV (x : Nat) : Nat := fconv .f64 .f32 (sfix (fconv .f32 .f64 x))

theorem sqrt_any (x : Nat) (w : World) : Calls Try.prog 55 #[.float .f64 x] w fun e w' => ∃ y, e = .returned (.float .f64 y) ∧ Like .f64 y (sfix x) ∧ Dr w w' := by
  go_enter Try.func55, Try.ntmps55
  go_wp2
  go_ret
  exact ⟨_, rfl, like_sres _ _, ⟨_, rfl⟩⟩

theorem l01Narrow_any (x y : Nat) (w : World) (h : Like .f64 x y) (ho : tooGreat .f64 .f32 y = false) : Calls Try.prog 69 #[.float .f64 x] w fun e w' => ∃ z, e = .returned (.float .f32 z) ∧ Like .f32 z (fconv .f64 .f32 y) ∧ Dr w w' := by
  go_enter Try.func69, Try.ntmps69
  go_wp2
  go_ret
  exact ⟨_, rfl, like_narrow h ho, ⟨_, rfl⟩⟩

theorem l01Sqrt_any (x : Nat) (w : World) : Calls Try.prog 54 #[.float .f32 x] w fun e w' => ∃ z, e = .returned (.float .f32 z) ∧ Like .f32 z (rootV x) ∧ Dr w w' := by
  go_enter Try.func54, Try.ntmps54
  go_wp2_with (first
    | (go_at_call 55; refine (sqrt_any _ _).mono ?_; rintro e w' ⟨y, rfl, hy, n1, rfl⟩; have HY := Lib.hid (hy.trans (sfix_like (like_conv (.refl _ x)))); clear hy)
    | (go_at_call 69; refine (l01Narrow_any _ _ _ HY.out (root_open x)).mono ?_; rintro e w' ⟨z, rfl, hz, n2, rfl⟩))
  go_ret
  exact ⟨_, rfl, hz, by first | exact ⟨_, rfl⟩ | exact (((Dr.one _ _).drewN _).drewN _)⟩

theorem specRoot (x : Nat) (w : World) : Calls Try.prog 25 #[.float .f32 x] w fun e w' => ∃ z, e = .returned (.float .f32 z) ∧ Like .f32 z (rootV x) ∧ Dr w w' := by
  go_enter Try.func25, Try.ntmps25
  go_wp2_with (go_at_call 54; refine (l01Sqrt_any x _).mono ?_; rintro e w' ⟨z, rfl, hz, hd⟩)
  go_ret
  exact ⟨_, rfl, hz, hd⟩

theorem implRoot (x : Nat) (w : World) : Calls Try.prog 26 #[.float .f32 x] w fun e w' => ∃ z, e = .returned (.float .f32 z) ∧ Like .f32 z (rootV x) ∧ Dr w w' := by
  go_enter Try.func26, Try.ntmps26
  go_wp2_with (go_at_call 55; refine (sqrt_any _ _).mono ?_; rintro e w' ⟨y, rfl, hy, n1, rfl⟩; have HY := Lib.hid (hy.trans (sfix_like (like_conv (.refl _ x)))); clear hy)
  go_ret
  exact ⟨_, rfl, like_narrow HY.out (root_open x), by first | exact ⟨_, rfl⟩ | exact (((Dr.one _ _).drewN _).drewN _)⟩

theorem rootNumber_walk (x : Nat) (w : World) (_ : (Lit.float .f32 x).wf = true) : Calls Try.prog 7 #[.float .f32 x] w fun e w' => e = .returned (.bool true) ∧ Below w.heap.size w w' := by
  go_enter Try.func7, Try.ntmps7
  go_wp2_with (first
    | (go_at_call 25; refine (specRoot x _).mono ?_; rintro e w' ⟨z1, rfl, hz1, n1, rfl⟩; have H1 := Lib.hid hz1; clear hz1)
    | (go_at_call 26; refine (implRoot x _).mono ?_; rintro e w' ⟨z2, rfl, hz2, n2, rfl⟩; have H2 := Lib.hid hz2; clear hz2)
    | (go_at_call 17; refine (sameFloat_like _ _ _ (like_conv2 (H2.out.trans H1.out.symm))).mono ?_; rintro e w' ⟨rfl, n3, rfl⟩))
  go_ret
  exact ⟨rfl, by first | exact below_drewN (Below.refl _ _) _ | exact below_drewN (below_drewN (Below.refl _ _) _) _⟩
end Go.Proofs.Ytbphigmpcjodkaa
