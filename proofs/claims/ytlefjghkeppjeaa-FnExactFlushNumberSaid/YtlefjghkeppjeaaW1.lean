/-
  Walks of the small float laws. Conditions: none.
-/
import Derived.Test.YtlefjghkeppjeaaRows
import Derived.Test.YtlefjghkeppjeaaFlo
import Derived.Lib.Hide
import Derived.Outline
namespace Go.Proofs.Ytlefjghkeppjeaa
open Go Go.RowKit Flo

attribute [local go_sem] run_fadd run_fsub run_fmul run_fquo run_fconv

theorem constants_walk (w : World) : Calls Try.prog 3 #[] w fun e w' => e = .returned (.bool true) ∧ Below w.heap.size w w' := by
  go_enter Try.func3, Try.ntmps3
  go_wp2
  go_ret
  exact ⟨rfl, Below.refl _ _⟩

theorem ret_bool {a b : Bool} (h : a = b) : Ending.returned (.bool a) = .returned (.bool b) := by rw [h]
theorem ret_int {k : IntKind} {a b : Int} (h : a = b) : Ending.returned (.int k a) = .returned (.int k b) := by rw [h]

theorem below_draws (w : World) (n : Nat) : Below w.heap.size w (w.drewN n) := below_drewN (Below.refl _ _) n

/-- x - x == 0 -/
def fin32 (x : Nat) : Bool := FloatKind.f32.format.order (fop .sub .f32 x x) 0 == some .eq

theorem l01Finite_any (x : Nat) (w : World) : Calls Try.prog 26 #[.float .f32 x] w fun e w' => e = .returned (.bool (fin32 x)) ∧ ∃ n, w' = w.drewN n := by
  have hl := order_like (like_fres .sub .f32 w x x) (.refl _ 0)
  have H := Lib.hid hl; clear hl
  go_enter Try.func26, Try.ntmps26
  go_wp2
  go_ret
  exact ⟨ret_bool (by rw [H.out]; rfl), _, rfl⟩

theorem specIsFinite_any (x : Nat) (w : World) : Calls Try.prog 11 #[.float .f32 x] w fun e w' => e = .returned (.bool (fin32 x)) ∧ ∃ n, w' = w.drewN n := by
  go_enter Try.func11, Try.ntmps11
  go_wp2_with (go_at_call 26; refine (l01Finite_any _ _).mono ?_; rintro e w' ⟨rfl, n, rfl⟩)
  go_ret
  exact ⟨rfl, _, rfl⟩

theorem implIsFinite_any (x : Nat) (w : World) : Calls Try.prog 12 #[.float .f32 x] w fun e w' => e = .returned (.bool (fin32 x)) ∧ ∃ n, w' = w.drewN n := by
  have hl := order_like (like_fres .sub .f32 w x x) (.refl _ 0)
  have H := Lib.hid hl; clear hl
  go_enter Try.func12, Try.ntmps12
  go_wp2
  go_ret
  exact ⟨ret_bool (by rw [H.out]; rfl), _, rfl⟩

theorem isFinite_walk (x : Nat) (w : World) (_ : (Lit.float .f32 x).wf = true) : Calls Try.prog 4 #[.float .f32 x] w fun e w' => e = .returned (.bool true) ∧ Below w.heap.size w w' := by
  go_enter Try.func4, Try.ntmps4
  go_wp2_with (first
    | (go_at_call 11; refine (specIsFinite_any _ _).mono ?_; rintro e w' ⟨rfl, n, rfl⟩)
    | (go_at_call 12; refine (implIsFinite_any _ _).mono ?_; rintro e w' ⟨rfl, n, rfl⟩))
  go_ret
  exact ⟨rfl, below_draws _ _⟩

theorem wf32 {x : Nat} (h : (Lit.float .f32 x).wf = true) : x < 4294967296 := by simpa [Lit.wf] using h

theorem run_f32bits (x : Nat) (w : World) : (callFunc 29 #[.float .f32 x]).run Try.prog w = .ok (.value (.int .u32 x)) w := by kernel_rfl
theorem run_f32from (x : Int) (w : World) : (callFunc 36 #[.int .u32 x]).run Try.prog w = .ok (.value (.float .f32 x.toNat)) w := by kernel_rfl
theorem run_f64from (x : Int) (w : World) : (callFunc 39 #[.int .u64 x]).run Try.prog w = .ok (.value (.float .f64 x.toNat)) w := by kernel_rfl
theorem run_f64bits (x : Nat) (w : World) : (callFunc 40 #[.float .f64 x]).run Try.prog w = .ok (.value (.int .u64 x)) w := by kernel_rfl
attribute [local go_sem] run_f32bits run_f32from run_f64from run_f64bits

/-- The bits; of every NaN the same ones. -/
def bits32 (x : Nat) : Int := if FloatKind.f32.format.order x x != some .eq then 2143289344 else x

theorem l01Bits_any (x : Nat) (w : World) (hx : x < 4294967296) : Calls Try.prog 28 #[.float .f32 x] w fun e w' => e = .returned (.int .i64 (bits32 x)) ∧ w = w' := by
  by_cases h : (FloatKind.f32.format.order x x != some .eq) = true
  · go_enter Try.func28, Try.ntmps28
    go_wp2
    go_ret
    exact ⟨ret_int (by simp only [bits32, h, if_true]), rfl⟩
  · go_enter Try.func28, Try.ntmps28
    go_wp2
    go_ret
    exact ⟨ret_int (by simp only [bits32, h]; rfl), rfl⟩

theorem implBitsOf_any (x : Nat) (w : World) (hx : x < 4294967296) : Calls Try.prog 17 #[.float .f32 x] w fun e w' => e = .returned (.int .i64 (bits32 x)) ∧ w = w' := by
  by_cases h : (FloatKind.f32.format.order x x != some .eq) = true
  · go_enter Try.func17, Try.ntmps17
    go_wp2
    go_ret
    exact ⟨ret_int (by simp only [bits32, h, if_true]), rfl⟩
  · go_enter Try.func17, Try.ntmps17
    go_wp2
    go_ret
    exact ⟨ret_int (by simp only [bits32, h]; rfl), rfl⟩

theorem specBitsOf_any (x : Nat) (w : World) (hx : x < 4294967296) : Calls Try.prog 16 #[.float .f32 x] w fun e w' => e = .returned (.int .i64 (bits32 x)) ∧ w = w' := by
  go_enter Try.func16, Try.ntmps16
  go_wp2_with (go_at_call 28; refine (l01Bits_any _ _ hx).mono ?_; rintro e w' ⟨rfl, rfl⟩)
  go_ret
  exact ⟨rfl, rfl⟩

theorem bitsOf_walk (x : Nat) (w : World) (hw : (Lit.float .f32 x).wf = true) : Calls Try.prog 6 #[.float .f32 x] w fun e w' => e = .returned (.bool true) ∧ Below w.heap.size w w' := by
  have hx := wf32 hw
  go_enter Try.func6, Try.ntmps6
  go_wp2_with (first
    | (go_at_call 16; refine (specBitsOf_any _ _ hx).mono ?_; rintro e w' ⟨rfl, rfl⟩)
    | (go_at_call 17; refine (implBitsOf_any _ _ hx).mono ?_; rintro e w' ⟨rfl, rfl⟩))
  go_ret
  exact ⟨rfl, Below.refl _ _⟩
end Go.Proofs.Ytlefjghkeppjeaa
