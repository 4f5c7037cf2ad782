/-
  Walks: the bits of a number, the reference's eight digits of a number. Conditions: none.
-/
import Derived.Test.YtjlbjlcficbdlaaDoorD6
import Derived.Test.YtjlbjlcficbdlaaDoorHex
import Derived.Test.YtjlbjlcficbdlaaDoorFlo
import Derived.Laws.Bits64b
set_option linter.unusedVariables false
set_option linter.unusedSimpArgs false
namespace Go.Proofs.YtjlbjlcficbdlaaDoor
open Go Go.RowKit Flo

theorem run_f32bits (x : Nat) (w : World) : (callFunc 82 #[.float .f32 x]).run Tryd.prog w = .ok (.value (.int .u32 x)) w := by kernel_rfl
theorem run_f32from (x : Int) (w : World) : (callFunc 71 #[.int .u32 x]).run Tryd.prog w = .ok (.value (.float .f32 x.toNat)) w := by kernel_rfl

def nanB (x : Nat) : Bool := FloatKind.f32.format.order x x != some .eq
/-- The bits; of every NaN the same ones. -/
def fb (x : Nat) : Nat := if nanB x then 2143289344 else x
theorem fb_lt (x : Nat) (h : x < 4294967296) : fb x < 4294967296 := by
  unfold fb; split <;> omega
theorem fb_no {x : Nat} (h : (FloatKind.f32.format.order x x != some .eq) = true) : (fb x : Int) = 2143289344 := by
  unfold fb nanB; rw [if_pos h]; rfl
theorem fb_yes {x : Nat} (h : (FloatKind.f32.format.order x x != some .eq) = false) : (fb x : Int) = x := by
  unfold fb nanB; rw [h]; rfl

section
attribute [local go_sem] run_f32bits run_f32from

theorem l01Bits_any (x : Nat) (w : World) (hx : x < 4294967296) : Calls Tryd.prog 68 #[.float .f32 x] w fun e w' => e = .returned (.int .i64 (fb x)) ∧ w = w' := by
  cases h : (FloatKind.f32.format.order x x != some .eq)
  · have H := Lib.hid (fb_yes h)
    go_enter Tryd.func68, Tryd.ntmps68
    go_wp2
    go_ret
    exact ⟨ret_int (by rw [H.out]), rfl⟩
  · have H := Lib.hid (fb_no h)
    go_enter Tryd.func68, Tryd.ntmps68
    go_wp2
    go_ret
    exact ⟨ret_int (by rw [H.out]), rfl⟩

theorem implBits_any (x : Nat) (w : World) (hx : x < 4294967296) : Calls Tryd.prog 64 #[.float .f32 x] w fun e w' => e = .returned (.int .i64 (fb x)) ∧ w = w' := by
  cases h : (FloatKind.f32.format.order x x != some .eq)
  · have H := Lib.hid (fb_yes h)
    go_enter Tryd.func64, Tryd.ntmps64
    go_wp2
    go_ret
    exact ⟨ret_int (by rw [H.out]), rfl⟩
  · have H := Lib.hid (fb_no h)
    go_enter Tryd.func64, Tryd.ntmps64
    go_wp2
    go_ret
    exact ⟨ret_int (by rw [H.out]), rfl⟩

theorem l01From_any (x : Nat) (w : World) (hx : x < 4294967296) : Calls Tryd.prog 67 #[.int .i64 x] w fun e w' => e = .returned (.float .f32 x) ∧ w = w' := by
  have h : IntKind.u32.wrap (x : Int) = x := by simp [IntKind.wrap, IntKind.signed, IntKind.bits]; omega
  go_enter Tryd.func67, Tryd.ntmps67
  go_wp2
  go_ret
  exact ⟨by first | rfl | (congr 2; omega), rfl⟩
end

theorem few_any (n c : Nat) (w : World) (hm : n ≤ 1048576) (a : Option Addr) : Calls Tryd.prog 46 #[.slice a n c] w fun e w' => e = .returned (.bool (decide ((n : Int) ≤ 256))) ∧ w = w' := by
  go_enter Tryd.func46, Tryd.ntmps46
  go_wp2
  go_ret
  exact ⟨rfl, rfl⟩

/-! ### The reference's digits -/
theorem and15_i64 (m : Nat) (h : m < 4294967296) : bits .and .i64 (m : Int) 15 = ((m % 16 : Nat) : Int) := by
  have h1 : (BitVec.ofInt 64 (m : Int)).toNat = m := by
    rw [BitVec.ofInt_natCast, BitVec.toNat_ofNat]; exact Nat.mod_eq_of_lt (by omega)
  have h2 : (BitVec.ofInt 64 (15 : Int)).toNat = 15 := by decide
  have h3 : m &&& 15 = m % 16 := Nat.and_two_pow_sub_one_eq_mod m 4
  show IntKind.i64.wrap ((BitVec.ofInt 64 (m : Int) &&& BitVec.ofInt 64 (15 : Int)).toNat : Int) = _
  rw [BitVec.toNat_and, h1, h2, h3]
  simp [IntKind.wrap, IntKind.signed, IntKind.bits]
  omega
theorem idx16 : ∀ d : Nat, d < 16 → ∀ W : World, (Instr.index 9 (.string ⟨#[48, 49, 50, 51, 52, 53, 54, 55, 56, 57, 97, 98, 99, 100, 101, 102]⟩) (.int .i64 (d : Int))).run Tryd.prog W = .ok (.int .u8 ((hx d).toNat : Int)) W := by
  intro d hd W
  have h : d = 0 ∨ d = 1 ∨ d = 2 ∨ d = 3 ∨ d = 4 ∨ d = 5 ∨ d = 6 ∨ d = 7 ∨ d = 8 ∨ d = 9 ∨ d = 10 ∨ d = 11 ∨ d = 12 ∨ d = 13 ∨ d = 14 ∨ d = 15 := by omega
  rcases h with rfl | rfl | rfl | rfl | rfl | rfl | rfl | rfl | rfl | rfl | rfl | rfl | rfl | rfl | rfl | rfl <;> (go_simp; rfl)
theorem pow16 (n q : Nat) : (n : Int) / 2 ^ (4 * q) = ((n / 16 ^ q : Nat) : Int) := by
  rw [show (2 : Int) ^ (4 * q) = ((16 ^ q : Nat) : Int) by rw [Int.pow_mul]; simp]
  simp

set_option maxHeartbeats 4000000 in
set_option maxRecDepth 100000 in
theorem l01Hex_any (x : Nat) (w : World) (hx0 : x < 4294967296) :
    Calls Tryd.prog 63 #[.float .f32 x] w fun e w' => e = .returned (.string ⟨(hexL 8 (fb x)).toArray⟩) ∧ Below w.heap.size w w' := by
  have R0 := Lib.hid (row_fresh w 5)
  have B0 := Lib.hid ((Below.refl w.heap.size w).alloc (Nat.le_refl _) (.cells #[] 5))
  have hn := fb_lt x hx0
  have HX := Lib.hid hx0
  obtain ⟨n, hfb⟩ : ∃ n, fb x = n := ⟨_, rfl⟩
  rw [hfb] at hn ⊢
  have HF := Lib.hid hfb
  clear hx0 hfb
  go_enter Tryd.func63, Tryd.ntmps63
  go_wp2_with (go_at_call 68; refine (l01Bits_any x _ HX.out).mono ?_; rintro e w1 ⟨rfl, rfl⟩; rw [HF.out])
  go_loopw [4, 5] (fun o k wr => ∃ (G cap j : Nat), j ≤ 8 ∧ o = .slice (some ⟨G, 0, none⟩) j cap ∧ k = .int .i64 (28 - 4 * (j : Int)) ∧ Row wr G 5 cap (byV (hexL j (n / 16 ^ (8 - j)))) ∧ Below w.heap.size w wr ∧ w.heap.size ≤ G) (fun _ k _ => (intOf k + 4).toNat)
  case atStart => exact ⟨w.heap.size, 0, 0, by omega, rfl, rfl, R0.out, B0.out, Nat.le_refl _⟩
  case round =>
    obtain ⟨G, cap, j, hj, rfl, rfl, hr, hb, hG⟩ := hrel
    have HR := Lib.hid hr; have HB := Lib.hid hb
    clear hr hb R0 B0
    by_cases h8 : j = 8
    · subst h8
      have hcv := conv_bytes wr G cap (hexL 8 n) (by simpa using HR.out) 8 (hexL_len _ _)
      go_wp2
      go_ret
      exact ⟨rfl, HB.out⟩
    · have hj8 : j < 8 := by omega
      obtain ⟨kk, hkk⟩ : ∃ kk : Int, 28 - 4 * (j : Int) = kk := ⟨_, rfl⟩
      rw [hkk]
      have k0 : 0 ≤ kk := by omega
      have k1 : kk ≤ 28 := by omega
      have kw : IntKind.u64.wrap kk = kk := by rw [IntKind.wrap_u64]; omega
      obtain ⟨m, hm⟩ : ∃ m, n / 16 ^ (7 - j) = m := ⟨_, rfl⟩
      have hkn : kk.toNat = 4 * (7 - j) := by omega
      have hsh : (n : Int) / 2 ^ kk.toNat = (m : Int) := by rw [hkn, pow16, hm]
      have hsh2 : (n : Int) / 2 ^ min kk.toNat 64 = (m : Int) := by rw [Nat.min_eq_left (by omega)]; exact hsh
      have hml : m < 4294967296 := by rw [← hm]; exact Nat.lt_of_le_of_lt (Nat.div_le_self _ _) hn
      have hand := and15_i64 m hml
      have hdl : m % 16 < 16 := Nat.mod_lt _ (by decide)
      have HS0 : hexL (j + 1) (n / 16 ^ (8 - (j + 1))) = hexL j (n / 16 ^ (8 - j)) ++ [hx (m % 16)] := by
        rw [show 8 - (j + 1) = 7 - j by omega, hm]
        show hexL j (m / 16) ++ _ = _
        rw [← hm, pow_div, show 7 - j + 1 = 8 - j by omega]
      have HS := Lib.hid HS0
      obtain ⟨d, hd⟩ : ∃ d, m % 16 = d := ⟨_, rfl⟩
      rw [hd] at hand hdl HS
      have hidx := idx16 d hdl
      obtain ⟨l, hl⟩ : ∃ l, hexL j (n / 16 ^ (8 - j)) = l := ⟨_, rfl⟩
      have HL : Hid ((byV l).length = j) := Lib.hid (by rw [byV_len, ← hl, hexL_len])
      rw [hl] at HR HS
      obtain ⟨b, hbx⟩ : ∃ b, hx d = b := ⟨_, rfl⟩
      rw [hbx] at hidx HS
      clear HS0 hm hd hl hbx hkn
      have HK := Lib.hid hkk; clear hkk
      go_wp2_with (at_builtin; refine push_at Tryd.underlying68 byte_info _ rfl _ _ rfl G cap (byV l) j (.int .u8 (b.toNat : Int)) (by rfl) HL.out HR.out (by rfl) rfl (by omega) (by decide) rfl w.heap.size w HB.out HB.out.size hG ?_; intro G' cap' w3 hr3 hb3 hG3; have HR3 := Lib.hid hr3; have HB3 := Lib.hid hb3; clear hr3 hb3)
      go_roundw
      case rel => exact ⟨G', cap', j + 1, by omega, rfl, by first | go_num | (congr 1; have := HK.out; omega), by rw [HS.out]; unfold byV; rw [List.map_append]; exact HR3.out, HB3.out, hG3⟩
      case measure => simp [intOf]; omega

end Go.Proofs.YtjlbjlcficbdlaaDoor
