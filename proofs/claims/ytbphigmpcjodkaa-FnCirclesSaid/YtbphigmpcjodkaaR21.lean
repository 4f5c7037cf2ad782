/-
  Walks: the tenths of decibels of the 64ths that were reckoned out. Conditions: none.
-/
import Derived.Test.YtbphigmpcjodkaaR10
import Derived.Test.YtbphigmpcjodkaaTn
import Derived.Test.YtbphigmpcjodkaaPw
set_option linter.unusedVariables false
set_option linter.unusedSimpArgs false
namespace Go.Proofs.Ytbphigmpcjodkaa
open Go Go.RowKit Flo Val Fb Ff

attribute [local go_sem] run_store_float run_fadd run_fsub run_fmul run_fquo run_fconv World.drewN_zero run_f64from run_f64bits unary_negF

theorem floor_val {v m M : Nat} {s : Bool} {p : Int} (hr : Ieee.double.read v = .number s m p) (hM : Ieee.Toward.down.cut s (m <<< p.toNat) (-p).toNat = M) (hb : M ≤ 65536) :
    floatToIntVal .f64 (floorW v) .i64 = some (if s then -(M : Int) else (M : Int)) := by
  have hf : floorW v = Ieee.double.nearest s (Ieee.Toward.down.cut s (m <<< p.toNat) (-p).toNat) 0 := by
    unfold floorW; rw [hr]; rfl
  rw [hf, hM]
  have e1 : IntKind.i64.min = -9223372036854775808 := by decide
  have e2 : IntKind.i64.max = 9223372036854775807 := by decide
  unfold floatToIntVal
  have hd : FloatKind.f64.decode (Ieee.double.nearest s M 0) = Ieee.double.read (Ieee.double.nearest s M 0) := rfl
  rw [hd]
  by_cases h0 : M = 0
  · subst h0
    rw [nearest_zero, read_zero, Fb.dbl.1]
    rw [show (-1074 : Int) = -((1074 : Nat) : Int) from rfl, toInt_zero0 s (by decide)]
    dsimp only
    refine if_pos ?_
    rw [e1, e2]; cases s <;> simp
  · rw [int_exact h0 (by omega)]
    have hl : M.log2 < 52 := by
      have h3 := Nat.log2_self_le h0
      have : 2 ^ M.log2 < 2 ^ 17 := by omega
      have := (Nat.pow_lt_pow_iff_right (by decide : 1 < 2)).1 this
      omega
    have hp : ((M.log2 : Int) - 52) = -((52 - M.log2 : Nat) : Int) := by omega
    rw [hp, toInt_zero (by omega)]
    dsimp only
    rw [Nat.mul_div_cancel _ (pow_pos2 _)]
    refine if_pos ?_
    rw [e1, e2]; cases s <;> simp <;> omega

theorem flo_val {c n : Nat} (h : flo c = some n) : floatToIntVal .f64 (floorW c) .i64 = some ((n : Int) - 200) ∧ ∃ s m p, Ieee.double.read c = .number s m p := by
  unfold flo at h
  cases hc : (okw c && Nat.ble (ex c) 1075) with
  | false => rw [hc] at h; cases h
  | true =>
    rw [hc, cond_true, fc_eq, fc_eq, fc_eq, fc_eq] at h
    rw [Bool.and_eq_true] at hc
    obtain ⟨c1, c2, c3⟩ := okw_of hc.1
    have c4 : ex c ≤ 1075 := Nat.le_of_ble_eq_true hc.2
    have hrd := read_nrm c1 c2 c3
    have hmn := mn_bd c
    have hlog := log52 hmn.1 hmn.2
    refine ⟨?_, _, _, _, hrd⟩
    obtain ⟨d, hd⟩ : ∃ d, cond (Nat.ble (ex c) 1021) 54 (Nat.sub 1075 (ex c)) = d := ⟨_, rfl⟩
    rw [hd] at h
    have hdd : min (1075 - ex c) (52 + 2) = d := by
      rw [← hd]
      cases hb : Nat.ble (ex c) 1021 with
      | true =>
        have := Nat.le_of_ble_eq_true hb
        rw [cond_true]; omega
      | false =>
        have : ¬ ex c ≤ 1021 := fun h => by rw [Nat.ble_eq_true_of_le h] at hb; cases hb
        rw [cond_false]
        show min (1075 - ex c) 54 = 1075 - ex c
        omega
    have hcut : ∀ s : Bool, Ieee.Toward.down.cut s (mn c <<< (((ex c : Nat) : Int) - 1075).toNat) (-(((ex c : Nat) : Int) - 1075)).toNat = mn c / 2 ^ d + (s && mn c % 2 ^ d != 0).toNat := by
      intro s
      rw [show (((ex c : Nat) : Int) - 1075).toNat = 0 by omega, Nat.shiftLeft_zero, show (-(((ex c : Nat) : Int) - 1075)).toNat = 1075 - ex c by omega]
      unfold Ieee.Toward.cut
      dsimp only
      rw [hlog, hdd, Nat.one_shiftLeft]
    have hsr : Nat.shiftRight (mn c) d = mn c / 2 ^ d := by show mn c >>> d = _; rw [Nat.shiftRight_eq_div_pow]
    rw [hsr] at h
    rcases sgb_cases c1 with ⟨s1, s2⟩ | ⟨s1, s2⟩
    · rw [s1, show Nat.beq 0 0 = true from rfl, cond_true] at h
      cases hb : Nat.ble (mn c / 2 ^ d) 60000 with
      | false => rw [hb] at h; cases h
      | true =>
        rw [hb, cond_true] at h
        have hM := Nat.le_of_ble_eq_true hb
        have hn : 200 + mn c / 2 ^ d = n := Option.some.inj h
        rw [s2] at hrd
        have hc0 := hcut false
        rw [floor_val hrd hc0 (by simp; omega)]
        have e : (false && mn c % 2 ^ d != 0).toNat = 0 := rfl
        rw [e, if_neg (by decide)]
        congr 1; omega
    · rw [s1, show Nat.beq 1 0 = false from rfl, cond_false] at h
      have hr2 : cond (Nat.beq (Nat.mod (mn c) (Nat.pow 2 d)) 0) 0 1 = (mn c % 2 ^ d != 0).toNat := by
        have : Nat.mod (mn c) (Nat.pow 2 d) = mn c % 2 ^ d := rfl
        rw [this]
        generalize mn c % 2 ^ d = r
        cases r with
        | zero => rfl
        | succ r => rfl
      rw [hr2] at h
      have hadd : Nat.add (mn c / 2 ^ d) ((mn c % 2 ^ d != 0).toNat) = mn c / 2 ^ d + (mn c % 2 ^ d != 0).toNat := rfl
      rw [hadd] at h
      cases hb : Nat.ble (mn c / 2 ^ d + (mn c % 2 ^ d != 0).toNat) 200 with
      | false => rw [hb] at h; cases h
      | true =>
        rw [hb, cond_true] at h
        have hM := Nat.le_of_ble_eq_true hb
        have hn : 200 - (mn c / 2 ^ d + (mn c % 2 ^ d != 0).toNat) = n := Option.some.inj h
        rw [s2] at hrd
        have hc1 := hcut true
        rw [Bool.true_and] at hc1
        rw [floor_val hrd hc1 (by omega), if_pos rfl]
        congr 1; omega

theorem tt_tk {k n : Nat} (h : Tk k n) : Wd32 (wK k) ∧ Tt (wK k) ((n : Int) - 200) := by
  obtain ⟨f1, s, m, p, hr⟩ := flo_val h.n
  refine ⟨h.y2, ⟨h.m, h.a, fun w => ?_, fun w => ?_⟩⟩
  · exact run_floor (v := tv (wK k)) hr w
  · exact run_convert_float_int w 28 2 .f64 .i64 _ _ (by rw [Try.underlying28]; rfl) Try.underlying2 f1

set_option maxHeartbeats 4000000 in
/-- The tenths of a number whose word is that of a 64th. -/
theorem tenths_any {x y : Nat} {n : Int} (hc : cvo .f32 .f64 x = some y) (hs : floatBits .sub .f32 x x = some 0) (hpos : (FloatKind.f32.format.order x 0 == some .lt || FloatKind.f32.format.order x 0 == some .eq) = false)
    (hwd : Wd32 y) (ht : Tt y n) (w : World) : Calls Try.prog 30 #[.float .f32 x] w fun e w' => e = .returned (.tuple #[.int .i64 n, .bool true]) ∧ w = w' := by
  obtain ⟨hc1, hc2⟩ := cvo_ok hc
  have hf1 : ∀ w, fres .sub .f32 w x x = 0 := by intro w; unfold fres; rw [hs]; rfl
  have hf2 : fcnt .sub .f32 x x = 0 := by unfold fcnt; rw [hs]; rfl
  have hf3 : (FloatKind.f32.format.order 0 0 == some .eq) = true := by decide +kernel
  obtain ⟨a1, a2⟩ := opf ht.m
  obtain ⟨b1, b2⟩ := opf ht.a
  have b1' : ∀ w, fres .add .f64 w (tm y) 4602678819172646912 = tv y := b1
  have b2' : fcnt .add .f64 (tm y) 4602678819172646912 = 0 := b2
  have hfl := ht.f
  have hcv := ht.c
  have hlw : ∀ w, Calls Try.prog 57 #[.float .f64 y] w fun e w' => e = .returned (.float .f64 (logF y)) ∧ w = w' := fun w => naturalLog_any y hwd w
  have HL := Lib.hid hlw
  clear b1 b2 ht hlw hwd hc hs
  generalize logF y = l at *
  generalize tm y = t1 at *
  generalize tv y = t2 at *
  generalize floorW t2 = t3 at *
  go_enter Try.func30, Try.ntmps30
  go_wp2_with (first
    | (go_at_call 50; go_in)
    | (go_at_call 57; refine (HL.out _).mono ?_; rintro e w' ⟨rfl, rfl⟩)
    | (go_at_call 60; go_in))
  go_ret2
  exact ⟨rfl, rfl⟩

end Go.Proofs.Ytbphigmpcjodkaa
