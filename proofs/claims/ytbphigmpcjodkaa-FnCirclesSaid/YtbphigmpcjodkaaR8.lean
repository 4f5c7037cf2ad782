/-
  Walks: the natural logarithm. Conditions: none.
-/
import Derived.Test.YtbphigmpcjodkaaR6
import Derived.Test.YtbphigmpcjodkaaLg
set_option linter.unusedVariables false
set_option linter.unusedSimpArgs false
namespace Go.Proofs.Ytbphigmpcjodkaa
open Go Go.RowKit Flo Val Fb

attribute [local go_sem] run_store_float run_fadd run_fsub run_fmul run_fquo run_fconv World.drewN_zero run_f64from run_f64bits

theorem geW {x c : Nat} (h1 : 4503599627370496 ≤ x) (h2 : x < 9218868437227405312) (h3 : 4503599627370496 ≤ c) (h4 : c < 9218868437227405312) :
    (FloatKind.f64.format.order x c == some .gt || FloatKind.f64.format.order x c == some .eq) = decide (c ≤ x) := by
  have e : FloatKind.f64.format.order x c = some (compare x c) := order_pos h1 h2 h3 h4
  rw [e]
  rcases Nat.lt_trichotomy x c with h | h | h
  · rw [Nat.compare_eq_lt.2 h, decide_eq_false (by omega)]; rfl
  · rw [Nat.compare_eq_eq.2 h, decide_eq_true (by omega)]; rfl
  · rw [Nat.compare_eq_gt.2 h, decide_eq_true (by omega)]; rfl
theorem ltW {x c : Nat} (h1 : 4503599627370496 ≤ x) (h2 : x < 9218868437227405312) (h3 : 4503599627370496 ≤ c) (h4 : c < 9218868437227405312) :
    (FloatKind.f64.format.order x c == some .lt) = decide (x < c) := by
  have e : FloatKind.f64.format.order x c = some (compare x c) := order_pos h1 h2 h3 h4
  rw [e]
  rcases Nat.lt_trichotomy x c with h | h | h
  · rw [Nat.compare_eq_lt.2 h, decide_eq_true (by omega)]; rfl
  · rw [Nat.compare_eq_eq.2 h, decide_eq_false (by omega)]; rfl
  · rw [Nat.compare_eq_gt.2 h, decide_eq_false (by omega)]; rfl
theorem gtW {x c : Nat} (h1 : 4503599627370496 ≤ x) (h2 : x < 9218868437227405312) (h3 : 4503599627370496 ≤ c) (h4 : c < 9218868437227405312) :
    (FloatKind.f64.format.order x c == some .gt) = decide (c < x) := by
  have e : FloatKind.f64.format.order x c = some (compare x c) := order_pos h1 h2 h3 h4
  rw [e]
  rcases Nat.lt_trichotomy x c with h | h | h
  · rw [Nat.compare_eq_lt.2 h, decide_eq_false (by omega)]; rfl
  · rw [Nat.compare_eq_eq.2 h, decide_eq_false (by omega)]; rfl
  · rw [Nat.compare_eq_gt.2 h, decide_eq_true (by omega)]; rfl

theorem hfo (a b : Nat) : FloatKind.f64.format.order a b = (Ieee.double.read a).order (Ieee.double.read b) := rfl
theorem order_self_num {x m : Nat} {g : Bool} {p : Int} (h : Ieee.double.read x = .number g m p) (hp : -3000 ≤ p) : FloatKind.f64.format.order x x = some .eq := by
  rw [hfo, h, order_number _ _ _ _ _ _ hp hp, Int.compare_eq_eq.2 rfl]
theorem order_zero_num {x m : Nat} {p : Int} (h : Ieee.double.read x = .number false m p) (hp : -3000 ≤ p) (hm : 0 < m) : FloatKind.f64.format.order x 0 = some .gt := by
  have h0 : Ieee.double.read 0 = .number false 0 (-1074) := by decide +kernel
  have : 0 < scal false m p := by
    unfold scal Ieee.signed
    rw [if_neg (by decide), Nat.shiftLeft_eq]
    have := Nat.mul_pos hm (Nat.two_pow_pos (p + 3000).toNat)
    generalize m * 2 ^ (p + 3000).toNat = X at *
    omega
  rw [hfo, h, h0, order_number _ _ _ _ _ _ hp (by decide), scal_zero, Int.compare_eq_gt.2 this]
theorem pos_zero {x : Nat} (h1 : 4503599627370496 ≤ x) (h2 : x < 9218868437227405312) : FloatKind.f64.format.order x 0 = some .gt ∧ FloatKind.f64.format.order x x = some .eq :=
  ⟨order_zero_num (read_pos h1 h2) (by omega) (by omega), order_self_num (read_pos h1 h2) (by omega)⟩

def Eqn (a b : Nat) : Prop := a = b
theorem j1_lt' {y j x : Nat} (h : x + j * 4503599627370496 = y) : j < J1 y ↔ 4609434218613702656 ≤ x := by
  rw [j1_lt]; omega
theorem j2_lt' {x1 j x : Nat} (h : x1 + j * 4503599627370496 = x) : j < J2 x1 ↔ x < 4604930618986332160 := by
  rw [j2_lt]; omega
theorem y1_eq {y : Nat} (h : Wd32 y) : Y1 y + J1 y * 4503599627370496 = y := by
  obtain ⟨a, b⟩ := h
  unfold Y1 J1; split <;> omega
theorem eqn_step {x i z x' : Nat} (h1 : x + i * 4503599627370496 = z) (h2 : z + 4503599627370496 = x') : Eqn (x + (i + 1) * 4503599627370496) x' := by
  unfold Eqn
  rw [Nat.add_mul, Nat.one_mul, ← Nat.add_assoc, h1, h2]
theorem half' {x x' : Nat} (h : x' + 4503599627370496 = x) (h1 : 9007199254740992 ≤ x) (h2 : x < 9218868437227405312) : floatBits .quo .f64 x 4611686018427387904 = some x' := by
  have e : x' = x - 4503599627370496 := by omega
  rw [e]; exact half h1 h2
theorem twice' {x x' : Nat} (h : x + 4503599627370496 = x') (h1 : 4503599627370496 ≤ x) (h2 : x < 9214364837600034816) : floatBits .mul .f64 x 4611686018427387904 = some x' := by
  rw [← h]; exact twice h1 h2

def mO : Value → Nat
  | .float _ x => if 9223372036854775808 ≤ x then 0 else x
  | .int _ x => (x + 1).toNat
  | _ => 0
theorem mO_lt : ∀ j, j < 13 → mO (.float .f64 (Ko (j + 1))) < mO (.float .f64 (Ko j)) := by
  have : ∀ j, j < 13 → (if 9223372036854775808 ≤ Ko (j + 1) then 0 else Ko (j + 1)) < (if 9223372036854775808 ≤ Ko j then 0 else Ko j) := by decide +kernel
  exact this

set_option maxHeartbeats 8000000 in
set_option maxRecDepth 100000 in
theorem naturalLog_any (y : Nat) (h : Wd32 y) (w : World) : Calls Try.prog 57 #[.float .f64 y] w fun e w' => e = .returned (.float .f64 (logF y)) ∧ w = w' := by
  have hJ1 := j1_bd h
  have hJ2 := j2_bd h
  obtain ⟨ya, yb⟩ := h
  obtain ⟨y1a, y1b, _⟩ := y1_bd ⟨ya, yb⟩
  have hz := j2_zero ⟨ya, yb⟩
  obtain ⟨y2a, y2b⟩ := y2_bd ⟨ya, yb⟩
  have HOK := Lib.hid (logF_ok (e := Ex y) y2a y2b (by unfold Ex; omega))
  have HY1 : Hid (Y1 y + J1 y * 4503599627370496 = y) := Lib.hid (y1_eq ⟨ya, yb⟩)
  have HY2 : Hid (Y2 y = Y1 y + J2 (Y1 y) * 4503599627370496) := Lib.hid rfl
  have HEX : Hid (Ex y = (J1 y : Int) - (J2 (Y1 y) : Int)) := Lib.hid rfl
  have HLF : Hid (logF y = F .add (lt2 (Y2 y)) (le2 (Ex y))) := Lib.hid rfl
  have HZ := Lib.hid hz
  have HJL1 : Hid (∀ j x, x + j * 4503599627370496 = y → (j < J1 y ↔ 4609434218613702656 ≤ x)) := Lib.hid (fun j x h => j1_lt' h)
  have HJL2 : Hid (∀ j x, Y1 y + j * 4503599627370496 = x → (j < J2 (Y1 y) ↔ x < 4604930618986332160)) := Lib.hid (fun j x h => j2_lt' h)
  clear hz
  generalize Ex y = E at *
  generalize Y2 y = x2 at *
  generalize hj2 : J2 (Y1 y) = j2 at *
  generalize Y1 y = x1 at *
  generalize J1 y = j1 at *
  clear hj2
  go_enter Try.func57, Try.ntmps57
  go_wp2
  go_loop [0, 3] (fun x e => ∃ j a : Nat, j ≤ j1 ∧ Eqn (a + j * 4503599627370496) y ∧ x = .float .f64 a ∧ e = .float .f64 (cnt ((j : Int)))) (fun x _ => kOf x)
  case atStart => exact ⟨0, y, Nat.zero_le _, by (unfold Eqn; omega), rfl, rfl⟩
  case round =>
    obtain ⟨j, x, hj, hxq, rfl, rfl⟩ := hrel
    have hxe : x + j * 4503599627370496 = y := hxq
    have hjl := HJL1.out j x hxe
    by_cases hlt : j < j1
    · have k1 := hjl.1 hlt
      have xb : x < 9218868437227405312 := by omega
      obtain ⟨x', hx'⟩ : ∃ x', x' + 4503599627370496 = x := ⟨x - 4503599627370496, by omega⟩
      have HX : Hid (Eqn (x' + (j + 1) * 4503599627370496) y) := Lib.hid (by unfold Eqn; omega)
      have g1 := geW (x := x) (c := 4609434218613702656) (by omega) xb (by omega) (by omega)
      rw [decide_eq_true k1] at g1
      obtain ⟨q1', q2'⟩ := opf (half' hx' (by omega) xb)
      have hlx : x' < x := by omega
      clear hjl hxe hx' hxq
      obtain ⟨c1, c2⟩ := opf (cnt_up j (by omega))
      have c1' : ∀ w, fres .add .f64 w (cnt (j : Int)) 4607182418800017408 = cnt ((j : Int) + 1) := c1
      have c2' : fcnt .add .f64 (cnt (j : Int)) 4607182418800017408 = 0 := c2
      have HC : Hid (cnt (((j + 1 : Nat)) : Int) = cnt ((j : Int) + 1)) := Lib.hid rfl
      clear c1 c2
      generalize cnt ((j : Int) + 1) = cj1 at *
      generalize cnt (j : Int) = cj at *
      go_wp2
      go_round
      case rel => exact ⟨j + 1, x', by omega, HX.out, rfl, by rw [HC.out]⟩
      case measure => exact hlx
    · obtain rfl : j = j1 := by omega
      have k1 : ¬ 4609434218613702656 ≤ x := fun hc => hlt (hjl.2 hc)
      have hY1 := HY1.out
      obtain rfl : x = x1 := by omega
      clear hjl hlt hxe hxq hY1
      have g1 := geW (x := x) (c := 4609434218613702656) (by omega) (by omega) (by omega) (by omega)
      rw [decide_eq_false k1] at g1
      go_wp2
      go_loop [0, 3] (fun z e => ∃ i a : Nat, i ≤ j2 ∧ Eqn (x + i * 4503599627370496) a ∧ z = .float .f64 a ∧ e = .float .f64 (cnt ((j : Int) - (i : Int)))) (fun z _ => 4611686018427387904 - kOf z)
      case atStart => exact ⟨0, x, Nat.zero_le _, by (unfold Eqn; omega), rfl, by simp⟩
      case round =>
        obtain ⟨i, z, hi, hzq, rfl, rfl⟩ := hrel
        have hze : x + i * 4503599627370496 = z := hzq
        have hjl := HJL2.out i z hze
        by_cases hlt : i < j2
        · have k2 := hjl.1 hlt
          have hz0 := HZ.out (by omega)
          have xa : 4503599627370496 ≤ z := by omega
          obtain ⟨x', hx'⟩ : ∃ x', z + 4503599627370496 = x' := ⟨_, rfl⟩
          have HX : Hid (Eqn (x + (i + 1) * 4503599627370496) x') := Lib.hid (eqn_step hze hx')
          have g2 := ltW (x := z) (c := 4604930618986332160) xa (by omega) (by omega) (by omega)
          rw [decide_eq_true k2] at g2
          obtain ⟨q1', q2'⟩ := opf (twice' hx' xa (by omega))
          have hlx : 4611686018427387904 - x' < 4611686018427387904 - z := by omega
          clear hjl hze hx' hzq
          obtain ⟨c1, c2⟩ := opf (cnt_down i (by omega))
          have e0 : (j : Int) - (i : Int) = -((i : Nat) : Int) := by rw [hz0]; omega
          have HC : Hid (cnt ((j : Int) - ((i + 1 : Nat) : Int)) = cnt (-(((i : Nat) : Int) + 1))) := Lib.hid (by rw [hz0]; congr 1 <;> omega)
          rw [e0]
          have c1' : ∀ w, fres .sub .f64 w (cnt (-((i : Nat) : Int))) 4607182418800017408 = cnt (-(((i : Nat) : Int) + 1)) := c1
          have c2' : fcnt .sub .f64 (cnt (-((i : Nat) : Int))) 4607182418800017408 = 0 := c2
          clear c1 c2 e0 hz0
          generalize cnt (-(((i : Nat) : Int) + 1)) = cj1 at *
          generalize cnt (-((i : Nat) : Int)) = cj at *
          go_wp2
          go_round
          case rel => exact ⟨i + 1, x', by omega, HX.out, rfl, by rw [HC.out]⟩
          case measure => exact hlx
        · obtain rfl : i = j2 := by omega
          have k2 : ¬ z < 4604930618986332160 := fun hc => hlt (hjl.2 hc)
          have hY2 := HY2.out
          obtain rfl : z = x2 := by omega
          clear hjl hlt hze hzq
          have g2 := ltW (x := z) (c := 4604930618986332160) (by omega) (by omega) (by omega) (by omega)
          rw [decide_eq_false k2] at g2
          have hE := HEX.out
          rw [← hE]
          have hEb : -200 < E ∧ E < 200 := by omega
          obtain ⟨Eb1, Eb2⟩ := hEb
          clear hY2 k2 hE g1 k1
          have H := HOK.out
          obtain ⟨a1, a2⟩ := opf H.a
          obtain ⟨b1, b2⟩ := opf H.b
          obtain ⟨s1, s2⟩ := opf H.s
          obtain ⟨u1, u2⟩ := opf H.u
          obtain ⟨r1, r2⟩ := opf H.p
          obtain ⟨t1, t2⟩ := opf H.t
          obtain ⟨e1, e2⟩ := opf H.ee
          obtain ⟨f1, f2⟩ := opf H.r
          have HQ := Lib.hid H.q
          have a1' : ∀ w, fres .sub .f64 w z 4607182418800017408 = F .sub z W1 := a1
          have a2' : fcnt .sub .f64 z 4607182418800017408 = 0 := a2
          have b1' : ∀ w, fres .add .f64 w z 4607182418800017408 = F .add z W1 := b1
          have b2' : fcnt .add .f64 z 4607182418800017408 = 0 := b2
          have t1' : ∀ w, fres .mul .f64 w 4611686018427387904 (lp z) = lt2 z := t1
          have t2' : fcnt .mul .f64 4611686018427387904 (lp z) = 0 := t2
          have e1' : ∀ w, fres .mul .f64 w (cnt E) 4604418534313441775 = le2 E := e1
          have e2' : fcnt .mul .f64 (cnt E) 4604418534313441775 = 0 := e2
          skip
          clear a1 a2 b1 b2 t1 t2 e1 e2 H
          generalize hfin : F .add (lt2 z) (le2 E) = fin at *
          clear hfin
          generalize F .sub z W1 = va at *
          generalize F .add z W1 = vb at *
          generalize lt2 z = vt at *
          generalize le2 E = ve at *
          generalize cnt E = vc at *
          generalize lp z = vp at *
          generalize lu z = u at *
          generalize ls z = vs at *
          go_wp2
          go_loop [6, 7] (fun q k => ∃ l : Nat, l ≤ 13 ∧ k = .float .f64 (Ko l) ∧ q = .float .f64 (lq u l)) (fun _ k => mO k)
          case atStart => exact ⟨0, by omega, rfl, rfl⟩
          case round =>
            obtain ⟨l, hl, rfl, rfl⟩ := hrel
            by_cases hlt : l < 13
            · obtain ⟨q1, q2⟩ := HQ.out l hlt
              obtain ⟨q1, p1⟩ := opf q1
              obtain ⟨q2, p2⟩ := opf q2
              obtain ⟨o1, o2, _⟩ := ko_step l hlt
              obtain ⟨o1, n1⟩ := opf o1
              obtain ⟨o2, n2⟩ := opf o2
              have o3 := ko_test l (by omega)
              rw [decide_eq_true hlt] at o3
              have o3' : (FloatKind.f64.format.order (Ko l) 4607182418800017408 == some .gt || FloatKind.f64.format.order (Ko l) 4607182418800017408 == some .eq) = true := o3
              have HM := Lib.hid (mO_lt l hlt)
              skip
              clear o3
              generalize hq4 : lq u (l + 1) = x4 at *
              generalize lq u l = x3 at *
              generalize F .mul u x3 = x5 at *
              generalize Co l = c at *
              generalize hk1 : Ko (l + 1) = k1 at *
              generalize Ko l = k0 at *
              go_wp2
              go_round
              case rel => exact ⟨l + 1, by omega, by rw [hk1], by rw [hq4]⟩
              case measure => exact HM.out
            · obtain rfl : l = 13 := by omega
              have o3 := ko_test 13 (by omega)
              rw [decide_eq_false hlt] at o3
              have o3' : (FloatKind.f64.format.order (Ko 13) 4607182418800017408 == some .gt || FloatKind.f64.format.order (Ko 13) 4607182418800017408 == some .eq) = false := o3
              clear o3 hlt
              generalize Ko 13 = k0 at *
              generalize lq u 13 = x3 at *
              go_wp2
              go_ret
              exact ⟨ret_float (by rw [HLF.out]), rfl⟩

set_option maxHeartbeats 8000000 in
set_option maxRecDepth 100000 in
theorem l01LogWide_any (y : Nat) (h : Wd32 y) (w : World) : Calls Try.prog 75 #[.float .f64 y] w fun e w' => e = .returned (.float .f64 (logF y)) ∧ w = w' := by
  have hJ1 := j1_bd h
  have hJ2 := j2_bd h
  obtain ⟨ya, yb⟩ := h
  obtain ⟨y1a, y1b, _⟩ := y1_bd ⟨ya, yb⟩
  have hz := j2_zero ⟨ya, yb⟩
  obtain ⟨y2a, y2b⟩ := y2_bd ⟨ya, yb⟩
  have HOK := Lib.hid (logF_ok (e := Ex y) y2a y2b (by unfold Ex; omega))
  have HY1 : Hid (Y1 y + J1 y * 4503599627370496 = y) := Lib.hid (y1_eq ⟨ya, yb⟩)
  have HY2 : Hid (Y2 y = Y1 y + J2 (Y1 y) * 4503599627370496) := Lib.hid rfl
  have HEX : Hid (Ex y = (J1 y : Int) - (J2 (Y1 y) : Int)) := Lib.hid rfl
  have HLF : Hid (logF y = F .add (lt2 (Y2 y)) (le2 (Ex y))) := Lib.hid rfl
  have HZ := Lib.hid hz
  have HJL1 : Hid (∀ j x, x + j * 4503599627370496 = y → (j < J1 y ↔ 4609434218613702656 ≤ x)) := Lib.hid (fun j x h => j1_lt' h)
  have HJL2 : Hid (∀ j x, Y1 y + j * 4503599627370496 = x → (j < J2 (Y1 y) ↔ x < 4604930618986332160)) := Lib.hid (fun j x h => j2_lt' h)
  clear hz
  obtain ⟨p0, pp⟩ := pos_zero (x := y) (by omega) (by omega)
  have pm := gtW (x := y) (c := 9218868437227405311) (by omega) (by omega) (by omega) (by omega)
  rw [decide_eq_false (by omega)] at pm
  generalize Ex y = E at *
  generalize Y2 y = x2 at *
  generalize hj2 : J2 (Y1 y) = j2 at *
  generalize Y1 y = x1 at *
  generalize J1 y = j1 at *
  clear hj2
  go_enter Try.func75, Try.ntmps75
  go_wp2_with (go_at_call 81; go_in)
  go_loop [0, 3] (fun x e => ∃ j a : Nat, j ≤ j1 ∧ Eqn (a + j * 4503599627370496) y ∧ x = .float .f64 a ∧ e = .int .i64 ((j : Int))) (fun x _ => kOf x)
  case atStart => exact ⟨0, y, Nat.zero_le _, by (unfold Eqn; omega), rfl, rfl⟩
  case round =>
    obtain ⟨j, x, hj, hxq, rfl, rfl⟩ := hrel
    have hxe : x + j * 4503599627370496 = y := hxq
    have hjl := HJL1.out j x hxe
    by_cases hlt : j < j1
    · have k1 := hjl.1 hlt
      have xb : x < 9218868437227405312 := by omega
      obtain ⟨x', hx'⟩ : ∃ x', x' + 4503599627370496 = x := ⟨x - 4503599627370496, by omega⟩
      have HX : Hid (Eqn (x' + (j + 1) * 4503599627370496) y) := Lib.hid (by unfold Eqn; omega)
      have g1 := geW (x := x) (c := 4609434218613702656) (by omega) xb (by omega) (by omega)
      rw [decide_eq_true k1] at g1
      obtain ⟨q1', q2'⟩ := opf (half' hx' (by omega) xb)
      have hlx : x' < x := by omega
      clear hjl hxe hx' hxq
      go_wp2
      go_round
      case rel => exact ⟨j + 1, x', by omega, HX.out, rfl, by go_num⟩
      case measure => exact hlx
    · obtain rfl : j = j1 := by omega
      have k1 : ¬ 4609434218613702656 ≤ x := fun hc => hlt (hjl.2 hc)
      have hY1 := HY1.out
      obtain rfl : x = x1 := by omega
      clear hjl hlt hxe hxq hY1
      have g1 := geW (x := x) (c := 4609434218613702656) (by omega) (by omega) (by omega) (by omega)
      rw [decide_eq_false k1] at g1
      go_wp2
      go_loop [0, 3] (fun z e => ∃ i a : Nat, i ≤ j2 ∧ Eqn (x + i * 4503599627370496) a ∧ z = .float .f64 a ∧ e = .int .i64 ((j : Int) - (i : Int))) (fun z _ => 4611686018427387904 - kOf z)
      case atStart => exact ⟨0, x, Nat.zero_le _, by (unfold Eqn; omega), rfl, by simp⟩
      case round =>
        obtain ⟨i, z, hi, hzq, rfl, rfl⟩ := hrel
        have hze : x + i * 4503599627370496 = z := hzq
        have hjl := HJL2.out i z hze
        by_cases hlt : i < j2
        · have k2 := hjl.1 hlt
          have hz0 := HZ.out (by omega)
          have xa : 4503599627370496 ≤ z := by omega
          obtain ⟨x', hx'⟩ : ∃ x', z + 4503599627370496 = x' := ⟨_, rfl⟩
          have HX : Hid (Eqn (x + (i + 1) * 4503599627370496) x') := Lib.hid (eqn_step hze hx')
          have g2 := ltW (x := z) (c := 4604930618986332160) xa (by omega) (by omega) (by omega)
          rw [decide_eq_true k2] at g2
          obtain ⟨q1', q2'⟩ := opf (twice' hx' xa (by omega))
          have hlx : 4611686018427387904 - x' < 4611686018427387904 - z := by omega
          clear hjl hze hx' hzq
          clear hz0
          go_wp2
          go_round
          case rel => exact ⟨i + 1, x', by omega, HX.out, rfl, by go_num⟩
          case measure => exact hlx
        · obtain rfl : i = j2 := by omega
          have k2 : ¬ z < 4604930618986332160 := fun hc => hlt (hjl.2 hc)
          have hY2 := HY2.out
          obtain rfl : z = x2 := by omega
          clear hjl hlt hze hzq
          have g2 := ltW (x := z) (c := 4604930618986332160) (by omega) (by omega) (by omega) (by omega)
          rw [decide_eq_false k2] at g2
          have hE := HEX.out
          rw [← hE]
          have hEb : -200 < E ∧ E < 200 := by omega
          obtain ⟨Eb1, Eb2⟩ := hEb
          clear hY2 k2 hE g1 k1
          have H := HOK.out
          obtain ⟨a1, a2⟩ := opf H.a
          obtain ⟨b1, b2⟩ := opf H.b
          obtain ⟨s1, s2⟩ := opf H.s
          obtain ⟨u1, u2⟩ := opf H.u
          obtain ⟨r1, r2⟩ := opf H.p
          obtain ⟨t1, t2⟩ := opf H.t
          obtain ⟨e1, e2⟩ := opf H.ee
          obtain ⟨f1, f2⟩ := opf H.r
          have HQ := Lib.hid H.q
          have a1' : ∀ w, fres .sub .f64 w z 4607182418800017408 = F .sub z W1 := a1
          have a2' : fcnt .sub .f64 z 4607182418800017408 = 0 := a2
          have b1' : ∀ w, fres .add .f64 w z 4607182418800017408 = F .add z W1 := b1
          have b2' : fcnt .add .f64 z 4607182418800017408 = 0 := b2
          have t1' : ∀ w, fres .mul .f64 w 4611686018427387904 (lp z) = lt2 z := t1
          have t2' : fcnt .mul .f64 4611686018427387904 (lp z) = 0 := t2
          have e1' : ∀ w, fres .mul .f64 w (cnt E) 4604418534313441775 = le2 E := e1
          have e2' : fcnt .mul .f64 (cnt E) 4604418534313441775 = 0 := e2
          have hce : floatOfInt .f64 E = cnt E := rfl
          clear a1 a2 b1 b2 t1 t2 e1 e2 H
          generalize hfin : F .add (lt2 z) (le2 E) = fin at *
          clear hfin
          generalize F .sub z W1 = va at *
          generalize F .add z W1 = vb at *
          generalize lt2 z = vt at *
          generalize le2 E = ve at *
          generalize cnt E = vc at *
          generalize lp z = vp at *
          generalize lu z = u at *
          generalize ls z = vs at *
          go_wp2
          go_loop [6, 7] (fun q k => ∃ l : Nat, l ≤ 13 ∧ k = .int .i64 (25 - 2 * (l : Int)) ∧ q = .float .f64 (lq u l)) (fun _ k => mO k)
          case atStart => exact ⟨0, by omega, by simp, rfl⟩
          case round =>
            obtain ⟨l, hl, rfl, rfl⟩ := hrel
            by_cases hlt : l < 13
            · obtain ⟨q1, q2⟩ := HQ.out l hlt
              obtain ⟨q1, p1⟩ := opf q1
              obtain ⟨q2, p2⟩ := opf q2
              obtain ⟨o1, o2, _⟩ := ko_step l hlt
              obtain ⟨o1, n1⟩ := opf o1
              obtain ⟨o2, n2⟩ := opf o2
              have o3 := ko_test l (by omega)
              rw [decide_eq_true hlt] at o3
              have o3' : (FloatKind.f64.format.order (Ko l) 4607182418800017408 == some .gt || FloatKind.f64.format.order (Ko l) 4607182418800017408 == some .eq) = true := o3
              have HM := Lib.hid (mO_lt l hlt)
              have hk := ko_int l hlt
              clear o3
              generalize hq4 : lq u (l + 1) = x4 at *
              generalize lq u l = x3 at *
              generalize F .mul u x3 = x5 at *
              generalize Co l = c at *
              generalize hk1 : Ko (l + 1) = k1 at *
              generalize Ko l = k0 at *
              go_wp2
              go_round
              case rel => exact ⟨l + 1, by omega, by go_num, by rw [hq4]⟩
              case measure => simp [mO]; omega
            · obtain rfl : l = 13 := by omega
              have o3 := ko_test 13 (by omega)
              rw [decide_eq_false hlt] at o3
              have o3' : (FloatKind.f64.format.order (Ko 13) 4607182418800017408 == some .gt || FloatKind.f64.format.order (Ko 13) 4607182418800017408 == some .eq) = false := o3
              clear o3 hlt
              generalize Ko 13 = k0 at *
              generalize lq u 13 = x3 at *
              go_wp2
              go_ret
              exact ⟨ret_float (by rw [HLF.out]), rfl⟩
end Go.Proofs.Ytbphigmpcjodkaa
