/-
  Walks: the law AngleTurns. Conditions: none.
-/
import Derived.Test.YtbphigmpcjodkaaAg
set_option linter.unusedVariables false
set_option linter.unusedSimpArgs false
namespace Go.Proofs.Ytbphigmpcjodkaa
open Go Go.RowKit Flo Val Fb

attribute [local go_sem] run_store_float run_fadd run_fsub run_fmul run_fquo run_fconv World.drewN_zero run_f64from run_f64bits unary_negF run_sqrt

theorem sqrt_num {x z : Nat} (h : Ieee.double.sqrt x = some z) (w : World) : Calls Try.prog 55 #[.float .f64 x] w fun e w' => e = .returned (.float .f64 z) ∧ w = w' := by
  have h1 : ∀ w, sres w x = z := by intro w; unfold sres; rw [h]; rfl
  have h2 : scnt x = 0 := by unfold scnt; rw [h]; rfl
  clear h
  go_enter Try.func55, Try.ntmps55
  go_wp2
  go_ret
  exact ⟨rfl, rfl⟩

theorem scal_le {m n : Nat} {p q : Int} (hp : -3000 ≤ p) (hq : -3000 ≤ q) (h : scal false m p ≤ scal false n q) : m * 2 ^ (p - min p q).toNat ≤ n * 2 ^ (q - min p q).toNat := by
  have e1 : scal false m p = Ieee.signed false m (p - min p q).toNat * (2 ^ (min p q + 3000).toNat : Nat) := by
    unfold scal; rw [← signed_mul]; congr 1; omega
  have e2 : scal false n q = Ieee.signed false n (q - min p q).toNat * (2 ^ (min p q + 3000).toNat : Nat) := by
    unfold scal; rw [← signed_mul]; congr 1; omega
  have hT : 0 < 2 ^ (min p q + 3000).toNat := Nat.two_pow_pos _
  rw [e1, e2] at h
  generalize 2 ^ (min p q + 3000).toNat = T at *
  have f : ∀ a u, Ieee.signed false a u = ((a * 2 ^ u : Nat) : Int) := by intro a u; unfold Ieee.signed; rw [if_neg (by decide), Nat.shiftLeft_eq]
  rw [f, f] at h
  have := Int.le_of_mul_le_mul_right h (by omega)
  exact Int.ofNat_le.1 this

theorem quo_some {x y m n : Nat} {s t : Bool} {i j : Int} (hx : Ieee.double.read x = .number s m i) (hy : Ieee.double.read y = .number t n j) (h : m ≠ 0 ∨ n ≠ 0) : ∃ z, floatBits .quo .f64 x y = some z := by
  show ∃ z, Ieee.double.div x y = some z
  unfold Ieee.Format.div Ieee.Datum.quotient
  rw [hx, hy]
  dsimp only
  by_cases hn : n = 0
  · have hm : m ≠ 0 := by omega
    rw [if_pos hn, if_neg hm]; exact ⟨_, rfl⟩
  · rw [if_neg hn]; exact ⟨_, rfl⟩

/-- What the walks want of two numbers that are not both 0. -/
structure Pt (Y X t : Nat) (o1 : Bool) : Prop where
  over : (FloatKind.f64.format.order (Y % 9223372036854775808) (X % 9223372036854775808) == some .gt) = o1
  q0 : ∃ z, floatBits .quo .f64 (Y % 9223372036854775808) (X % 9223372036854775808) = some z
  q : floatBits .quo .f64 (if o1 then X % 9223372036854775808 else Y % 9223372036854775808) (if o1 then Y % 9223372036854775808 else X % 9223372036854775808) = some t
  bd : Bd Ieee.double 0 t

theorem pt_of {Y X m n : Nat} {g h : Bool} {p q : Int} (hy : Ieee.double.read Y = .number g m p) (hx : Ieee.double.read X = .number h n q) (hp : -1074 ≤ p) (hq : -1074 ≤ q) (hz : m ≠ 0 ∨ n ≠ 0) : ∃ t o1, Pt Y X t o1 := by
  have ra := read_abs hy
  have rb := read_abs hx
  have ho : (FloatKind.f64.format.order (Y % 9223372036854775808) (X % 9223372036854775808) == some .gt) = decide (scal false n q < scal false m p) := by
    have e : FloatKind.f64.format.order (Y % 9223372036854775808) (X % 9223372036854775808) = some (compare (scal false m p) (scal false n q)) := by
      show (Ieee.double.read _).order (Ieee.double.read _) = _
      rw [ra, rb, order_number _ _ _ _ _ _ (by omega) (by omega)]
    rw [e]
    rcases Int.lt_trichotomy (scal false m p) (scal false n q) with h | h | h
    · rw [Int.compare_eq_lt.2 h, decide_eq_false (by omega)]; rfl
    · rw [Int.compare_eq_eq.2 h, decide_eq_false (by omega)]; rfl
    · rw [Int.compare_eq_gt.2 h, decide_eq_true h]; rfl
  have hpos : ∀ a (b : Int), 0 ≤ scal false a b := by intro a b; unfold scal Ieee.signed; rw [if_neg (by decide)]; exact Int.natCast_nonneg _
  by_cases hlt : scal false n q < scal false m p
  · have hm : m ≠ 0 := by
      rintro rfl
      rw [scal_zero] at hlt
      have := hpos n q; omega
    have hh := scal_le (by omega) (by omega) (Int.le_of_lt hlt)
    obtain ⟨a, b⟩ := quo_one rb ra (by omega) hh
    exact ⟨_, true, ⟨by rw [ho, decide_eq_true hlt], quo_some ra rb hz, a, b⟩⟩
  · have hn : n ≠ 0 := by
      rintro rfl
      rw [scal_zero] at hlt
      have h0 : m ≠ 0 := by omega
      have : 0 < scal false m p := by
        unfold scal Ieee.signed
        rw [if_neg (by decide), Nat.shiftLeft_eq]
        have := Nat.mul_pos (show 0 < m by omega) (Nat.two_pow_pos (p + 3000).toNat)
        generalize m * 2 ^ (p + 3000).toNat = Z at *
        omega
      omega
    have hh := scal_le (by omega) (by omega) (show scal false m p ≤ scal false n q by omega)
    obtain ⟨a, b⟩ := quo_one ra rb (by omega) hh
    exact ⟨_, false, ⟨by rw [ho, decide_eq_false hlt], quo_some ra rb hz, a, b⟩⟩

theorem mA_lt : ∀ j, j < 8 → mO (.float .f64 (Ka (j + 1))) < mO (.float .f64 (Ka j)) := by
  have : ∀ j, j < 8 → (if 9223372036854775808 ≤ Ka (j + 1) then 0 else Ka (j + 1)) < (if 9223372036854775808 ≤ Ka j then 0 else Ka j) := by decide +kernel
  exact this

set_option maxHeartbeats 4000000 in
set_option maxRecDepth 100000 in
theorem wide_fff (Y X t : Nat) (HPT : Hid (Pt Y X t false)) (Ylt : Y < 18446744073709551616) (Xlt : X < 18446744073709551616) (w : World)
    (hyy : floatBits .sub .f64 Y Y = some 0) (hxx : floatBits .sub .f64 X X = some 0) (hz : (FloatKind.f64.format.order X 0 == some .eq) = false ∨ (FloatKind.f64.format.order Y 0 == some .eq) = false)
    (o2 : (FloatKind.f64.format.order X 0 == some .lt) = false) (o3 : (FloatKind.f64.format.order Y 0 == some .lt) = false) :
    Calls Try.prog 78 #[.float .f64 Y, .float .f64 X] w fun e w' => e = .returned (.float .f64 (angF (hfK t 3) false false false)) ∧ w = w' := by
  obtain ⟨y1, y2⟩ := opf hyy
  obtain ⟨x1, x2⟩ := opf hxx
  have o00 : (FloatKind.f64.format.order 0 0 != some .eq) = false := by decide +kernel
  clear hyy hxx
  cases hzx : (FloatKind.f64.format.order X 0 == some .eq)
  · clear hz
    have P := HPT.out
    have ov := P.over
    obtain ⟨z0, q0⟩ := P.q0
    have qq := P.q
    have tb := P.bd
    have AF := af_ok (hfK_bd tb 3)
    have A1 := an1_ok false AF.bd
    have A2 := an2_ok false A1.2 (an1_lt false AF.bd (Ieee.Format.div_lt Ieee.double AF.n))
    have HHF := Lib.hid (fun k => hf_ok (hfK_bd tb k))
    have HV : Hid (angF (hfK t 3) false false false = angF (hfK t 3) false false false) := Lib.hid rfl
    simp only [Bool.false_eq_true, if_false] at qq
    obtain ⟨q1, q2⟩ := opf qq
    clear q0
    obtain ⟨u1, u2⟩ := opf AF.u
    obtain ⟨p1, p2⟩ := opf AF.p
    obtain ⟨e1, e2⟩ := opf AF.e
    obtain ⟨n1, n2⟩ := opf AF.n
    have e1' : ∀ w, fres .mul .f64 w 4620693217682128896 (ap (hfK t 3)) = a8 (hfK t 3) := e1
    have e2' : fcnt .mul .f64 4620693217682128896 (ap (hfK t 3)) = 0 := e2
    have n1' : ∀ w, fres .quo .f64 w (a8 (hfK t 3)) 4618760256179416344 = an (hfK t 3) := n1
    have n2' : fcnt .quo .f64 (a8 (hfK t 3)) 4618760256179416344 = 0 := n2
    obtain ⟨f1, f2⟩ := opf A1.1
    have f1' : ∀ w, fres .sub .f64 w 4598175219545276416 (an (hfK t 3)) = F .sub Wquarter (an (hfK t 3)) := f1
    have f2' : fcnt .sub .f64 4598175219545276416 (an (hfK t 3)) = 0 := f2
    obtain ⟨g1, g2⟩ := opf A2.1
    have w1 : an1 false (an (hfK t 3)) = an (hfK t 3) := rfl
    rw [w1] at g1 g2
    have g1' : ∀ w, fres .sub .f64 w 4602678819172646912 (an (hfK t 3)) = F .sub Whalf (an (hfK t 3)) := g1
    have g2' : fcnt .sub .f64 4602678819172646912 (an (hfK t 3)) = 0 := g2
    have HQ := Lib.hid AF.q
    have HR : Hid (angF (hfK t 3) false false false = ((an (hfK t 3)))) := Lib.hid rfl
    clear P AF A1 A2 e1 e2 n1 n2 f1 f2 g1 g2 w1 qq HPT HV tb
    generalize an (hfK t 3) = v0 at *
    generalize a8 (hfK t 3) = v8 at *
    generalize ap (hfK t 3) = vp at *
    obtain ⟨a, hga⟩ : ∃ a, Y % 9223372036854775808 = a := ⟨_, rfl⟩
    obtain ⟨b, hgb⟩ : ∃ b, X % 9223372036854775808 = b := ⟨_, rfl⟩
    rw [hga, hgb] at ov q1 q2
    have HA := Lib.hid hga
    have HB := Lib.hid hgb
    clear hga hgb
    rw [HR.out]
    go_enter Try.func78, Try.ntmps78
    go_wp2_with (first
      | (go_at_call 52; refine (abs_any Y _ Ylt).mono ?_; rintro e w' ⟨rfl, rfl⟩; rw [HA.out])
      | (go_at_call 52; refine (abs_any X _ Xlt).mono ?_; rintro e w' ⟨rfl, rfl⟩; rw [HB.out]))
    go_loop [8, 9] (fun z k => ∃ i : Nat, i ≤ 3 ∧ k = .int .i64 i ∧ z = .float .f64 (hfK t i)) (fun _ k => 3 - (intOf k).toNat)
    case atStart => exact ⟨0, by omega, rfl, rfl⟩
    case round =>
      obtain ⟨i, hi, rfl, rfl⟩ := hrel
      by_cases hlt : i < 3
      · have H := HHF.out i
        obtain ⟨c1, c2⟩ := opf H.m
        obtain ⟨c3, c4⟩ := opf H.a
        obtain ⟨c5, c6⟩ := opf H.b
        obtain ⟨c7, c8⟩ := opf H.q
        have HSQ := Lib.hid H.s
        have c3' : ∀ w, fres .add .f64 w 4607182418800017408 _ = _ := c3
        have c4' : fcnt .add .f64 4607182418800017408 _ = 0 := c4
        have c5' : ∀ w, fres .add .f64 w 4607182418800017408 _ = _ := c5
        have c6' : fcnt .add .f64 4607182418800017408 _ = 0 := c6
        have hk1 : hfK t (i + 1) = hf (hfK t i) := rfl
        have HK1 := Lib.hid hk1
        clear c3 c4 c5 c6 H hk1
        generalize hf (hfK t i) = t1 at *
        generalize hb (hfK t i) = tb at *
        generalize ha (hfK t i) = ta at *
        generalize sfix ta = ts at *
        generalize hfK t i = t0 at *
        generalize F .mul t0 t0 = tm at *
        go_wp2_with (go_at_call 55; refine (sqrt_num HSQ.out _).mono ?_; rintro e w' ⟨rfl, rfl⟩)
        go_round
        case rel => exact ⟨i + 1, by omega, by go_num, by rw [HK1.out]⟩
        case measure => simp [intOf]; omega
      · obtain rfl : i = 3 := by omega
        clear hlt
        generalize au (hfK t 3) = u at *
        generalize hfK t 3 = tt at *
        go_wp2
        go_loop [11, 12] (fun q k => ∃ l : Nat, l ≤ 8 ∧ k = .int .i64 (15 - 2 * (l : Int)) ∧ q = .float .f64 (aq u l)) (fun _ k => mO k)
        case atStart => exact ⟨0, by omega, by simp, rfl⟩
        case round =>
          obtain ⟨l, hl, rfl, rfl⟩ := hrel
          by_cases hlt : l < 8
          · obtain ⟨r1, r2⟩ := HQ.out l hlt
            obtain ⟨r1, s1⟩ := opf r1
            obtain ⟨r2, s2⟩ := opf r2
            obtain ⟨o1, o2, _⟩ := ka_step l hlt
            obtain ⟨o1, m1⟩ := opf o1
            obtain ⟨o2, m2⟩ := opf o2
            have o3 := ka_test l (by omega)
            rw [decide_eq_true hlt] at o3
            have o3' : (FloatKind.f64.format.order (Ka l) 4607182418800017408 == some .gt || FloatKind.f64.format.order (Ka l) 4607182418800017408 == some .eq) = true := o3
            have HM := Lib.hid (mA_lt l hlt)
            have hk := ka_int l hlt
            clear o3
            generalize hq4 : aq u (l + 1) = x4 at *
            generalize aq u l = x3 at *
            generalize F .mul u x3 = x5 at *
            generalize Ca l = c at *
            generalize hk1 : Ka (l + 1) = k1 at *
            generalize Ka l = k0 at *
            go_wp2
            go_round
            case rel => exact ⟨l + 1, by omega, by go_num, by rw [hq4]⟩
            case measure => simp [mO]; omega
          · obtain rfl : l = 8 := by omega
            have o3 := ka_test 8 (by omega)
            rw [decide_eq_false hlt] at o3
            have o3' : (FloatKind.f64.format.order (Ka 8) 4607182418800017408 == some .gt || FloatKind.f64.format.order (Ka 8) 4607182418800017408 == some .eq) = false := o3
            clear o3 hlt
            generalize Ka 8 = k0 at *
            generalize aq u 8 = x3 at *
            go_wp2
            go_ret
            exact ⟨ret_float (by first | rfl | simp), rfl⟩
  · have hzy : (FloatKind.f64.format.order Y 0 == some .eq) = false := by
      rcases hz with h | h
      · rw [hzx] at h; cases h
      · exact h
    clear hz
    have P := HPT.out
    have ov := P.over
    obtain ⟨z0, q0⟩ := P.q0
    have qq := P.q
    have tb := P.bd
    have AF := af_ok (hfK_bd tb 3)
    have A1 := an1_ok false AF.bd
    have A2 := an2_ok false A1.2 (an1_lt false AF.bd (Ieee.Format.div_lt Ieee.double AF.n))
    have HHF := Lib.hid (fun k => hf_ok (hfK_bd tb k))
    have HV : Hid (angF (hfK t 3) false false false = angF (hfK t 3) false false false) := Lib.hid rfl
    simp only [Bool.false_eq_true, if_false] at qq
    obtain ⟨q1, q2⟩ := opf qq
    clear q0
    obtain ⟨u1, u2⟩ := opf AF.u
    obtain ⟨p1, p2⟩ := opf AF.p
    obtain ⟨e1, e2⟩ := opf AF.e
    obtain ⟨n1, n2⟩ := opf AF.n
    have e1' : ∀ w, fres .mul .f64 w 4620693217682128896 (ap (hfK t 3)) = a8 (hfK t 3) := e1
    have e2' : fcnt .mul .f64 4620693217682128896 (ap (hfK t 3)) = 0 := e2
    have n1' : ∀ w, fres .quo .f64 w (a8 (hfK t 3)) 4618760256179416344 = an (hfK t 3) := n1
    have n2' : fcnt .quo .f64 (a8 (hfK t 3)) 4618760256179416344 = 0 := n2
    obtain ⟨f1, f2⟩ := opf A1.1
    have f1' : ∀ w, fres .sub .f64 w 4598175219545276416 (an (hfK t 3)) = F .sub Wquarter (an (hfK t 3)) := f1
    have f2' : fcnt .sub .f64 4598175219545276416 (an (hfK t 3)) = 0 := f2
    obtain ⟨g1, g2⟩ := opf A2.1
    have w1 : an1 false (an (hfK t 3)) = an (hfK t 3) := rfl
    rw [w1] at g1 g2
    have g1' : ∀ w, fres .sub .f64 w 4602678819172646912 (an (hfK t 3)) = F .sub Whalf (an (hfK t 3)) := g1
    have g2' : fcnt .sub .f64 4602678819172646912 (an (hfK t 3)) = 0 := g2
    have HQ := Lib.hid AF.q
    have HR : Hid (angF (hfK t 3) false false false = ((an (hfK t 3)))) := Lib.hid rfl
    clear P AF A1 A2 e1 e2 n1 n2 f1 f2 g1 g2 w1 qq HPT HV tb
    generalize an (hfK t 3) = v0 at *
    generalize a8 (hfK t 3) = v8 at *
    generalize ap (hfK t 3) = vp at *
    obtain ⟨a, hga⟩ : ∃ a, Y % 9223372036854775808 = a := ⟨_, rfl⟩
    obtain ⟨b, hgb⟩ : ∃ b, X % 9223372036854775808 = b := ⟨_, rfl⟩
    rw [hga, hgb] at ov q1 q2
    have HA := Lib.hid hga
    have HB := Lib.hid hgb
    clear hga hgb
    rw [HR.out]
    go_enter Try.func78, Try.ntmps78
    go_wp2_with (first
      | (go_at_call 52; refine (abs_any Y _ Ylt).mono ?_; rintro e w' ⟨rfl, rfl⟩; rw [HA.out])
      | (go_at_call 52; refine (abs_any X _ Xlt).mono ?_; rintro e w' ⟨rfl, rfl⟩; rw [HB.out]))
    go_loop [8, 9] (fun z k => ∃ i : Nat, i ≤ 3 ∧ k = .int .i64 i ∧ z = .float .f64 (hfK t i)) (fun _ k => 3 - (intOf k).toNat)
    case atStart => exact ⟨0, by omega, rfl, rfl⟩
    case round =>
      obtain ⟨i, hi, rfl, rfl⟩ := hrel
      by_cases hlt : i < 3
      · have H := HHF.out i
        obtain ⟨c1, c2⟩ := opf H.m
        obtain ⟨c3, c4⟩ := opf H.a
        obtain ⟨c5, c6⟩ := opf H.b
        obtain ⟨c7, c8⟩ := opf H.q
        have HSQ := Lib.hid H.s
        have c3' : ∀ w, fres .add .f64 w 4607182418800017408 _ = _ := c3
        have c4' : fcnt .add .f64 4607182418800017408 _ = 0 := c4
        have c5' : ∀ w, fres .add .f64 w 4607182418800017408 _ = _ := c5
        have c6' : fcnt .add .f64 4607182418800017408 _ = 0 := c6
        have hk1 : hfK t (i + 1) = hf (hfK t i) := rfl
        have HK1 := Lib.hid hk1
        clear c3 c4 c5 c6 H hk1
        generalize hf (hfK t i) = t1 at *
        generalize hb (hfK t i) = tb at *
        generalize ha (hfK t i) = ta at *
        generalize sfix ta = ts at *
        generalize hfK t i = t0 at *
        generalize F .mul t0 t0 = tm at *
        go_wp2_with (go_at_call 55; refine (sqrt_num HSQ.out _).mono ?_; rintro e w' ⟨rfl, rfl⟩)
        go_round
        case rel => exact ⟨i + 1, by omega, by go_num, by rw [HK1.out]⟩
        case measure => simp [intOf]; omega
      · obtain rfl : i = 3 := by omega
        clear hlt
        generalize au (hfK t 3) = u at *
        generalize hfK t 3 = tt at *
        go_wp2
        go_loop [11, 12] (fun q k => ∃ l : Nat, l ≤ 8 ∧ k = .int .i64 (15 - 2 * (l : Int)) ∧ q = .float .f64 (aq u l)) (fun _ k => mO k)
        case atStart => exact ⟨0, by omega, by simp, rfl⟩
        case round =>
          obtain ⟨l, hl, rfl, rfl⟩ := hrel
          by_cases hlt : l < 8
          · obtain ⟨r1, r2⟩ := HQ.out l hlt
            obtain ⟨r1, s1⟩ := opf r1
            obtain ⟨r2, s2⟩ := opf r2
            obtain ⟨o1, o2, _⟩ := ka_step l hlt
            obtain ⟨o1, m1⟩ := opf o1
            obtain ⟨o2, m2⟩ := opf o2
            have o3 := ka_test l (by omega)
            rw [decide_eq_true hlt] at o3
            have o3' : (FloatKind.f64.format.order (Ka l) 4607182418800017408 == some .gt || FloatKind.f64.format.order (Ka l) 4607182418800017408 == some .eq) = true := o3
            have HM := Lib.hid (mA_lt l hlt)
            have hk := ka_int l hlt
            clear o3
            generalize hq4 : aq u (l + 1) = x4 at *
            generalize aq u l = x3 at *
            generalize F .mul u x3 = x5 at *
            generalize Ca l = c at *
            generalize hk1 : Ka (l + 1) = k1 at *
            generalize Ka l = k0 at *
            go_wp2
            go_round
            case rel => exact ⟨l + 1, by omega, by go_num, by rw [hq4]⟩
            case measure => simp [mO]; omega
          · obtain rfl : l = 8 := by omega
            have o3 := ka_test 8 (by omega)
            rw [decide_eq_false hlt] at o3
            have o3' : (FloatKind.f64.format.order (Ka 8) 4607182418800017408 == some .gt || FloatKind.f64.format.order (Ka 8) 4607182418800017408 == some .eq) = false := o3
            clear o3 hlt
            generalize Ka 8 = k0 at *
            generalize aq u 8 = x3 at *
            go_wp2
            go_ret
            exact ⟨ret_float (by first | rfl | simp), rfl⟩

set_option maxHeartbeats 4000000 in
set_option maxRecDepth 100000 in
theorem wide_fft (Y X t : Nat) (HPT : Hid (Pt Y X t false)) (Ylt : Y < 18446744073709551616) (Xlt : X < 18446744073709551616) (w : World)
    (hyy : floatBits .sub .f64 Y Y = some 0) (hxx : floatBits .sub .f64 X X = some 0) (hz : (FloatKind.f64.format.order X 0 == some .eq) = false ∨ (FloatKind.f64.format.order Y 0 == some .eq) = false)
    (o2 : (FloatKind.f64.format.order X 0 == some .lt) = false) (o3 : (FloatKind.f64.format.order Y 0 == some .lt) = true) :
    Calls Try.prog 78 #[.float .f64 Y, .float .f64 X] w fun e w' => e = .returned (.float .f64 (angF (hfK t 3) false false true)) ∧ w = w' := by
  obtain ⟨y1, y2⟩ := opf hyy
  obtain ⟨x1, x2⟩ := opf hxx
  have o00 : (FloatKind.f64.format.order 0 0 != some .eq) = false := by decide +kernel
  clear hyy hxx
  cases hzx : (FloatKind.f64.format.order X 0 == some .eq)
  · clear hz
    have P := HPT.out
    have ov := P.over
    obtain ⟨z0, q0⟩ := P.q0
    have qq := P.q
    have tb := P.bd
    have AF := af_ok (hfK_bd tb 3)
    have A1 := an1_ok false AF.bd
    have A2 := an2_ok false A1.2 (an1_lt false AF.bd (Ieee.Format.div_lt Ieee.double AF.n))
    have HHF := Lib.hid (fun k => hf_ok (hfK_bd tb k))
    have HV : Hid (angF (hfK t 3) false false true = angF (hfK t 3) false false true) := Lib.hid rfl
    simp only [Bool.false_eq_true, if_false] at qq
    obtain ⟨q1, q2⟩ := opf qq
    clear q0
    obtain ⟨u1, u2⟩ := opf AF.u
    obtain ⟨p1, p2⟩ := opf AF.p
    obtain ⟨e1, e2⟩ := opf AF.e
    obtain ⟨n1, n2⟩ := opf AF.n
    have e1' : ∀ w, fres .mul .f64 w 4620693217682128896 (ap (hfK t 3)) = a8 (hfK t 3) := e1
    have e2' : fcnt .mul .f64 4620693217682128896 (ap (hfK t 3)) = 0 := e2
    have n1' : ∀ w, fres .quo .f64 w (a8 (hfK t 3)) 4618760256179416344 = an (hfK t 3) := n1
    have n2' : fcnt .quo .f64 (a8 (hfK t 3)) 4618760256179416344 = 0 := n2
    obtain ⟨f1, f2⟩ := opf A1.1
    have f1' : ∀ w, fres .sub .f64 w 4598175219545276416 (an (hfK t 3)) = F .sub Wquarter (an (hfK t 3)) := f1
    have f2' : fcnt .sub .f64 4598175219545276416 (an (hfK t 3)) = 0 := f2
    obtain ⟨g1, g2⟩ := opf A2.1
    have w1 : an1 false (an (hfK t 3)) = an (hfK t 3) := rfl
    rw [w1] at g1 g2
    have g1' : ∀ w, fres .sub .f64 w 4602678819172646912 (an (hfK t 3)) = F .sub Whalf (an (hfK t 3)) := g1
    have g2' : fcnt .sub .f64 4602678819172646912 (an (hfK t 3)) = 0 := g2
    have HQ := Lib.hid AF.q
    have HR : Hid (angF (hfK t 3) false false true = Op.negFloat .f64 ((an (hfK t 3)))) := Lib.hid rfl
    clear P AF A1 A2 e1 e2 n1 n2 f1 f2 g1 g2 w1 qq HPT HV tb
    generalize an (hfK t 3) = v0 at *
    generalize a8 (hfK t 3) = v8 at *
    generalize ap (hfK t 3) = vp at *
    obtain ⟨a, hga⟩ : ∃ a, Y % 9223372036854775808 = a := ⟨_, rfl⟩
    obtain ⟨b, hgb⟩ : ∃ b, X % 9223372036854775808 = b := ⟨_, rfl⟩
    rw [hga, hgb] at ov q1 q2
    have HA := Lib.hid hga
    have HB := Lib.hid hgb
    clear hga hgb
    rw [HR.out]
    go_enter Try.func78, Try.ntmps78
    go_wp2_with (first
      | (go_at_call 52; refine (abs_any Y _ Ylt).mono ?_; rintro e w' ⟨rfl, rfl⟩; rw [HA.out])
      | (go_at_call 52; refine (abs_any X _ Xlt).mono ?_; rintro e w' ⟨rfl, rfl⟩; rw [HB.out]))
    go_loop [8, 9] (fun z k => ∃ i : Nat, i ≤ 3 ∧ k = .int .i64 i ∧ z = .float .f64 (hfK t i)) (fun _ k => 3 - (intOf k).toNat)
    case atStart => exact ⟨0, by omega, rfl, rfl⟩
    case round =>
      obtain ⟨i, hi, rfl, rfl⟩ := hrel
      by_cases hlt : i < 3
      · have H := HHF.out i
        obtain ⟨c1, c2⟩ := opf H.m
        obtain ⟨c3, c4⟩ := opf H.a
        obtain ⟨c5, c6⟩ := opf H.b
        obtain ⟨c7, c8⟩ := opf H.q
        have HSQ := Lib.hid H.s
        have c3' : ∀ w, fres .add .f64 w 4607182418800017408 _ = _ := c3
        have c4' : fcnt .add .f64 4607182418800017408 _ = 0 := c4
        have c5' : ∀ w, fres .add .f64 w 4607182418800017408 _ = _ := c5
        have c6' : fcnt .add .f64 4607182418800017408 _ = 0 := c6
        have hk1 : hfK t (i + 1) = hf (hfK t i) := rfl
        have HK1 := Lib.hid hk1
        clear c3 c4 c5 c6 H hk1
        generalize hf (hfK t i) = t1 at *
        generalize hb (hfK t i) = tb at *
        generalize ha (hfK t i) = ta at *
        generalize sfix ta = ts at *
        generalize hfK t i = t0 at *
        generalize F .mul t0 t0 = tm at *
        go_wp2_with (go_at_call 55; refine (sqrt_num HSQ.out _).mono ?_; rintro e w' ⟨rfl, rfl⟩)
        go_round
        case rel => exact ⟨i + 1, by omega, by go_num, by rw [HK1.out]⟩
        case measure => simp [intOf]; omega
      · obtain rfl : i = 3 := by omega
        clear hlt
        generalize au (hfK t 3) = u at *
        generalize hfK t 3 = tt at *
        go_wp2
        go_loop [11, 12] (fun q k => ∃ l : Nat, l ≤ 8 ∧ k = .int .i64 (15 - 2 * (l : Int)) ∧ q = .float .f64 (aq u l)) (fun _ k => mO k)
        case atStart => exact ⟨0, by omega, by simp, rfl⟩
        case round =>
          obtain ⟨l, hl, rfl, rfl⟩ := hrel
          by_cases hlt : l < 8
          · obtain ⟨r1, r2⟩ := HQ.out l hlt
            obtain ⟨r1, s1⟩ := opf r1
            obtain ⟨r2, s2⟩ := opf r2
            obtain ⟨o1, o2, _⟩ := ka_step l hlt
            obtain ⟨o1, m1⟩ := opf o1
            obtain ⟨o2, m2⟩ := opf o2
            have o3 := ka_test l (by omega)
            rw [decide_eq_true hlt] at o3
            have o3' : (FloatKind.f64.format.order (Ka l) 4607182418800017408 == some .gt || FloatKind.f64.format.order (Ka l) 4607182418800017408 == some .eq) = true := o3
            have HM := Lib.hid (mA_lt l hlt)
            have hk := ka_int l hlt
            clear o3
            generalize hq4 : aq u (l + 1) = x4 at *
            generalize aq u l = x3 at *
            generalize F .mul u x3 = x5 at *
            generalize Ca l = c at *
            generalize hk1 : Ka (l + 1) = k1 at *
            generalize Ka l = k0 at *
            go_wp2
            go_round
            case rel => exact ⟨l + 1, by omega, by go_num, by rw [hq4]⟩
            case measure => simp [mO]; omega
          · obtain rfl : l = 8 := by omega
            have o3 := ka_test 8 (by omega)
            rw [decide_eq_false hlt] at o3
            have o3' : (FloatKind.f64.format.order (Ka 8) 4607182418800017408 == some .gt || FloatKind.f64.format.order (Ka 8) 4607182418800017408 == some .eq) = false := o3
            clear o3 hlt
            generalize Ka 8 = k0 at *
            generalize aq u 8 = x3 at *
            go_wp2
            go_ret
            exact ⟨ret_float (by first | rfl | simp), rfl⟩
  · have hzy : (FloatKind.f64.format.order Y 0 == some .eq) = false := by
      rcases hz with h | h
      · rw [hzx] at h; cases h
      · exact h
    clear hz
    have P := HPT.out
    have ov := P.over
    obtain ⟨z0, q0⟩ := P.q0
    have qq := P.q
    have tb := P.bd
    have AF := af_ok (hfK_bd tb 3)
    have A1 := an1_ok false AF.bd
    have A2 := an2_ok false A1.2 (an1_lt false AF.bd (Ieee.Format.div_lt Ieee.double AF.n))
    have HHF := Lib.hid (fun k => hf_ok (hfK_bd tb k))
    have HV : Hid (angF (hfK t 3) false false true = angF (hfK t 3) false false true) := Lib.hid rfl
    simp only [Bool.false_eq_true, if_false] at qq
    obtain ⟨q1, q2⟩ := opf qq
    clear q0
    obtain ⟨u1, u2⟩ := opf AF.u
    obtain ⟨p1, p2⟩ := opf AF.p
    obtain ⟨e1, e2⟩ := opf AF.e
    obtain ⟨n1, n2⟩ := opf AF.n
    have e1' : ∀ w, fres .mul .f64 w 4620693217682128896 (ap (hfK t 3)) = a8 (hfK t 3) := e1
    have e2' : fcnt .mul .f64 4620693217682128896 (ap (hfK t 3)) = 0 := e2
    have n1' : ∀ w, fres .quo .f64 w (a8 (hfK t 3)) 4618760256179416344 = an (hfK t 3) := n1
    have n2' : fcnt .quo .f64 (a8 (hfK t 3)) 4618760256179416344 = 0 := n2
    obtain ⟨f1, f2⟩ := opf A1.1
    have f1' : ∀ w, fres .sub .f64 w 4598175219545276416 (an (hfK t 3)) = F .sub Wquarter (an (hfK t 3)) := f1
    have f2' : fcnt .sub .f64 4598175219545276416 (an (hfK t 3)) = 0 := f2
    obtain ⟨g1, g2⟩ := opf A2.1
    have w1 : an1 false (an (hfK t 3)) = an (hfK t 3) := rfl
    rw [w1] at g1 g2
    have g1' : ∀ w, fres .sub .f64 w 4602678819172646912 (an (hfK t 3)) = F .sub Whalf (an (hfK t 3)) := g1
    have g2' : fcnt .sub .f64 4602678819172646912 (an (hfK t 3)) = 0 := g2
    have HQ := Lib.hid AF.q
    have HR : Hid (angF (hfK t 3) false false true = Op.negFloat .f64 ((an (hfK t 3)))) := Lib.hid rfl
    clear P AF A1 A2 e1 e2 n1 n2 f1 f2 g1 g2 w1 qq HPT HV tb
    generalize an (hfK t 3) = v0 at *
    generalize a8 (hfK t 3) = v8 at *
    generalize ap (hfK t 3) = vp at *
    obtain ⟨a, hga⟩ : ∃ a, Y % 9223372036854775808 = a := ⟨_, rfl⟩
    obtain ⟨b, hgb⟩ : ∃ b, X % 9223372036854775808 = b := ⟨_, rfl⟩
    rw [hga, hgb] at ov q1 q2
    have HA := Lib.hid hga
    have HB := Lib.hid hgb
    clear hga hgb
    rw [HR.out]
    go_enter Try.func78, Try.ntmps78
    go_wp2_with (first
      | (go_at_call 52; refine (abs_any Y _ Ylt).mono ?_; rintro e w' ⟨rfl, rfl⟩; rw [HA.out])
      | (go_at_call 52; refine (abs_any X _ Xlt).mono ?_; rintro e w' ⟨rfl, rfl⟩; rw [HB.out]))
    go_loop [8, 9] (fun z k => ∃ i : Nat, i ≤ 3 ∧ k = .int .i64 i ∧ z = .float .f64 (hfK t i)) (fun _ k => 3 - (intOf k).toNat)
    case atStart => exact ⟨0, by omega, rfl, rfl⟩
    case round =>
      obtain ⟨i, hi, rfl, rfl⟩ := hrel
      by_cases hlt : i < 3
      · have H := HHF.out i
        obtain ⟨c1, c2⟩ := opf H.m
        obtain ⟨c3, c4⟩ := opf H.a
        obtain ⟨c5, c6⟩ := opf H.b
        obtain ⟨c7, c8⟩ := opf H.q
        have HSQ := Lib.hid H.s
        have c3' : ∀ w, fres .add .f64 w 4607182418800017408 _ = _ := c3
        have c4' : fcnt .add .f64 4607182418800017408 _ = 0 := c4
        have c5' : ∀ w, fres .add .f64 w 4607182418800017408 _ = _ := c5
        have c6' : fcnt .add .f64 4607182418800017408 _ = 0 := c6
        have hk1 : hfK t (i + 1) = hf (hfK t i) := rfl
        have HK1 := Lib.hid hk1
        clear c3 c4 c5 c6 H hk1
        generalize hf (hfK t i) = t1 at *
        generalize hb (hfK t i) = tb at *
        generalize ha (hfK t i) = ta at *
        generalize sfix ta = ts at *
        generalize hfK t i = t0 at *
        generalize F .mul t0 t0 = tm at *
        go_wp2_with (go_at_call 55; refine (sqrt_num HSQ.out _).mono ?_; rintro e w' ⟨rfl, rfl⟩)
        go_round
        case rel => exact ⟨i + 1, by omega, by go_num, by rw [HK1.out]⟩
        case measure => simp [intOf]; omega
      · obtain rfl : i = 3 := by omega
        clear hlt
        generalize au (hfK t 3) = u at *
        generalize hfK t 3 = tt at *
        go_wp2
        go_loop [11, 12] (fun q k => ∃ l : Nat, l ≤ 8 ∧ k = .int .i64 (15 - 2 * (l : Int)) ∧ q = .float .f64 (aq u l)) (fun _ k => mO k)
        case atStart => exact ⟨0, by omega, by simp, rfl⟩
        case round =>
          obtain ⟨l, hl, rfl, rfl⟩ := hrel
          by_cases hlt : l < 8
          · obtain ⟨r1, r2⟩ := HQ.out l hlt
            obtain ⟨r1, s1⟩ := opf r1
            obtain ⟨r2, s2⟩ := opf r2
            obtain ⟨o1, o2, _⟩ := ka_step l hlt
            obtain ⟨o1, m1⟩ := opf o1
            obtain ⟨o2, m2⟩ := opf o2
            have o3 := ka_test l (by omega)
            rw [decide_eq_true hlt] at o3
            have o3' : (FloatKind.f64.format.order (Ka l) 4607182418800017408 == some .gt || FloatKind.f64.format.order (Ka l) 4607182418800017408 == some .eq) = true := o3
            have HM := Lib.hid (mA_lt l hlt)
            have hk := ka_int l hlt
            clear o3
            generalize hq4 : aq u (l + 1) = x4 at *
            generalize aq u l = x3 at *
            generalize F .mul u x3 = x5 at *
            generalize Ca l = c at *
            generalize hk1 : Ka (l + 1) = k1 at *
            generalize Ka l = k0 at *
            go_wp2
            go_round
            case rel => exact ⟨l + 1, by omega, by go_num, by rw [hq4]⟩
            case measure => simp [mO]; omega
          · obtain rfl : l = 8 := by omega
            have o3 := ka_test 8 (by omega)
            rw [decide_eq_false hlt] at o3
            have o3' : (FloatKind.f64.format.order (Ka 8) 4607182418800017408 == some .gt || FloatKind.f64.format.order (Ka 8) 4607182418800017408 == some .eq) = false := o3
            clear o3 hlt
            generalize Ka 8 = k0 at *
            generalize aq u 8 = x3 at *
            go_wp2
            go_ret
            exact ⟨ret_float (by first | rfl | simp), rfl⟩

set_option maxHeartbeats 4000000 in
set_option maxRecDepth 100000 in
theorem wide_ftf (Y X t : Nat) (HPT : Hid (Pt Y X t false)) (Ylt : Y < 18446744073709551616) (Xlt : X < 18446744073709551616) (w : World)
    (hyy : floatBits .sub .f64 Y Y = some 0) (hxx : floatBits .sub .f64 X X = some 0) (hz : (FloatKind.f64.format.order X 0 == some .eq) = false ∨ (FloatKind.f64.format.order Y 0 == some .eq) = false)
    (o2 : (FloatKind.f64.format.order X 0 == some .lt) = true) (o3 : (FloatKind.f64.format.order Y 0 == some .lt) = false) :
    Calls Try.prog 78 #[.float .f64 Y, .float .f64 X] w fun e w' => e = .returned (.float .f64 (angF (hfK t 3) false true false)) ∧ w = w' := by
  obtain ⟨y1, y2⟩ := opf hyy
  obtain ⟨x1, x2⟩ := opf hxx
  have o00 : (FloatKind.f64.format.order 0 0 != some .eq) = false := by decide +kernel
  clear hyy hxx
  cases hzx : (FloatKind.f64.format.order X 0 == some .eq)
  · clear hz
    have P := HPT.out
    have ov := P.over
    obtain ⟨z0, q0⟩ := P.q0
    have qq := P.q
    have tb := P.bd
    have AF := af_ok (hfK_bd tb 3)
    have A1 := an1_ok false AF.bd
    have A2 := an2_ok true A1.2 (an1_lt false AF.bd (Ieee.Format.div_lt Ieee.double AF.n))
    have HHF := Lib.hid (fun k => hf_ok (hfK_bd tb k))
    have HV : Hid (angF (hfK t 3) false true false = angF (hfK t 3) false true false) := Lib.hid rfl
    simp only [Bool.false_eq_true, if_false] at qq
    obtain ⟨q1, q2⟩ := opf qq
    clear q0
    obtain ⟨u1, u2⟩ := opf AF.u
    obtain ⟨p1, p2⟩ := opf AF.p
    obtain ⟨e1, e2⟩ := opf AF.e
    obtain ⟨n1, n2⟩ := opf AF.n
    have e1' : ∀ w, fres .mul .f64 w 4620693217682128896 (ap (hfK t 3)) = a8 (hfK t 3) := e1
    have e2' : fcnt .mul .f64 4620693217682128896 (ap (hfK t 3)) = 0 := e2
    have n1' : ∀ w, fres .quo .f64 w (a8 (hfK t 3)) 4618760256179416344 = an (hfK t 3) := n1
    have n2' : fcnt .quo .f64 (a8 (hfK t 3)) 4618760256179416344 = 0 := n2
    obtain ⟨f1, f2⟩ := opf A1.1
    have f1' : ∀ w, fres .sub .f64 w 4598175219545276416 (an (hfK t 3)) = F .sub Wquarter (an (hfK t 3)) := f1
    have f2' : fcnt .sub .f64 4598175219545276416 (an (hfK t 3)) = 0 := f2
    obtain ⟨g1, g2⟩ := opf A2.1
    have w1 : an1 false (an (hfK t 3)) = an (hfK t 3) := rfl
    rw [w1] at g1 g2
    have g1' : ∀ w, fres .sub .f64 w 4602678819172646912 (an (hfK t 3)) = F .sub Whalf (an (hfK t 3)) := g1
    have g2' : fcnt .sub .f64 4602678819172646912 (an (hfK t 3)) = 0 := g2
    have HQ := Lib.hid AF.q
    have HR : Hid (angF (hfK t 3) false true false = (F .sub Whalf (an (hfK t 3)))) := Lib.hid rfl
    clear P AF A1 A2 e1 e2 n1 n2 f1 f2 g1 g2 w1 qq HPT HV tb
    generalize an (hfK t 3) = v0 at *
    generalize a8 (hfK t 3) = v8 at *
    generalize ap (hfK t 3) = vp at *
    generalize F .sub Whalf v0 = vh at *
    obtain ⟨a, hga⟩ : ∃ a, Y % 9223372036854775808 = a := ⟨_, rfl⟩
    obtain ⟨b, hgb⟩ : ∃ b, X % 9223372036854775808 = b := ⟨_, rfl⟩
    rw [hga, hgb] at ov q1 q2
    have HA := Lib.hid hga
    have HB := Lib.hid hgb
    clear hga hgb
    rw [HR.out]
    go_enter Try.func78, Try.ntmps78
    go_wp2_with (first
      | (go_at_call 52; refine (abs_any Y _ Ylt).mono ?_; rintro e w' ⟨rfl, rfl⟩; rw [HA.out])
      | (go_at_call 52; refine (abs_any X _ Xlt).mono ?_; rintro e w' ⟨rfl, rfl⟩; rw [HB.out]))
    go_loop [8, 9] (fun z k => ∃ i : Nat, i ≤ 3 ∧ k = .int .i64 i ∧ z = .float .f64 (hfK t i)) (fun _ k => 3 - (intOf k).toNat)
    case atStart => exact ⟨0, by omega, rfl, rfl⟩
    case round =>
      obtain ⟨i, hi, rfl, rfl⟩ := hrel
      by_cases hlt : i < 3
      · have H := HHF.out i
        obtain ⟨c1, c2⟩ := opf H.m
        obtain ⟨c3, c4⟩ := opf H.a
        obtain ⟨c5, c6⟩ := opf H.b
        obtain ⟨c7, c8⟩ := opf H.q
        have HSQ := Lib.hid H.s
        have c3' : ∀ w, fres .add .f64 w 4607182418800017408 _ = _ := c3
        have c4' : fcnt .add .f64 4607182418800017408 _ = 0 := c4
        have c5' : ∀ w, fres .add .f64 w 4607182418800017408 _ = _ := c5
        have c6' : fcnt .add .f64 4607182418800017408 _ = 0 := c6
        have hk1 : hfK t (i + 1) = hf (hfK t i) := rfl
        have HK1 := Lib.hid hk1
        clear c3 c4 c5 c6 H hk1
        generalize hf (hfK t i) = t1 at *
        generalize hb (hfK t i) = tb at *
        generalize ha (hfK t i) = ta at *
        generalize sfix ta = ts at *
        generalize hfK t i = t0 at *
        generalize F .mul t0 t0 = tm at *
        go_wp2_with (go_at_call 55; refine (sqrt_num HSQ.out _).mono ?_; rintro e w' ⟨rfl, rfl⟩)
        go_round
        case rel => exact ⟨i + 1, by omega, by go_num, by rw [HK1.out]⟩
        case measure => simp [intOf]; omega
      · obtain rfl : i = 3 := by omega
        clear hlt
        generalize au (hfK t 3) = u at *
        generalize hfK t 3 = tt at *
        go_wp2
        go_loop [11, 12] (fun q k => ∃ l : Nat, l ≤ 8 ∧ k = .int .i64 (15 - 2 * (l : Int)) ∧ q = .float .f64 (aq u l)) (fun _ k => mO k)
        case atStart => exact ⟨0, by omega, by simp, rfl⟩
        case round =>
          obtain ⟨l, hl, rfl, rfl⟩ := hrel
          by_cases hlt : l < 8
          · obtain ⟨r1, r2⟩ := HQ.out l hlt
            obtain ⟨r1, s1⟩ := opf r1
            obtain ⟨r2, s2⟩ := opf r2
            obtain ⟨o1, o2, _⟩ := ka_step l hlt
            obtain ⟨o1, m1⟩ := opf o1
            obtain ⟨o2, m2⟩ := opf o2
            have o3 := ka_test l (by omega)
            rw [decide_eq_true hlt] at o3
            have o3' : (FloatKind.f64.format.order (Ka l) 4607182418800017408 == some .gt || FloatKind.f64.format.order (Ka l) 4607182418800017408 == some .eq) = true := o3
            have HM := Lib.hid (mA_lt l hlt)
            have hk := ka_int l hlt
            clear o3
            generalize hq4 : aq u (l + 1) = x4 at *
            generalize aq u l = x3 at *
            generalize F .mul u x3 = x5 at *
            generalize Ca l = c at *
            generalize hk1 : Ka (l + 1) = k1 at *
            generalize Ka l = k0 at *
            go_wp2
            go_round
            case rel => exact ⟨l + 1, by omega, by go_num, by rw [hq4]⟩
            case measure => simp [mO]; omega
          · obtain rfl : l = 8 := by omega
            have o3 := ka_test 8 (by omega)
            rw [decide_eq_false hlt] at o3
            have o3' : (FloatKind.f64.format.order (Ka 8) 4607182418800017408 == some .gt || FloatKind.f64.format.order (Ka 8) 4607182418800017408 == some .eq) = false := o3
            clear o3 hlt
            generalize Ka 8 = k0 at *
            generalize aq u 8 = x3 at *
            go_wp2
            go_ret
            exact ⟨ret_float (by first | rfl | simp), rfl⟩
  · have hzy : (FloatKind.f64.format.order Y 0 == some .eq) = false := by
      rcases hz with h | h
      · rw [hzx] at h; cases h
      · exact h
    clear hz
    have P := HPT.out
    have ov := P.over
    obtain ⟨z0, q0⟩ := P.q0
    have qq := P.q
    have tb := P.bd
    have AF := af_ok (hfK_bd tb 3)
    have A1 := an1_ok false AF.bd
    have A2 := an2_ok true A1.2 (an1_lt false AF.bd (Ieee.Format.div_lt Ieee.double AF.n))
    have HHF := Lib.hid (fun k => hf_ok (hfK_bd tb k))
    have HV : Hid (angF (hfK t 3) false true false = angF (hfK t 3) false true false) := Lib.hid rfl
    simp only [Bool.false_eq_true, if_false] at qq
    obtain ⟨q1, q2⟩ := opf qq
    clear q0
    obtain ⟨u1, u2⟩ := opf AF.u
    obtain ⟨p1, p2⟩ := opf AF.p
    obtain ⟨e1, e2⟩ := opf AF.e
    obtain ⟨n1, n2⟩ := opf AF.n
    have e1' : ∀ w, fres .mul .f64 w 4620693217682128896 (ap (hfK t 3)) = a8 (hfK t 3) := e1
    have e2' : fcnt .mul .f64 4620693217682128896 (ap (hfK t 3)) = 0 := e2
    have n1' : ∀ w, fres .quo .f64 w (a8 (hfK t 3)) 4618760256179416344 = an (hfK t 3) := n1
    have n2' : fcnt .quo .f64 (a8 (hfK t 3)) 4618760256179416344 = 0 := n2
    obtain ⟨f1, f2⟩ := opf A1.1
    have f1' : ∀ w, fres .sub .f64 w 4598175219545276416 (an (hfK t 3)) = F .sub Wquarter (an (hfK t 3)) := f1
    have f2' : fcnt .sub .f64 4598175219545276416 (an (hfK t 3)) = 0 := f2
    obtain ⟨g1, g2⟩ := opf A2.1
    have w1 : an1 false (an (hfK t 3)) = an (hfK t 3) := rfl
    rw [w1] at g1 g2
    have g1' : ∀ w, fres .sub .f64 w 4602678819172646912 (an (hfK t 3)) = F .sub Whalf (an (hfK t 3)) := g1
    have g2' : fcnt .sub .f64 4602678819172646912 (an (hfK t 3)) = 0 := g2
    have HQ := Lib.hid AF.q
    have HR : Hid (angF (hfK t 3) false true false = (F .sub Whalf (an (hfK t 3)))) := Lib.hid rfl
    clear P AF A1 A2 e1 e2 n1 n2 f1 f2 g1 g2 w1 qq HPT HV tb
    generalize an (hfK t 3) = v0 at *
    generalize a8 (hfK t 3) = v8 at *
    generalize ap (hfK t 3) = vp at *
    generalize F .sub Whalf v0 = vh at *
    obtain ⟨a, hga⟩ : ∃ a, Y % 9223372036854775808 = a := ⟨_, rfl⟩
    obtain ⟨b, hgb⟩ : ∃ b, X % 9223372036854775808 = b := ⟨_, rfl⟩
    rw [hga, hgb] at ov q1 q2
    have HA := Lib.hid hga
    have HB := Lib.hid hgb
    clear hga hgb
    rw [HR.out]
    go_enter Try.func78, Try.ntmps78
    go_wp2_with (first
      | (go_at_call 52; refine (abs_any Y _ Ylt).mono ?_; rintro e w' ⟨rfl, rfl⟩; rw [HA.out])
      | (go_at_call 52; refine (abs_any X _ Xlt).mono ?_; rintro e w' ⟨rfl, rfl⟩; rw [HB.out]))
    go_loop [8, 9] (fun z k => ∃ i : Nat, i ≤ 3 ∧ k = .int .i64 i ∧ z = .float .f64 (hfK t i)) (fun _ k => 3 - (intOf k).toNat)
    case atStart => exact ⟨0, by omega, rfl, rfl⟩
    case round =>
      obtain ⟨i, hi, rfl, rfl⟩ := hrel
      by_cases hlt : i < 3
      · have H := HHF.out i
        obtain ⟨c1, c2⟩ := opf H.m
        obtain ⟨c3, c4⟩ := opf H.a
        obtain ⟨c5, c6⟩ := opf H.b
        obtain ⟨c7, c8⟩ := opf H.q
        have HSQ := Lib.hid H.s
        have c3' : ∀ w, fres .add .f64 w 4607182418800017408 _ = _ := c3
        have c4' : fcnt .add .f64 4607182418800017408 _ = 0 := c4
        have c5' : ∀ w, fres .add .f64 w 4607182418800017408 _ = _ := c5
        have c6' : fcnt .add .f64 4607182418800017408 _ = 0 := c6
        have hk1 : hfK t (i + 1) = hf (hfK t i) := rfl
        have HK1 := Lib.hid hk1
        clear c3 c4 c5 c6 H hk1
        generalize hf (hfK t i) = t1 at *
        generalize hb (hfK t i) = tb at *
        generalize ha (hfK t i) = ta at *
        generalize sfix ta = ts at *
        generalize hfK t i = t0 at *
        generalize F .mul t0 t0 = tm at *
        go_wp2_with (go_at_call 55; refine (sqrt_num HSQ.out _).mono ?_; rintro e w' ⟨rfl, rfl⟩)
        go_round
        case rel => exact ⟨i + 1, by omega, by go_num, by rw [HK1.out]⟩
        case measure => simp [intOf]; omega
      · obtain rfl : i = 3 := by omega
        clear hlt
        generalize au (hfK t 3) = u at *
        generalize hfK t 3 = tt at *
        go_wp2
        go_loop [11, 12] (fun q k => ∃ l : Nat, l ≤ 8 ∧ k = .int .i64 (15 - 2 * (l : Int)) ∧ q = .float .f64 (aq u l)) (fun _ k => mO k)
        case atStart => exact ⟨0, by omega, by simp, rfl⟩
        case round =>
          obtain ⟨l, hl, rfl, rfl⟩ := hrel
          by_cases hlt : l < 8
          · obtain ⟨r1, r2⟩ := HQ.out l hlt
            obtain ⟨r1, s1⟩ := opf r1
            obtain ⟨r2, s2⟩ := opf r2
            obtain ⟨o1, o2, _⟩ := ka_step l hlt
            obtain ⟨o1, m1⟩ := opf o1
            obtain ⟨o2, m2⟩ := opf o2
            have o3 := ka_test l (by omega)
            rw [decide_eq_true hlt] at o3
            have o3' : (FloatKind.f64.format.order (Ka l) 4607182418800017408 == some .gt || FloatKind.f64.format.order (Ka l) 4607182418800017408 == some .eq) = true := o3
            have HM := Lib.hid (mA_lt l hlt)
            have hk := ka_int l hlt
            clear o3
            generalize hq4 : aq u (l + 1) = x4 at *
            generalize aq u l = x3 at *
            generalize F .mul u x3 = x5 at *
            generalize Ca l = c at *
            generalize hk1 : Ka (l + 1) = k1 at *
            generalize Ka l = k0 at *
            go_wp2
            go_round
            case rel => exact ⟨l + 1, by omega, by go_num, by rw [hq4]⟩
            case measure => simp [mO]; omega
          · obtain rfl : l = 8 := by omega
            have o3 := ka_test 8 (by omega)
            rw [decide_eq_false hlt] at o3
            have o3' : (FloatKind.f64.format.order (Ka 8) 4607182418800017408 == some .gt || FloatKind.f64.format.order (Ka 8) 4607182418800017408 == some .eq) = false := o3
            clear o3 hlt
            generalize Ka 8 = k0 at *
            generalize aq u 8 = x3 at *
            go_wp2
            go_ret
            exact ⟨ret_float (by first | rfl | simp), rfl⟩

set_option maxHeartbeats 4000000 in
set_option maxRecDepth 100000 in
theorem wide_ftt (Y X t : Nat) (HPT : Hid (Pt Y X t false)) (Ylt : Y < 18446744073709551616) (Xlt : X < 18446744073709551616) (w : World)
    (hyy : floatBits .sub .f64 Y Y = some 0) (hxx : floatBits .sub .f64 X X = some 0) (hz : (FloatKind.f64.format.order X 0 == some .eq) = false ∨ (FloatKind.f64.format.order Y 0 == some .eq) = false)
    (o2 : (FloatKind.f64.format.order X 0 == some .lt) = true) (o3 : (FloatKind.f64.format.order Y 0 == some .lt) = true) :
    Calls Try.prog 78 #[.float .f64 Y, .float .f64 X] w fun e w' => e = .returned (.float .f64 (angF (hfK t 3) false true true)) ∧ w = w' := by
  obtain ⟨y1, y2⟩ := opf hyy
  obtain ⟨x1, x2⟩ := opf hxx
  have o00 : (FloatKind.f64.format.order 0 0 != some .eq) = false := by decide +kernel
  clear hyy hxx
  cases hzx : (FloatKind.f64.format.order X 0 == some .eq)
  · clear hz
    have P := HPT.out
    have ov := P.over
    obtain ⟨z0, q0⟩ := P.q0
    have qq := P.q
    have tb := P.bd
    have AF := af_ok (hfK_bd tb 3)
    have A1 := an1_ok false AF.bd
    have A2 := an2_ok true A1.2 (an1_lt false AF.bd (Ieee.Format.div_lt Ieee.double AF.n))
    have HHF := Lib.hid (fun k => hf_ok (hfK_bd tb k))
    have HV : Hid (angF (hfK t 3) false true true = angF (hfK t 3) false true true) := Lib.hid rfl
    simp only [Bool.false_eq_true, if_false] at qq
    obtain ⟨q1, q2⟩ := opf qq
    clear q0
    obtain ⟨u1, u2⟩ := opf AF.u
    obtain ⟨p1, p2⟩ := opf AF.p
    obtain ⟨e1, e2⟩ := opf AF.e
    obtain ⟨n1, n2⟩ := opf AF.n
    have e1' : ∀ w, fres .mul .f64 w 4620693217682128896 (ap (hfK t 3)) = a8 (hfK t 3) := e1
    have e2' : fcnt .mul .f64 4620693217682128896 (ap (hfK t 3)) = 0 := e2
    have n1' : ∀ w, fres .quo .f64 w (a8 (hfK t 3)) 4618760256179416344 = an (hfK t 3) := n1
    have n2' : fcnt .quo .f64 (a8 (hfK t 3)) 4618760256179416344 = 0 := n2
    obtain ⟨f1, f2⟩ := opf A1.1
    have f1' : ∀ w, fres .sub .f64 w 4598175219545276416 (an (hfK t 3)) = F .sub Wquarter (an (hfK t 3)) := f1
    have f2' : fcnt .sub .f64 4598175219545276416 (an (hfK t 3)) = 0 := f2
    obtain ⟨g1, g2⟩ := opf A2.1
    have w1 : an1 false (an (hfK t 3)) = an (hfK t 3) := rfl
    rw [w1] at g1 g2
    have g1' : ∀ w, fres .sub .f64 w 4602678819172646912 (an (hfK t 3)) = F .sub Whalf (an (hfK t 3)) := g1
    have g2' : fcnt .sub .f64 4602678819172646912 (an (hfK t 3)) = 0 := g2
    have HQ := Lib.hid AF.q
    have HR : Hid (angF (hfK t 3) false true true = Op.negFloat .f64 (F .sub Whalf (an (hfK t 3)))) := Lib.hid rfl
    clear P AF A1 A2 e1 e2 n1 n2 f1 f2 g1 g2 w1 qq HPT HV tb
    generalize an (hfK t 3) = v0 at *
    generalize a8 (hfK t 3) = v8 at *
    generalize ap (hfK t 3) = vp at *
    generalize F .sub Whalf v0 = vh at *
    obtain ⟨a, hga⟩ : ∃ a, Y % 9223372036854775808 = a := ⟨_, rfl⟩
    obtain ⟨b, hgb⟩ : ∃ b, X % 9223372036854775808 = b := ⟨_, rfl⟩
    rw [hga, hgb] at ov q1 q2
    have HA := Lib.hid hga
    have HB := Lib.hid hgb
    clear hga hgb
    rw [HR.out]
    go_enter Try.func78, Try.ntmps78
    go_wp2_with (first
      | (go_at_call 52; refine (abs_any Y _ Ylt).mono ?_; rintro e w' ⟨rfl, rfl⟩; rw [HA.out])
      | (go_at_call 52; refine (abs_any X _ Xlt).mono ?_; rintro e w' ⟨rfl, rfl⟩; rw [HB.out]))
    go_loop [8, 9] (fun z k => ∃ i : Nat, i ≤ 3 ∧ k = .int .i64 i ∧ z = .float .f64 (hfK t i)) (fun _ k => 3 - (intOf k).toNat)
    case atStart => exact ⟨0, by omega, rfl, rfl⟩
    case round =>
      obtain ⟨i, hi, rfl, rfl⟩ := hrel
      by_cases hlt : i < 3
      · have H := HHF.out i
        obtain ⟨c1, c2⟩ := opf H.m
        obtain ⟨c3, c4⟩ := opf H.a
        obtain ⟨c5, c6⟩ := opf H.b
        obtain ⟨c7, c8⟩ := opf H.q
        have HSQ := Lib.hid H.s
        have c3' : ∀ w, fres .add .f64 w 4607182418800017408 _ = _ := c3
        have c4' : fcnt .add .f64 4607182418800017408 _ = 0 := c4
        have c5' : ∀ w, fres .add .f64 w 4607182418800017408 _ = _ := c5
        have c6' : fcnt .add .f64 4607182418800017408 _ = 0 := c6
        have hk1 : hfK t (i + 1) = hf (hfK t i) := rfl
        have HK1 := Lib.hid hk1
        clear c3 c4 c5 c6 H hk1
        generalize hf (hfK t i) = t1 at *
        generalize hb (hfK t i) = tb at *
        generalize ha (hfK t i) = ta at *
        generalize sfix ta = ts at *
        generalize hfK t i = t0 at *
        generalize F .mul t0 t0 = tm at *
        go_wp2_with (go_at_call 55; refine (sqrt_num HSQ.out _).mono ?_; rintro e w' ⟨rfl, rfl⟩)
        go_round
        case rel => exact ⟨i + 1, by omega, by go_num, by rw [HK1.out]⟩
        case measure => simp [intOf]; omega
      · obtain rfl : i = 3 := by omega
        clear hlt
        generalize au (hfK t 3) = u at *
        generalize hfK t 3 = tt at *
        go_wp2
        go_loop [11, 12] (fun q k => ∃ l : Nat, l ≤ 8 ∧ k = .int .i64 (15 - 2 * (l : Int)) ∧ q = .float .f64 (aq u l)) (fun _ k => mO k)
        case atStart => exact ⟨0, by omega, by simp, rfl⟩
        case round =>
          obtain ⟨l, hl, rfl, rfl⟩ := hrel
          by_cases hlt : l < 8
          · obtain ⟨r1, r2⟩ := HQ.out l hlt
            obtain ⟨r1, s1⟩ := opf r1
            obtain ⟨r2, s2⟩ := opf r2
            obtain ⟨o1, o2, _⟩ := ka_step l hlt
            obtain ⟨o1, m1⟩ := opf o1
            obtain ⟨o2, m2⟩ := opf o2
            have o3 := ka_test l (by omega)
            rw [decide_eq_true hlt] at o3
            have o3' : (FloatKind.f64.format.order (Ka l) 4607182418800017408 == some .gt || FloatKind.f64.format.order (Ka l) 4607182418800017408 == some .eq) = true := o3
            have HM := Lib.hid (mA_lt l hlt)
            have hk := ka_int l hlt
            clear o3
            generalize hq4 : aq u (l + 1) = x4 at *
            generalize aq u l = x3 at *
            generalize F .mul u x3 = x5 at *
            generalize Ca l = c at *
            generalize hk1 : Ka (l + 1) = k1 at *
            generalize Ka l = k0 at *
            go_wp2
            go_round
            case rel => exact ⟨l + 1, by omega, by go_num, by rw [hq4]⟩
            case measure => simp [mO]; omega
          · obtain rfl : l = 8 := by omega
            have o3 := ka_test 8 (by omega)
            rw [decide_eq_false hlt] at o3
            have o3' : (FloatKind.f64.format.order (Ka 8) 4607182418800017408 == some .gt || FloatKind.f64.format.order (Ka 8) 4607182418800017408 == some .eq) = false := o3
            clear o3 hlt
            generalize Ka 8 = k0 at *
            generalize aq u 8 = x3 at *
            go_wp2
            go_ret
            exact ⟨ret_float (by first | rfl | simp), rfl⟩
  · have hzy : (FloatKind.f64.format.order Y 0 == some .eq) = false := by
      rcases hz with h | h
      · rw [hzx] at h; cases h
      · exact h
    clear hz
    have P := HPT.out
    have ov := P.over
    obtain ⟨z0, q0⟩ := P.q0
    have qq := P.q
    have tb := P.bd
    have AF := af_ok (hfK_bd tb 3)
    have A1 := an1_ok false AF.bd
    have A2 := an2_ok true A1.2 (an1_lt false AF.bd (Ieee.Format.div_lt Ieee.double AF.n))
    have HHF := Lib.hid (fun k => hf_ok (hfK_bd tb k))
    have HV : Hid (angF (hfK t 3) false true true = angF (hfK t 3) false true true) := Lib.hid rfl
    simp only [Bool.false_eq_true, if_false] at qq
    obtain ⟨q1, q2⟩ := opf qq
    clear q0
    obtain ⟨u1, u2⟩ := opf AF.u
    obtain ⟨p1, p2⟩ := opf AF.p
    obtain ⟨e1, e2⟩ := opf AF.e
    obtain ⟨n1, n2⟩ := opf AF.n
    have e1' : ∀ w, fres .mul .f64 w 4620693217682128896 (ap (hfK t 3)) = a8 (hfK t 3) := e1
    have e2' : fcnt .mul .f64 4620693217682128896 (ap (hfK t 3)) = 0 := e2
    have n1' : ∀ w, fres .quo .f64 w (a8 (hfK t 3)) 4618760256179416344 = an (hfK t 3) := n1
    have n2' : fcnt .quo .f64 (a8 (hfK t 3)) 4618760256179416344 = 0 := n2
    obtain ⟨f1, f2⟩ := opf A1.1
    have f1' : ∀ w, fres .sub .f64 w 4598175219545276416 (an (hfK t 3)) = F .sub Wquarter (an (hfK t 3)) := f1
    have f2' : fcnt .sub .f64 4598175219545276416 (an (hfK t 3)) = 0 := f2
    obtain ⟨g1, g2⟩ := opf A2.1
    have w1 : an1 false (an (hfK t 3)) = an (hfK t 3) := rfl
    rw [w1] at g1 g2
    have g1' : ∀ w, fres .sub .f64 w 4602678819172646912 (an (hfK t 3)) = F .sub Whalf (an (hfK t 3)) := g1
    have g2' : fcnt .sub .f64 4602678819172646912 (an (hfK t 3)) = 0 := g2
    have HQ := Lib.hid AF.q
    have HR : Hid (angF (hfK t 3) false true true = Op.negFloat .f64 (F .sub Whalf (an (hfK t 3)))) := Lib.hid rfl
    clear P AF A1 A2 e1 e2 n1 n2 f1 f2 g1 g2 w1 qq HPT HV tb
    generalize an (hfK t 3) = v0 at *
    generalize a8 (hfK t 3) = v8 at *
    generalize ap (hfK t 3) = vp at *
    generalize F .sub Whalf v0 = vh at *
    obtain ⟨a, hga⟩ : ∃ a, Y % 9223372036854775808 = a := ⟨_, rfl⟩
    obtain ⟨b, hgb⟩ : ∃ b, X % 9223372036854775808 = b := ⟨_, rfl⟩
    rw [hga, hgb] at ov q1 q2
    have HA := Lib.hid hga
    have HB := Lib.hid hgb
    clear hga hgb
    rw [HR.out]
    go_enter Try.func78, Try.ntmps78
    go_wp2_with (first
      | (go_at_call 52; refine (abs_any Y _ Ylt).mono ?_; rintro e w' ⟨rfl, rfl⟩; rw [HA.out])
      | (go_at_call 52; refine (abs_any X _ Xlt).mono ?_; rintro e w' ⟨rfl, rfl⟩; rw [HB.out]))
    go_loop [8, 9] (fun z k => ∃ i : Nat, i ≤ 3 ∧ k = .int .i64 i ∧ z = .float .f64 (hfK t i)) (fun _ k => 3 - (intOf k).toNat)
    case atStart => exact ⟨0, by omega, rfl, rfl⟩
    case round =>
      obtain ⟨i, hi, rfl, rfl⟩ := hrel
      by_cases hlt : i < 3
      · have H := HHF.out i
        obtain ⟨c1, c2⟩ := opf H.m
        obtain ⟨c3, c4⟩ := opf H.a
        obtain ⟨c5, c6⟩ := opf H.b
        obtain ⟨c7, c8⟩ := opf H.q
        have HSQ := Lib.hid H.s
        have c3' : ∀ w, fres .add .f64 w 4607182418800017408 _ = _ := c3
        have c4' : fcnt .add .f64 4607182418800017408 _ = 0 := c4
        have c5' : ∀ w, fres .add .f64 w 4607182418800017408 _ = _ := c5
        have c6' : fcnt .add .f64 4607182418800017408 _ = 0 := c6
        have hk1 : hfK t (i + 1) = hf (hfK t i) := rfl
        have HK1 := Lib.hid hk1
        clear c3 c4 c5 c6 H hk1
        generalize hf (hfK t i) = t1 at *
        generalize hb (hfK t i) = tb at *
        generalize ha (hfK t i) = ta at *
        generalize sfix ta = ts at *
        generalize hfK t i = t0 at *
        generalize F .mul t0 t0 = tm at *
        go_wp2_with (go_at_call 55; refine (sqrt_num HSQ.out _).mono ?_; rintro e w' ⟨rfl, rfl⟩)
        go_round
        case rel => exact ⟨i + 1, by omega, by go_num, by rw [HK1.out]⟩
        case measure => simp [intOf]; omega
      · obtain rfl : i = 3 := by omega
        clear hlt
        generalize au (hfK t 3) = u at *
        generalize hfK t 3 = tt at *
        go_wp2
        go_loop [11, 12] (fun q k => ∃ l : Nat, l ≤ 8 ∧ k = .int .i64 (15 - 2 * (l : Int)) ∧ q = .float .f64 (aq u l)) (fun _ k => mO k)
        case atStart => exact ⟨0, by omega, by simp, rfl⟩
        case round =>
          obtain ⟨l, hl, rfl, rfl⟩ := hrel
          by_cases hlt : l < 8
          · obtain ⟨r1, r2⟩ := HQ.out l hlt
            obtain ⟨r1, s1⟩ := opf r1
            obtain ⟨r2, s2⟩ := opf r2
            obtain ⟨o1, o2, _⟩ := ka_step l hlt
            obtain ⟨o1, m1⟩ := opf o1
            obtain ⟨o2, m2⟩ := opf o2
            have o3 := ka_test l (by omega)
            rw [decide_eq_true hlt] at o3
            have o3' : (FloatKind.f64.format.order (Ka l) 4607182418800017408 == some .gt || FloatKind.f64.format.order (Ka l) 4607182418800017408 == some .eq) = true := o3
            have HM := Lib.hid (mA_lt l hlt)
            have hk := ka_int l hlt
            clear o3
            generalize hq4 : aq u (l + 1) = x4 at *
            generalize aq u l = x3 at *
            generalize F .mul u x3 = x5 at *
            generalize Ca l = c at *
            generalize hk1 : Ka (l + 1) = k1 at *
            generalize Ka l = k0 at *
            go_wp2
            go_round
            case rel => exact ⟨l + 1, by omega, by go_num, by rw [hq4]⟩
            case measure => simp [mO]; omega
          · obtain rfl : l = 8 := by omega
            have o3 := ka_test 8 (by omega)
            rw [decide_eq_false hlt] at o3
            have o3' : (FloatKind.f64.format.order (Ka 8) 4607182418800017408 == some .gt || FloatKind.f64.format.order (Ka 8) 4607182418800017408 == some .eq) = false := o3
            clear o3 hlt
            generalize Ka 8 = k0 at *
            generalize aq u 8 = x3 at *
            go_wp2
            go_ret
            exact ⟨ret_float (by first | rfl | simp), rfl⟩

set_option maxHeartbeats 4000000 in
set_option maxRecDepth 100000 in
theorem wide_tff (Y X t : Nat) (HPT : Hid (Pt Y X t true)) (Ylt : Y < 18446744073709551616) (Xlt : X < 18446744073709551616) (w : World)
    (hyy : floatBits .sub .f64 Y Y = some 0) (hxx : floatBits .sub .f64 X X = some 0) (hz : (FloatKind.f64.format.order X 0 == some .eq) = false ∨ (FloatKind.f64.format.order Y 0 == some .eq) = false)
    (o2 : (FloatKind.f64.format.order X 0 == some .lt) = false) (o3 : (FloatKind.f64.format.order Y 0 == some .lt) = false) :
    Calls Try.prog 78 #[.float .f64 Y, .float .f64 X] w fun e w' => e = .returned (.float .f64 (angF (hfK t 3) true false false)) ∧ w = w' := by
  obtain ⟨y1, y2⟩ := opf hyy
  obtain ⟨x1, x2⟩ := opf hxx
  have o00 : (FloatKind.f64.format.order 0 0 != some .eq) = false := by decide +kernel
  clear hyy hxx
  cases hzx : (FloatKind.f64.format.order X 0 == some .eq)
  · clear hz
    have P := HPT.out
    have ov := P.over
    obtain ⟨z0, q0⟩ := P.q0
    have qq := P.q
    have tb := P.bd
    have AF := af_ok (hfK_bd tb 3)
    have A1 := an1_ok true AF.bd
    have A2 := an2_ok false A1.2 (an1_lt true AF.bd (Ieee.Format.div_lt Ieee.double AF.n))
    have HHF := Lib.hid (fun k => hf_ok (hfK_bd tb k))
    have HV : Hid (angF (hfK t 3) true false false = angF (hfK t 3) true false false) := Lib.hid rfl
    simp only [if_true] at qq
    obtain ⟨q1, q2⟩ := opf qq
    obtain ⟨q3, q4⟩ := opf q0
    obtain ⟨u1, u2⟩ := opf AF.u
    obtain ⟨p1, p2⟩ := opf AF.p
    obtain ⟨e1, e2⟩ := opf AF.e
    obtain ⟨n1, n2⟩ := opf AF.n
    have e1' : ∀ w, fres .mul .f64 w 4620693217682128896 (ap (hfK t 3)) = a8 (hfK t 3) := e1
    have e2' : fcnt .mul .f64 4620693217682128896 (ap (hfK t 3)) = 0 := e2
    have n1' : ∀ w, fres .quo .f64 w (a8 (hfK t 3)) 4618760256179416344 = an (hfK t 3) := n1
    have n2' : fcnt .quo .f64 (a8 (hfK t 3)) 4618760256179416344 = 0 := n2
    obtain ⟨f1, f2⟩ := opf A1.1
    have f1' : ∀ w, fres .sub .f64 w 4598175219545276416 (an (hfK t 3)) = F .sub Wquarter (an (hfK t 3)) := f1
    have f2' : fcnt .sub .f64 4598175219545276416 (an (hfK t 3)) = 0 := f2
    obtain ⟨g1, g2⟩ := opf A2.1
    have w1 : an1 true (an (hfK t 3)) = F .sub Wquarter (an (hfK t 3)) := rfl
    rw [w1] at g1 g2
    have g1' : ∀ w, fres .sub .f64 w 4602678819172646912 (F .sub Wquarter (an (hfK t 3))) = F .sub Whalf (F .sub Wquarter (an (hfK t 3))) := g1
    have g2' : fcnt .sub .f64 4602678819172646912 (F .sub Wquarter (an (hfK t 3))) = 0 := g2
    have HQ := Lib.hid AF.q
    have HR : Hid (angF (hfK t 3) true false false = ((F .sub Wquarter (an (hfK t 3))))) := Lib.hid rfl
    clear P AF A1 A2 e1 e2 n1 n2 f1 f2 g1 g2 w1 qq q0 HPT HV tb
    generalize an (hfK t 3) = v0 at *
    generalize a8 (hfK t 3) = v8 at *
    generalize ap (hfK t 3) = vp at *
    generalize F .sub Wquarter v0 = vq at *
    obtain ⟨a, hga⟩ : ∃ a, Y % 9223372036854775808 = a := ⟨_, rfl⟩
    obtain ⟨b, hgb⟩ : ∃ b, X % 9223372036854775808 = b := ⟨_, rfl⟩
    rw [hga, hgb] at ov q1 q2 q3 q4
    have HA := Lib.hid hga
    have HB := Lib.hid hgb
    clear hga hgb
    rw [HR.out]
    go_enter Try.func78, Try.ntmps78
    go_wp2_with (first
      | (go_at_call 52; refine (abs_any Y _ Ylt).mono ?_; rintro e w' ⟨rfl, rfl⟩; rw [HA.out])
      | (go_at_call 52; refine (abs_any X _ Xlt).mono ?_; rintro e w' ⟨rfl, rfl⟩; rw [HB.out]))
    go_loop [8, 9] (fun z k => ∃ i : Nat, i ≤ 3 ∧ k = .int .i64 i ∧ z = .float .f64 (hfK t i)) (fun _ k => 3 - (intOf k).toNat)
    case atStart => exact ⟨0, by omega, rfl, rfl⟩
    case round =>
      obtain ⟨i, hi, rfl, rfl⟩ := hrel
      by_cases hlt : i < 3
      · have H := HHF.out i
        obtain ⟨c1, c2⟩ := opf H.m
        obtain ⟨c3, c4⟩ := opf H.a
        obtain ⟨c5, c6⟩ := opf H.b
        obtain ⟨c7, c8⟩ := opf H.q
        have HSQ := Lib.hid H.s
        have c3' : ∀ w, fres .add .f64 w 4607182418800017408 _ = _ := c3
        have c4' : fcnt .add .f64 4607182418800017408 _ = 0 := c4
        have c5' : ∀ w, fres .add .f64 w 4607182418800017408 _ = _ := c5
        have c6' : fcnt .add .f64 4607182418800017408 _ = 0 := c6
        have hk1 : hfK t (i + 1) = hf (hfK t i) := rfl
        have HK1 := Lib.hid hk1
        clear c3 c4 c5 c6 H hk1
        generalize hf (hfK t i) = t1 at *
        generalize hb (hfK t i) = tb at *
        generalize ha (hfK t i) = ta at *
        generalize sfix ta = ts at *
        generalize hfK t i = t0 at *
        generalize F .mul t0 t0 = tm at *
        go_wp2_with (go_at_call 55; refine (sqrt_num HSQ.out _).mono ?_; rintro e w' ⟨rfl, rfl⟩)
        go_round
        case rel => exact ⟨i + 1, by omega, by go_num, by rw [HK1.out]⟩
        case measure => simp [intOf]; omega
      · obtain rfl : i = 3 := by omega
        clear hlt
        generalize au (hfK t 3) = u at *
        generalize hfK t 3 = tt at *
        go_wp2
        go_loop [11, 12] (fun q k => ∃ l : Nat, l ≤ 8 ∧ k = .int .i64 (15 - 2 * (l : Int)) ∧ q = .float .f64 (aq u l)) (fun _ k => mO k)
        case atStart => exact ⟨0, by omega, by simp, rfl⟩
        case round =>
          obtain ⟨l, hl, rfl, rfl⟩ := hrel
          by_cases hlt : l < 8
          · obtain ⟨r1, r2⟩ := HQ.out l hlt
            obtain ⟨r1, s1⟩ := opf r1
            obtain ⟨r2, s2⟩ := opf r2
            obtain ⟨o1, o2, _⟩ := ka_step l hlt
            obtain ⟨o1, m1⟩ := opf o1
            obtain ⟨o2, m2⟩ := opf o2
            have o3 := ka_test l (by omega)
            rw [decide_eq_true hlt] at o3
            have o3' : (FloatKind.f64.format.order (Ka l) 4607182418800017408 == some .gt || FloatKind.f64.format.order (Ka l) 4607182418800017408 == some .eq) = true := o3
            have HM := Lib.hid (mA_lt l hlt)
            have hk := ka_int l hlt
            clear o3
            generalize hq4 : aq u (l + 1) = x4 at *
            generalize aq u l = x3 at *
            generalize F .mul u x3 = x5 at *
            generalize Ca l = c at *
            generalize hk1 : Ka (l + 1) = k1 at *
            generalize Ka l = k0 at *
            go_wp2
            go_round
            case rel => exact ⟨l + 1, by omega, by go_num, by rw [hq4]⟩
            case measure => simp [mO]; omega
          · obtain rfl : l = 8 := by omega
            have o3 := ka_test 8 (by omega)
            rw [decide_eq_false hlt] at o3
            have o3' : (FloatKind.f64.format.order (Ka 8) 4607182418800017408 == some .gt || FloatKind.f64.format.order (Ka 8) 4607182418800017408 == some .eq) = false := o3
            clear o3 hlt
            generalize Ka 8 = k0 at *
            generalize aq u 8 = x3 at *
            go_wp2
            go_ret
            exact ⟨ret_float (by first | rfl | simp), rfl⟩
  · have hzy : (FloatKind.f64.format.order Y 0 == some .eq) = false := by
      rcases hz with h | h
      · rw [hzx] at h; cases h
      · exact h
    clear hz
    have P := HPT.out
    have ov := P.over
    obtain ⟨z0, q0⟩ := P.q0
    have qq := P.q
    have tb := P.bd
    have AF := af_ok (hfK_bd tb 3)
    have A1 := an1_ok true AF.bd
    have A2 := an2_ok false A1.2 (an1_lt true AF.bd (Ieee.Format.div_lt Ieee.double AF.n))
    have HHF := Lib.hid (fun k => hf_ok (hfK_bd tb k))
    have HV : Hid (angF (hfK t 3) true false false = angF (hfK t 3) true false false) := Lib.hid rfl
    simp only [if_true] at qq
    obtain ⟨q1, q2⟩ := opf qq
    obtain ⟨q3, q4⟩ := opf q0
    obtain ⟨u1, u2⟩ := opf AF.u
    obtain ⟨p1, p2⟩ := opf AF.p
    obtain ⟨e1, e2⟩ := opf AF.e
    obtain ⟨n1, n2⟩ := opf AF.n
    have e1' : ∀ w, fres .mul .f64 w 4620693217682128896 (ap (hfK t 3)) = a8 (hfK t 3) := e1
    have e2' : fcnt .mul .f64 4620693217682128896 (ap (hfK t 3)) = 0 := e2
    have n1' : ∀ w, fres .quo .f64 w (a8 (hfK t 3)) 4618760256179416344 = an (hfK t 3) := n1
    have n2' : fcnt .quo .f64 (a8 (hfK t 3)) 4618760256179416344 = 0 := n2
    obtain ⟨f1, f2⟩ := opf A1.1
    have f1' : ∀ w, fres .sub .f64 w 4598175219545276416 (an (hfK t 3)) = F .sub Wquarter (an (hfK t 3)) := f1
    have f2' : fcnt .sub .f64 4598175219545276416 (an (hfK t 3)) = 0 := f2
    obtain ⟨g1, g2⟩ := opf A2.1
    have w1 : an1 true (an (hfK t 3)) = F .sub Wquarter (an (hfK t 3)) := rfl
    rw [w1] at g1 g2
    have g1' : ∀ w, fres .sub .f64 w 4602678819172646912 (F .sub Wquarter (an (hfK t 3))) = F .sub Whalf (F .sub Wquarter (an (hfK t 3))) := g1
    have g2' : fcnt .sub .f64 4602678819172646912 (F .sub Wquarter (an (hfK t 3))) = 0 := g2
    have HQ := Lib.hid AF.q
    have HR : Hid (angF (hfK t 3) true false false = ((F .sub Wquarter (an (hfK t 3))))) := Lib.hid rfl
    clear P AF A1 A2 e1 e2 n1 n2 f1 f2 g1 g2 w1 qq q0 HPT HV tb
    generalize an (hfK t 3) = v0 at *
    generalize a8 (hfK t 3) = v8 at *
    generalize ap (hfK t 3) = vp at *
    generalize F .sub Wquarter v0 = vq at *
    obtain ⟨a, hga⟩ : ∃ a, Y % 9223372036854775808 = a := ⟨_, rfl⟩
    obtain ⟨b, hgb⟩ : ∃ b, X % 9223372036854775808 = b := ⟨_, rfl⟩
    rw [hga, hgb] at ov q1 q2 q3 q4
    have HA := Lib.hid hga
    have HB := Lib.hid hgb
    clear hga hgb
    rw [HR.out]
    go_enter Try.func78, Try.ntmps78
    go_wp2_with (first
      | (go_at_call 52; refine (abs_any Y _ Ylt).mono ?_; rintro e w' ⟨rfl, rfl⟩; rw [HA.out])
      | (go_at_call 52; refine (abs_any X _ Xlt).mono ?_; rintro e w' ⟨rfl, rfl⟩; rw [HB.out]))
    go_loop [8, 9] (fun z k => ∃ i : Nat, i ≤ 3 ∧ k = .int .i64 i ∧ z = .float .f64 (hfK t i)) (fun _ k => 3 - (intOf k).toNat)
    case atStart => exact ⟨0, by omega, rfl, rfl⟩
    case round =>
      obtain ⟨i, hi, rfl, rfl⟩ := hrel
      by_cases hlt : i < 3
      · have H := HHF.out i
        obtain ⟨c1, c2⟩ := opf H.m
        obtain ⟨c3, c4⟩ := opf H.a
        obtain ⟨c5, c6⟩ := opf H.b
        obtain ⟨c7, c8⟩ := opf H.q
        have HSQ := Lib.hid H.s
        have c3' : ∀ w, fres .add .f64 w 4607182418800017408 _ = _ := c3
        have c4' : fcnt .add .f64 4607182418800017408 _ = 0 := c4
        have c5' : ∀ w, fres .add .f64 w 4607182418800017408 _ = _ := c5
        have c6' : fcnt .add .f64 4607182418800017408 _ = 0 := c6
        have hk1 : hfK t (i + 1) = hf (hfK t i) := rfl
        have HK1 := Lib.hid hk1
        clear c3 c4 c5 c6 H hk1
        generalize hf (hfK t i) = t1 at *
        generalize hb (hfK t i) = tb at *
        generalize ha (hfK t i) = ta at *
        generalize sfix ta = ts at *
        generalize hfK t i = t0 at *
        generalize F .mul t0 t0 = tm at *
        go_wp2_with (go_at_call 55; refine (sqrt_num HSQ.out _).mono ?_; rintro e w' ⟨rfl, rfl⟩)
        go_round
        case rel => exact ⟨i + 1, by omega, by go_num, by rw [HK1.out]⟩
        case measure => simp [intOf]; omega
      · obtain rfl : i = 3 := by omega
        clear hlt
        generalize au (hfK t 3) = u at *
        generalize hfK t 3 = tt at *
        go_wp2
        go_loop [11, 12] (fun q k => ∃ l : Nat, l ≤ 8 ∧ k = .int .i64 (15 - 2 * (l : Int)) ∧ q = .float .f64 (aq u l)) (fun _ k => mO k)
        case atStart => exact ⟨0, by omega, by simp, rfl⟩
        case round =>
          obtain ⟨l, hl, rfl, rfl⟩ := hrel
          by_cases hlt : l < 8
          · obtain ⟨r1, r2⟩ := HQ.out l hlt
            obtain ⟨r1, s1⟩ := opf r1
            obtain ⟨r2, s2⟩ := opf r2
            obtain ⟨o1, o2, _⟩ := ka_step l hlt
            obtain ⟨o1, m1⟩ := opf o1
            obtain ⟨o2, m2⟩ := opf o2
            have o3 := ka_test l (by omega)
            rw [decide_eq_true hlt] at o3
            have o3' : (FloatKind.f64.format.order (Ka l) 4607182418800017408 == some .gt || FloatKind.f64.format.order (Ka l) 4607182418800017408 == some .eq) = true := o3
            have HM := Lib.hid (mA_lt l hlt)
            have hk := ka_int l hlt
            clear o3
            generalize hq4 : aq u (l + 1) = x4 at *
            generalize aq u l = x3 at *
            generalize F .mul u x3 = x5 at *
            generalize Ca l = c at *
            generalize hk1 : Ka (l + 1) = k1 at *
            generalize Ka l = k0 at *
            go_wp2
            go_round
            case rel => exact ⟨l + 1, by omega, by go_num, by rw [hq4]⟩
            case measure => simp [mO]; omega
          · obtain rfl : l = 8 := by omega
            have o3 := ka_test 8 (by omega)
            rw [decide_eq_false hlt] at o3
            have o3' : (FloatKind.f64.format.order (Ka 8) 4607182418800017408 == some .gt || FloatKind.f64.format.order (Ka 8) 4607182418800017408 == some .eq) = false := o3
            clear o3 hlt
            generalize Ka 8 = k0 at *
            generalize aq u 8 = x3 at *
            go_wp2
            go_ret
            exact ⟨ret_float (by first | rfl | simp), rfl⟩

set_option maxHeartbeats 4000000 in
set_option maxRecDepth 100000 in
theorem wide_tft (Y X t : Nat) (HPT : Hid (Pt Y X t true)) (Ylt : Y < 18446744073709551616) (Xlt : X < 18446744073709551616) (w : World)
    (hyy : floatBits .sub .f64 Y Y = some 0) (hxx : floatBits .sub .f64 X X = some 0) (hz : (FloatKind.f64.format.order X 0 == some .eq) = false ∨ (FloatKind.f64.format.order Y 0 == some .eq) = false)
    (o2 : (FloatKind.f64.format.order X 0 == some .lt) = false) (o3 : (FloatKind.f64.format.order Y 0 == some .lt) = true) :
    Calls Try.prog 78 #[.float .f64 Y, .float .f64 X] w fun e w' => e = .returned (.float .f64 (angF (hfK t 3) true false true)) ∧ w = w' := by
  obtain ⟨y1, y2⟩ := opf hyy
  obtain ⟨x1, x2⟩ := opf hxx
  have o00 : (FloatKind.f64.format.order 0 0 != some .eq) = false := by decide +kernel
  clear hyy hxx
  cases hzx : (FloatKind.f64.format.order X 0 == some .eq)
  · clear hz
    have P := HPT.out
    have ov := P.over
    obtain ⟨z0, q0⟩ := P.q0
    have qq := P.q
    have tb := P.bd
    have AF := af_ok (hfK_bd tb 3)
    have A1 := an1_ok true AF.bd
    have A2 := an2_ok false A1.2 (an1_lt true AF.bd (Ieee.Format.div_lt Ieee.double AF.n))
    have HHF := Lib.hid (fun k => hf_ok (hfK_bd tb k))
    have HV : Hid (angF (hfK t 3) true false true = angF (hfK t 3) true false true) := Lib.hid rfl
    simp only [if_true] at qq
    obtain ⟨q1, q2⟩ := opf qq
    obtain ⟨q3, q4⟩ := opf q0
    obtain ⟨u1, u2⟩ := opf AF.u
    obtain ⟨p1, p2⟩ := opf AF.p
    obtain ⟨e1, e2⟩ := opf AF.e
    obtain ⟨n1, n2⟩ := opf AF.n
    have e1' : ∀ w, fres .mul .f64 w 4620693217682128896 (ap (hfK t 3)) = a8 (hfK t 3) := e1
    have e2' : fcnt .mul .f64 4620693217682128896 (ap (hfK t 3)) = 0 := e2
    have n1' : ∀ w, fres .quo .f64 w (a8 (hfK t 3)) 4618760256179416344 = an (hfK t 3) := n1
    have n2' : fcnt .quo .f64 (a8 (hfK t 3)) 4618760256179416344 = 0 := n2
    obtain ⟨f1, f2⟩ := opf A1.1
    have f1' : ∀ w, fres .sub .f64 w 4598175219545276416 (an (hfK t 3)) = F .sub Wquarter (an (hfK t 3)) := f1
    have f2' : fcnt .sub .f64 4598175219545276416 (an (hfK t 3)) = 0 := f2
    obtain ⟨g1, g2⟩ := opf A2.1
    have w1 : an1 true (an (hfK t 3)) = F .sub Wquarter (an (hfK t 3)) := rfl
    rw [w1] at g1 g2
    have g1' : ∀ w, fres .sub .f64 w 4602678819172646912 (F .sub Wquarter (an (hfK t 3))) = F .sub Whalf (F .sub Wquarter (an (hfK t 3))) := g1
    have g2' : fcnt .sub .f64 4602678819172646912 (F .sub Wquarter (an (hfK t 3))) = 0 := g2
    have HQ := Lib.hid AF.q
    have HR : Hid (angF (hfK t 3) true false true = Op.negFloat .f64 ((F .sub Wquarter (an (hfK t 3))))) := Lib.hid rfl
    clear P AF A1 A2 e1 e2 n1 n2 f1 f2 g1 g2 w1 qq q0 HPT HV tb
    generalize an (hfK t 3) = v0 at *
    generalize a8 (hfK t 3) = v8 at *
    generalize ap (hfK t 3) = vp at *
    generalize F .sub Wquarter v0 = vq at *
    obtain ⟨a, hga⟩ : ∃ a, Y % 9223372036854775808 = a := ⟨_, rfl⟩
    obtain ⟨b, hgb⟩ : ∃ b, X % 9223372036854775808 = b := ⟨_, rfl⟩
    rw [hga, hgb] at ov q1 q2 q3 q4
    have HA := Lib.hid hga
    have HB := Lib.hid hgb
    clear hga hgb
    rw [HR.out]
    go_enter Try.func78, Try.ntmps78
    go_wp2_with (first
      | (go_at_call 52; refine (abs_any Y _ Ylt).mono ?_; rintro e w' ⟨rfl, rfl⟩; rw [HA.out])
      | (go_at_call 52; refine (abs_any X _ Xlt).mono ?_; rintro e w' ⟨rfl, rfl⟩; rw [HB.out]))
    go_loop [8, 9] (fun z k => ∃ i : Nat, i ≤ 3 ∧ k = .int .i64 i ∧ z = .float .f64 (hfK t i)) (fun _ k => 3 - (intOf k).toNat)
    case atStart => exact ⟨0, by omega, rfl, rfl⟩
    case round =>
      obtain ⟨i, hi, rfl, rfl⟩ := hrel
      by_cases hlt : i < 3
      · have H := HHF.out i
        obtain ⟨c1, c2⟩ := opf H.m
        obtain ⟨c3, c4⟩ := opf H.a
        obtain ⟨c5, c6⟩ := opf H.b
        obtain ⟨c7, c8⟩ := opf H.q
        have HSQ := Lib.hid H.s
        have c3' : ∀ w, fres .add .f64 w 4607182418800017408 _ = _ := c3
        have c4' : fcnt .add .f64 4607182418800017408 _ = 0 := c4
        have c5' : ∀ w, fres .add .f64 w 4607182418800017408 _ = _ := c5
        have c6' : fcnt .add .f64 4607182418800017408 _ = 0 := c6
        have hk1 : hfK t (i + 1) = hf (hfK t i) := rfl
        have HK1 := Lib.hid hk1
        clear c3 c4 c5 c6 H hk1
        generalize hf (hfK t i) = t1 at *
        generalize hb (hfK t i) = tb at *
        generalize ha (hfK t i) = ta at *
        generalize sfix ta = ts at *
        generalize hfK t i = t0 at *
        generalize F .mul t0 t0 = tm at *
        go_wp2_with (go_at_call 55; refine (sqrt_num HSQ.out _).mono ?_; rintro e w' ⟨rfl, rfl⟩)
        go_round
        case rel => exact ⟨i + 1, by omega, by go_num, by rw [HK1.out]⟩
        case measure => simp [intOf]; omega
      · obtain rfl : i = 3 := by omega
        clear hlt
        generalize au (hfK t 3) = u at *
        generalize hfK t 3 = tt at *
        go_wp2
        go_loop [11, 12] (fun q k => ∃ l : Nat, l ≤ 8 ∧ k = .int .i64 (15 - 2 * (l : Int)) ∧ q = .float .f64 (aq u l)) (fun _ k => mO k)
        case atStart => exact ⟨0, by omega, by simp, rfl⟩
        case round =>
          obtain ⟨l, hl, rfl, rfl⟩ := hrel
          by_cases hlt : l < 8
          · obtain ⟨r1, r2⟩ := HQ.out l hlt
            obtain ⟨r1, s1⟩ := opf r1
            obtain ⟨r2, s2⟩ := opf r2
            obtain ⟨o1, o2, _⟩ := ka_step l hlt
            obtain ⟨o1, m1⟩ := opf o1
            obtain ⟨o2, m2⟩ := opf o2
            have o3 := ka_test l (by omega)
            rw [decide_eq_true hlt] at o3
            have o3' : (FloatKind.f64.format.order (Ka l) 4607182418800017408 == some .gt || FloatKind.f64.format.order (Ka l) 4607182418800017408 == some .eq) = true := o3
            have HM := Lib.hid (mA_lt l hlt)
            have hk := ka_int l hlt
            clear o3
            generalize hq4 : aq u (l + 1) = x4 at *
            generalize aq u l = x3 at *
            generalize F .mul u x3 = x5 at *
            generalize Ca l = c at *
            generalize hk1 : Ka (l + 1) = k1 at *
            generalize Ka l = k0 at *
            go_wp2
            go_round
            case rel => exact ⟨l + 1, by omega, by go_num, by rw [hq4]⟩
            case measure => simp [mO]; omega
          · obtain rfl : l = 8 := by omega
            have o3 := ka_test 8 (by omega)
            rw [decide_eq_false hlt] at o3
            have o3' : (FloatKind.f64.format.order (Ka 8) 4607182418800017408 == some .gt || FloatKind.f64.format.order (Ka 8) 4607182418800017408 == some .eq) = false := o3
            clear o3 hlt
            generalize Ka 8 = k0 at *
            generalize aq u 8 = x3 at *
            go_wp2
            go_ret
            exact ⟨ret_float (by first | rfl | simp), rfl⟩
  · have hzy : (FloatKind.f64.format.order Y 0 == some .eq) = false := by
      rcases hz with h | h
      · rw [hzx] at h; cases h
      · exact h
    clear hz
    have P := HPT.out
    have ov := P.over
    obtain ⟨z0, q0⟩ := P.q0
    have qq := P.q
    have tb := P.bd
    have AF := af_ok (hfK_bd tb 3)
    have A1 := an1_ok true AF.bd
    have A2 := an2_ok false A1.2 (an1_lt true AF.bd (Ieee.Format.div_lt Ieee.double AF.n))
    have HHF := Lib.hid (fun k => hf_ok (hfK_bd tb k))
    have HV : Hid (angF (hfK t 3) true false true = angF (hfK t 3) true false true) := Lib.hid rfl
    simp only [if_true] at qq
    obtain ⟨q1, q2⟩ := opf qq
    obtain ⟨q3, q4⟩ := opf q0
    obtain ⟨u1, u2⟩ := opf AF.u
    obtain ⟨p1, p2⟩ := opf AF.p
    obtain ⟨e1, e2⟩ := opf AF.e
    obtain ⟨n1, n2⟩ := opf AF.n
    have e1' : ∀ w, fres .mul .f64 w 4620693217682128896 (ap (hfK t 3)) = a8 (hfK t 3) := e1
    have e2' : fcnt .mul .f64 4620693217682128896 (ap (hfK t 3)) = 0 := e2
    have n1' : ∀ w, fres .quo .f64 w (a8 (hfK t 3)) 4618760256179416344 = an (hfK t 3) := n1
    have n2' : fcnt .quo .f64 (a8 (hfK t 3)) 4618760256179416344 = 0 := n2
    obtain ⟨f1, f2⟩ := opf A1.1
    have f1' : ∀ w, fres .sub .f64 w 4598175219545276416 (an (hfK t 3)) = F .sub Wquarter (an (hfK t 3)) := f1
    have f2' : fcnt .sub .f64 4598175219545276416 (an (hfK t 3)) = 0 := f2
    obtain ⟨g1, g2⟩ := opf A2.1
    have w1 : an1 true (an (hfK t 3)) = F .sub Wquarter (an (hfK t 3)) := rfl
    rw [w1] at g1 g2
    have g1' : ∀ w, fres .sub .f64 w 4602678819172646912 (F .sub Wquarter (an (hfK t 3))) = F .sub Whalf (F .sub Wquarter (an (hfK t 3))) := g1
    have g2' : fcnt .sub .f64 4602678819172646912 (F .sub Wquarter (an (hfK t 3))) = 0 := g2
    have HQ := Lib.hid AF.q
    have HR : Hid (angF (hfK t 3) true false true = Op.negFloat .f64 ((F .sub Wquarter (an (hfK t 3))))) := Lib.hid rfl
    clear P AF A1 A2 e1 e2 n1 n2 f1 f2 g1 g2 w1 qq q0 HPT HV tb
    generalize an (hfK t 3) = v0 at *
    generalize a8 (hfK t 3) = v8 at *
    generalize ap (hfK t 3) = vp at *
    generalize F .sub Wquarter v0 = vq at *
    obtain ⟨a, hga⟩ : ∃ a, Y % 9223372036854775808 = a := ⟨_, rfl⟩
    obtain ⟨b, hgb⟩ : ∃ b, X % 9223372036854775808 = b := ⟨_, rfl⟩
    rw [hga, hgb] at ov q1 q2 q3 q4
    have HA := Lib.hid hga
    have HB := Lib.hid hgb
    clear hga hgb
    rw [HR.out]
    go_enter Try.func78, Try.ntmps78
    go_wp2_with (first
      | (go_at_call 52; refine (abs_any Y _ Ylt).mono ?_; rintro e w' ⟨rfl, rfl⟩; rw [HA.out])
      | (go_at_call 52; refine (abs_any X _ Xlt).mono ?_; rintro e w' ⟨rfl, rfl⟩; rw [HB.out]))
    go_loop [8, 9] (fun z k => ∃ i : Nat, i ≤ 3 ∧ k = .int .i64 i ∧ z = .float .f64 (hfK t i)) (fun _ k => 3 - (intOf k).toNat)
    case atStart => exact ⟨0, by omega, rfl, rfl⟩
    case round =>
      obtain ⟨i, hi, rfl, rfl⟩ := hrel
      by_cases hlt : i < 3
      · have H := HHF.out i
        obtain ⟨c1, c2⟩ := opf H.m
        obtain ⟨c3, c4⟩ := opf H.a
        obtain ⟨c5, c6⟩ := opf H.b
        obtain ⟨c7, c8⟩ := opf H.q
        have HSQ := Lib.hid H.s
        have c3' : ∀ w, fres .add .f64 w 4607182418800017408 _ = _ := c3
        have c4' : fcnt .add .f64 4607182418800017408 _ = 0 := c4
        have c5' : ∀ w, fres .add .f64 w 4607182418800017408 _ = _ := c5
        have c6' : fcnt .add .f64 4607182418800017408 _ = 0 := c6
        have hk1 : hfK t (i + 1) = hf (hfK t i) := rfl
        have HK1 := Lib.hid hk1
        clear c3 c4 c5 c6 H hk1
        generalize hf (hfK t i) = t1 at *
        generalize hb (hfK t i) = tb at *
        generalize ha (hfK t i) = ta at *
        generalize sfix ta = ts at *
        generalize hfK t i = t0 at *
        generalize F .mul t0 t0 = tm at *
        go_wp2_with (go_at_call 55; refine (sqrt_num HSQ.out _).mono ?_; rintro e w' ⟨rfl, rfl⟩)
        go_round
        case rel => exact ⟨i + 1, by omega, by go_num, by rw [HK1.out]⟩
        case measure => simp [intOf]; omega
      · obtain rfl : i = 3 := by omega
        clear hlt
        generalize au (hfK t 3) = u at *
        generalize hfK t 3 = tt at *
        go_wp2
        go_loop [11, 12] (fun q k => ∃ l : Nat, l ≤ 8 ∧ k = .int .i64 (15 - 2 * (l : Int)) ∧ q = .float .f64 (aq u l)) (fun _ k => mO k)
        case atStart => exact ⟨0, by omega, by simp, rfl⟩
        case round =>
          obtain ⟨l, hl, rfl, rfl⟩ := hrel
          by_cases hlt : l < 8
          · obtain ⟨r1, r2⟩ := HQ.out l hlt
            obtain ⟨r1, s1⟩ := opf r1
            obtain ⟨r2, s2⟩ := opf r2
            obtain ⟨o1, o2, _⟩ := ka_step l hlt
            obtain ⟨o1, m1⟩ := opf o1
            obtain ⟨o2, m2⟩ := opf o2
            have o3 := ka_test l (by omega)
            rw [decide_eq_true hlt] at o3
            have o3' : (FloatKind.f64.format.order (Ka l) 4607182418800017408 == some .gt || FloatKind.f64.format.order (Ka l) 4607182418800017408 == some .eq) = true := o3
            have HM := Lib.hid (mA_lt l hlt)
            have hk := ka_int l hlt
            clear o3
            generalize hq4 : aq u (l + 1) = x4 at *
            generalize aq u l = x3 at *
            generalize F .mul u x3 = x5 at *
            generalize Ca l = c at *
            generalize hk1 : Ka (l + 1) = k1 at *
            generalize Ka l = k0 at *
            go_wp2
            go_round
            case rel => exact ⟨l + 1, by omega, by go_num, by rw [hq4]⟩
            case measure => simp [mO]; omega
          · obtain rfl : l = 8 := by omega
            have o3 := ka_test 8 (by omega)
            rw [decide_eq_false hlt] at o3
            have o3' : (FloatKind.f64.format.order (Ka 8) 4607182418800017408 == some .gt || FloatKind.f64.format.order (Ka 8) 4607182418800017408 == some .eq) = false := o3
            clear o3 hlt
            generalize Ka 8 = k0 at *
            generalize aq u 8 = x3 at *
            go_wp2
            go_ret
            exact ⟨ret_float (by first | rfl | simp), rfl⟩

set_option maxHeartbeats 4000000 in
set_option maxRecDepth 100000 in
theorem wide_ttf (Y X t : Nat) (HPT : Hid (Pt Y X t true)) (Ylt : Y < 18446744073709551616) (Xlt : X < 18446744073709551616) (w : World)
    (hyy : floatBits .sub .f64 Y Y = some 0) (hxx : floatBits .sub .f64 X X = some 0) (hz : (FloatKind.f64.format.order X 0 == some .eq) = false ∨ (FloatKind.f64.format.order Y 0 == some .eq) = false)
    (o2 : (FloatKind.f64.format.order X 0 == some .lt) = true) (o3 : (FloatKind.f64.format.order Y 0 == some .lt) = false) :
    Calls Try.prog 78 #[.float .f64 Y, .float .f64 X] w fun e w' => e = .returned (.float .f64 (angF (hfK t 3) true true false)) ∧ w = w' := by
  obtain ⟨y1, y2⟩ := opf hyy
  obtain ⟨x1, x2⟩ := opf hxx
  have o00 : (FloatKind.f64.format.order 0 0 != some .eq) = false := by decide +kernel
  clear hyy hxx
  cases hzx : (FloatKind.f64.format.order X 0 == some .eq)
  · clear hz
    have P := HPT.out
    have ov := P.over
    obtain ⟨z0, q0⟩ := P.q0
    have qq := P.q
    have tb := P.bd
    have AF := af_ok (hfK_bd tb 3)
    have A1 := an1_ok true AF.bd
    have A2 := an2_ok true A1.2 (an1_lt true AF.bd (Ieee.Format.div_lt Ieee.double AF.n))
    have HHF := Lib.hid (fun k => hf_ok (hfK_bd tb k))
    have HV : Hid (angF (hfK t 3) true true false = angF (hfK t 3) true true false) := Lib.hid rfl
    simp only [if_true] at qq
    obtain ⟨q1, q2⟩ := opf qq
    obtain ⟨q3, q4⟩ := opf q0
    obtain ⟨u1, u2⟩ := opf AF.u
    obtain ⟨p1, p2⟩ := opf AF.p
    obtain ⟨e1, e2⟩ := opf AF.e
    obtain ⟨n1, n2⟩ := opf AF.n
    have e1' : ∀ w, fres .mul .f64 w 4620693217682128896 (ap (hfK t 3)) = a8 (hfK t 3) := e1
    have e2' : fcnt .mul .f64 4620693217682128896 (ap (hfK t 3)) = 0 := e2
    have n1' : ∀ w, fres .quo .f64 w (a8 (hfK t 3)) 4618760256179416344 = an (hfK t 3) := n1
    have n2' : fcnt .quo .f64 (a8 (hfK t 3)) 4618760256179416344 = 0 := n2
    obtain ⟨f1, f2⟩ := opf A1.1
    have f1' : ∀ w, fres .sub .f64 w 4598175219545276416 (an (hfK t 3)) = F .sub Wquarter (an (hfK t 3)) := f1
    have f2' : fcnt .sub .f64 4598175219545276416 (an (hfK t 3)) = 0 := f2
    obtain ⟨g1, g2⟩ := opf A2.1
    have w1 : an1 true (an (hfK t 3)) = F .sub Wquarter (an (hfK t 3)) := rfl
    rw [w1] at g1 g2
    have g1' : ∀ w, fres .sub .f64 w 4602678819172646912 (F .sub Wquarter (an (hfK t 3))) = F .sub Whalf (F .sub Wquarter (an (hfK t 3))) := g1
    have g2' : fcnt .sub .f64 4602678819172646912 (F .sub Wquarter (an (hfK t 3))) = 0 := g2
    have HQ := Lib.hid AF.q
    have HR : Hid (angF (hfK t 3) true true false = (F .sub Whalf (F .sub Wquarter (an (hfK t 3))))) := Lib.hid rfl
    clear P AF A1 A2 e1 e2 n1 n2 f1 f2 g1 g2 w1 qq q0 HPT HV tb
    generalize an (hfK t 3) = v0 at *
    generalize a8 (hfK t 3) = v8 at *
    generalize ap (hfK t 3) = vp at *
    generalize F .sub Wquarter v0 = vq at *
    generalize F .sub Whalf vq = vh at *
    obtain ⟨a, hga⟩ : ∃ a, Y % 9223372036854775808 = a := ⟨_, rfl⟩
    obtain ⟨b, hgb⟩ : ∃ b, X % 9223372036854775808 = b := ⟨_, rfl⟩
    rw [hga, hgb] at ov q1 q2 q3 q4
    have HA := Lib.hid hga
    have HB := Lib.hid hgb
    clear hga hgb
    rw [HR.out]
    go_enter Try.func78, Try.ntmps78
    go_wp2_with (first
      | (go_at_call 52; refine (abs_any Y _ Ylt).mono ?_; rintro e w' ⟨rfl, rfl⟩; rw [HA.out])
      | (go_at_call 52; refine (abs_any X _ Xlt).mono ?_; rintro e w' ⟨rfl, rfl⟩; rw [HB.out]))
    go_loop [8, 9] (fun z k => ∃ i : Nat, i ≤ 3 ∧ k = .int .i64 i ∧ z = .float .f64 (hfK t i)) (fun _ k => 3 - (intOf k).toNat)
    case atStart => exact ⟨0, by omega, rfl, rfl⟩
    case round =>
      obtain ⟨i, hi, rfl, rfl⟩ := hrel
      by_cases hlt : i < 3
      · have H := HHF.out i
        obtain ⟨c1, c2⟩ := opf H.m
        obtain ⟨c3, c4⟩ := opf H.a
        obtain ⟨c5, c6⟩ := opf H.b
        obtain ⟨c7, c8⟩ := opf H.q
        have HSQ := Lib.hid H.s
        have c3' : ∀ w, fres .add .f64 w 4607182418800017408 _ = _ := c3
        have c4' : fcnt .add .f64 4607182418800017408 _ = 0 := c4
        have c5' : ∀ w, fres .add .f64 w 4607182418800017408 _ = _ := c5
        have c6' : fcnt .add .f64 4607182418800017408 _ = 0 := c6
        have hk1 : hfK t (i + 1) = hf (hfK t i) := rfl
        have HK1 := Lib.hid hk1
        clear c3 c4 c5 c6 H hk1
        generalize hf (hfK t i) = t1 at *
        generalize hb (hfK t i) = tb at *
        generalize ha (hfK t i) = ta at *
        generalize sfix ta = ts at *
        generalize hfK t i = t0 at *
        generalize F .mul t0 t0 = tm at *
        go_wp2_with (go_at_call 55; refine (sqrt_num HSQ.out _).mono ?_; rintro e w' ⟨rfl, rfl⟩)
        go_round
        case rel => exact ⟨i + 1, by omega, by go_num, by rw [HK1.out]⟩
        case measure => simp [intOf]; omega
      · obtain rfl : i = 3 := by omega
        clear hlt
        generalize au (hfK t 3) = u at *
        generalize hfK t 3 = tt at *
        go_wp2
        go_loop [11, 12] (fun q k => ∃ l : Nat, l ≤ 8 ∧ k = .int .i64 (15 - 2 * (l : Int)) ∧ q = .float .f64 (aq u l)) (fun _ k => mO k)
        case atStart => exact ⟨0, by omega, by simp, rfl⟩
        case round =>
          obtain ⟨l, hl, rfl, rfl⟩ := hrel
          by_cases hlt : l < 8
          · obtain ⟨r1, r2⟩ := HQ.out l hlt
            obtain ⟨r1, s1⟩ := opf r1
            obtain ⟨r2, s2⟩ := opf r2
            obtain ⟨o1, o2, _⟩ := ka_step l hlt
            obtain ⟨o1, m1⟩ := opf o1
            obtain ⟨o2, m2⟩ := opf o2
            have o3 := ka_test l (by omega)
            rw [decide_eq_true hlt] at o3
            have o3' : (FloatKind.f64.format.order (Ka l) 4607182418800017408 == some .gt || FloatKind.f64.format.order (Ka l) 4607182418800017408 == some .eq) = true := o3
            have HM := Lib.hid (mA_lt l hlt)
            have hk := ka_int l hlt
            clear o3
            generalize hq4 : aq u (l + 1) = x4 at *
            generalize aq u l = x3 at *
            generalize F .mul u x3 = x5 at *
            generalize Ca l = c at *
            generalize hk1 : Ka (l + 1) = k1 at *
            generalize Ka l = k0 at *
            go_wp2
            go_round
            case rel => exact ⟨l + 1, by omega, by go_num, by rw [hq4]⟩
            case measure => simp [mO]; omega
          · obtain rfl : l = 8 := by omega
            have o3 := ka_test 8 (by omega)
            rw [decide_eq_false hlt] at o3
            have o3' : (FloatKind.f64.format.order (Ka 8) 4607182418800017408 == some .gt || FloatKind.f64.format.order (Ka 8) 4607182418800017408 == some .eq) = false := o3
            clear o3 hlt
            generalize Ka 8 = k0 at *
            generalize aq u 8 = x3 at *
            go_wp2
            go_ret
            exact ⟨ret_float (by first | rfl | simp), rfl⟩
  · have hzy : (FloatKind.f64.format.order Y 0 == some .eq) = false := by
      rcases hz with h | h
      · rw [hzx] at h; cases h
      · exact h
    clear hz
    have P := HPT.out
    have ov := P.over
    obtain ⟨z0, q0⟩ := P.q0
    have qq := P.q
    have tb := P.bd
    have AF := af_ok (hfK_bd tb 3)
    have A1 := an1_ok true AF.bd
    have A2 := an2_ok true A1.2 (an1_lt true AF.bd (Ieee.Format.div_lt Ieee.double AF.n))
    have HHF := Lib.hid (fun k => hf_ok (hfK_bd tb k))
    have HV : Hid (angF (hfK t 3) true true false = angF (hfK t 3) true true false) := Lib.hid rfl
    simp only [if_true] at qq
    obtain ⟨q1, q2⟩ := opf qq
    obtain ⟨q3, q4⟩ := opf q0
    obtain ⟨u1, u2⟩ := opf AF.u
    obtain ⟨p1, p2⟩ := opf AF.p
    obtain ⟨e1, e2⟩ := opf AF.e
    obtain ⟨n1, n2⟩ := opf AF.n
    have e1' : ∀ w, fres .mul .f64 w 4620693217682128896 (ap (hfK t 3)) = a8 (hfK t 3) := e1
    have e2' : fcnt .mul .f64 4620693217682128896 (ap (hfK t 3)) = 0 := e2
    have n1' : ∀ w, fres .quo .f64 w (a8 (hfK t 3)) 4618760256179416344 = an (hfK t 3) := n1
    have n2' : fcnt .quo .f64 (a8 (hfK t 3)) 4618760256179416344 = 0 := n2
    obtain ⟨f1, f2⟩ := opf A1.1
    have f1' : ∀ w, fres .sub .f64 w 4598175219545276416 (an (hfK t 3)) = F .sub Wquarter (an (hfK t 3)) := f1
    have f2' : fcnt .sub .f64 4598175219545276416 (an (hfK t 3)) = 0 := f2
    obtain ⟨g1, g2⟩ := opf A2.1
    have w1 : an1 true (an (hfK t 3)) = F .sub Wquarter (an (hfK t 3)) := rfl
    rw [w1] at g1 g2
    have g1' : ∀ w, fres .sub .f64 w 4602678819172646912 (F .sub Wquarter (an (hfK t 3))) = F .sub Whalf (F .sub Wquarter (an (hfK t 3))) := g1
    have g2' : fcnt .sub .f64 4602678819172646912 (F .sub Wquarter (an (hfK t 3))) = 0 := g2
    have HQ := Lib.hid AF.q
    have HR : Hid (angF (hfK t 3) true true false = (F .sub Whalf (F .sub Wquarter (an (hfK t 3))))) := Lib.hid rfl
    clear P AF A1 A2 e1 e2 n1 n2 f1 f2 g1 g2 w1 qq q0 HPT HV tb
    generalize an (hfK t 3) = v0 at *
    generalize a8 (hfK t 3) = v8 at *
    generalize ap (hfK t 3) = vp at *
    generalize F .sub Wquarter v0 = vq at *
    generalize F .sub Whalf vq = vh at *
    obtain ⟨a, hga⟩ : ∃ a, Y % 9223372036854775808 = a := ⟨_, rfl⟩
    obtain ⟨b, hgb⟩ : ∃ b, X % 9223372036854775808 = b := ⟨_, rfl⟩
    rw [hga, hgb] at ov q1 q2 q3 q4
    have HA := Lib.hid hga
    have HB := Lib.hid hgb
    clear hga hgb
    rw [HR.out]
    go_enter Try.func78, Try.ntmps78
    go_wp2_with (first
      | (go_at_call 52; refine (abs_any Y _ Ylt).mono ?_; rintro e w' ⟨rfl, rfl⟩; rw [HA.out])
      | (go_at_call 52; refine (abs_any X _ Xlt).mono ?_; rintro e w' ⟨rfl, rfl⟩; rw [HB.out]))
    go_loop [8, 9] (fun z k => ∃ i : Nat, i ≤ 3 ∧ k = .int .i64 i ∧ z = .float .f64 (hfK t i)) (fun _ k => 3 - (intOf k).toNat)
    case atStart => exact ⟨0, by omega, rfl, rfl⟩
    case round =>
      obtain ⟨i, hi, rfl, rfl⟩ := hrel
      by_cases hlt : i < 3
      · have H := HHF.out i
        obtain ⟨c1, c2⟩ := opf H.m
        obtain ⟨c3, c4⟩ := opf H.a
        obtain ⟨c5, c6⟩ := opf H.b
        obtain ⟨c7, c8⟩ := opf H.q
        have HSQ := Lib.hid H.s
        have c3' : ∀ w, fres .add .f64 w 4607182418800017408 _ = _ := c3
        have c4' : fcnt .add .f64 4607182418800017408 _ = 0 := c4
        have c5' : ∀ w, fres .add .f64 w 4607182418800017408 _ = _ := c5
        have c6' : fcnt .add .f64 4607182418800017408 _ = 0 := c6
        have hk1 : hfK t (i + 1) = hf (hfK t i) := rfl
        have HK1 := Lib.hid hk1
        clear c3 c4 c5 c6 H hk1
        generalize hf (hfK t i) = t1 at *
        generalize hb (hfK t i) = tb at *
        generalize ha (hfK t i) = ta at *
        generalize sfix ta = ts at *
        generalize hfK t i = t0 at *
        generalize F .mul t0 t0 = tm at *
        go_wp2_with (go_at_call 55; refine (sqrt_num HSQ.out _).mono ?_; rintro e w' ⟨rfl, rfl⟩)
        go_round
        case rel => exact ⟨i + 1, by omega, by go_num, by rw [HK1.out]⟩
        case measure => simp [intOf]; omega
      · obtain rfl : i = 3 := by omega
        clear hlt
        generalize au (hfK t 3) = u at *
        generalize hfK t 3 = tt at *
        go_wp2
        go_loop [11, 12] (fun q k => ∃ l : Nat, l ≤ 8 ∧ k = .int .i64 (15 - 2 * (l : Int)) ∧ q = .float .f64 (aq u l)) (fun _ k => mO k)
        case atStart => exact ⟨0, by omega, by simp, rfl⟩
        case round =>
          obtain ⟨l, hl, rfl, rfl⟩ := hrel
          by_cases hlt : l < 8
          · obtain ⟨r1, r2⟩ := HQ.out l hlt
            obtain ⟨r1, s1⟩ := opf r1
            obtain ⟨r2, s2⟩ := opf r2
            obtain ⟨o1, o2, _⟩ := ka_step l hlt
            obtain ⟨o1, m1⟩ := opf o1
            obtain ⟨o2, m2⟩ := opf o2
            have o3 := ka_test l (by omega)
            rw [decide_eq_true hlt] at o3
            have o3' : (FloatKind.f64.format.order (Ka l) 4607182418800017408 == some .gt || FloatKind.f64.format.order (Ka l) 4607182418800017408 == some .eq) = true := o3
            have HM := Lib.hid (mA_lt l hlt)
            have hk := ka_int l hlt
            clear o3
            generalize hq4 : aq u (l + 1) = x4 at *
            generalize aq u l = x3 at *
            generalize F .mul u x3 = x5 at *
            generalize Ca l = c at *
            generalize hk1 : Ka (l + 1) = k1 at *
            generalize Ka l = k0 at *
            go_wp2
            go_round
            case rel => exact ⟨l + 1, by omega, by go_num, by rw [hq4]⟩
            case measure => simp [mO]; omega
          · obtain rfl : l = 8 := by omega
            have o3 := ka_test 8 (by omega)
            rw [decide_eq_false hlt] at o3
            have o3' : (FloatKind.f64.format.order (Ka 8) 4607182418800017408 == some .gt || FloatKind.f64.format.order (Ka 8) 4607182418800017408 == some .eq) = false := o3
            clear o3 hlt
            generalize Ka 8 = k0 at *
            generalize aq u 8 = x3 at *
            go_wp2
            go_ret
            exact ⟨ret_float (by first | rfl | simp), rfl⟩

set_option maxHeartbeats 4000000 in
set_option maxRecDepth 100000 in
theorem wide_ttt (Y X t : Nat) (HPT : Hid (Pt Y X t true)) (Ylt : Y < 18446744073709551616) (Xlt : X < 18446744073709551616) (w : World)
    (hyy : floatBits .sub .f64 Y Y = some 0) (hxx : floatBits .sub .f64 X X = some 0) (hz : (FloatKind.f64.format.order X 0 == some .eq) = false ∨ (FloatKind.f64.format.order Y 0 == some .eq) = false)
    (o2 : (FloatKind.f64.format.order X 0 == some .lt) = true) (o3 : (FloatKind.f64.format.order Y 0 == some .lt) = true) :
    Calls Try.prog 78 #[.float .f64 Y, .float .f64 X] w fun e w' => e = .returned (.float .f64 (angF (hfK t 3) true true true)) ∧ w = w' := by
  obtain ⟨y1, y2⟩ := opf hyy
  obtain ⟨x1, x2⟩ := opf hxx
  have o00 : (FloatKind.f64.format.order 0 0 != some .eq) = false := by decide +kernel
  clear hyy hxx
  cases hzx : (FloatKind.f64.format.order X 0 == some .eq)
  · clear hz
    have P := HPT.out
    have ov := P.over
    obtain ⟨z0, q0⟩ := P.q0
    have qq := P.q
    have tb := P.bd
    have AF := af_ok (hfK_bd tb 3)
    have A1 := an1_ok true AF.bd
    have A2 := an2_ok true A1.2 (an1_lt true AF.bd (Ieee.Format.div_lt Ieee.double AF.n))
    have HHF := Lib.hid (fun k => hf_ok (hfK_bd tb k))
    have HV : Hid (angF (hfK t 3) true true true = angF (hfK t 3) true true true) := Lib.hid rfl
    simp only [if_true] at qq
    obtain ⟨q1, q2⟩ := opf qq
    obtain ⟨q3, q4⟩ := opf q0
    obtain ⟨u1, u2⟩ := opf AF.u
    obtain ⟨p1, p2⟩ := opf AF.p
    obtain ⟨e1, e2⟩ := opf AF.e
    obtain ⟨n1, n2⟩ := opf AF.n
    have e1' : ∀ w, fres .mul .f64 w 4620693217682128896 (ap (hfK t 3)) = a8 (hfK t 3) := e1
    have e2' : fcnt .mul .f64 4620693217682128896 (ap (hfK t 3)) = 0 := e2
    have n1' : ∀ w, fres .quo .f64 w (a8 (hfK t 3)) 4618760256179416344 = an (hfK t 3) := n1
    have n2' : fcnt .quo .f64 (a8 (hfK t 3)) 4618760256179416344 = 0 := n2
    obtain ⟨f1, f2⟩ := opf A1.1
    have f1' : ∀ w, fres .sub .f64 w 4598175219545276416 (an (hfK t 3)) = F .sub Wquarter (an (hfK t 3)) := f1
    have f2' : fcnt .sub .f64 4598175219545276416 (an (hfK t 3)) = 0 := f2
    obtain ⟨g1, g2⟩ := opf A2.1
    have w1 : an1 true (an (hfK t 3)) = F .sub Wquarter (an (hfK t 3)) := rfl
    rw [w1] at g1 g2
    have g1' : ∀ w, fres .sub .f64 w 4602678819172646912 (F .sub Wquarter (an (hfK t 3))) = F .sub Whalf (F .sub Wquarter (an (hfK t 3))) := g1
    have g2' : fcnt .sub .f64 4602678819172646912 (F .sub Wquarter (an (hfK t 3))) = 0 := g2
    have HQ := Lib.hid AF.q
    have HR : Hid (angF (hfK t 3) true true true = Op.negFloat .f64 (F .sub Whalf (F .sub Wquarter (an (hfK t 3))))) := Lib.hid rfl
    clear P AF A1 A2 e1 e2 n1 n2 f1 f2 g1 g2 w1 qq q0 HPT HV tb
    generalize an (hfK t 3) = v0 at *
    generalize a8 (hfK t 3) = v8 at *
    generalize ap (hfK t 3) = vp at *
    generalize F .sub Wquarter v0 = vq at *
    generalize F .sub Whalf vq = vh at *
    obtain ⟨a, hga⟩ : ∃ a, Y % 9223372036854775808 = a := ⟨_, rfl⟩
    obtain ⟨b, hgb⟩ : ∃ b, X % 9223372036854775808 = b := ⟨_, rfl⟩
    rw [hga, hgb] at ov q1 q2 q3 q4
    have HA := Lib.hid hga
    have HB := Lib.hid hgb
    clear hga hgb
    rw [HR.out]
    go_enter Try.func78, Try.ntmps78
    go_wp2_with (first
      | (go_at_call 52; refine (abs_any Y _ Ylt).mono ?_; rintro e w' ⟨rfl, rfl⟩; rw [HA.out])
      | (go_at_call 52; refine (abs_any X _ Xlt).mono ?_; rintro e w' ⟨rfl, rfl⟩; rw [HB.out]))
    go_loop [8, 9] (fun z k => ∃ i : Nat, i ≤ 3 ∧ k = .int .i64 i ∧ z = .float .f64 (hfK t i)) (fun _ k => 3 - (intOf k).toNat)
    case atStart => exact ⟨0, by omega, rfl, rfl⟩
    case round =>
      obtain ⟨i, hi, rfl, rfl⟩ := hrel
      by_cases hlt : i < 3
      · have H := HHF.out i
        obtain ⟨c1, c2⟩ := opf H.m
        obtain ⟨c3, c4⟩ := opf H.a
        obtain ⟨c5, c6⟩ := opf H.b
        obtain ⟨c7, c8⟩ := opf H.q
        have HSQ := Lib.hid H.s
        have c3' : ∀ w, fres .add .f64 w 4607182418800017408 _ = _ := c3
        have c4' : fcnt .add .f64 4607182418800017408 _ = 0 := c4
        have c5' : ∀ w, fres .add .f64 w 4607182418800017408 _ = _ := c5
        have c6' : fcnt .add .f64 4607182418800017408 _ = 0 := c6
        have hk1 : hfK t (i + 1) = hf (hfK t i) := rfl
        have HK1 := Lib.hid hk1
        clear c3 c4 c5 c6 H hk1
        generalize hf (hfK t i) = t1 at *
        generalize hb (hfK t i) = tb at *
        generalize ha (hfK t i) = ta at *
        generalize sfix ta = ts at *
        generalize hfK t i = t0 at *
        generalize F .mul t0 t0 = tm at *
        go_wp2_with (go_at_call 55; refine (sqrt_num HSQ.out _).mono ?_; rintro e w' ⟨rfl, rfl⟩)
        go_round
        case rel => exact ⟨i + 1, by omega, by go_num, by rw [HK1.out]⟩
        case measure => simp [intOf]; omega
      · obtain rfl : i = 3 := by omega
        clear hlt
        generalize au (hfK t 3) = u at *
        generalize hfK t 3 = tt at *
        go_wp2
        go_loop [11, 12] (fun q k => ∃ l : Nat, l ≤ 8 ∧ k = .int .i64 (15 - 2 * (l : Int)) ∧ q = .float .f64 (aq u l)) (fun _ k => mO k)
        case atStart => exact ⟨0, by omega, by simp, rfl⟩
        case round =>
          obtain ⟨l, hl, rfl, rfl⟩ := hrel
          by_cases hlt : l < 8
          · obtain ⟨r1, r2⟩ := HQ.out l hlt
            obtain ⟨r1, s1⟩ := opf r1
            obtain ⟨r2, s2⟩ := opf r2
            obtain ⟨o1, o2, _⟩ := ka_step l hlt
            obtain ⟨o1, m1⟩ := opf o1
            obtain ⟨o2, m2⟩ := opf o2
            have o3 := ka_test l (by omega)
            rw [decide_eq_true hlt] at o3
            have o3' : (FloatKind.f64.format.order (Ka l) 4607182418800017408 == some .gt || FloatKind.f64.format.order (Ka l) 4607182418800017408 == some .eq) = true := o3
            have HM := Lib.hid (mA_lt l hlt)
            have hk := ka_int l hlt
            clear o3
            generalize hq4 : aq u (l + 1) = x4 at *
            generalize aq u l = x3 at *
            generalize F .mul u x3 = x5 at *
            generalize Ca l = c at *
            generalize hk1 : Ka (l + 1) = k1 at *
            generalize Ka l = k0 at *
            go_wp2
            go_round
            case rel => exact ⟨l + 1, by omega, by go_num, by rw [hq4]⟩
            case measure => simp [mO]; omega
          · obtain rfl : l = 8 := by omega
            have o3 := ka_test 8 (by omega)
            rw [decide_eq_false hlt] at o3
            have o3' : (FloatKind.f64.format.order (Ka 8) 4607182418800017408 == some .gt || FloatKind.f64.format.order (Ka 8) 4607182418800017408 == some .eq) = false := o3
            clear o3 hlt
            generalize Ka 8 = k0 at *
            generalize aq u 8 = x3 at *
            go_wp2
            go_ret
            exact ⟨ret_float (by first | rfl | simp), rfl⟩
  · have hzy : (FloatKind.f64.format.order Y 0 == some .eq) = false := by
      rcases hz with h | h
      · rw [hzx] at h; cases h
      · exact h
    clear hz
    have P := HPT.out
    have ov := P.over
    obtain ⟨z0, q0⟩ := P.q0
    have qq := P.q
    have tb := P.bd
    have AF := af_ok (hfK_bd tb 3)
    have A1 := an1_ok true AF.bd
    have A2 := an2_ok true A1.2 (an1_lt true AF.bd (Ieee.Format.div_lt Ieee.double AF.n))
    have HHF := Lib.hid (fun k => hf_ok (hfK_bd tb k))
    have HV : Hid (angF (hfK t 3) true true true = angF (hfK t 3) true true true) := Lib.hid rfl
    simp only [if_true] at qq
    obtain ⟨q1, q2⟩ := opf qq
    obtain ⟨q3, q4⟩ := opf q0
    obtain ⟨u1, u2⟩ := opf AF.u
    obtain ⟨p1, p2⟩ := opf AF.p
    obtain ⟨e1, e2⟩ := opf AF.e
    obtain ⟨n1, n2⟩ := opf AF.n
    have e1' : ∀ w, fres .mul .f64 w 4620693217682128896 (ap (hfK t 3)) = a8 (hfK t 3) := e1
    have e2' : fcnt .mul .f64 4620693217682128896 (ap (hfK t 3)) = 0 := e2
    have n1' : ∀ w, fres .quo .f64 w (a8 (hfK t 3)) 4618760256179416344 = an (hfK t 3) := n1
    have n2' : fcnt .quo .f64 (a8 (hfK t 3)) 4618760256179416344 = 0 := n2
    obtain ⟨f1, f2⟩ := opf A1.1
    have f1' : ∀ w, fres .sub .f64 w 4598175219545276416 (an (hfK t 3)) = F .sub Wquarter (an (hfK t 3)) := f1
    have f2' : fcnt .sub .f64 4598175219545276416 (an (hfK t 3)) = 0 := f2
    obtain ⟨g1, g2⟩ := opf A2.1
    have w1 : an1 true (an (hfK t 3)) = F .sub Wquarter (an (hfK t 3)) := rfl
    rw [w1] at g1 g2
    have g1' : ∀ w, fres .sub .f64 w 4602678819172646912 (F .sub Wquarter (an (hfK t 3))) = F .sub Whalf (F .sub Wquarter (an (hfK t 3))) := g1
    have g2' : fcnt .sub .f64 4602678819172646912 (F .sub Wquarter (an (hfK t 3))) = 0 := g2
    have HQ := Lib.hid AF.q
    have HR : Hid (angF (hfK t 3) true true true = Op.negFloat .f64 (F .sub Whalf (F .sub Wquarter (an (hfK t 3))))) := Lib.hid rfl
    clear P AF A1 A2 e1 e2 n1 n2 f1 f2 g1 g2 w1 qq q0 HPT HV tb
    generalize an (hfK t 3) = v0 at *
    generalize a8 (hfK t 3) = v8 at *
    generalize ap (hfK t 3) = vp at *
    generalize F .sub Wquarter v0 = vq at *
    generalize F .sub Whalf vq = vh at *
    obtain ⟨a, hga⟩ : ∃ a, Y % 9223372036854775808 = a := ⟨_, rfl⟩
    obtain ⟨b, hgb⟩ : ∃ b, X % 9223372036854775808 = b := ⟨_, rfl⟩
    rw [hga, hgb] at ov q1 q2 q3 q4
    have HA := Lib.hid hga
    have HB := Lib.hid hgb
    clear hga hgb
    rw [HR.out]
    go_enter Try.func78, Try.ntmps78
    go_wp2_with (first
      | (go_at_call 52; refine (abs_any Y _ Ylt).mono ?_; rintro e w' ⟨rfl, rfl⟩; rw [HA.out])
      | (go_at_call 52; refine (abs_any X _ Xlt).mono ?_; rintro e w' ⟨rfl, rfl⟩; rw [HB.out]))
    go_loop [8, 9] (fun z k => ∃ i : Nat, i ≤ 3 ∧ k = .int .i64 i ∧ z = .float .f64 (hfK t i)) (fun _ k => 3 - (intOf k).toNat)
    case atStart => exact ⟨0, by omega, rfl, rfl⟩
    case round =>
      obtain ⟨i, hi, rfl, rfl⟩ := hrel
      by_cases hlt : i < 3
      · have H := HHF.out i
        obtain ⟨c1, c2⟩ := opf H.m
        obtain ⟨c3, c4⟩ := opf H.a
        obtain ⟨c5, c6⟩ := opf H.b
        obtain ⟨c7, c8⟩ := opf H.q
        have HSQ := Lib.hid H.s
        have c3' : ∀ w, fres .add .f64 w 4607182418800017408 _ = _ := c3
        have c4' : fcnt .add .f64 4607182418800017408 _ = 0 := c4
        have c5' : ∀ w, fres .add .f64 w 4607182418800017408 _ = _ := c5
        have c6' : fcnt .add .f64 4607182418800017408 _ = 0 := c6
        have hk1 : hfK t (i + 1) = hf (hfK t i) := rfl
        have HK1 := Lib.hid hk1
        clear c3 c4 c5 c6 H hk1
        generalize hf (hfK t i) = t1 at *
        generalize hb (hfK t i) = tb at *
        generalize ha (hfK t i) = ta at *
        generalize sfix ta = ts at *
        generalize hfK t i = t0 at *
        generalize F .mul t0 t0 = tm at *
        go_wp2_with (go_at_call 55; refine (sqrt_num HSQ.out _).mono ?_; rintro e w' ⟨rfl, rfl⟩)
        go_round
        case rel => exact ⟨i + 1, by omega, by go_num, by rw [HK1.out]⟩
        case measure => simp [intOf]; omega
      · obtain rfl : i = 3 := by omega
        clear hlt
        generalize au (hfK t 3) = u at *
        generalize hfK t 3 = tt at *
        go_wp2
        go_loop [11, 12] (fun q k => ∃ l : Nat, l ≤ 8 ∧ k = .int .i64 (15 - 2 * (l : Int)) ∧ q = .float .f64 (aq u l)) (fun _ k => mO k)
        case atStart => exact ⟨0, by omega, by simp, rfl⟩
        case round =>
          obtain ⟨l, hl, rfl, rfl⟩ := hrel
          by_cases hlt : l < 8
          · obtain ⟨r1, r2⟩ := HQ.out l hlt
            obtain ⟨r1, s1⟩ := opf r1
            obtain ⟨r2, s2⟩ := opf r2
            obtain ⟨o1, o2, _⟩ := ka_step l hlt
            obtain ⟨o1, m1⟩ := opf o1
            obtain ⟨o2, m2⟩ := opf o2
            have o3 := ka_test l (by omega)
            rw [decide_eq_true hlt] at o3
            have o3' : (FloatKind.f64.format.order (Ka l) 4607182418800017408 == some .gt || FloatKind.f64.format.order (Ka l) 4607182418800017408 == some .eq) = true := o3
            have HM := Lib.hid (mA_lt l hlt)
            have hk := ka_int l hlt
            clear o3
            generalize hq4 : aq u (l + 1) = x4 at *
            generalize aq u l = x3 at *
            generalize F .mul u x3 = x5 at *
            generalize Ca l = c at *
            generalize hk1 : Ka (l + 1) = k1 at *
            generalize Ka l = k0 at *
            go_wp2
            go_round
            case rel => exact ⟨l + 1, by omega, by go_num, by rw [hq4]⟩
            case measure => simp [mO]; omega
          · obtain rfl : l = 8 := by omega
            have o3 := ka_test 8 (by omega)
            rw [decide_eq_false hlt] at o3
            have o3' : (FloatKind.f64.format.order (Ka 8) 4607182418800017408 == some .gt || FloatKind.f64.format.order (Ka 8) 4607182418800017408 == some .eq) = false := o3
            clear o3 hlt
            generalize Ka 8 = k0 at *
            generalize aq u 8 = x3 at *
            go_wp2
            go_ret
            exact ⟨ret_float (by first | rfl | simp), rfl⟩

set_option maxHeartbeats 4000000 in
set_option maxRecDepth 100000 in
theorem angle_fff (y x Y X t : Nat) (HPT : Hid (Pt Y X t false)) (Ylt : Y < 18446744073709551616) (Xlt : X < 18446744073709551616) (w : World)
    (yc : ∀ w, cres .f32 .f64 w y = Y) (yn : ccnt .f32 .f64 y = 0) (xc : ∀ w, cres .f32 .f64 w x = X) (xn : ccnt .f32 .f64 x = 0)
    (ys : ∀ w, fres .sub .f32 w y y = 0) (yf : fcnt .sub .f32 y y = 0) (xs : ∀ w, fres .sub .f32 w x x = 0) (xf : fcnt .sub .f32 x x = 0)
    (hz : (FloatKind.f32.format.order x 0 == some .eq) = false ∨ (FloatKind.f32.format.order y 0 == some .eq) = false)
    (o2 : (FloatKind.f32.format.order x 0 == some .lt) = false) (o3 : (FloatKind.f32.format.order y 0 == some .lt) = false) (hopen : tooGreat .f64 .f32 (angF (hfK t 3) false false false) = false) :
    Calls Try.prog 32 #[.float .f32 y, .float .f32 x] w (F32 (fconv .f64 .f32 (angF (hfK t 3) false false false)) w) := by
  have f00 : (FloatKind.f32.format.order 0 0 == some .eq) = true := by decide +kernel
  cases hzx : (FloatKind.f32.format.order x 0 == some .eq)
  · clear hz
    have P := HPT.out
    have ov := P.over
    obtain ⟨z0, q0⟩ := P.q0
    have qq := P.q
    have tb := P.bd
    have AF := af_ok (hfK_bd tb 3)
    have A1 := an1_ok false AF.bd
    have A2 := an2_ok false A1.2 (an1_lt false AF.bd (Ieee.Format.div_lt Ieee.double AF.n))
    have HHF := Lib.hid (fun k => hf_ok (hfK_bd tb k))
    have HV : Hid (angF (hfK t 3) false false false = angF (hfK t 3) false false false) := Lib.hid rfl
    simp only [Bool.false_eq_true, if_false] at qq
    obtain ⟨q1, q2⟩ := opf qq
    clear q0
    obtain ⟨u1, u2⟩ := opf AF.u
    obtain ⟨p1, p2⟩ := opf AF.p
    obtain ⟨e1, e2⟩ := opf AF.e
    obtain ⟨n1, n2⟩ := opf AF.n
    have e1' : ∀ w, fres .mul .f64 w 4620693217682128896 (ap (hfK t 3)) = a8 (hfK t 3) := e1
    have e2' : fcnt .mul .f64 4620693217682128896 (ap (hfK t 3)) = 0 := e2
    have n1' : ∀ w, fres .quo .f64 w (a8 (hfK t 3)) 4618760256179416344 = an (hfK t 3) := n1
    have n2' : fcnt .quo .f64 (a8 (hfK t 3)) 4618760256179416344 = 0 := n2
    obtain ⟨f1, f2⟩ := opf A1.1
    have f1' : ∀ w, fres .sub .f64 w 4598175219545276416 (an (hfK t 3)) = F .sub Wquarter (an (hfK t 3)) := f1
    have f2' : fcnt .sub .f64 4598175219545276416 (an (hfK t 3)) = 0 := f2
    obtain ⟨g1, g2⟩ := opf A2.1
    have w1 : an1 false (an (hfK t 3)) = an (hfK t 3) := rfl
    rw [w1] at g1 g2
    have g1' : ∀ w, fres .sub .f64 w 4602678819172646912 (an (hfK t 3)) = F .sub Whalf (an (hfK t 3)) := g1
    have g2' : fcnt .sub .f64 4602678819172646912 (an (hfK t 3)) = 0 := g2
    have HQ := Lib.hid AF.q
    have HR : Hid (angF (hfK t 3) false false false = ((an (hfK t 3)))) := Lib.hid rfl
    clear P AF A1 A2 e1 e2 n1 n2 f1 f2 g1 g2 w1 qq HPT HV tb
    generalize an (hfK t 3) = v0 at *
    generalize a8 (hfK t 3) = v8 at *
    generalize ap (hfK t 3) = vp at *
    obtain ⟨a, hga⟩ : ∃ a, Y % 9223372036854775808 = a := ⟨_, rfl⟩
    obtain ⟨b, hgb⟩ : ∃ b, X % 9223372036854775808 = b := ⟨_, rfl⟩
    rw [hga, hgb] at ov q1 q2
    have HA := Lib.hid hga
    have HB := Lib.hid hgb
    clear hga hgb
    go_enter Try.func32, Try.ntmps32
    go_wp2_with (first
      | (go_at_call 50; go_in)
      | (go_at_call 52; refine (abs_any Y _ Ylt).mono ?_; rintro e w' ⟨rfl, rfl⟩; rw [HA.out])
      | (go_at_call 52; refine (abs_any X _ Xlt).mono ?_; rintro e w' ⟨rfl, rfl⟩; rw [HB.out]))
    go_loop [7, 43] (fun z k => ∃ i : Nat, i ≤ 3 ∧ k = .int .i64 i ∧ z = .float .f64 (hfK t i)) (fun _ k => 3 - (intOf k).toNat)
    case atStart => exact ⟨0, by omega, rfl, rfl⟩
    case round =>
      obtain ⟨i, hi, rfl, rfl⟩ := hrel
      by_cases hlt : i < 3
      · have H := HHF.out i
        obtain ⟨c1, c2⟩ := opf H.m
        obtain ⟨c3, c4⟩ := opf H.a
        obtain ⟨c5, c6⟩ := opf H.b
        obtain ⟨c7, c8⟩ := opf H.q
        have HSQ := Lib.hid H.s
        have c3' : ∀ w, fres .add .f64 w 4607182418800017408 _ = _ := c3
        have c4' : fcnt .add .f64 4607182418800017408 _ = 0 := c4
        have c5' : ∀ w, fres .add .f64 w 4607182418800017408 _ = _ := c5
        have c6' : fcnt .add .f64 4607182418800017408 _ = 0 := c6
        have hk1 : hfK t (i + 1) = hf (hfK t i) := rfl
        have HK1 := Lib.hid hk1
        clear c3 c4 c5 c6 H hk1
        generalize hf (hfK t i) = t1 at *
        generalize hb (hfK t i) = tb at *
        generalize ha (hfK t i) = ta at *
        generalize sfix ta = ts at *
        generalize hfK t i = t0 at *
        generalize F .mul t0 t0 = tm at *
        go_wp2_with (go_at_call 55; refine (sqrt_num HSQ.out _).mono ?_; rintro e w' ⟨rfl, rfl⟩)
        go_round
        case rel => exact ⟨i + 1, by omega, by go_num, by rw [HK1.out]⟩
        case measure => simp [intOf]; omega
      · obtain rfl : i = 3 := by omega
        clear hlt
        generalize au (hfK t 3) = u at *
        generalize hfK t 3 = tt at *
        go_wp2
        go_loop [9, 10] (fun q k => ∃ l : Nat, l ≤ 8 ∧ k = .float .f64 (Ka l) ∧ q = .float .f64 (aq u l)) (fun _ k => mO k)
        case atStart => exact ⟨0, by omega, rfl, rfl⟩
        case round =>
          obtain ⟨l, hl, rfl, rfl⟩ := hrel
          by_cases hlt : l < 8
          · obtain ⟨r1, r2⟩ := HQ.out l hlt
            obtain ⟨r1, s1⟩ := opf r1
            obtain ⟨r2, s2⟩ := opf r2
            obtain ⟨o1, o2, _⟩ := ka_step l hlt
            obtain ⟨o1, m1⟩ := opf o1
            obtain ⟨o2, m2⟩ := opf o2
            have o3 := ka_test l (by omega)
            rw [decide_eq_true hlt] at o3
            have o3' : (FloatKind.f64.format.order (Ka l) 4607182418800017408 == some .gt || FloatKind.f64.format.order (Ka l) 4607182418800017408 == some .eq) = true := o3
            have HM := Lib.hid (mA_lt l hlt)
            skip
            clear o3
            generalize hq4 : aq u (l + 1) = x4 at *
            generalize aq u l = x3 at *
            generalize F .mul u x3 = x5 at *
            generalize Ca l = c at *
            generalize hk1 : Ka (l + 1) = k1 at *
            generalize Ka l = k0 at *
            go_wp2
            go_round
            case rel => exact ⟨l + 1, by omega, by rw [hk1], by rw [hq4]⟩
            case measure => exact HM.out
          · obtain rfl : l = 8 := by omega
            have o3 := ka_test 8 (by omega)
            rw [decide_eq_false hlt] at o3
            have o3' : (FloatKind.f64.format.order (Ka 8) 4607182418800017408 == some .gt || FloatKind.f64.format.order (Ka 8) 4607182418800017408 == some .eq) = false := o3
            clear o3 hlt
            generalize Ka 8 = k0 at *
            generalize aq u 8 = x3 at *
            go_wp2
            go_ret
            exact F32.mk (by rw [HR.out]; exact like_narrow (.refl _ _) (by rw [← HR.out]; exact hopen)) ⟨_, rfl⟩
  · have hzy : (FloatKind.f32.format.order y 0 == some .eq) = false := by
      rcases hz with h | h
      · rw [hzx] at h; cases h
      · exact h
    clear hz
    have P := HPT.out
    have ov := P.over
    obtain ⟨z0, q0⟩ := P.q0
    have qq := P.q
    have tb := P.bd
    have AF := af_ok (hfK_bd tb 3)
    have A1 := an1_ok false AF.bd
    have A2 := an2_ok false A1.2 (an1_lt false AF.bd (Ieee.Format.div_lt Ieee.double AF.n))
    have HHF := Lib.hid (fun k => hf_ok (hfK_bd tb k))
    have HV : Hid (angF (hfK t 3) false false false = angF (hfK t 3) false false false) := Lib.hid rfl
    simp only [Bool.false_eq_true, if_false] at qq
    obtain ⟨q1, q2⟩ := opf qq
    clear q0
    obtain ⟨u1, u2⟩ := opf AF.u
    obtain ⟨p1, p2⟩ := opf AF.p
    obtain ⟨e1, e2⟩ := opf AF.e
    obtain ⟨n1, n2⟩ := opf AF.n
    have e1' : ∀ w, fres .mul .f64 w 4620693217682128896 (ap (hfK t 3)) = a8 (hfK t 3) := e1
    have e2' : fcnt .mul .f64 4620693217682128896 (ap (hfK t 3)) = 0 := e2
    have n1' : ∀ w, fres .quo .f64 w (a8 (hfK t 3)) 4618760256179416344 = an (hfK t 3) := n1
    have n2' : fcnt .quo .f64 (a8 (hfK t 3)) 4618760256179416344 = 0 := n2
    obtain ⟨f1, f2⟩ := opf A1.1
    have f1' : ∀ w, fres .sub .f64 w 4598175219545276416 (an (hfK t 3)) = F .sub Wquarter (an (hfK t 3)) := f1
    have f2' : fcnt .sub .f64 4598175219545276416 (an (hfK t 3)) = 0 := f2
    obtain ⟨g1, g2⟩ := opf A2.1
    have w1 : an1 false (an (hfK t 3)) = an (hfK t 3) := rfl
    rw [w1] at g1 g2
    have g1' : ∀ w, fres .sub .f64 w 4602678819172646912 (an (hfK t 3)) = F .sub Whalf (an (hfK t 3)) := g1
    have g2' : fcnt .sub .f64 4602678819172646912 (an (hfK t 3)) = 0 := g2
    have HQ := Lib.hid AF.q
    have HR : Hid (angF (hfK t 3) false false false = ((an (hfK t 3)))) := Lib.hid rfl
    clear P AF A1 A2 e1 e2 n1 n2 f1 f2 g1 g2 w1 qq HPT HV tb
    generalize an (hfK t 3) = v0 at *
    generalize a8 (hfK t 3) = v8 at *
    generalize ap (hfK t 3) = vp at *
    obtain ⟨a, hga⟩ : ∃ a, Y % 9223372036854775808 = a := ⟨_, rfl⟩
    obtain ⟨b, hgb⟩ : ∃ b, X % 9223372036854775808 = b := ⟨_, rfl⟩
    rw [hga, hgb] at ov q1 q2
    have HA := Lib.hid hga
    have HB := Lib.hid hgb
    clear hga hgb
    go_enter Try.func32, Try.ntmps32
    go_wp2_with (first
      | (go_at_call 50; go_in)
      | (go_at_call 52; refine (abs_any Y _ Ylt).mono ?_; rintro e w' ⟨rfl, rfl⟩; rw [HA.out])
      | (go_at_call 52; refine (abs_any X _ Xlt).mono ?_; rintro e w' ⟨rfl, rfl⟩; rw [HB.out]))
    go_loop [7, 43] (fun z k => ∃ i : Nat, i ≤ 3 ∧ k = .int .i64 i ∧ z = .float .f64 (hfK t i)) (fun _ k => 3 - (intOf k).toNat)
    case atStart => exact ⟨0, by omega, rfl, rfl⟩
    case round =>
      obtain ⟨i, hi, rfl, rfl⟩ := hrel
      by_cases hlt : i < 3
      · have H := HHF.out i
        obtain ⟨c1, c2⟩ := opf H.m
        obtain ⟨c3, c4⟩ := opf H.a
        obtain ⟨c5, c6⟩ := opf H.b
        obtain ⟨c7, c8⟩ := opf H.q
        have HSQ := Lib.hid H.s
        have c3' : ∀ w, fres .add .f64 w 4607182418800017408 _ = _ := c3
        have c4' : fcnt .add .f64 4607182418800017408 _ = 0 := c4
        have c5' : ∀ w, fres .add .f64 w 4607182418800017408 _ = _ := c5
        have c6' : fcnt .add .f64 4607182418800017408 _ = 0 := c6
        have hk1 : hfK t (i + 1) = hf (hfK t i) := rfl
        have HK1 := Lib.hid hk1
        clear c3 c4 c5 c6 H hk1
        generalize hf (hfK t i) = t1 at *
        generalize hb (hfK t i) = tb at *
        generalize ha (hfK t i) = ta at *
        generalize sfix ta = ts at *
        generalize hfK t i = t0 at *
        generalize F .mul t0 t0 = tm at *
        go_wp2_with (go_at_call 55; refine (sqrt_num HSQ.out _).mono ?_; rintro e w' ⟨rfl, rfl⟩)
        go_round
        case rel => exact ⟨i + 1, by omega, by go_num, by rw [HK1.out]⟩
        case measure => simp [intOf]; omega
      · obtain rfl : i = 3 := by omega
        clear hlt
        generalize au (hfK t 3) = u at *
        generalize hfK t 3 = tt at *
        go_wp2
        go_loop [9, 10] (fun q k => ∃ l : Nat, l ≤ 8 ∧ k = .float .f64 (Ka l) ∧ q = .float .f64 (aq u l)) (fun _ k => mO k)
        case atStart => exact ⟨0, by omega, rfl, rfl⟩
        case round =>
          obtain ⟨l, hl, rfl, rfl⟩ := hrel
          by_cases hlt : l < 8
          · obtain ⟨r1, r2⟩ := HQ.out l hlt
            obtain ⟨r1, s1⟩ := opf r1
            obtain ⟨r2, s2⟩ := opf r2
            obtain ⟨o1, o2, _⟩ := ka_step l hlt
            obtain ⟨o1, m1⟩ := opf o1
            obtain ⟨o2, m2⟩ := opf o2
            have o3 := ka_test l (by omega)
            rw [decide_eq_true hlt] at o3
            have o3' : (FloatKind.f64.format.order (Ka l) 4607182418800017408 == some .gt || FloatKind.f64.format.order (Ka l) 4607182418800017408 == some .eq) = true := o3
            have HM := Lib.hid (mA_lt l hlt)
            skip
            clear o3
            generalize hq4 : aq u (l + 1) = x4 at *
            generalize aq u l = x3 at *
            generalize F .mul u x3 = x5 at *
            generalize Ca l = c at *
            generalize hk1 : Ka (l + 1) = k1 at *
            generalize Ka l = k0 at *
            go_wp2
            go_round
            case rel => exact ⟨l + 1, by omega, by rw [hk1], by rw [hq4]⟩
            case measure => exact HM.out
          · obtain rfl : l = 8 := by omega
            have o3 := ka_test 8 (by omega)
            rw [decide_eq_false hlt] at o3
            have o3' : (FloatKind.f64.format.order (Ka 8) 4607182418800017408 == some .gt || FloatKind.f64.format.order (Ka 8) 4607182418800017408 == some .eq) = false := o3
            clear o3 hlt
            generalize Ka 8 = k0 at *
            generalize aq u 8 = x3 at *
            go_wp2
            go_ret
            exact F32.mk (by rw [HR.out]; exact like_narrow (.refl _ _) (by rw [← HR.out]; exact hopen)) ⟨_, rfl⟩

set_option maxHeartbeats 4000000 in
set_option maxRecDepth 100000 in
theorem angle_fft (y x Y X t : Nat) (HPT : Hid (Pt Y X t false)) (Ylt : Y < 18446744073709551616) (Xlt : X < 18446744073709551616) (w : World)
    (yc : ∀ w, cres .f32 .f64 w y = Y) (yn : ccnt .f32 .f64 y = 0) (xc : ∀ w, cres .f32 .f64 w x = X) (xn : ccnt .f32 .f64 x = 0)
    (ys : ∀ w, fres .sub .f32 w y y = 0) (yf : fcnt .sub .f32 y y = 0) (xs : ∀ w, fres .sub .f32 w x x = 0) (xf : fcnt .sub .f32 x x = 0)
    (hz : (FloatKind.f32.format.order x 0 == some .eq) = false ∨ (FloatKind.f32.format.order y 0 == some .eq) = false)
    (o2 : (FloatKind.f32.format.order x 0 == some .lt) = false) (o3 : (FloatKind.f32.format.order y 0 == some .lt) = true) (hopen : tooGreat .f64 .f32 (angF (hfK t 3) false false true) = false) :
    Calls Try.prog 32 #[.float .f32 y, .float .f32 x] w (F32 (fconv .f64 .f32 (angF (hfK t 3) false false true)) w) := by
  have f00 : (FloatKind.f32.format.order 0 0 == some .eq) = true := by decide +kernel
  cases hzx : (FloatKind.f32.format.order x 0 == some .eq)
  · clear hz
    have P := HPT.out
    have ov := P.over
    obtain ⟨z0, q0⟩ := P.q0
    have qq := P.q
    have tb := P.bd
    have AF := af_ok (hfK_bd tb 3)
    have A1 := an1_ok false AF.bd
    have A2 := an2_ok false A1.2 (an1_lt false AF.bd (Ieee.Format.div_lt Ieee.double AF.n))
    have HHF := Lib.hid (fun k => hf_ok (hfK_bd tb k))
    have HV : Hid (angF (hfK t 3) false false true = angF (hfK t 3) false false true) := Lib.hid rfl
    simp only [Bool.false_eq_true, if_false] at qq
    obtain ⟨q1, q2⟩ := opf qq
    clear q0
    obtain ⟨u1, u2⟩ := opf AF.u
    obtain ⟨p1, p2⟩ := opf AF.p
    obtain ⟨e1, e2⟩ := opf AF.e
    obtain ⟨n1, n2⟩ := opf AF.n
    have e1' : ∀ w, fres .mul .f64 w 4620693217682128896 (ap (hfK t 3)) = a8 (hfK t 3) := e1
    have e2' : fcnt .mul .f64 4620693217682128896 (ap (hfK t 3)) = 0 := e2
    have n1' : ∀ w, fres .quo .f64 w (a8 (hfK t 3)) 4618760256179416344 = an (hfK t 3) := n1
    have n2' : fcnt .quo .f64 (a8 (hfK t 3)) 4618760256179416344 = 0 := n2
    obtain ⟨f1, f2⟩ := opf A1.1
    have f1' : ∀ w, fres .sub .f64 w 4598175219545276416 (an (hfK t 3)) = F .sub Wquarter (an (hfK t 3)) := f1
    have f2' : fcnt .sub .f64 4598175219545276416 (an (hfK t 3)) = 0 := f2
    obtain ⟨g1, g2⟩ := opf A2.1
    have w1 : an1 false (an (hfK t 3)) = an (hfK t 3) := rfl
    rw [w1] at g1 g2
    have g1' : ∀ w, fres .sub .f64 w 4602678819172646912 (an (hfK t 3)) = F .sub Whalf (an (hfK t 3)) := g1
    have g2' : fcnt .sub .f64 4602678819172646912 (an (hfK t 3)) = 0 := g2
    have HQ := Lib.hid AF.q
    have HR : Hid (angF (hfK t 3) false false true = Op.negFloat .f64 ((an (hfK t 3)))) := Lib.hid rfl
    clear P AF A1 A2 e1 e2 n1 n2 f1 f2 g1 g2 w1 qq HPT HV tb
    generalize an (hfK t 3) = v0 at *
    generalize a8 (hfK t 3) = v8 at *
    generalize ap (hfK t 3) = vp at *
    obtain ⟨a, hga⟩ : ∃ a, Y % 9223372036854775808 = a := ⟨_, rfl⟩
    obtain ⟨b, hgb⟩ : ∃ b, X % 9223372036854775808 = b := ⟨_, rfl⟩
    rw [hga, hgb] at ov q1 q2
    have HA := Lib.hid hga
    have HB := Lib.hid hgb
    clear hga hgb
    go_enter Try.func32, Try.ntmps32
    go_wp2_with (first
      | (go_at_call 50; go_in)
      | (go_at_call 52; refine (abs_any Y _ Ylt).mono ?_; rintro e w' ⟨rfl, rfl⟩; rw [HA.out])
      | (go_at_call 52; refine (abs_any X _ Xlt).mono ?_; rintro e w' ⟨rfl, rfl⟩; rw [HB.out]))
    go_loop [7, 43] (fun z k => ∃ i : Nat, i ≤ 3 ∧ k = .int .i64 i ∧ z = .float .f64 (hfK t i)) (fun _ k => 3 - (intOf k).toNat)
    case atStart => exact ⟨0, by omega, rfl, rfl⟩
    case round =>
      obtain ⟨i, hi, rfl, rfl⟩ := hrel
      by_cases hlt : i < 3
      · have H := HHF.out i
        obtain ⟨c1, c2⟩ := opf H.m
        obtain ⟨c3, c4⟩ := opf H.a
        obtain ⟨c5, c6⟩ := opf H.b
        obtain ⟨c7, c8⟩ := opf H.q
        have HSQ := Lib.hid H.s
        have c3' : ∀ w, fres .add .f64 w 4607182418800017408 _ = _ := c3
        have c4' : fcnt .add .f64 4607182418800017408 _ = 0 := c4
        have c5' : ∀ w, fres .add .f64 w 4607182418800017408 _ = _ := c5
        have c6' : fcnt .add .f64 4607182418800017408 _ = 0 := c6
        have hk1 : hfK t (i + 1) = hf (hfK t i) := rfl
        have HK1 := Lib.hid hk1
        clear c3 c4 c5 c6 H hk1
        generalize hf (hfK t i) = t1 at *
        generalize hb (hfK t i) = tb at *
        generalize ha (hfK t i) = ta at *
        generalize sfix ta = ts at *
        generalize hfK t i = t0 at *
        generalize F .mul t0 t0 = tm at *
        go_wp2_with (go_at_call 55; refine (sqrt_num HSQ.out _).mono ?_; rintro e w' ⟨rfl, rfl⟩)
        go_round
        case rel => exact ⟨i + 1, by omega, by go_num, by rw [HK1.out]⟩
        case measure => simp [intOf]; omega
      · obtain rfl : i = 3 := by omega
        clear hlt
        generalize au (hfK t 3) = u at *
        generalize hfK t 3 = tt at *
        go_wp2
        go_loop [9, 10] (fun q k => ∃ l : Nat, l ≤ 8 ∧ k = .float .f64 (Ka l) ∧ q = .float .f64 (aq u l)) (fun _ k => mO k)
        case atStart => exact ⟨0, by omega, rfl, rfl⟩
        case round =>
          obtain ⟨l, hl, rfl, rfl⟩ := hrel
          by_cases hlt : l < 8
          · obtain ⟨r1, r2⟩ := HQ.out l hlt
            obtain ⟨r1, s1⟩ := opf r1
            obtain ⟨r2, s2⟩ := opf r2
            obtain ⟨o1, o2, _⟩ := ka_step l hlt
            obtain ⟨o1, m1⟩ := opf o1
            obtain ⟨o2, m2⟩ := opf o2
            have o3 := ka_test l (by omega)
            rw [decide_eq_true hlt] at o3
            have o3' : (FloatKind.f64.format.order (Ka l) 4607182418800017408 == some .gt || FloatKind.f64.format.order (Ka l) 4607182418800017408 == some .eq) = true := o3
            have HM := Lib.hid (mA_lt l hlt)
            skip
            clear o3
            generalize hq4 : aq u (l + 1) = x4 at *
            generalize aq u l = x3 at *
            generalize F .mul u x3 = x5 at *
            generalize Ca l = c at *
            generalize hk1 : Ka (l + 1) = k1 at *
            generalize Ka l = k0 at *
            go_wp2
            go_round
            case rel => exact ⟨l + 1, by omega, by rw [hk1], by rw [hq4]⟩
            case measure => exact HM.out
          · obtain rfl : l = 8 := by omega
            have o3 := ka_test 8 (by omega)
            rw [decide_eq_false hlt] at o3
            have o3' : (FloatKind.f64.format.order (Ka 8) 4607182418800017408 == some .gt || FloatKind.f64.format.order (Ka 8) 4607182418800017408 == some .eq) = false := o3
            clear o3 hlt
            generalize Ka 8 = k0 at *
            generalize aq u 8 = x3 at *
            go_wp2
            go_ret
            exact F32.mk (by rw [HR.out]; exact like_narrow (.refl _ _) (by rw [← HR.out]; exact hopen)) ⟨_, rfl⟩
  · have hzy : (FloatKind.f32.format.order y 0 == some .eq) = false := by
      rcases hz with h | h
      · rw [hzx] at h; cases h
      · exact h
    clear hz
    have P := HPT.out
    have ov := P.over
    obtain ⟨z0, q0⟩ := P.q0
    have qq := P.q
    have tb := P.bd
    have AF := af_ok (hfK_bd tb 3)
    have A1 := an1_ok false AF.bd
    have A2 := an2_ok false A1.2 (an1_lt false AF.bd (Ieee.Format.div_lt Ieee.double AF.n))
    have HHF := Lib.hid (fun k => hf_ok (hfK_bd tb k))
    have HV : Hid (angF (hfK t 3) false false true = angF (hfK t 3) false false true) := Lib.hid rfl
    simp only [Bool.false_eq_true, if_false] at qq
    obtain ⟨q1, q2⟩ := opf qq
    clear q0
    obtain ⟨u1, u2⟩ := opf AF.u
    obtain ⟨p1, p2⟩ := opf AF.p
    obtain ⟨e1, e2⟩ := opf AF.e
    obtain ⟨n1, n2⟩ := opf AF.n
    have e1' : ∀ w, fres .mul .f64 w 4620693217682128896 (ap (hfK t 3)) = a8 (hfK t 3) := e1
    have e2' : fcnt .mul .f64 4620693217682128896 (ap (hfK t 3)) = 0 := e2
    have n1' : ∀ w, fres .quo .f64 w (a8 (hfK t 3)) 4618760256179416344 = an (hfK t 3) := n1
    have n2' : fcnt .quo .f64 (a8 (hfK t 3)) 4618760256179416344 = 0 := n2
    obtain ⟨f1, f2⟩ := opf A1.1
    have f1' : ∀ w, fres .sub .f64 w 4598175219545276416 (an (hfK t 3)) = F .sub Wquarter (an (hfK t 3)) := f1
    have f2' : fcnt .sub .f64 4598175219545276416 (an (hfK t 3)) = 0 := f2
    obtain ⟨g1, g2⟩ := opf A2.1
    have w1 : an1 false (an (hfK t 3)) = an (hfK t 3) := rfl
    rw [w1] at g1 g2
    have g1' : ∀ w, fres .sub .f64 w 4602678819172646912 (an (hfK t 3)) = F .sub Whalf (an (hfK t 3)) := g1
    have g2' : fcnt .sub .f64 4602678819172646912 (an (hfK t 3)) = 0 := g2
    have HQ := Lib.hid AF.q
    have HR : Hid (angF (hfK t 3) false false true = Op.negFloat .f64 ((an (hfK t 3)))) := Lib.hid rfl
    clear P AF A1 A2 e1 e2 n1 n2 f1 f2 g1 g2 w1 qq HPT HV tb
    generalize an (hfK t 3) = v0 at *
    generalize a8 (hfK t 3) = v8 at *
    generalize ap (hfK t 3) = vp at *
    obtain ⟨a, hga⟩ : ∃ a, Y % 9223372036854775808 = a := ⟨_, rfl⟩
    obtain ⟨b, hgb⟩ : ∃ b, X % 9223372036854775808 = b := ⟨_, rfl⟩
    rw [hga, hgb] at ov q1 q2
    have HA := Lib.hid hga
    have HB := Lib.hid hgb
    clear hga hgb
    go_enter Try.func32, Try.ntmps32
    go_wp2_with (first
      | (go_at_call 50; go_in)
      | (go_at_call 52; refine (abs_any Y _ Ylt).mono ?_; rintro e w' ⟨rfl, rfl⟩; rw [HA.out])
      | (go_at_call 52; refine (abs_any X _ Xlt).mono ?_; rintro e w' ⟨rfl, rfl⟩; rw [HB.out]))
    go_loop [7, 43] (fun z k => ∃ i : Nat, i ≤ 3 ∧ k = .int .i64 i ∧ z = .float .f64 (hfK t i)) (fun _ k => 3 - (intOf k).toNat)
    case atStart => exact ⟨0, by omega, rfl, rfl⟩
    case round =>
      obtain ⟨i, hi, rfl, rfl⟩ := hrel
      by_cases hlt : i < 3
      · have H := HHF.out i
        obtain ⟨c1, c2⟩ := opf H.m
        obtain ⟨c3, c4⟩ := opf H.a
        obtain ⟨c5, c6⟩ := opf H.b
        obtain ⟨c7, c8⟩ := opf H.q
        have HSQ := Lib.hid H.s
        have c3' : ∀ w, fres .add .f64 w 4607182418800017408 _ = _ := c3
        have c4' : fcnt .add .f64 4607182418800017408 _ = 0 := c4
        have c5' : ∀ w, fres .add .f64 w 4607182418800017408 _ = _ := c5
        have c6' : fcnt .add .f64 4607182418800017408 _ = 0 := c6
        have hk1 : hfK t (i + 1) = hf (hfK t i) := rfl
        have HK1 := Lib.hid hk1
        clear c3 c4 c5 c6 H hk1
        generalize hf (hfK t i) = t1 at *
        generalize hb (hfK t i) = tb at *
        generalize ha (hfK t i) = ta at *
        generalize sfix ta = ts at *
        generalize hfK t i = t0 at *
        generalize F .mul t0 t0 = tm at *
        go_wp2_with (go_at_call 55; refine (sqrt_num HSQ.out _).mono ?_; rintro e w' ⟨rfl, rfl⟩)
        go_round
        case rel => exact ⟨i + 1, by omega, by go_num, by rw [HK1.out]⟩
        case measure => simp [intOf]; omega
      · obtain rfl : i = 3 := by omega
        clear hlt
        generalize au (hfK t 3) = u at *
        generalize hfK t 3 = tt at *
        go_wp2
        go_loop [9, 10] (fun q k => ∃ l : Nat, l ≤ 8 ∧ k = .float .f64 (Ka l) ∧ q = .float .f64 (aq u l)) (fun _ k => mO k)
        case atStart => exact ⟨0, by omega, rfl, rfl⟩
        case round =>
          obtain ⟨l, hl, rfl, rfl⟩ := hrel
          by_cases hlt : l < 8
          · obtain ⟨r1, r2⟩ := HQ.out l hlt
            obtain ⟨r1, s1⟩ := opf r1
            obtain ⟨r2, s2⟩ := opf r2
            obtain ⟨o1, o2, _⟩ := ka_step l hlt
            obtain ⟨o1, m1⟩ := opf o1
            obtain ⟨o2, m2⟩ := opf o2
            have o3 := ka_test l (by omega)
            rw [decide_eq_true hlt] at o3
            have o3' : (FloatKind.f64.format.order (Ka l) 4607182418800017408 == some .gt || FloatKind.f64.format.order (Ka l) 4607182418800017408 == some .eq) = true := o3
            have HM := Lib.hid (mA_lt l hlt)
            skip
            clear o3
            generalize hq4 : aq u (l + 1) = x4 at *
            generalize aq u l = x3 at *
            generalize F .mul u x3 = x5 at *
            generalize Ca l = c at *
            generalize hk1 : Ka (l + 1) = k1 at *
            generalize Ka l = k0 at *
            go_wp2
            go_round
            case rel => exact ⟨l + 1, by omega, by rw [hk1], by rw [hq4]⟩
            case measure => exact HM.out
          · obtain rfl : l = 8 := by omega
            have o3 := ka_test 8 (by omega)
            rw [decide_eq_false hlt] at o3
            have o3' : (FloatKind.f64.format.order (Ka 8) 4607182418800017408 == some .gt || FloatKind.f64.format.order (Ka 8) 4607182418800017408 == some .eq) = false := o3
            clear o3 hlt
            generalize Ka 8 = k0 at *
            generalize aq u 8 = x3 at *
            go_wp2
            go_ret
            exact F32.mk (by rw [HR.out]; exact like_narrow (.refl _ _) (by rw [← HR.out]; exact hopen)) ⟨_, rfl⟩

set_option maxHeartbeats 4000000 in
set_option maxRecDepth 100000 in
theorem angle_ftf (y x Y X t : Nat) (HPT : Hid (Pt Y X t false)) (Ylt : Y < 18446744073709551616) (Xlt : X < 18446744073709551616) (w : World)
    (yc : ∀ w, cres .f32 .f64 w y = Y) (yn : ccnt .f32 .f64 y = 0) (xc : ∀ w, cres .f32 .f64 w x = X) (xn : ccnt .f32 .f64 x = 0)
    (ys : ∀ w, fres .sub .f32 w y y = 0) (yf : fcnt .sub .f32 y y = 0) (xs : ∀ w, fres .sub .f32 w x x = 0) (xf : fcnt .sub .f32 x x = 0)
    (hz : (FloatKind.f32.format.order x 0 == some .eq) = false ∨ (FloatKind.f32.format.order y 0 == some .eq) = false)
    (o2 : (FloatKind.f32.format.order x 0 == some .lt) = true) (o3 : (FloatKind.f32.format.order y 0 == some .lt) = false) (hopen : tooGreat .f64 .f32 (angF (hfK t 3) false true false) = false) :
    Calls Try.prog 32 #[.float .f32 y, .float .f32 x] w (F32 (fconv .f64 .f32 (angF (hfK t 3) false true false)) w) := by
  have f00 : (FloatKind.f32.format.order 0 0 == some .eq) = true := by decide +kernel
  cases hzx : (FloatKind.f32.format.order x 0 == some .eq)
  · clear hz
    have P := HPT.out
    have ov := P.over
    obtain ⟨z0, q0⟩ := P.q0
    have qq := P.q
    have tb := P.bd
    have AF := af_ok (hfK_bd tb 3)
    have A1 := an1_ok false AF.bd
    have A2 := an2_ok true A1.2 (an1_lt false AF.bd (Ieee.Format.div_lt Ieee.double AF.n))
    have HHF := Lib.hid (fun k => hf_ok (hfK_bd tb k))
    have HV : Hid (angF (hfK t 3) false true false = angF (hfK t 3) false true false) := Lib.hid rfl
    simp only [Bool.false_eq_true, if_false] at qq
    obtain ⟨q1, q2⟩ := opf qq
    clear q0
    obtain ⟨u1, u2⟩ := opf AF.u
    obtain ⟨p1, p2⟩ := opf AF.p
    obtain ⟨e1, e2⟩ := opf AF.e
    obtain ⟨n1, n2⟩ := opf AF.n
    have e1' : ∀ w, fres .mul .f64 w 4620693217682128896 (ap (hfK t 3)) = a8 (hfK t 3) := e1
    have e2' : fcnt .mul .f64 4620693217682128896 (ap (hfK t 3)) = 0 := e2
    have n1' : ∀ w, fres .quo .f64 w (a8 (hfK t 3)) 4618760256179416344 = an (hfK t 3) := n1
    have n2' : fcnt .quo .f64 (a8 (hfK t 3)) 4618760256179416344 = 0 := n2
    obtain ⟨f1, f2⟩ := opf A1.1
    have f1' : ∀ w, fres .sub .f64 w 4598175219545276416 (an (hfK t 3)) = F .sub Wquarter (an (hfK t 3)) := f1
    have f2' : fcnt .sub .f64 4598175219545276416 (an (hfK t 3)) = 0 := f2
    obtain ⟨g1, g2⟩ := opf A2.1
    have w1 : an1 false (an (hfK t 3)) = an (hfK t 3) := rfl
    rw [w1] at g1 g2
    have g1' : ∀ w, fres .sub .f64 w 4602678819172646912 (an (hfK t 3)) = F .sub Whalf (an (hfK t 3)) := g1
    have g2' : fcnt .sub .f64 4602678819172646912 (an (hfK t 3)) = 0 := g2
    have HQ := Lib.hid AF.q
    have HR : Hid (angF (hfK t 3) false true false = (F .sub Whalf (an (hfK t 3)))) := Lib.hid rfl
    clear P AF A1 A2 e1 e2 n1 n2 f1 f2 g1 g2 w1 qq HPT HV tb
    generalize an (hfK t 3) = v0 at *
    generalize a8 (hfK t 3) = v8 at *
    generalize ap (hfK t 3) = vp at *
    generalize F .sub Whalf v0 = vh at *
    obtain ⟨a, hga⟩ : ∃ a, Y % 9223372036854775808 = a := ⟨_, rfl⟩
    obtain ⟨b, hgb⟩ : ∃ b, X % 9223372036854775808 = b := ⟨_, rfl⟩
    rw [hga, hgb] at ov q1 q2
    have HA := Lib.hid hga
    have HB := Lib.hid hgb
    clear hga hgb
    go_enter Try.func32, Try.ntmps32
    go_wp2_with (first
      | (go_at_call 50; go_in)
      | (go_at_call 52; refine (abs_any Y _ Ylt).mono ?_; rintro e w' ⟨rfl, rfl⟩; rw [HA.out])
      | (go_at_call 52; refine (abs_any X _ Xlt).mono ?_; rintro e w' ⟨rfl, rfl⟩; rw [HB.out]))
    go_loop [7, 43] (fun z k => ∃ i : Nat, i ≤ 3 ∧ k = .int .i64 i ∧ z = .float .f64 (hfK t i)) (fun _ k => 3 - (intOf k).toNat)
    case atStart => exact ⟨0, by omega, rfl, rfl⟩
    case round =>
      obtain ⟨i, hi, rfl, rfl⟩ := hrel
      by_cases hlt : i < 3
      · have H := HHF.out i
        obtain ⟨c1, c2⟩ := opf H.m
        obtain ⟨c3, c4⟩ := opf H.a
        obtain ⟨c5, c6⟩ := opf H.b
        obtain ⟨c7, c8⟩ := opf H.q
        have HSQ := Lib.hid H.s
        have c3' : ∀ w, fres .add .f64 w 4607182418800017408 _ = _ := c3
        have c4' : fcnt .add .f64 4607182418800017408 _ = 0 := c4
        have c5' : ∀ w, fres .add .f64 w 4607182418800017408 _ = _ := c5
        have c6' : fcnt .add .f64 4607182418800017408 _ = 0 := c6
        have hk1 : hfK t (i + 1) = hf (hfK t i) := rfl
        have HK1 := Lib.hid hk1
        clear c3 c4 c5 c6 H hk1
        generalize hf (hfK t i) = t1 at *
        generalize hb (hfK t i) = tb at *
        generalize ha (hfK t i) = ta at *
        generalize sfix ta = ts at *
        generalize hfK t i = t0 at *
        generalize F .mul t0 t0 = tm at *
        go_wp2_with (go_at_call 55; refine (sqrt_num HSQ.out _).mono ?_; rintro e w' ⟨rfl, rfl⟩)
        go_round
        case rel => exact ⟨i + 1, by omega, by go_num, by rw [HK1.out]⟩
        case measure => simp [intOf]; omega
      · obtain rfl : i = 3 := by omega
        clear hlt
        generalize au (hfK t 3) = u at *
        generalize hfK t 3 = tt at *
        go_wp2
        go_loop [9, 10] (fun q k => ∃ l : Nat, l ≤ 8 ∧ k = .float .f64 (Ka l) ∧ q = .float .f64 (aq u l)) (fun _ k => mO k)
        case atStart => exact ⟨0, by omega, rfl, rfl⟩
        case round =>
          obtain ⟨l, hl, rfl, rfl⟩ := hrel
          by_cases hlt : l < 8
          · obtain ⟨r1, r2⟩ := HQ.out l hlt
            obtain ⟨r1, s1⟩ := opf r1
            obtain ⟨r2, s2⟩ := opf r2
            obtain ⟨o1, o2, _⟩ := ka_step l hlt
            obtain ⟨o1, m1⟩ := opf o1
            obtain ⟨o2, m2⟩ := opf o2
            have o3 := ka_test l (by omega)
            rw [decide_eq_true hlt] at o3
            have o3' : (FloatKind.f64.format.order (Ka l) 4607182418800017408 == some .gt || FloatKind.f64.format.order (Ka l) 4607182418800017408 == some .eq) = true := o3
            have HM := Lib.hid (mA_lt l hlt)
            skip
            clear o3
            generalize hq4 : aq u (l + 1) = x4 at *
            generalize aq u l = x3 at *
            generalize F .mul u x3 = x5 at *
            generalize Ca l = c at *
            generalize hk1 : Ka (l + 1) = k1 at *
            generalize Ka l = k0 at *
            go_wp2
            go_round
            case rel => exact ⟨l + 1, by omega, by rw [hk1], by rw [hq4]⟩
            case measure => exact HM.out
          · obtain rfl : l = 8 := by omega
            have o3 := ka_test 8 (by omega)
            rw [decide_eq_false hlt] at o3
            have o3' : (FloatKind.f64.format.order (Ka 8) 4607182418800017408 == some .gt || FloatKind.f64.format.order (Ka 8) 4607182418800017408 == some .eq) = false := o3
            clear o3 hlt
            generalize Ka 8 = k0 at *
            generalize aq u 8 = x3 at *
            go_wp2
            go_ret
            exact F32.mk (by rw [HR.out]; exact like_narrow (.refl _ _) (by rw [← HR.out]; exact hopen)) ⟨_, rfl⟩
  · have hzy : (FloatKind.f32.format.order y 0 == some .eq) = false := by
      rcases hz with h | h
      · rw [hzx] at h; cases h
      · exact h
    clear hz
    have P := HPT.out
    have ov := P.over
    obtain ⟨z0, q0⟩ := P.q0
    have qq := P.q
    have tb := P.bd
    have AF := af_ok (hfK_bd tb 3)
    have A1 := an1_ok false AF.bd
    have A2 := an2_ok true A1.2 (an1_lt false AF.bd (Ieee.Format.div_lt Ieee.double AF.n))
    have HHF := Lib.hid (fun k => hf_ok (hfK_bd tb k))
    have HV : Hid (angF (hfK t 3) false true false = angF (hfK t 3) false true false) := Lib.hid rfl
    simp only [Bool.false_eq_true, if_false] at qq
    obtain ⟨q1, q2⟩ := opf qq
    clear q0
    obtain ⟨u1, u2⟩ := opf AF.u
    obtain ⟨p1, p2⟩ := opf AF.p
    obtain ⟨e1, e2⟩ := opf AF.e
    obtain ⟨n1, n2⟩ := opf AF.n
    have e1' : ∀ w, fres .mul .f64 w 4620693217682128896 (ap (hfK t 3)) = a8 (hfK t 3) := e1
    have e2' : fcnt .mul .f64 4620693217682128896 (ap (hfK t 3)) = 0 := e2
    have n1' : ∀ w, fres .quo .f64 w (a8 (hfK t 3)) 4618760256179416344 = an (hfK t 3) := n1
    have n2' : fcnt .quo .f64 (a8 (hfK t 3)) 4618760256179416344 = 0 := n2
    obtain ⟨f1, f2⟩ := opf A1.1
    have f1' : ∀ w, fres .sub .f64 w 4598175219545276416 (an (hfK t 3)) = F .sub Wquarter (an (hfK t 3)) := f1
    have f2' : fcnt .sub .f64 4598175219545276416 (an (hfK t 3)) = 0 := f2
    obtain ⟨g1, g2⟩ := opf A2.1
    have w1 : an1 false (an (hfK t 3)) = an (hfK t 3) := rfl
    rw [w1] at g1 g2
    have g1' : ∀ w, fres .sub .f64 w 4602678819172646912 (an (hfK t 3)) = F .sub Whalf (an (hfK t 3)) := g1
    have g2' : fcnt .sub .f64 4602678819172646912 (an (hfK t 3)) = 0 := g2
    have HQ := Lib.hid AF.q
    have HR : Hid (angF (hfK t 3) false true false = (F .sub Whalf (an (hfK t 3)))) := Lib.hid rfl
    clear P AF A1 A2 e1 e2 n1 n2 f1 f2 g1 g2 w1 qq HPT HV tb
    generalize an (hfK t 3) = v0 at *
    generalize a8 (hfK t 3) = v8 at *
    generalize ap (hfK t 3) = vp at *
    generalize F .sub Whalf v0 = vh at *
    obtain ⟨a, hga⟩ : ∃ a, Y % 9223372036854775808 = a := ⟨_, rfl⟩
    obtain ⟨b, hgb⟩ : ∃ b, X % 9223372036854775808 = b := ⟨_, rfl⟩
    rw [hga, hgb] at ov q1 q2
    have HA := Lib.hid hga
    have HB := Lib.hid hgb
    clear hga hgb
    go_enter Try.func32, Try.ntmps32
    go_wp2_with (first
      | (go_at_call 50; go_in)
      | (go_at_call 52; refine (abs_any Y _ Ylt).mono ?_; rintro e w' ⟨rfl, rfl⟩; rw [HA.out])
      | (go_at_call 52; refine (abs_any X _ Xlt).mono ?_; rintro e w' ⟨rfl, rfl⟩; rw [HB.out]))
    go_loop [7, 43] (fun z k => ∃ i : Nat, i ≤ 3 ∧ k = .int .i64 i ∧ z = .float .f64 (hfK t i)) (fun _ k => 3 - (intOf k).toNat)
    case atStart => exact ⟨0, by omega, rfl, rfl⟩
    case round =>
      obtain ⟨i, hi, rfl, rfl⟩ := hrel
      by_cases hlt : i < 3
      · have H := HHF.out i
        obtain ⟨c1, c2⟩ := opf H.m
        obtain ⟨c3, c4⟩ := opf H.a
        obtain ⟨c5, c6⟩ := opf H.b
        obtain ⟨c7, c8⟩ := opf H.q
        have HSQ := Lib.hid H.s
        have c3' : ∀ w, fres .add .f64 w 4607182418800017408 _ = _ := c3
        have c4' : fcnt .add .f64 4607182418800017408 _ = 0 := c4
        have c5' : ∀ w, fres .add .f64 w 4607182418800017408 _ = _ := c5
        have c6' : fcnt .add .f64 4607182418800017408 _ = 0 := c6
        have hk1 : hfK t (i + 1) = hf (hfK t i) := rfl
        have HK1 := Lib.hid hk1
        clear c3 c4 c5 c6 H hk1
        generalize hf (hfK t i) = t1 at *
        generalize hb (hfK t i) = tb at *
        generalize ha (hfK t i) = ta at *
        generalize sfix ta = ts at *
        generalize hfK t i = t0 at *
        generalize F .mul t0 t0 = tm at *
        go_wp2_with (go_at_call 55; refine (sqrt_num HSQ.out _).mono ?_; rintro e w' ⟨rfl, rfl⟩)
        go_round
        case rel => exact ⟨i + 1, by omega, by go_num, by rw [HK1.out]⟩
        case measure => simp [intOf]; omega
      · obtain rfl : i = 3 := by omega
        clear hlt
        generalize au (hfK t 3) = u at *
        generalize hfK t 3 = tt at *
        go_wp2
        go_loop [9, 10] (fun q k => ∃ l : Nat, l ≤ 8 ∧ k = .float .f64 (Ka l) ∧ q = .float .f64 (aq u l)) (fun _ k => mO k)
        case atStart => exact ⟨0, by omega, rfl, rfl⟩
        case round =>
          obtain ⟨l, hl, rfl, rfl⟩ := hrel
          by_cases hlt : l < 8
          · obtain ⟨r1, r2⟩ := HQ.out l hlt
            obtain ⟨r1, s1⟩ := opf r1
            obtain ⟨r2, s2⟩ := opf r2
            obtain ⟨o1, o2, _⟩ := ka_step l hlt
            obtain ⟨o1, m1⟩ := opf o1
            obtain ⟨o2, m2⟩ := opf o2
            have o3 := ka_test l (by omega)
            rw [decide_eq_true hlt] at o3
            have o3' : (FloatKind.f64.format.order (Ka l) 4607182418800017408 == some .gt || FloatKind.f64.format.order (Ka l) 4607182418800017408 == some .eq) = true := o3
            have HM := Lib.hid (mA_lt l hlt)
            skip
            clear o3
            generalize hq4 : aq u (l + 1) = x4 at *
            generalize aq u l = x3 at *
            generalize F .mul u x3 = x5 at *
            generalize Ca l = c at *
            generalize hk1 : Ka (l + 1) = k1 at *
            generalize Ka l = k0 at *
            go_wp2
            go_round
            case rel => exact ⟨l + 1, by omega, by rw [hk1], by rw [hq4]⟩
            case measure => exact HM.out
          · obtain rfl : l = 8 := by omega
            have o3 := ka_test 8 (by omega)
            rw [decide_eq_false hlt] at o3
            have o3' : (FloatKind.f64.format.order (Ka 8) 4607182418800017408 == some .gt || FloatKind.f64.format.order (Ka 8) 4607182418800017408 == some .eq) = false := o3
            clear o3 hlt
            generalize Ka 8 = k0 at *
            generalize aq u 8 = x3 at *
            go_wp2
            go_ret
            exact F32.mk (by rw [HR.out]; exact like_narrow (.refl _ _) (by rw [← HR.out]; exact hopen)) ⟨_, rfl⟩

set_option maxHeartbeats 4000000 in
set_option maxRecDepth 100000 in
theorem angle_ftt (y x Y X t : Nat) (HPT : Hid (Pt Y X t false)) (Ylt : Y < 18446744073709551616) (Xlt : X < 18446744073709551616) (w : World)
    (yc : ∀ w, cres .f32 .f64 w y = Y) (yn : ccnt .f32 .f64 y = 0) (xc : ∀ w, cres .f32 .f64 w x = X) (xn : ccnt .f32 .f64 x = 0)
    (ys : ∀ w, fres .sub .f32 w y y = 0) (yf : fcnt .sub .f32 y y = 0) (xs : ∀ w, fres .sub .f32 w x x = 0) (xf : fcnt .sub .f32 x x = 0)
    (hz : (FloatKind.f32.format.order x 0 == some .eq) = false ∨ (FloatKind.f32.format.order y 0 == some .eq) = false)
    (o2 : (FloatKind.f32.format.order x 0 == some .lt) = true) (o3 : (FloatKind.f32.format.order y 0 == some .lt) = true) (hopen : tooGreat .f64 .f32 (angF (hfK t 3) false true true) = false) :
    Calls Try.prog 32 #[.float .f32 y, .float .f32 x] w (F32 (fconv .f64 .f32 (angF (hfK t 3) false true true)) w) := by
  have f00 : (FloatKind.f32.format.order 0 0 == some .eq) = true := by decide +kernel
  cases hzx : (FloatKind.f32.format.order x 0 == some .eq)
  · clear hz
    have P := HPT.out
    have ov := P.over
    obtain ⟨z0, q0⟩ := P.q0
    have qq := P.q
    have tb := P.bd
    have AF := af_ok (hfK_bd tb 3)
    have A1 := an1_ok false AF.bd
    have A2 := an2_ok true A1.2 (an1_lt false AF.bd (Ieee.Format.div_lt Ieee.double AF.n))
    have HHF := Lib.hid (fun k => hf_ok (hfK_bd tb k))
    have HV : Hid (angF (hfK t 3) false true true = angF (hfK t 3) false true true) := Lib.hid rfl
    simp only [Bool.false_eq_true, if_false] at qq
    obtain ⟨q1, q2⟩ := opf qq
    clear q0
    obtain ⟨u1, u2⟩ := opf AF.u
    obtain ⟨p1, p2⟩ := opf AF.p
    obtain ⟨e1, e2⟩ := opf AF.e
    obtain ⟨n1, n2⟩ := opf AF.n
    have e1' : ∀ w, fres .mul .f64 w 4620693217682128896 (ap (hfK t 3)) = a8 (hfK t 3) := e1
    have e2' : fcnt .mul .f64 4620693217682128896 (ap (hfK t 3)) = 0 := e2
    have n1' : ∀ w, fres .quo .f64 w (a8 (hfK t 3)) 4618760256179416344 = an (hfK t 3) := n1
    have n2' : fcnt .quo .f64 (a8 (hfK t 3)) 4618760256179416344 = 0 := n2
    obtain ⟨f1, f2⟩ := opf A1.1
    have f1' : ∀ w, fres .sub .f64 w 4598175219545276416 (an (hfK t 3)) = F .sub Wquarter (an (hfK t 3)) := f1
    have f2' : fcnt .sub .f64 4598175219545276416 (an (hfK t 3)) = 0 := f2
    obtain ⟨g1, g2⟩ := opf A2.1
    have w1 : an1 false (an (hfK t 3)) = an (hfK t 3) := rfl
    rw [w1] at g1 g2
    have g1' : ∀ w, fres .sub .f64 w 4602678819172646912 (an (hfK t 3)) = F .sub Whalf (an (hfK t 3)) := g1
    have g2' : fcnt .sub .f64 4602678819172646912 (an (hfK t 3)) = 0 := g2
    have HQ := Lib.hid AF.q
    have HR : Hid (angF (hfK t 3) false true true = Op.negFloat .f64 (F .sub Whalf (an (hfK t 3)))) := Lib.hid rfl
    clear P AF A1 A2 e1 e2 n1 n2 f1 f2 g1 g2 w1 qq HPT HV tb
    generalize an (hfK t 3) = v0 at *
    generalize a8 (hfK t 3) = v8 at *
    generalize ap (hfK t 3) = vp at *
    generalize F .sub Whalf v0 = vh at *
    obtain ⟨a, hga⟩ : ∃ a, Y % 9223372036854775808 = a := ⟨_, rfl⟩
    obtain ⟨b, hgb⟩ : ∃ b, X % 9223372036854775808 = b := ⟨_, rfl⟩
    rw [hga, hgb] at ov q1 q2
    have HA := Lib.hid hga
    have HB := Lib.hid hgb
    clear hga hgb
    go_enter Try.func32, Try.ntmps32
    go_wp2_with (first
      | (go_at_call 50; go_in)
      | (go_at_call 52; refine (abs_any Y _ Ylt).mono ?_; rintro e w' ⟨rfl, rfl⟩; rw [HA.out])
      | (go_at_call 52; refine (abs_any X _ Xlt).mono ?_; rintro e w' ⟨rfl, rfl⟩; rw [HB.out]))
    go_loop [7, 43] (fun z k => ∃ i : Nat, i ≤ 3 ∧ k = .int .i64 i ∧ z = .float .f64 (hfK t i)) (fun _ k => 3 - (intOf k).toNat)
    case atStart => exact ⟨0, by omega, rfl, rfl⟩
    case round =>
      obtain ⟨i, hi, rfl, rfl⟩ := hrel
      by_cases hlt : i < 3
      · have H := HHF.out i
        obtain ⟨c1, c2⟩ := opf H.m
        obtain ⟨c3, c4⟩ := opf H.a
        obtain ⟨c5, c6⟩ := opf H.b
        obtain ⟨c7, c8⟩ := opf H.q
        have HSQ := Lib.hid H.s
        have c3' : ∀ w, fres .add .f64 w 4607182418800017408 _ = _ := c3
        have c4' : fcnt .add .f64 4607182418800017408 _ = 0 := c4
        have c5' : ∀ w, fres .add .f64 w 4607182418800017408 _ = _ := c5
        have c6' : fcnt .add .f64 4607182418800017408 _ = 0 := c6
        have hk1 : hfK t (i + 1) = hf (hfK t i) := rfl
        have HK1 := Lib.hid hk1
        clear c3 c4 c5 c6 H hk1
        generalize hf (hfK t i) = t1 at *
        generalize hb (hfK t i) = tb at *
        generalize ha (hfK t i) = ta at *
        generalize sfix ta = ts at *
        generalize hfK t i = t0 at *
        generalize F .mul t0 t0 = tm at *
        go_wp2_with (go_at_call 55; refine (sqrt_num HSQ.out _).mono ?_; rintro e w' ⟨rfl, rfl⟩)
        go_round
        case rel => exact ⟨i + 1, by omega, by go_num, by rw [HK1.out]⟩
        case measure => simp [intOf]; omega
      · obtain rfl : i = 3 := by omega
        clear hlt
        generalize au (hfK t 3) = u at *
        generalize hfK t 3 = tt at *
        go_wp2
        go_loop [9, 10] (fun q k => ∃ l : Nat, l ≤ 8 ∧ k = .float .f64 (Ka l) ∧ q = .float .f64 (aq u l)) (fun _ k => mO k)
        case atStart => exact ⟨0, by omega, rfl, rfl⟩
        case round =>
          obtain ⟨l, hl, rfl, rfl⟩ := hrel
          by_cases hlt : l < 8
          · obtain ⟨r1, r2⟩ := HQ.out l hlt
            obtain ⟨r1, s1⟩ := opf r1
            obtain ⟨r2, s2⟩ := opf r2
            obtain ⟨o1, o2, _⟩ := ka_step l hlt
            obtain ⟨o1, m1⟩ := opf o1
            obtain ⟨o2, m2⟩ := opf o2
            have o3 := ka_test l (by omega)
            rw [decide_eq_true hlt] at o3
            have o3' : (FloatKind.f64.format.order (Ka l) 4607182418800017408 == some .gt || FloatKind.f64.format.order (Ka l) 4607182418800017408 == some .eq) = true := o3
            have HM := Lib.hid (mA_lt l hlt)
            skip
            clear o3
            generalize hq4 : aq u (l + 1) = x4 at *
            generalize aq u l = x3 at *
            generalize F .mul u x3 = x5 at *
            generalize Ca l = c at *
            generalize hk1 : Ka (l + 1) = k1 at *
            generalize Ka l = k0 at *
            go_wp2
            go_round
            case rel => exact ⟨l + 1, by omega, by rw [hk1], by rw [hq4]⟩
            case measure => exact HM.out
          · obtain rfl : l = 8 := by omega
            have o3 := ka_test 8 (by omega)
            rw [decide_eq_false hlt] at o3
            have o3' : (FloatKind.f64.format.order (Ka 8) 4607182418800017408 == some .gt || FloatKind.f64.format.order (Ka 8) 4607182418800017408 == some .eq) = false := o3
            clear o3 hlt
            generalize Ka 8 = k0 at *
            generalize aq u 8 = x3 at *
            go_wp2
            go_ret
            exact F32.mk (by rw [HR.out]; exact like_narrow (.refl _ _) (by rw [← HR.out]; exact hopen)) ⟨_, rfl⟩
  · have hzy : (FloatKind.f32.format.order y 0 == some .eq) = false := by
      rcases hz with h | h
      · rw [hzx] at h; cases h
      · exact h
    clear hz
    have P := HPT.out
    have ov := P.over
    obtain ⟨z0, q0⟩ := P.q0
    have qq := P.q
    have tb := P.bd
    have AF := af_ok (hfK_bd tb 3)
    have A1 := an1_ok false AF.bd
    have A2 := an2_ok true A1.2 (an1_lt false AF.bd (Ieee.Format.div_lt Ieee.double AF.n))
    have HHF := Lib.hid (fun k => hf_ok (hfK_bd tb k))
    have HV : Hid (angF (hfK t 3) false true true = angF (hfK t 3) false true true) := Lib.hid rfl
    simp only [Bool.false_eq_true, if_false] at qq
    obtain ⟨q1, q2⟩ := opf qq
    clear q0
    obtain ⟨u1, u2⟩ := opf AF.u
    obtain ⟨p1, p2⟩ := opf AF.p
    obtain ⟨e1, e2⟩ := opf AF.e
    obtain ⟨n1, n2⟩ := opf AF.n
    have e1' : ∀ w, fres .mul .f64 w 4620693217682128896 (ap (hfK t 3)) = a8 (hfK t 3) := e1
    have e2' : fcnt .mul .f64 4620693217682128896 (ap (hfK t 3)) = 0 := e2
    have n1' : ∀ w, fres .quo .f64 w (a8 (hfK t 3)) 4618760256179416344 = an (hfK t 3) := n1
    have n2' : fcnt .quo .f64 (a8 (hfK t 3)) 4618760256179416344 = 0 := n2
    obtain ⟨f1, f2⟩ := opf A1.1
    have f1' : ∀ w, fres .sub .f64 w 4598175219545276416 (an (hfK t 3)) = F .sub Wquarter (an (hfK t 3)) := f1
    have f2' : fcnt .sub .f64 4598175219545276416 (an (hfK t 3)) = 0 := f2
    obtain ⟨g1, g2⟩ := opf A2.1
    have w1 : an1 false (an (hfK t 3)) = an (hfK t 3) := rfl
    rw [w1] at g1 g2
    have g1' : ∀ w, fres .sub .f64 w 4602678819172646912 (an (hfK t 3)) = F .sub Whalf (an (hfK t 3)) := g1
    have g2' : fcnt .sub .f64 4602678819172646912 (an (hfK t 3)) = 0 := g2
    have HQ := Lib.hid AF.q
    have HR : Hid (angF (hfK t 3) false true true = Op.negFloat .f64 (F .sub Whalf (an (hfK t 3)))) := Lib.hid rfl
    clear P AF A1 A2 e1 e2 n1 n2 f1 f2 g1 g2 w1 qq HPT HV tb
    generalize an (hfK t 3) = v0 at *
    generalize a8 (hfK t 3) = v8 at *
    generalize ap (hfK t 3) = vp at *
    generalize F .sub Whalf v0 = vh at *
    obtain ⟨a, hga⟩ : ∃ a, Y % 9223372036854775808 = a := ⟨_, rfl⟩
    obtain ⟨b, hgb⟩ : ∃ b, X % 9223372036854775808 = b := ⟨_, rfl⟩
    rw [hga, hgb] at ov q1 q2
    have HA := Lib.hid hga
    have HB := Lib.hid hgb
    clear hga hgb
    go_enter Try.func32, Try.ntmps32
    go_wp2_with (first
      | (go_at_call 50; go_in)
      | (go_at_call 52; refine (abs_any Y _ Ylt).mono ?_; rintro e w' ⟨rfl, rfl⟩; rw [HA.out])
      | (go_at_call 52; refine (abs_any X _ Xlt).mono ?_; rintro e w' ⟨rfl, rfl⟩; rw [HB.out]))
    go_loop [7, 43] (fun z k => ∃ i : Nat, i ≤ 3 ∧ k = .int .i64 i ∧ z = .float .f64 (hfK t i)) (fun _ k => 3 - (intOf k).toNat)
    case atStart => exact ⟨0, by omega, rfl, rfl⟩
    case round =>
      obtain ⟨i, hi, rfl, rfl⟩ := hrel
      by_cases hlt : i < 3
      · have H := HHF.out i
        obtain ⟨c1, c2⟩ := opf H.m
        obtain ⟨c3, c4⟩ := opf H.a
        obtain ⟨c5, c6⟩ := opf H.b
        obtain ⟨c7, c8⟩ := opf H.q
        have HSQ := Lib.hid H.s
        have c3' : ∀ w, fres .add .f64 w 4607182418800017408 _ = _ := c3
        have c4' : fcnt .add .f64 4607182418800017408 _ = 0 := c4
        have c5' : ∀ w, fres .add .f64 w 4607182418800017408 _ = _ := c5
        have c6' : fcnt .add .f64 4607182418800017408 _ = 0 := c6
        have hk1 : hfK t (i + 1) = hf (hfK t i) := rfl
        have HK1 := Lib.hid hk1
        clear c3 c4 c5 c6 H hk1
        generalize hf (hfK t i) = t1 at *
        generalize hb (hfK t i) = tb at *
        generalize ha (hfK t i) = ta at *
        generalize sfix ta = ts at *
        generalize hfK t i = t0 at *
        generalize F .mul t0 t0 = tm at *
        go_wp2_with (go_at_call 55; refine (sqrt_num HSQ.out _).mono ?_; rintro e w' ⟨rfl, rfl⟩)
        go_round
        case rel => exact ⟨i + 1, by omega, by go_num, by rw [HK1.out]⟩
        case measure => simp [intOf]; omega
      · obtain rfl : i = 3 := by omega
        clear hlt
        generalize au (hfK t 3) = u at *
        generalize hfK t 3 = tt at *
        go_wp2
        go_loop [9, 10] (fun q k => ∃ l : Nat, l ≤ 8 ∧ k = .float .f64 (Ka l) ∧ q = .float .f64 (aq u l)) (fun _ k => mO k)
        case atStart => exact ⟨0, by omega, rfl, rfl⟩
        case round =>
          obtain ⟨l, hl, rfl, rfl⟩ := hrel
          by_cases hlt : l < 8
          · obtain ⟨r1, r2⟩ := HQ.out l hlt
            obtain ⟨r1, s1⟩ := opf r1
            obtain ⟨r2, s2⟩ := opf r2
            obtain ⟨o1, o2, _⟩ := ka_step l hlt
            obtain ⟨o1, m1⟩ := opf o1
            obtain ⟨o2, m2⟩ := opf o2
            have o3 := ka_test l (by omega)
            rw [decide_eq_true hlt] at o3
            have o3' : (FloatKind.f64.format.order (Ka l) 4607182418800017408 == some .gt || FloatKind.f64.format.order (Ka l) 4607182418800017408 == some .eq) = true := o3
            have HM := Lib.hid (mA_lt l hlt)
            skip
            clear o3
            generalize hq4 : aq u (l + 1) = x4 at *
            generalize aq u l = x3 at *
            generalize F .mul u x3 = x5 at *
            generalize Ca l = c at *
            generalize hk1 : Ka (l + 1) = k1 at *
            generalize Ka l = k0 at *
            go_wp2
            go_round
            case rel => exact ⟨l + 1, by omega, by rw [hk1], by rw [hq4]⟩
            case measure => exact HM.out
          · obtain rfl : l = 8 := by omega
            have o3 := ka_test 8 (by omega)
            rw [decide_eq_false hlt] at o3
            have o3' : (FloatKind.f64.format.order (Ka 8) 4607182418800017408 == some .gt || FloatKind.f64.format.order (Ka 8) 4607182418800017408 == some .eq) = false := o3
            clear o3 hlt
            generalize Ka 8 = k0 at *
            generalize aq u 8 = x3 at *
            go_wp2
            go_ret
            exact F32.mk (by rw [HR.out]; exact like_narrow (.refl _ _) (by rw [← HR.out]; exact hopen)) ⟨_, rfl⟩

set_option maxHeartbeats 4000000 in
set_option maxRecDepth 100000 in
theorem angle_tff (y x Y X t : Nat) (HPT : Hid (Pt Y X t true)) (Ylt : Y < 18446744073709551616) (Xlt : X < 18446744073709551616) (w : World)
    (yc : ∀ w, cres .f32 .f64 w y = Y) (yn : ccnt .f32 .f64 y = 0) (xc : ∀ w, cres .f32 .f64 w x = X) (xn : ccnt .f32 .f64 x = 0)
    (ys : ∀ w, fres .sub .f32 w y y = 0) (yf : fcnt .sub .f32 y y = 0) (xs : ∀ w, fres .sub .f32 w x x = 0) (xf : fcnt .sub .f32 x x = 0)
    (hz : (FloatKind.f32.format.order x 0 == some .eq) = false ∨ (FloatKind.f32.format.order y 0 == some .eq) = false)
    (o2 : (FloatKind.f32.format.order x 0 == some .lt) = false) (o3 : (FloatKind.f32.format.order y 0 == some .lt) = false) (hopen : tooGreat .f64 .f32 (angF (hfK t 3) true false false) = false) :
    Calls Try.prog 32 #[.float .f32 y, .float .f32 x] w (F32 (fconv .f64 .f32 (angF (hfK t 3) true false false)) w) := by
  have f00 : (FloatKind.f32.format.order 0 0 == some .eq) = true := by decide +kernel
  cases hzx : (FloatKind.f32.format.order x 0 == some .eq)
  · clear hz
    have P := HPT.out
    have ov := P.over
    obtain ⟨z0, q0⟩ := P.q0
    have qq := P.q
    have tb := P.bd
    have AF := af_ok (hfK_bd tb 3)
    have A1 := an1_ok true AF.bd
    have A2 := an2_ok false A1.2 (an1_lt true AF.bd (Ieee.Format.div_lt Ieee.double AF.n))
    have HHF := Lib.hid (fun k => hf_ok (hfK_bd tb k))
    have HV : Hid (angF (hfK t 3) true false false = angF (hfK t 3) true false false) := Lib.hid rfl
    simp only [if_true] at qq
    obtain ⟨q1, q2⟩ := opf qq
    obtain ⟨q3, q4⟩ := opf q0
    obtain ⟨u1, u2⟩ := opf AF.u
    obtain ⟨p1, p2⟩ := opf AF.p
    obtain ⟨e1, e2⟩ := opf AF.e
    obtain ⟨n1, n2⟩ := opf AF.n
    have e1' : ∀ w, fres .mul .f64 w 4620693217682128896 (ap (hfK t 3)) = a8 (hfK t 3) := e1
    have e2' : fcnt .mul .f64 4620693217682128896 (ap (hfK t 3)) = 0 := e2
    have n1' : ∀ w, fres .quo .f64 w (a8 (hfK t 3)) 4618760256179416344 = an (hfK t 3) := n1
    have n2' : fcnt .quo .f64 (a8 (hfK t 3)) 4618760256179416344 = 0 := n2
    obtain ⟨f1, f2⟩ := opf A1.1
    have f1' : ∀ w, fres .sub .f64 w 4598175219545276416 (an (hfK t 3)) = F .sub Wquarter (an (hfK t 3)) := f1
    have f2' : fcnt .sub .f64 4598175219545276416 (an (hfK t 3)) = 0 := f2
    obtain ⟨g1, g2⟩ := opf A2.1
    have w1 : an1 true (an (hfK t 3)) = F .sub Wquarter (an (hfK t 3)) := rfl
    rw [w1] at g1 g2
    have g1' : ∀ w, fres .sub .f64 w 4602678819172646912 (F .sub Wquarter (an (hfK t 3))) = F .sub Whalf (F .sub Wquarter (an (hfK t 3))) := g1
    have g2' : fcnt .sub .f64 4602678819172646912 (F .sub Wquarter (an (hfK t 3))) = 0 := g2
    have HQ := Lib.hid AF.q
    have HR : Hid (angF (hfK t 3) true false false = ((F .sub Wquarter (an (hfK t 3))))) := Lib.hid rfl
    clear P AF A1 A2 e1 e2 n1 n2 f1 f2 g1 g2 w1 qq q0 HPT HV tb
    generalize an (hfK t 3) = v0 at *
    generalize a8 (hfK t 3) = v8 at *
    generalize ap (hfK t 3) = vp at *
    generalize F .sub Wquarter v0 = vq at *
    obtain ⟨a, hga⟩ : ∃ a, Y % 9223372036854775808 = a := ⟨_, rfl⟩
    obtain ⟨b, hgb⟩ : ∃ b, X % 9223372036854775808 = b := ⟨_, rfl⟩
    rw [hga, hgb] at ov q1 q2 q3 q4
    have HA := Lib.hid hga
    have HB := Lib.hid hgb
    clear hga hgb
    go_enter Try.func32, Try.ntmps32
    go_wp2_with (first
      | (go_at_call 50; go_in)
      | (go_at_call 52; refine (abs_any Y _ Ylt).mono ?_; rintro e w' ⟨rfl, rfl⟩; rw [HA.out])
      | (go_at_call 52; refine (abs_any X _ Xlt).mono ?_; rintro e w' ⟨rfl, rfl⟩; rw [HB.out]))
    go_loop [7, 43] (fun z k => ∃ i : Nat, i ≤ 3 ∧ k = .int .i64 i ∧ z = .float .f64 (hfK t i)) (fun _ k => 3 - (intOf k).toNat)
    case atStart => exact ⟨0, by omega, rfl, rfl⟩
    case round =>
      obtain ⟨i, hi, rfl, rfl⟩ := hrel
      by_cases hlt : i < 3
      · have H := HHF.out i
        obtain ⟨c1, c2⟩ := opf H.m
        obtain ⟨c3, c4⟩ := opf H.a
        obtain ⟨c5, c6⟩ := opf H.b
        obtain ⟨c7, c8⟩ := opf H.q
        have HSQ := Lib.hid H.s
        have c3' : ∀ w, fres .add .f64 w 4607182418800017408 _ = _ := c3
        have c4' : fcnt .add .f64 4607182418800017408 _ = 0 := c4
        have c5' : ∀ w, fres .add .f64 w 4607182418800017408 _ = _ := c5
        have c6' : fcnt .add .f64 4607182418800017408 _ = 0 := c6
        have hk1 : hfK t (i + 1) = hf (hfK t i) := rfl
        have HK1 := Lib.hid hk1
        clear c3 c4 c5 c6 H hk1
        generalize hf (hfK t i) = t1 at *
        generalize hb (hfK t i) = tb at *
        generalize ha (hfK t i) = ta at *
        generalize sfix ta = ts at *
        generalize hfK t i = t0 at *
        generalize F .mul t0 t0 = tm at *
        go_wp2_with (go_at_call 55; refine (sqrt_num HSQ.out _).mono ?_; rintro e w' ⟨rfl, rfl⟩)
        go_round
        case rel => exact ⟨i + 1, by omega, by go_num, by rw [HK1.out]⟩
        case measure => simp [intOf]; omega
      · obtain rfl : i = 3 := by omega
        clear hlt
        generalize au (hfK t 3) = u at *
        generalize hfK t 3 = tt at *
        go_wp2
        go_loop [9, 10] (fun q k => ∃ l : Nat, l ≤ 8 ∧ k = .float .f64 (Ka l) ∧ q = .float .f64 (aq u l)) (fun _ k => mO k)
        case atStart => exact ⟨0, by omega, rfl, rfl⟩
        case round =>
          obtain ⟨l, hl, rfl, rfl⟩ := hrel
          by_cases hlt : l < 8
          · obtain ⟨r1, r2⟩ := HQ.out l hlt
            obtain ⟨r1, s1⟩ := opf r1
            obtain ⟨r2, s2⟩ := opf r2
            obtain ⟨o1, o2, _⟩ := ka_step l hlt
            obtain ⟨o1, m1⟩ := opf o1
            obtain ⟨o2, m2⟩ := opf o2
            have o3 := ka_test l (by omega)
            rw [decide_eq_true hlt] at o3
            have o3' : (FloatKind.f64.format.order (Ka l) 4607182418800017408 == some .gt || FloatKind.f64.format.order (Ka l) 4607182418800017408 == some .eq) = true := o3
            have HM := Lib.hid (mA_lt l hlt)
            skip
            clear o3
            generalize hq4 : aq u (l + 1) = x4 at *
            generalize aq u l = x3 at *
            generalize F .mul u x3 = x5 at *
            generalize Ca l = c at *
            generalize hk1 : Ka (l + 1) = k1 at *
            generalize Ka l = k0 at *
            go_wp2
            go_round
            case rel => exact ⟨l + 1, by omega, by rw [hk1], by rw [hq4]⟩
            case measure => exact HM.out
          · obtain rfl : l = 8 := by omega
            have o3 := ka_test 8 (by omega)
            rw [decide_eq_false hlt] at o3
            have o3' : (FloatKind.f64.format.order (Ka 8) 4607182418800017408 == some .gt || FloatKind.f64.format.order (Ka 8) 4607182418800017408 == some .eq) = false := o3
            clear o3 hlt
            generalize Ka 8 = k0 at *
            generalize aq u 8 = x3 at *
            go_wp2
            go_ret
            exact F32.mk (by rw [HR.out]; exact like_narrow (.refl _ _) (by rw [← HR.out]; exact hopen)) ⟨_, rfl⟩
  · have hzy : (FloatKind.f32.format.order y 0 == some .eq) = false := by
      rcases hz with h | h
      · rw [hzx] at h; cases h
      · exact h
    clear hz
    have P := HPT.out
    have ov := P.over
    obtain ⟨z0, q0⟩ := P.q0
    have qq := P.q
    have tb := P.bd
    have AF := af_ok (hfK_bd tb 3)
    have A1 := an1_ok true AF.bd
    have A2 := an2_ok false A1.2 (an1_lt true AF.bd (Ieee.Format.div_lt Ieee.double AF.n))
    have HHF := Lib.hid (fun k => hf_ok (hfK_bd tb k))
    have HV : Hid (angF (hfK t 3) true false false = angF (hfK t 3) true false false) := Lib.hid rfl
    simp only [if_true] at qq
    obtain ⟨q1, q2⟩ := opf qq
    obtain ⟨q3, q4⟩ := opf q0
    obtain ⟨u1, u2⟩ := opf AF.u
    obtain ⟨p1, p2⟩ := opf AF.p
    obtain ⟨e1, e2⟩ := opf AF.e
    obtain ⟨n1, n2⟩ := opf AF.n
    have e1' : ∀ w, fres .mul .f64 w 4620693217682128896 (ap (hfK t 3)) = a8 (hfK t 3) := e1
    have e2' : fcnt .mul .f64 4620693217682128896 (ap (hfK t 3)) = 0 := e2
    have n1' : ∀ w, fres .quo .f64 w (a8 (hfK t 3)) 4618760256179416344 = an (hfK t 3) := n1
    have n2' : fcnt .quo .f64 (a8 (hfK t 3)) 4618760256179416344 = 0 := n2
    obtain ⟨f1, f2⟩ := opf A1.1
    have f1' : ∀ w, fres .sub .f64 w 4598175219545276416 (an (hfK t 3)) = F .sub Wquarter (an (hfK t 3)) := f1
    have f2' : fcnt .sub .f64 4598175219545276416 (an (hfK t 3)) = 0 := f2
    obtain ⟨g1, g2⟩ := opf A2.1
    have w1 : an1 true (an (hfK t 3)) = F .sub Wquarter (an (hfK t 3)) := rfl
    rw [w1] at g1 g2
    have g1' : ∀ w, fres .sub .f64 w 4602678819172646912 (F .sub Wquarter (an (hfK t 3))) = F .sub Whalf (F .sub Wquarter (an (hfK t 3))) := g1
    have g2' : fcnt .sub .f64 4602678819172646912 (F .sub Wquarter (an (hfK t 3))) = 0 := g2
    have HQ := Lib.hid AF.q
    have HR : Hid (angF (hfK t 3) true false false = ((F .sub Wquarter (an (hfK t 3))))) := Lib.hid rfl
    clear P AF A1 A2 e1 e2 n1 n2 f1 f2 g1 g2 w1 qq q0 HPT HV tb
    generalize an (hfK t 3) = v0 at *
    generalize a8 (hfK t 3) = v8 at *
    generalize ap (hfK t 3) = vp at *
    generalize F .sub Wquarter v0 = vq at *
    obtain ⟨a, hga⟩ : ∃ a, Y % 9223372036854775808 = a := ⟨_, rfl⟩
    obtain ⟨b, hgb⟩ : ∃ b, X % 9223372036854775808 = b := ⟨_, rfl⟩
    rw [hga, hgb] at ov q1 q2 q3 q4
    have HA := Lib.hid hga
    have HB := Lib.hid hgb
    clear hga hgb
    go_enter Try.func32, Try.ntmps32
    go_wp2_with (first
      | (go_at_call 50; go_in)
      | (go_at_call 52; refine (abs_any Y _ Ylt).mono ?_; rintro e w' ⟨rfl, rfl⟩; rw [HA.out])
      | (go_at_call 52; refine (abs_any X _ Xlt).mono ?_; rintro e w' ⟨rfl, rfl⟩; rw [HB.out]))
    go_loop [7, 43] (fun z k => ∃ i : Nat, i ≤ 3 ∧ k = .int .i64 i ∧ z = .float .f64 (hfK t i)) (fun _ k => 3 - (intOf k).toNat)
    case atStart => exact ⟨0, by omega, rfl, rfl⟩
    case round =>
      obtain ⟨i, hi, rfl, rfl⟩ := hrel
      by_cases hlt : i < 3
      · have H := HHF.out i
        obtain ⟨c1, c2⟩ := opf H.m
        obtain ⟨c3, c4⟩ := opf H.a
        obtain ⟨c5, c6⟩ := opf H.b
        obtain ⟨c7, c8⟩ := opf H.q
        have HSQ := Lib.hid H.s
        have c3' : ∀ w, fres .add .f64 w 4607182418800017408 _ = _ := c3
        have c4' : fcnt .add .f64 4607182418800017408 _ = 0 := c4
        have c5' : ∀ w, fres .add .f64 w 4607182418800017408 _ = _ := c5
        have c6' : fcnt .add .f64 4607182418800017408 _ = 0 := c6
        have hk1 : hfK t (i + 1) = hf (hfK t i) := rfl
        have HK1 := Lib.hid hk1
        clear c3 c4 c5 c6 H hk1
        generalize hf (hfK t i) = t1 at *
        generalize hb (hfK t i) = tb at *
        generalize ha (hfK t i) = ta at *
        generalize sfix ta = ts at *
        generalize hfK t i = t0 at *
        generalize F .mul t0 t0 = tm at *
        go_wp2_with (go_at_call 55; refine (sqrt_num HSQ.out _).mono ?_; rintro e w' ⟨rfl, rfl⟩)
        go_round
        case rel => exact ⟨i + 1, by omega, by go_num, by rw [HK1.out]⟩
        case measure => simp [intOf]; omega
      · obtain rfl : i = 3 := by omega
        clear hlt
        generalize au (hfK t 3) = u at *
        generalize hfK t 3 = tt at *
        go_wp2
        go_loop [9, 10] (fun q k => ∃ l : Nat, l ≤ 8 ∧ k = .float .f64 (Ka l) ∧ q = .float .f64 (aq u l)) (fun _ k => mO k)
        case atStart => exact ⟨0, by omega, rfl, rfl⟩
        case round =>
          obtain ⟨l, hl, rfl, rfl⟩ := hrel
          by_cases hlt : l < 8
          · obtain ⟨r1, r2⟩ := HQ.out l hlt
            obtain ⟨r1, s1⟩ := opf r1
            obtain ⟨r2, s2⟩ := opf r2
            obtain ⟨o1, o2, _⟩ := ka_step l hlt
            obtain ⟨o1, m1⟩ := opf o1
            obtain ⟨o2, m2⟩ := opf o2
            have o3 := ka_test l (by omega)
            rw [decide_eq_true hlt] at o3
            have o3' : (FloatKind.f64.format.order (Ka l) 4607182418800017408 == some .gt || FloatKind.f64.format.order (Ka l) 4607182418800017408 == some .eq) = true := o3
            have HM := Lib.hid (mA_lt l hlt)
            skip
            clear o3
            generalize hq4 : aq u (l + 1) = x4 at *
            generalize aq u l = x3 at *
            generalize F .mul u x3 = x5 at *
            generalize Ca l = c at *
            generalize hk1 : Ka (l + 1) = k1 at *
            generalize Ka l = k0 at *
            go_wp2
            go_round
            case rel => exact ⟨l + 1, by omega, by rw [hk1], by rw [hq4]⟩
            case measure => exact HM.out
          · obtain rfl : l = 8 := by omega
            have o3 := ka_test 8 (by omega)
            rw [decide_eq_false hlt] at o3
            have o3' : (FloatKind.f64.format.order (Ka 8) 4607182418800017408 == some .gt || FloatKind.f64.format.order (Ka 8) 4607182418800017408 == some .eq) = false := o3
            clear o3 hlt
            generalize Ka 8 = k0 at *
            generalize aq u 8 = x3 at *
            go_wp2
            go_ret
            exact F32.mk (by rw [HR.out]; exact like_narrow (.refl _ _) (by rw [← HR.out]; exact hopen)) ⟨_, rfl⟩

set_option maxHeartbeats 4000000 in
set_option maxRecDepth 100000 in
theorem angle_tft (y x Y X t : Nat) (HPT : Hid (Pt Y X t true)) (Ylt : Y < 18446744073709551616) (Xlt : X < 18446744073709551616) (w : World)
    (yc : ∀ w, cres .f32 .f64 w y = Y) (yn : ccnt .f32 .f64 y = 0) (xc : ∀ w, cres .f32 .f64 w x = X) (xn : ccnt .f32 .f64 x = 0)
    (ys : ∀ w, fres .sub .f32 w y y = 0) (yf : fcnt .sub .f32 y y = 0) (xs : ∀ w, fres .sub .f32 w x x = 0) (xf : fcnt .sub .f32 x x = 0)
    (hz : (FloatKind.f32.format.order x 0 == some .eq) = false ∨ (FloatKind.f32.format.order y 0 == some .eq) = false)
    (o2 : (FloatKind.f32.format.order x 0 == some .lt) = false) (o3 : (FloatKind.f32.format.order y 0 == some .lt) = true) (hopen : tooGreat .f64 .f32 (angF (hfK t 3) true false true) = false) :
    Calls Try.prog 32 #[.float .f32 y, .float .f32 x] w (F32 (fconv .f64 .f32 (angF (hfK t 3) true false true)) w) := by
  have f00 : (FloatKind.f32.format.order 0 0 == some .eq) = true := by decide +kernel
  cases hzx : (FloatKind.f32.format.order x 0 == some .eq)
  · clear hz
    have P := HPT.out
    have ov := P.over
    obtain ⟨z0, q0⟩ := P.q0
    have qq := P.q
    have tb := P.bd
    have AF := af_ok (hfK_bd tb 3)
    have A1 := an1_ok true AF.bd
    have A2 := an2_ok false A1.2 (an1_lt true AF.bd (Ieee.Format.div_lt Ieee.double AF.n))
    have HHF := Lib.hid (fun k => hf_ok (hfK_bd tb k))
    have HV : Hid (angF (hfK t 3) true false true = angF (hfK t 3) true false true) := Lib.hid rfl
    simp only [if_true] at qq
    obtain ⟨q1, q2⟩ := opf qq
    obtain ⟨q3, q4⟩ := opf q0
    obtain ⟨u1, u2⟩ := opf AF.u
    obtain ⟨p1, p2⟩ := opf AF.p
    obtain ⟨e1, e2⟩ := opf AF.e
    obtain ⟨n1, n2⟩ := opf AF.n
    have e1' : ∀ w, fres .mul .f64 w 4620693217682128896 (ap (hfK t 3)) = a8 (hfK t 3) := e1
    have e2' : fcnt .mul .f64 4620693217682128896 (ap (hfK t 3)) = 0 := e2
    have n1' : ∀ w, fres .quo .f64 w (a8 (hfK t 3)) 4618760256179416344 = an (hfK t 3) := n1
    have n2' : fcnt .quo .f64 (a8 (hfK t 3)) 4618760256179416344 = 0 := n2
    obtain ⟨f1, f2⟩ := opf A1.1
    have f1' : ∀ w, fres .sub .f64 w 4598175219545276416 (an (hfK t 3)) = F .sub Wquarter (an (hfK t 3)) := f1
    have f2' : fcnt .sub .f64 4598175219545276416 (an (hfK t 3)) = 0 := f2
    obtain ⟨g1, g2⟩ := opf A2.1
    have w1 : an1 true (an (hfK t 3)) = F .sub Wquarter (an (hfK t 3)) := rfl
    rw [w1] at g1 g2
    have g1' : ∀ w, fres .sub .f64 w 4602678819172646912 (F .sub Wquarter (an (hfK t 3))) = F .sub Whalf (F .sub Wquarter (an (hfK t 3))) := g1
    have g2' : fcnt .sub .f64 4602678819172646912 (F .sub Wquarter (an (hfK t 3))) = 0 := g2
    have HQ := Lib.hid AF.q
    have HR : Hid (angF (hfK t 3) true false true = Op.negFloat .f64 ((F .sub Wquarter (an (hfK t 3))))) := Lib.hid rfl
    clear P AF A1 A2 e1 e2 n1 n2 f1 f2 g1 g2 w1 qq q0 HPT HV tb
    generalize an (hfK t 3) = v0 at *
    generalize a8 (hfK t 3) = v8 at *
    generalize ap (hfK t 3) = vp at *
    generalize F .sub Wquarter v0 = vq at *
    obtain ⟨a, hga⟩ : ∃ a, Y % 9223372036854775808 = a := ⟨_, rfl⟩
    obtain ⟨b, hgb⟩ : ∃ b, X % 9223372036854775808 = b := ⟨_, rfl⟩
    rw [hga, hgb] at ov q1 q2 q3 q4
    have HA := Lib.hid hga
    have HB := Lib.hid hgb
    clear hga hgb
    go_enter Try.func32, Try.ntmps32
    go_wp2_with (first
      | (go_at_call 50; go_in)
      | (go_at_call 52; refine (abs_any Y _ Ylt).mono ?_; rintro e w' ⟨rfl, rfl⟩; rw [HA.out])
      | (go_at_call 52; refine (abs_any X _ Xlt).mono ?_; rintro e w' ⟨rfl, rfl⟩; rw [HB.out]))
    go_loop [7, 43] (fun z k => ∃ i : Nat, i ≤ 3 ∧ k = .int .i64 i ∧ z = .float .f64 (hfK t i)) (fun _ k => 3 - (intOf k).toNat)
    case atStart => exact ⟨0, by omega, rfl, rfl⟩
    case round =>
      obtain ⟨i, hi, rfl, rfl⟩ := hrel
      by_cases hlt : i < 3
      · have H := HHF.out i
        obtain ⟨c1, c2⟩ := opf H.m
        obtain ⟨c3, c4⟩ := opf H.a
        obtain ⟨c5, c6⟩ := opf H.b
        obtain ⟨c7, c8⟩ := opf H.q
        have HSQ := Lib.hid H.s
        have c3' : ∀ w, fres .add .f64 w 4607182418800017408 _ = _ := c3
        have c4' : fcnt .add .f64 4607182418800017408 _ = 0 := c4
        have c5' : ∀ w, fres .add .f64 w 4607182418800017408 _ = _ := c5
        have c6' : fcnt .add .f64 4607182418800017408 _ = 0 := c6
        have hk1 : hfK t (i + 1) = hf (hfK t i) := rfl
        have HK1 := Lib.hid hk1
        clear c3 c4 c5 c6 H hk1
        generalize hf (hfK t i) = t1 at *
        generalize hb (hfK t i) = tb at *
        generalize ha (hfK t i) = ta at *
        generalize sfix ta = ts at *
        generalize hfK t i = t0 at *
        generalize F .mul t0 t0 = tm at *
        go_wp2_with (go_at_call 55; refine (sqrt_num HSQ.out _).mono ?_; rintro e w' ⟨rfl, rfl⟩)
        go_round
        case rel => exact ⟨i + 1, by omega, by go_num, by rw [HK1.out]⟩
        case measure => simp [intOf]; omega
      · obtain rfl : i = 3 := by omega
        clear hlt
        generalize au (hfK t 3) = u at *
        generalize hfK t 3 = tt at *
        go_wp2
        go_loop [9, 10] (fun q k => ∃ l : Nat, l ≤ 8 ∧ k = .float .f64 (Ka l) ∧ q = .float .f64 (aq u l)) (fun _ k => mO k)
        case atStart => exact ⟨0, by omega, rfl, rfl⟩
        case round =>
          obtain ⟨l, hl, rfl, rfl⟩ := hrel
          by_cases hlt : l < 8
          · obtain ⟨r1, r2⟩ := HQ.out l hlt
            obtain ⟨r1, s1⟩ := opf r1
            obtain ⟨r2, s2⟩ := opf r2
            obtain ⟨o1, o2, _⟩ := ka_step l hlt
            obtain ⟨o1, m1⟩ := opf o1
            obtain ⟨o2, m2⟩ := opf o2
            have o3 := ka_test l (by omega)
            rw [decide_eq_true hlt] at o3
            have o3' : (FloatKind.f64.format.order (Ka l) 4607182418800017408 == some .gt || FloatKind.f64.format.order (Ka l) 4607182418800017408 == some .eq) = true := o3
            have HM := Lib.hid (mA_lt l hlt)
            skip
            clear o3
            generalize hq4 : aq u (l + 1) = x4 at *
            generalize aq u l = x3 at *
            generalize F .mul u x3 = x5 at *
            generalize Ca l = c at *
            generalize hk1 : Ka (l + 1) = k1 at *
            generalize Ka l = k0 at *
            go_wp2
            go_round
            case rel => exact ⟨l + 1, by omega, by rw [hk1], by rw [hq4]⟩
            case measure => exact HM.out
          · obtain rfl : l = 8 := by omega
            have o3 := ka_test 8 (by omega)
            rw [decide_eq_false hlt] at o3
            have o3' : (FloatKind.f64.format.order (Ka 8) 4607182418800017408 == some .gt || FloatKind.f64.format.order (Ka 8) 4607182418800017408 == some .eq) = false := o3
            clear o3 hlt
            generalize Ka 8 = k0 at *
            generalize aq u 8 = x3 at *
            go_wp2
            go_ret
            exact F32.mk (by rw [HR.out]; exact like_narrow (.refl _ _) (by rw [← HR.out]; exact hopen)) ⟨_, rfl⟩
  · have hzy : (FloatKind.f32.format.order y 0 == some .eq) = false := by
      rcases hz with h | h
      · rw [hzx] at h; cases h
      · exact h
    clear hz
    have P := HPT.out
    have ov := P.over
    obtain ⟨z0, q0⟩ := P.q0
    have qq := P.q
    have tb := P.bd
    have AF := af_ok (hfK_bd tb 3)
    have A1 := an1_ok true AF.bd
    have A2 := an2_ok false A1.2 (an1_lt true AF.bd (Ieee.Format.div_lt Ieee.double AF.n))
    have HHF := Lib.hid (fun k => hf_ok (hfK_bd tb k))
    have HV : Hid (angF (hfK t 3) true false true = angF (hfK t 3) true false true) := Lib.hid rfl
    simp only [if_true] at qq
    obtain ⟨q1, q2⟩ := opf qq
    obtain ⟨q3, q4⟩ := opf q0
    obtain ⟨u1, u2⟩ := opf AF.u
    obtain ⟨p1, p2⟩ := opf AF.p
    obtain ⟨e1, e2⟩ := opf AF.e
    obtain ⟨n1, n2⟩ := opf AF.n
    have e1' : ∀ w, fres .mul .f64 w 4620693217682128896 (ap (hfK t 3)) = a8 (hfK t 3) := e1
    have e2' : fcnt .mul .f64 4620693217682128896 (ap (hfK t 3)) = 0 := e2
    have n1' : ∀ w, fres .quo .f64 w (a8 (hfK t 3)) 4618760256179416344 = an (hfK t 3) := n1
    have n2' : fcnt .quo .f64 (a8 (hfK t 3)) 4618760256179416344 = 0 := n2
    obtain ⟨f1, f2⟩ := opf A1.1
    have f1' : ∀ w, fres .sub .f64 w 4598175219545276416 (an (hfK t 3)) = F .sub Wquarter (an (hfK t 3)) := f1
    have f2' : fcnt .sub .f64 4598175219545276416 (an (hfK t 3)) = 0 := f2
    obtain ⟨g1, g2⟩ := opf A2.1
    have w1 : an1 true (an (hfK t 3)) = F .sub Wquarter (an (hfK t 3)) := rfl
    rw [w1] at g1 g2
    have g1' : ∀ w, fres .sub .f64 w 4602678819172646912 (F .sub Wquarter (an (hfK t 3))) = F .sub Whalf (F .sub Wquarter (an (hfK t 3))) := g1
    have g2' : fcnt .sub .f64 4602678819172646912 (F .sub Wquarter (an (hfK t 3))) = 0 := g2
    have HQ := Lib.hid AF.q
    have HR : Hid (angF (hfK t 3) true false true = Op.negFloat .f64 ((F .sub Wquarter (an (hfK t 3))))) := Lib.hid rfl
    clear P AF A1 A2 e1 e2 n1 n2 f1 f2 g1 g2 w1 qq q0 HPT HV tb
    generalize an (hfK t 3) = v0 at *
    generalize a8 (hfK t 3) = v8 at *
    generalize ap (hfK t 3) = vp at *
    generalize F .sub Wquarter v0 = vq at *
    obtain ⟨a, hga⟩ : ∃ a, Y % 9223372036854775808 = a := ⟨_, rfl⟩
    obtain ⟨b, hgb⟩ : ∃ b, X % 9223372036854775808 = b := ⟨_, rfl⟩
    rw [hga, hgb] at ov q1 q2 q3 q4
    have HA := Lib.hid hga
    have HB := Lib.hid hgb
    clear hga hgb
    go_enter Try.func32, Try.ntmps32
    go_wp2_with (first
      | (go_at_call 50; go_in)
      | (go_at_call 52; refine (abs_any Y _ Ylt).mono ?_; rintro e w' ⟨rfl, rfl⟩; rw [HA.out])
      | (go_at_call 52; refine (abs_any X _ Xlt).mono ?_; rintro e w' ⟨rfl, rfl⟩; rw [HB.out]))
    go_loop [7, 43] (fun z k => ∃ i : Nat, i ≤ 3 ∧ k = .int .i64 i ∧ z = .float .f64 (hfK t i)) (fun _ k => 3 - (intOf k).toNat)
    case atStart => exact ⟨0, by omega, rfl, rfl⟩
    case round =>
      obtain ⟨i, hi, rfl, rfl⟩ := hrel
      by_cases hlt : i < 3
      · have H := HHF.out i
        obtain ⟨c1, c2⟩ := opf H.m
        obtain ⟨c3, c4⟩ := opf H.a
        obtain ⟨c5, c6⟩ := opf H.b
        obtain ⟨c7, c8⟩ := opf H.q
        have HSQ := Lib.hid H.s
        have c3' : ∀ w, fres .add .f64 w 4607182418800017408 _ = _ := c3
        have c4' : fcnt .add .f64 4607182418800017408 _ = 0 := c4
        have c5' : ∀ w, fres .add .f64 w 4607182418800017408 _ = _ := c5
        have c6' : fcnt .add .f64 4607182418800017408 _ = 0 := c6
        have hk1 : hfK t (i + 1) = hf (hfK t i) := rfl
        have HK1 := Lib.hid hk1
        clear c3 c4 c5 c6 H hk1
        generalize hf (hfK t i) = t1 at *
        generalize hb (hfK t i) = tb at *
        generalize ha (hfK t i) = ta at *
        generalize sfix ta = ts at *
        generalize hfK t i = t0 at *
        generalize F .mul t0 t0 = tm at *
        go_wp2_with (go_at_call 55; refine (sqrt_num HSQ.out _).mono ?_; rintro e w' ⟨rfl, rfl⟩)
        go_round
        case rel => exact ⟨i + 1, by omega, by go_num, by rw [HK1.out]⟩
        case measure => simp [intOf]; omega
      · obtain rfl : i = 3 := by omega
        clear hlt
        generalize au (hfK t 3) = u at *
        generalize hfK t 3 = tt at *
        go_wp2
        go_loop [9, 10] (fun q k => ∃ l : Nat, l ≤ 8 ∧ k = .float .f64 (Ka l) ∧ q = .float .f64 (aq u l)) (fun _ k => mO k)
        case atStart => exact ⟨0, by omega, rfl, rfl⟩
        case round =>
          obtain ⟨l, hl, rfl, rfl⟩ := hrel
          by_cases hlt : l < 8
          · obtain ⟨r1, r2⟩ := HQ.out l hlt
            obtain ⟨r1, s1⟩ := opf r1
            obtain ⟨r2, s2⟩ := opf r2
            obtain ⟨o1, o2, _⟩ := ka_step l hlt
            obtain ⟨o1, m1⟩ := opf o1
            obtain ⟨o2, m2⟩ := opf o2
            have o3 := ka_test l (by omega)
            rw [decide_eq_true hlt] at o3
            have o3' : (FloatKind.f64.format.order (Ka l) 4607182418800017408 == some .gt || FloatKind.f64.format.order (Ka l) 4607182418800017408 == some .eq) = true := o3
            have HM := Lib.hid (mA_lt l hlt)
            skip
            clear o3
            generalize hq4 : aq u (l + 1) = x4 at *
            generalize aq u l = x3 at *
            generalize F .mul u x3 = x5 at *
            generalize Ca l = c at *
            generalize hk1 : Ka (l + 1) = k1 at *
            generalize Ka l = k0 at *
            go_wp2
            go_round
            case rel => exact ⟨l + 1, by omega, by rw [hk1], by rw [hq4]⟩
            case measure => exact HM.out
          · obtain rfl : l = 8 := by omega
            have o3 := ka_test 8 (by omega)
            rw [decide_eq_false hlt] at o3
            have o3' : (FloatKind.f64.format.order (Ka 8) 4607182418800017408 == some .gt || FloatKind.f64.format.order (Ka 8) 4607182418800017408 == some .eq) = false := o3
            clear o3 hlt
            generalize Ka 8 = k0 at *
            generalize aq u 8 = x3 at *
            go_wp2
            go_ret
            exact F32.mk (by rw [HR.out]; exact like_narrow (.refl _ _) (by rw [← HR.out]; exact hopen)) ⟨_, rfl⟩

set_option maxHeartbeats 4000000 in
set_option maxRecDepth 100000 in
theorem angle_ttf (y x Y X t : Nat) (HPT : Hid (Pt Y X t true)) (Ylt : Y < 18446744073709551616) (Xlt : X < 18446744073709551616) (w : World)
    (yc : ∀ w, cres .f32 .f64 w y = Y) (yn : ccnt .f32 .f64 y = 0) (xc : ∀ w, cres .f32 .f64 w x = X) (xn : ccnt .f32 .f64 x = 0)
    (ys : ∀ w, fres .sub .f32 w y y = 0) (yf : fcnt .sub .f32 y y = 0) (xs : ∀ w, fres .sub .f32 w x x = 0) (xf : fcnt .sub .f32 x x = 0)
    (hz : (FloatKind.f32.format.order x 0 == some .eq) = false ∨ (FloatKind.f32.format.order y 0 == some .eq) = false)
    (o2 : (FloatKind.f32.format.order x 0 == some .lt) = true) (o3 : (FloatKind.f32.format.order y 0 == some .lt) = false) (hopen : tooGreat .f64 .f32 (angF (hfK t 3) true true false) = false) :
    Calls Try.prog 32 #[.float .f32 y, .float .f32 x] w (F32 (fconv .f64 .f32 (angF (hfK t 3) true true false)) w) := by
  have f00 : (FloatKind.f32.format.order 0 0 == some .eq) = true := by decide +kernel
  cases hzx : (FloatKind.f32.format.order x 0 == some .eq)
  · clear hz
    have P := HPT.out
    have ov := P.over
    obtain ⟨z0, q0⟩ := P.q0
    have qq := P.q
    have tb := P.bd
    have AF := af_ok (hfK_bd tb 3)
    have A1 := an1_ok true AF.bd
    have A2 := an2_ok true A1.2 (an1_lt true AF.bd (Ieee.Format.div_lt Ieee.double AF.n))
    have HHF := Lib.hid (fun k => hf_ok (hfK_bd tb k))
    have HV : Hid (angF (hfK t 3) true true false = angF (hfK t 3) true true false) := Lib.hid rfl
    simp only [if_true] at qq
    obtain ⟨q1, q2⟩ := opf qq
    obtain ⟨q3, q4⟩ := opf q0
    obtain ⟨u1, u2⟩ := opf AF.u
    obtain ⟨p1, p2⟩ := opf AF.p
    obtain ⟨e1, e2⟩ := opf AF.e
    obtain ⟨n1, n2⟩ := opf AF.n
    have e1' : ∀ w, fres .mul .f64 w 4620693217682128896 (ap (hfK t 3)) = a8 (hfK t 3) := e1
    have e2' : fcnt .mul .f64 4620693217682128896 (ap (hfK t 3)) = 0 := e2
    have n1' : ∀ w, fres .quo .f64 w (a8 (hfK t 3)) 4618760256179416344 = an (hfK t 3) := n1
    have n2' : fcnt .quo .f64 (a8 (hfK t 3)) 4618760256179416344 = 0 := n2
    obtain ⟨f1, f2⟩ := opf A1.1
    have f1' : ∀ w, fres .sub .f64 w 4598175219545276416 (an (hfK t 3)) = F .sub Wquarter (an (hfK t 3)) := f1
    have f2' : fcnt .sub .f64 4598175219545276416 (an (hfK t 3)) = 0 := f2
    obtain ⟨g1, g2⟩ := opf A2.1
    have w1 : an1 true (an (hfK t 3)) = F .sub Wquarter (an (hfK t 3)) := rfl
    rw [w1] at g1 g2
    have g1' : ∀ w, fres .sub .f64 w 4602678819172646912 (F .sub Wquarter (an (hfK t 3))) = F .sub Whalf (F .sub Wquarter (an (hfK t 3))) := g1
    have g2' : fcnt .sub .f64 4602678819172646912 (F .sub Wquarter (an (hfK t 3))) = 0 := g2
    have HQ := Lib.hid AF.q
    have HR : Hid (angF (hfK t 3) true true false = (F .sub Whalf (F .sub Wquarter (an (hfK t 3))))) := Lib.hid rfl
    clear P AF A1 A2 e1 e2 n1 n2 f1 f2 g1 g2 w1 qq q0 HPT HV tb
    generalize an (hfK t 3) = v0 at *
    generalize a8 (hfK t 3) = v8 at *
    generalize ap (hfK t 3) = vp at *
    generalize F .sub Wquarter v0 = vq at *
    generalize F .sub Whalf vq = vh at *
    obtain ⟨a, hga⟩ : ∃ a, Y % 9223372036854775808 = a := ⟨_, rfl⟩
    obtain ⟨b, hgb⟩ : ∃ b, X % 9223372036854775808 = b := ⟨_, rfl⟩
    rw [hga, hgb] at ov q1 q2 q3 q4
    have HA := Lib.hid hga
    have HB := Lib.hid hgb
    clear hga hgb
    go_enter Try.func32, Try.ntmps32
    go_wp2_with (first
      | (go_at_call 50; go_in)
      | (go_at_call 52; refine (abs_any Y _ Ylt).mono ?_; rintro e w' ⟨rfl, rfl⟩; rw [HA.out])
      | (go_at_call 52; refine (abs_any X _ Xlt).mono ?_; rintro e w' ⟨rfl, rfl⟩; rw [HB.out]))
    go_loop [7, 43] (fun z k => ∃ i : Nat, i ≤ 3 ∧ k = .int .i64 i ∧ z = .float .f64 (hfK t i)) (fun _ k => 3 - (intOf k).toNat)
    case atStart => exact ⟨0, by omega, rfl, rfl⟩
    case round =>
      obtain ⟨i, hi, rfl, rfl⟩ := hrel
      by_cases hlt : i < 3
      · have H := HHF.out i
        obtain ⟨c1, c2⟩ := opf H.m
        obtain ⟨c3, c4⟩ := opf H.a
        obtain ⟨c5, c6⟩ := opf H.b
        obtain ⟨c7, c8⟩ := opf H.q
        have HSQ := Lib.hid H.s
        have c3' : ∀ w, fres .add .f64 w 4607182418800017408 _ = _ := c3
        have c4' : fcnt .add .f64 4607182418800017408 _ = 0 := c4
        have c5' : ∀ w, fres .add .f64 w 4607182418800017408 _ = _ := c5
        have c6' : fcnt .add .f64 4607182418800017408 _ = 0 := c6
        have hk1 : hfK t (i + 1) = hf (hfK t i) := rfl
        have HK1 := Lib.hid hk1
        clear c3 c4 c5 c6 H hk1
        generalize hf (hfK t i) = t1 at *
        generalize hb (hfK t i) = tb at *
        generalize ha (hfK t i) = ta at *
        generalize sfix ta = ts at *
        generalize hfK t i = t0 at *
        generalize F .mul t0 t0 = tm at *
        go_wp2_with (go_at_call 55; refine (sqrt_num HSQ.out _).mono ?_; rintro e w' ⟨rfl, rfl⟩)
        go_round
        case rel => exact ⟨i + 1, by omega, by go_num, by rw [HK1.out]⟩
        case measure => simp [intOf]; omega
      · obtain rfl : i = 3 := by omega
        clear hlt
        generalize au (hfK t 3) = u at *
        generalize hfK t 3 = tt at *
        go_wp2
        go_loop [9, 10] (fun q k => ∃ l : Nat, l ≤ 8 ∧ k = .float .f64 (Ka l) ∧ q = .float .f64 (aq u l)) (fun _ k => mO k)
        case atStart => exact ⟨0, by omega, rfl, rfl⟩
        case round =>
          obtain ⟨l, hl, rfl, rfl⟩ := hrel
          by_cases hlt : l < 8
          · obtain ⟨r1, r2⟩ := HQ.out l hlt
            obtain ⟨r1, s1⟩ := opf r1
            obtain ⟨r2, s2⟩ := opf r2
            obtain ⟨o1, o2, _⟩ := ka_step l hlt
            obtain ⟨o1, m1⟩ := opf o1
            obtain ⟨o2, m2⟩ := opf o2
            have o3 := ka_test l (by omega)
            rw [decide_eq_true hlt] at o3
            have o3' : (FloatKind.f64.format.order (Ka l) 4607182418800017408 == some .gt || FloatKind.f64.format.order (Ka l) 4607182418800017408 == some .eq) = true := o3
            have HM := Lib.hid (mA_lt l hlt)
            skip
            clear o3
            generalize hq4 : aq u (l + 1) = x4 at *
            generalize aq u l = x3 at *
            generalize F .mul u x3 = x5 at *
            generalize Ca l = c at *
            generalize hk1 : Ka (l + 1) = k1 at *
            generalize Ka l = k0 at *
            go_wp2
            go_round
            case rel => exact ⟨l + 1, by omega, by rw [hk1], by rw [hq4]⟩
            case measure => exact HM.out
          · obtain rfl : l = 8 := by omega
            have o3 := ka_test 8 (by omega)
            rw [decide_eq_false hlt] at o3
            have o3' : (FloatKind.f64.format.order (Ka 8) 4607182418800017408 == some .gt || FloatKind.f64.format.order (Ka 8) 4607182418800017408 == some .eq) = false := o3
            clear o3 hlt
            generalize Ka 8 = k0 at *
            generalize aq u 8 = x3 at *
            go_wp2
            go_ret
            exact F32.mk (by rw [HR.out]; exact like_narrow (.refl _ _) (by rw [← HR.out]; exact hopen)) ⟨_, rfl⟩
  · have hzy : (FloatKind.f32.format.order y 0 == some .eq) = false := by
      rcases hz with h | h
      · rw [hzx] at h; cases h
      · exact h
    clear hz
    have P := HPT.out
    have ov := P.over
    obtain ⟨z0, q0⟩ := P.q0
    have qq := P.q
    have tb := P.bd
    have AF := af_ok (hfK_bd tb 3)
    have A1 := an1_ok true AF.bd
    have A2 := an2_ok true A1.2 (an1_lt true AF.bd (Ieee.Format.div_lt Ieee.double AF.n))
    have HHF := Lib.hid (fun k => hf_ok (hfK_bd tb k))
    have HV : Hid (angF (hfK t 3) true true false = angF (hfK t 3) true true false) := Lib.hid rfl
    simp only [if_true] at qq
    obtain ⟨q1, q2⟩ := opf qq
    obtain ⟨q3, q4⟩ := opf q0
    obtain ⟨u1, u2⟩ := opf AF.u
    obtain ⟨p1, p2⟩ := opf AF.p
    obtain ⟨e1, e2⟩ := opf AF.e
    obtain ⟨n1, n2⟩ := opf AF.n
    have e1' : ∀ w, fres .mul .f64 w 4620693217682128896 (ap (hfK t 3)) = a8 (hfK t 3) := e1
    have e2' : fcnt .mul .f64 4620693217682128896 (ap (hfK t 3)) = 0 := e2
    have n1' : ∀ w, fres .quo .f64 w (a8 (hfK t 3)) 4618760256179416344 = an (hfK t 3) := n1
    have n2' : fcnt .quo .f64 (a8 (hfK t 3)) 4618760256179416344 = 0 := n2
    obtain ⟨f1, f2⟩ := opf A1.1
    have f1' : ∀ w, fres .sub .f64 w 4598175219545276416 (an (hfK t 3)) = F .sub Wquarter (an (hfK t 3)) := f1
    have f2' : fcnt .sub .f64 4598175219545276416 (an (hfK t 3)) = 0 := f2
    obtain ⟨g1, g2⟩ := opf A2.1
    have w1 : an1 true (an (hfK t 3)) = F .sub Wquarter (an (hfK t 3)) := rfl
    rw [w1] at g1 g2
    have g1' : ∀ w, fres .sub .f64 w 4602678819172646912 (F .sub Wquarter (an (hfK t 3))) = F .sub Whalf (F .sub Wquarter (an (hfK t 3))) := g1
    have g2' : fcnt .sub .f64 4602678819172646912 (F .sub Wquarter (an (hfK t 3))) = 0 := g2
    have HQ := Lib.hid AF.q
    have HR : Hid (angF (hfK t 3) true true false = (F .sub Whalf (F .sub Wquarter (an (hfK t 3))))) := Lib.hid rfl
    clear P AF A1 A2 e1 e2 n1 n2 f1 f2 g1 g2 w1 qq q0 HPT HV tb
    generalize an (hfK t 3) = v0 at *
    generalize a8 (hfK t 3) = v8 at *
    generalize ap (hfK t 3) = vp at *
    generalize F .sub Wquarter v0 = vq at *
    generalize F .sub Whalf vq = vh at *
    obtain ⟨a, hga⟩ : ∃ a, Y % 9223372036854775808 = a := ⟨_, rfl⟩
    obtain ⟨b, hgb⟩ : ∃ b, X % 9223372036854775808 = b := ⟨_, rfl⟩
    rw [hga, hgb] at ov q1 q2 q3 q4
    have HA := Lib.hid hga
    have HB := Lib.hid hgb
    clear hga hgb
    go_enter Try.func32, Try.ntmps32
    go_wp2_with (first
      | (go_at_call 50; go_in)
      | (go_at_call 52; refine (abs_any Y _ Ylt).mono ?_; rintro e w' ⟨rfl, rfl⟩; rw [HA.out])
      | (go_at_call 52; refine (abs_any X _ Xlt).mono ?_; rintro e w' ⟨rfl, rfl⟩; rw [HB.out]))
    go_loop [7, 43] (fun z k => ∃ i : Nat, i ≤ 3 ∧ k = .int .i64 i ∧ z = .float .f64 (hfK t i)) (fun _ k => 3 - (intOf k).toNat)
    case atStart => exact ⟨0, by omega, rfl, rfl⟩
    case round =>
      obtain ⟨i, hi, rfl, rfl⟩ := hrel
      by_cases hlt : i < 3
      · have H := HHF.out i
        obtain ⟨c1, c2⟩ := opf H.m
        obtain ⟨c3, c4⟩ := opf H.a
        obtain ⟨c5, c6⟩ := opf H.b
        obtain ⟨c7, c8⟩ := opf H.q
        have HSQ := Lib.hid H.s
        have c3' : ∀ w, fres .add .f64 w 4607182418800017408 _ = _ := c3
        have c4' : fcnt .add .f64 4607182418800017408 _ = 0 := c4
        have c5' : ∀ w, fres .add .f64 w 4607182418800017408 _ = _ := c5
        have c6' : fcnt .add .f64 4607182418800017408 _ = 0 := c6
        have hk1 : hfK t (i + 1) = hf (hfK t i) := rfl
        have HK1 := Lib.hid hk1
        clear c3 c4 c5 c6 H hk1
        generalize hf (hfK t i) = t1 at *
        generalize hb (hfK t i) = tb at *
        generalize ha (hfK t i) = ta at *
        generalize sfix ta = ts at *
        generalize hfK t i = t0 at *
        generalize F .mul t0 t0 = tm at *
        go_wp2_with (go_at_call 55; refine (sqrt_num HSQ.out _).mono ?_; rintro e w' ⟨rfl, rfl⟩)
        go_round
        case rel => exact ⟨i + 1, by omega, by go_num, by rw [HK1.out]⟩
        case measure => simp [intOf]; omega
      · obtain rfl : i = 3 := by omega
        clear hlt
        generalize au (hfK t 3) = u at *
        generalize hfK t 3 = tt at *
        go_wp2
        go_loop [9, 10] (fun q k => ∃ l : Nat, l ≤ 8 ∧ k = .float .f64 (Ka l) ∧ q = .float .f64 (aq u l)) (fun _ k => mO k)
        case atStart => exact ⟨0, by omega, rfl, rfl⟩
        case round =>
          obtain ⟨l, hl, rfl, rfl⟩ := hrel
          by_cases hlt : l < 8
          · obtain ⟨r1, r2⟩ := HQ.out l hlt
            obtain ⟨r1, s1⟩ := opf r1
            obtain ⟨r2, s2⟩ := opf r2
            obtain ⟨o1, o2, _⟩ := ka_step l hlt
            obtain ⟨o1, m1⟩ := opf o1
            obtain ⟨o2, m2⟩ := opf o2
            have o3 := ka_test l (by omega)
            rw [decide_eq_true hlt] at o3
            have o3' : (FloatKind.f64.format.order (Ka l) 4607182418800017408 == some .gt || FloatKind.f64.format.order (Ka l) 4607182418800017408 == some .eq) = true := o3
            have HM := Lib.hid (mA_lt l hlt)
            skip
            clear o3
            generalize hq4 : aq u (l + 1) = x4 at *
            generalize aq u l = x3 at *
            generalize F .mul u x3 = x5 at *
            generalize Ca l = c at *
            generalize hk1 : Ka (l + 1) = k1 at *
            generalize Ka l = k0 at *
            go_wp2
            go_round
            case rel => exact ⟨l + 1, by omega, by rw [hk1], by rw [hq4]⟩
            case measure => exact HM.out
          · obtain rfl : l = 8 := by omega
            have o3 := ka_test 8 (by omega)
            rw [decide_eq_false hlt] at o3
            have o3' : (FloatKind.f64.format.order (Ka 8) 4607182418800017408 == some .gt || FloatKind.f64.format.order (Ka 8) 4607182418800017408 == some .eq) = false := o3
            clear o3 hlt
            generalize Ka 8 = k0 at *
            generalize aq u 8 = x3 at *
            go_wp2
            go_ret
            exact F32.mk (by rw [HR.out]; exact like_narrow (.refl _ _) (by rw [← HR.out]; exact hopen)) ⟨_, rfl⟩

set_option maxHeartbeats 4000000 in
set_option maxRecDepth 100000 in
theorem angle_ttt (y x Y X t : Nat) (HPT : Hid (Pt Y X t true)) (Ylt : Y < 18446744073709551616) (Xlt : X < 18446744073709551616) (w : World)
    (yc : ∀ w, cres .f32 .f64 w y = Y) (yn : ccnt .f32 .f64 y = 0) (xc : ∀ w, cres .f32 .f64 w x = X) (xn : ccnt .f32 .f64 x = 0)
    (ys : ∀ w, fres .sub .f32 w y y = 0) (yf : fcnt .sub .f32 y y = 0) (xs : ∀ w, fres .sub .f32 w x x = 0) (xf : fcnt .sub .f32 x x = 0)
    (hz : (FloatKind.f32.format.order x 0 == some .eq) = false ∨ (FloatKind.f32.format.order y 0 == some .eq) = false)
    (o2 : (FloatKind.f32.format.order x 0 == some .lt) = true) (o3 : (FloatKind.f32.format.order y 0 == some .lt) = true) (hopen : tooGreat .f64 .f32 (angF (hfK t 3) true true true) = false) :
    Calls Try.prog 32 #[.float .f32 y, .float .f32 x] w (F32 (fconv .f64 .f32 (angF (hfK t 3) true true true)) w) := by
  have f00 : (FloatKind.f32.format.order 0 0 == some .eq) = true := by decide +kernel
  cases hzx : (FloatKind.f32.format.order x 0 == some .eq)
  · clear hz
    have P := HPT.out
    have ov := P.over
    obtain ⟨z0, q0⟩ := P.q0
    have qq := P.q
    have tb := P.bd
    have AF := af_ok (hfK_bd tb 3)
    have A1 := an1_ok true AF.bd
    have A2 := an2_ok true A1.2 (an1_lt true AF.bd (Ieee.Format.div_lt Ieee.double AF.n))
    have HHF := Lib.hid (fun k => hf_ok (hfK_bd tb k))
    have HV : Hid (angF (hfK t 3) true true true = angF (hfK t 3) true true true) := Lib.hid rfl
    simp only [if_true] at qq
    obtain ⟨q1, q2⟩ := opf qq
    obtain ⟨q3, q4⟩ := opf q0
    obtain ⟨u1, u2⟩ := opf AF.u
    obtain ⟨p1, p2⟩ := opf AF.p
    obtain ⟨e1, e2⟩ := opf AF.e
    obtain ⟨n1, n2⟩ := opf AF.n
    have e1' : ∀ w, fres .mul .f64 w 4620693217682128896 (ap (hfK t 3)) = a8 (hfK t 3) := e1
    have e2' : fcnt .mul .f64 4620693217682128896 (ap (hfK t 3)) = 0 := e2
    have n1' : ∀ w, fres .quo .f64 w (a8 (hfK t 3)) 4618760256179416344 = an (hfK t 3) := n1
    have n2' : fcnt .quo .f64 (a8 (hfK t 3)) 4618760256179416344 = 0 := n2
    obtain ⟨f1, f2⟩ := opf A1.1
    have f1' : ∀ w, fres .sub .f64 w 4598175219545276416 (an (hfK t 3)) = F .sub Wquarter (an (hfK t 3)) := f1
    have f2' : fcnt .sub .f64 4598175219545276416 (an (hfK t 3)) = 0 := f2
    obtain ⟨g1, g2⟩ := opf A2.1
    have w1 : an1 true (an (hfK t 3)) = F .sub Wquarter (an (hfK t 3)) := rfl
    rw [w1] at g1 g2
    have g1' : ∀ w, fres .sub .f64 w 4602678819172646912 (F .sub Wquarter (an (hfK t 3))) = F .sub Whalf (F .sub Wquarter (an (hfK t 3))) := g1
    have g2' : fcnt .sub .f64 4602678819172646912 (F .sub Wquarter (an (hfK t 3))) = 0 := g2
    have HQ := Lib.hid AF.q
    have HR : Hid (angF (hfK t 3) true true true = Op.negFloat .f64 (F .sub Whalf (F .sub Wquarter (an (hfK t 3))))) := Lib.hid rfl
    clear P AF A1 A2 e1 e2 n1 n2 f1 f2 g1 g2 w1 qq q0 HPT HV tb
    generalize an (hfK t 3) = v0 at *
    generalize a8 (hfK t 3) = v8 at *
    generalize ap (hfK t 3) = vp at *
    generalize F .sub Wquarter v0 = vq at *
    generalize F .sub Whalf vq = vh at *
    obtain ⟨a, hga⟩ : ∃ a, Y % 9223372036854775808 = a := ⟨_, rfl⟩
    obtain ⟨b, hgb⟩ : ∃ b, X % 9223372036854775808 = b := ⟨_, rfl⟩
    rw [hga, hgb] at ov q1 q2 q3 q4
    have HA := Lib.hid hga
    have HB := Lib.hid hgb
    clear hga hgb
    go_enter Try.func32, Try.ntmps32
    go_wp2_with (first
      | (go_at_call 50; go_in)
      | (go_at_call 52; refine (abs_any Y _ Ylt).mono ?_; rintro e w' ⟨rfl, rfl⟩; rw [HA.out])
      | (go_at_call 52; refine (abs_any X _ Xlt).mono ?_; rintro e w' ⟨rfl, rfl⟩; rw [HB.out]))
    go_loop [7, 43] (fun z k => ∃ i : Nat, i ≤ 3 ∧ k = .int .i64 i ∧ z = .float .f64 (hfK t i)) (fun _ k => 3 - (intOf k).toNat)
    case atStart => exact ⟨0, by omega, rfl, rfl⟩
    case round =>
      obtain ⟨i, hi, rfl, rfl⟩ := hrel
      by_cases hlt : i < 3
      · have H := HHF.out i
        obtain ⟨c1, c2⟩ := opf H.m
        obtain ⟨c3, c4⟩ := opf H.a
        obtain ⟨c5, c6⟩ := opf H.b
        obtain ⟨c7, c8⟩ := opf H.q
        have HSQ := Lib.hid H.s
        have c3' : ∀ w, fres .add .f64 w 4607182418800017408 _ = _ := c3
        have c4' : fcnt .add .f64 4607182418800017408 _ = 0 := c4
        have c5' : ∀ w, fres .add .f64 w 4607182418800017408 _ = _ := c5
        have c6' : fcnt .add .f64 4607182418800017408 _ = 0 := c6
        have hk1 : hfK t (i + 1) = hf (hfK t i) := rfl
        have HK1 := Lib.hid hk1
        clear c3 c4 c5 c6 H hk1
        generalize hf (hfK t i) = t1 at *
        generalize hb (hfK t i) = tb at *
        generalize ha (hfK t i) = ta at *
        generalize sfix ta = ts at *
        generalize hfK t i = t0 at *
        generalize F .mul t0 t0 = tm at *
        go_wp2_with (go_at_call 55; refine (sqrt_num HSQ.out _).mono ?_; rintro e w' ⟨rfl, rfl⟩)
        go_round
        case rel => exact ⟨i + 1, by omega, by go_num, by rw [HK1.out]⟩
        case measure => simp [intOf]; omega
      · obtain rfl : i = 3 := by omega
        clear hlt
        generalize au (hfK t 3) = u at *
        generalize hfK t 3 = tt at *
        go_wp2
        go_loop [9, 10] (fun q k => ∃ l : Nat, l ≤ 8 ∧ k = .float .f64 (Ka l) ∧ q = .float .f64 (aq u l)) (fun _ k => mO k)
        case atStart => exact ⟨0, by omega, rfl, rfl⟩
        case round =>
          obtain ⟨l, hl, rfl, rfl⟩ := hrel
          by_cases hlt : l < 8
          · obtain ⟨r1, r2⟩ := HQ.out l hlt
            obtain ⟨r1, s1⟩ := opf r1
            obtain ⟨r2, s2⟩ := opf r2
            obtain ⟨o1, o2, _⟩ := ka_step l hlt
            obtain ⟨o1, m1⟩ := opf o1
            obtain ⟨o2, m2⟩ := opf o2
            have o3 := ka_test l (by omega)
            rw [decide_eq_true hlt] at o3
            have o3' : (FloatKind.f64.format.order (Ka l) 4607182418800017408 == some .gt || FloatKind.f64.format.order (Ka l) 4607182418800017408 == some .eq) = true := o3
            have HM := Lib.hid (mA_lt l hlt)
            skip
            clear o3
            generalize hq4 : aq u (l + 1) = x4 at *
            generalize aq u l = x3 at *
            generalize F .mul u x3 = x5 at *
            generalize Ca l = c at *
            generalize hk1 : Ka (l + 1) = k1 at *
            generalize Ka l = k0 at *
            go_wp2
            go_round
            case rel => exact ⟨l + 1, by omega, by rw [hk1], by rw [hq4]⟩
            case measure => exact HM.out
          · obtain rfl : l = 8 := by omega
            have o3 := ka_test 8 (by omega)
            rw [decide_eq_false hlt] at o3
            have o3' : (FloatKind.f64.format.order (Ka 8) 4607182418800017408 == some .gt || FloatKind.f64.format.order (Ka 8) 4607182418800017408 == some .eq) = false := o3
            clear o3 hlt
            generalize Ka 8 = k0 at *
            generalize aq u 8 = x3 at *
            go_wp2
            go_ret
            exact F32.mk (by rw [HR.out]; exact like_narrow (.refl _ _) (by rw [← HR.out]; exact hopen)) ⟨_, rfl⟩
  · have hzy : (FloatKind.f32.format.order y 0 == some .eq) = false := by
      rcases hz with h | h
      · rw [hzx] at h; cases h
      · exact h
    clear hz
    have P := HPT.out
    have ov := P.over
    obtain ⟨z0, q0⟩ := P.q0
    have qq := P.q
    have tb := P.bd
    have AF := af_ok (hfK_bd tb 3)
    have A1 := an1_ok true AF.bd
    have A2 := an2_ok true A1.2 (an1_lt true AF.bd (Ieee.Format.div_lt Ieee.double AF.n))
    have HHF := Lib.hid (fun k => hf_ok (hfK_bd tb k))
    have HV : Hid (angF (hfK t 3) true true true = angF (hfK t 3) true true true) := Lib.hid rfl
    simp only [if_true] at qq
    obtain ⟨q1, q2⟩ := opf qq
    obtain ⟨q3, q4⟩ := opf q0
    obtain ⟨u1, u2⟩ := opf AF.u
    obtain ⟨p1, p2⟩ := opf AF.p
    obtain ⟨e1, e2⟩ := opf AF.e
    obtain ⟨n1, n2⟩ := opf AF.n
    have e1' : ∀ w, fres .mul .f64 w 4620693217682128896 (ap (hfK t 3)) = a8 (hfK t 3) := e1
    have e2' : fcnt .mul .f64 4620693217682128896 (ap (hfK t 3)) = 0 := e2
    have n1' : ∀ w, fres .quo .f64 w (a8 (hfK t 3)) 4618760256179416344 = an (hfK t 3) := n1
    have n2' : fcnt .quo .f64 (a8 (hfK t 3)) 4618760256179416344 = 0 := n2
    obtain ⟨f1, f2⟩ := opf A1.1
    have f1' : ∀ w, fres .sub .f64 w 4598175219545276416 (an (hfK t 3)) = F .sub Wquarter (an (hfK t 3)) := f1
    have f2' : fcnt .sub .f64 4598175219545276416 (an (hfK t 3)) = 0 := f2
    obtain ⟨g1, g2⟩ := opf A2.1
    have w1 : an1 true (an (hfK t 3)) = F .sub Wquarter (an (hfK t 3)) := rfl
    rw [w1] at g1 g2
    have g1' : ∀ w, fres .sub .f64 w 4602678819172646912 (F .sub Wquarter (an (hfK t 3))) = F .sub Whalf (F .sub Wquarter (an (hfK t 3))) := g1
    have g2' : fcnt .sub .f64 4602678819172646912 (F .sub Wquarter (an (hfK t 3))) = 0 := g2
    have HQ := Lib.hid AF.q
    have HR : Hid (angF (hfK t 3) true true true = Op.negFloat .f64 (F .sub Whalf (F .sub Wquarter (an (hfK t 3))))) := Lib.hid rfl
    clear P AF A1 A2 e1 e2 n1 n2 f1 f2 g1 g2 w1 qq q0 HPT HV tb
    generalize an (hfK t 3) = v0 at *
    generalize a8 (hfK t 3) = v8 at *
    generalize ap (hfK t 3) = vp at *
    generalize F .sub Wquarter v0 = vq at *
    generalize F .sub Whalf vq = vh at *
    obtain ⟨a, hga⟩ : ∃ a, Y % 9223372036854775808 = a := ⟨_, rfl⟩
    obtain ⟨b, hgb⟩ : ∃ b, X % 9223372036854775808 = b := ⟨_, rfl⟩
    rw [hga, hgb] at ov q1 q2 q3 q4
    have HA := Lib.hid hga
    have HB := Lib.hid hgb
    clear hga hgb
    go_enter Try.func32, Try.ntmps32
    go_wp2_with (first
      | (go_at_call 50; go_in)
      | (go_at_call 52; refine (abs_any Y _ Ylt).mono ?_; rintro e w' ⟨rfl, rfl⟩; rw [HA.out])
      | (go_at_call 52; refine (abs_any X _ Xlt).mono ?_; rintro e w' ⟨rfl, rfl⟩; rw [HB.out]))
    go_loop [7, 43] (fun z k => ∃ i : Nat, i ≤ 3 ∧ k = .int .i64 i ∧ z = .float .f64 (hfK t i)) (fun _ k => 3 - (intOf k).toNat)
    case atStart => exact ⟨0, by omega, rfl, rfl⟩
    case round =>
      obtain ⟨i, hi, rfl, rfl⟩ := hrel
      by_cases hlt : i < 3
      · have H := HHF.out i
        obtain ⟨c1, c2⟩ := opf H.m
        obtain ⟨c3, c4⟩ := opf H.a
        obtain ⟨c5, c6⟩ := opf H.b
        obtain ⟨c7, c8⟩ := opf H.q
        have HSQ := Lib.hid H.s
        have c3' : ∀ w, fres .add .f64 w 4607182418800017408 _ = _ := c3
        have c4' : fcnt .add .f64 4607182418800017408 _ = 0 := c4
        have c5' : ∀ w, fres .add .f64 w 4607182418800017408 _ = _ := c5
        have c6' : fcnt .add .f64 4607182418800017408 _ = 0 := c6
        have hk1 : hfK t (i + 1) = hf (hfK t i) := rfl
        have HK1 := Lib.hid hk1
        clear c3 c4 c5 c6 H hk1
        generalize hf (hfK t i) = t1 at *
        generalize hb (hfK t i) = tb at *
        generalize ha (hfK t i) = ta at *
        generalize sfix ta = ts at *
        generalize hfK t i = t0 at *
        generalize F .mul t0 t0 = tm at *
        go_wp2_with (go_at_call 55; refine (sqrt_num HSQ.out _).mono ?_; rintro e w' ⟨rfl, rfl⟩)
        go_round
        case rel => exact ⟨i + 1, by omega, by go_num, by rw [HK1.out]⟩
        case measure => simp [intOf]; omega
      · obtain rfl : i = 3 := by omega
        clear hlt
        generalize au (hfK t 3) = u at *
        generalize hfK t 3 = tt at *
        go_wp2
        go_loop [9, 10] (fun q k => ∃ l : Nat, l ≤ 8 ∧ k = .float .f64 (Ka l) ∧ q = .float .f64 (aq u l)) (fun _ k => mO k)
        case atStart => exact ⟨0, by omega, rfl, rfl⟩
        case round =>
          obtain ⟨l, hl, rfl, rfl⟩ := hrel
          by_cases hlt : l < 8
          · obtain ⟨r1, r2⟩ := HQ.out l hlt
            obtain ⟨r1, s1⟩ := opf r1
            obtain ⟨r2, s2⟩ := opf r2
            obtain ⟨o1, o2, _⟩ := ka_step l hlt
            obtain ⟨o1, m1⟩ := opf o1
            obtain ⟨o2, m2⟩ := opf o2
            have o3 := ka_test l (by omega)
            rw [decide_eq_true hlt] at o3
            have o3' : (FloatKind.f64.format.order (Ka l) 4607182418800017408 == some .gt || FloatKind.f64.format.order (Ka l) 4607182418800017408 == some .eq) = true := o3
            have HM := Lib.hid (mA_lt l hlt)
            skip
            clear o3
            generalize hq4 : aq u (l + 1) = x4 at *
            generalize aq u l = x3 at *
            generalize F .mul u x3 = x5 at *
            generalize Ca l = c at *
            generalize hk1 : Ka (l + 1) = k1 at *
            generalize Ka l = k0 at *
            go_wp2
            go_round
            case rel => exact ⟨l + 1, by omega, by rw [hk1], by rw [hq4]⟩
            case measure => exact HM.out
          · obtain rfl : l = 8 := by omega
            have o3 := ka_test 8 (by omega)
            rw [decide_eq_false hlt] at o3
            have o3' : (FloatKind.f64.format.order (Ka 8) 4607182418800017408 == some .gt || FloatKind.f64.format.order (Ka 8) 4607182418800017408 == some .eq) = false := o3
            clear o3 hlt
            generalize Ka 8 = k0 at *
            generalize aq u 8 = x3 at *
            go_wp2
            go_ret
            exact F32.mk (by rw [HR.out]; exact like_narrow (.refl _ _) (by rw [← HR.out]; exact hopen)) ⟨_, rfl⟩

theorem wide_all (Y X t : Nat) (b1 b2 b3 : Bool) (HPT : Pt Y X t b1) (Ylt : Y < 18446744073709551616) (Xlt : X < 18446744073709551616) (w : World)
    (hyy : floatBits .sub .f64 Y Y = some 0) (hxx : floatBits .sub .f64 X X = some 0) (hz : (FloatKind.f64.format.order X 0 == some .eq) = false ∨ (FloatKind.f64.format.order Y 0 == some .eq) = false)
    (o2 : (FloatKind.f64.format.order X 0 == some .lt) = b2) (o3 : (FloatKind.f64.format.order Y 0 == some .lt) = b3) :
    Calls Try.prog 78 #[.float .f64 Y, .float .f64 X] w fun e w' => e = .returned (.float .f64 (angF (hfK t 3) b1 b2 b3)) ∧ w = w' := by
  cases b1 <;> cases b2 <;> cases b3
  · exact wide_fff Y X t (Lib.hid HPT) Ylt Xlt w hyy hxx hz o2 o3
  · exact wide_fft Y X t (Lib.hid HPT) Ylt Xlt w hyy hxx hz o2 o3
  · exact wide_ftf Y X t (Lib.hid HPT) Ylt Xlt w hyy hxx hz o2 o3
  · exact wide_ftt Y X t (Lib.hid HPT) Ylt Xlt w hyy hxx hz o2 o3
  · exact wide_tff Y X t (Lib.hid HPT) Ylt Xlt w hyy hxx hz o2 o3
  · exact wide_tft Y X t (Lib.hid HPT) Ylt Xlt w hyy hxx hz o2 o3
  · exact wide_ttf Y X t (Lib.hid HPT) Ylt Xlt w hyy hxx hz o2 o3
  · exact wide_ttt Y X t (Lib.hid HPT) Ylt Xlt w hyy hxx hz o2 o3

theorem angle_all (y x Y X t : Nat) (b1 b2 b3 : Bool) (HPT : Pt Y X t b1) (Ylt : Y < 18446744073709551616) (Xlt : X < 18446744073709551616) (w : World)
    (yc : ∀ w, cres .f32 .f64 w y = Y) (yn : ccnt .f32 .f64 y = 0) (xc : ∀ w, cres .f32 .f64 w x = X) (xn : ccnt .f32 .f64 x = 0)
    (ys : ∀ w, fres .sub .f32 w y y = 0) (yf : fcnt .sub .f32 y y = 0) (xs : ∀ w, fres .sub .f32 w x x = 0) (xf : fcnt .sub .f32 x x = 0)
    (hz : (FloatKind.f32.format.order x 0 == some .eq) = false ∨ (FloatKind.f32.format.order y 0 == some .eq) = false)
    (o2 : (FloatKind.f32.format.order x 0 == some .lt) = b2) (o3 : (FloatKind.f32.format.order y 0 == some .lt) = b3) (hopen : tooGreat .f64 .f32 (angF (hfK t 3) b1 b2 b3) = false) :
    Calls Try.prog 32 #[.float .f32 y, .float .f32 x] w (F32 (fconv .f64 .f32 (angF (hfK t 3) b1 b2 b3)) w) := by
  cases b1 <;> cases b2 <;> cases b3
  · exact angle_fff y x Y X t (Lib.hid HPT) Ylt Xlt w yc yn xc xn ys yf xs xf hz o2 o3 hopen
  · exact angle_fft y x Y X t (Lib.hid HPT) Ylt Xlt w yc yn xc xn ys yf xs xf hz o2 o3 hopen
  · exact angle_ftf y x Y X t (Lib.hid HPT) Ylt Xlt w yc yn xc xn ys yf xs xf hz o2 o3 hopen
  · exact angle_ftt y x Y X t (Lib.hid HPT) Ylt Xlt w yc yn xc xn ys yf xs xf hz o2 o3 hopen
  · exact angle_tff y x Y X t (Lib.hid HPT) Ylt Xlt w yc yn xc xn ys yf xs xf hz o2 o3 hopen
  · exact angle_tft y x Y X t (Lib.hid HPT) Ylt Xlt w yc yn xc xn ys yf xs xf hz o2 o3 hopen
  · exact angle_ttf y x Y X t (Lib.hid HPT) Ylt Xlt w yc yn xc xn ys yf xs xf hz o2 o3 hopen
  · exact angle_ttt y x Y X t (Lib.hid HPT) Ylt Xlt w yc yn xc xn ys yf xs xf hz o2 o3 hopen
end Go.Proofs.Ytbphigmpcjodkaa
