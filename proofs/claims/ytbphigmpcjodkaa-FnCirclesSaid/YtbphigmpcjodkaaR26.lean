/-
  Walks: the law Circles. Conditions: none.
-/
import Derived.Test.YtbphigmpcjodkaaR22
import Derived.Test.YtbphigmpcjodkaaR25
set_option linter.unusedVariables false
set_option linter.unusedSimpArgs false
namespace Go.Proofs.Ytbphigmpcjodkaa
open Go Go.RowKit Flo Val Fb Ff

attribute [local go_sem] run_fadd run_fsub run_fmul run_fquo run_fconv World.drewN_zero

theorem IsRow.dr {k : IntKind} {w w' : World} {a : Option Addr} {len cap : Nat} {zs : List Int} (hd : Dr w w') (h : IsRow k w a len cap zs) : IsRow k w' a len cap zs := by
  obtain ⟨n, rfl⟩ := hd; exact h

theorem flo_le {v n : Nat} (h : flo v = some n) : n ≤ 60200 := by
  unfold flo at h
  cases hc : (okw v && Nat.ble (ex v) 1075) with
  | false => rw [hc] at h; cases h
  | true =>
    rw [hc, cond_true, fc_eq, fc_eq, fc_eq, fc_eq] at h
    cases hs : Nat.beq (sg v) 0 with
    | true =>
      rw [hs, cond_true] at h
      generalize Nat.shiftRight (mn v) _ = M at h
      cases hb : Nat.ble M 60000 with
      | false => rw [hb] at h; cases h
      | true =>
        rw [hb, cond_true] at h
        have := Nat.le_of_ble_eq_true hb
        have hn : 200 + M = n := Option.some.inj h
        omega
    | false =>
      rw [hs, cond_false] at h
      generalize Nat.add (Nat.shiftRight (mn v) _) _ = M at h
      cases hb : Nat.ble M 200 with
      | false => rw [hb] at h; cases h
      | true =>
        rw [hb, cond_true] at h
        have hn : 200 - M = n := Option.some.inj h
        omega

theorem pw_pos2 (b e : Nat) (h : 0 < b) : 0 < pw b e := Nat.pow_pos h
/-- The tenths of 1 are 0. -/
theorem tk_64 {n : Nat} (h : Tk 64 n) : n = 200 := by
  have h1 := h.up
  have h2 := h.lo
  have hS := pw_pos2 64 300 (by decide)
  generalize pw 64 300 = S at *
  have a := pw_lt (Nat.lt_of_mul_lt_mul_left h1)
  have b := pw_lt (Nat.lt_of_mul_lt_mul_left h2)
  omega

/-- The tenths of two eighths, of their product and of 1. -/
structure Ts (x y xy : Nat) (m n o : Int) : Prop where
  f_xy : floatBits .mul .f32 x y = some xy
  a : ∀ w, Calls Try.prog 30 #[.float .f32 x] w fun e w' => e = .returned (.tuple #[.int .i64 m, .bool true]) ∧ w = w'
  b : ∀ w, Calls Try.prog 30 #[.float .f32 y] w fun e w' => e = .returned (.tuple #[.int .i64 n, .bool true]) ∧ w = w'
  c : ∀ w, Calls Try.prog 30 #[.float .f32 xy] w fun e w' => e = .returned (.tuple #[.int .i64 o, .bool true]) ∧ w = w'
  m0 : -200 ≤ m
  m1 : m ≤ 60000
  n0 : -200 ≤ n
  n1 : n ≤ 60000
  o0 : -200 ≤ o
  o1 : o ≤ 60000
  le1 : m + n - o ≤ 1
  le2 : o - m - n ≤ 1
theorem tn_calls {k n : Nat} (h0 : 1 ≤ k) (h1 : k ≤ 40000) (h : Tk k n) (w : World) : Calls Try.prog 30 #[.float .f32 (s32 k)] w fun e w' => e = .returned (.tuple #[.int .i64 ((n : Int) - 200), .bool true]) ∧ w = w' :=
  tenths_any (x := s32 k) (y := wK k) (n := (n : Int) - 200) (wide_s32 h0 h1) (sub_s32 h0 h1) (pos_s32 h0 h1) (tt_tk h).1 (tt_tk h).2 w
theorem ts_of {i j : Nat} (h1 : 1 ≤ i) (h2 : i ≤ 200) (h3 : 1 ≤ j) (h4 : j ≤ 200) : ∃ m n o, Ts (s32 (i * 8)) (s32 (j * 8)) (s32 (i * j)) m n o := by
  obtain ⟨a, ha⟩ := tk_prod h1 h2 (by decide : 1 ≤ 8) (by decide)
  obtain ⟨b, hb⟩ := tk_prod h3 h4 (by decide : 1 ≤ 8) (by decide)
  obtain ⟨c, hc⟩ := tk_prod h1 h2 h3 h4
  obtain ⟨s1, s2⟩ := tk_sum ha hb hc
  have hij : i * j ≤ 200 * 200 := Nat.mul_le_mul h2 h4
  have hij1 : 1 * 1 ≤ i * j := Nat.mul_le_mul h1 h3
  have la := flo_le ha.n; have lb := flo_le hb.n; have lc := flo_le hc.n
  have ta := tn_calls (k := i * 8) (by omega) (by omega) ha
  have tb := tn_calls (k := j * 8) (by omega) (by omega) hb
  have tc := tn_calls (k := i * j) (by omega) (by omega) hc
  have hm := mul_s32 h1 h2 h3 h4
  clear ha hb hc
  generalize s32 (i * 8) = x at *
  generalize s32 (j * 8) = y at *
  generalize s32 (i * j) = z at *
  exact ⟨(a : Int) - 200, (b : Int) - 200, (c : Int) - 200, ⟨hm, ta, tb, tc, by omega, by omega, by omega, by omega, by omega, by omega, by omega, by omega⟩⟩
theorem one_calls (w : World) : Calls Try.prog 30 #[.float .f32 1065353216] w fun e w' => e = .returned (.tuple #[.int .i64 0, .bool true]) ∧ w = w' := by
  obtain ⟨n, hn⟩ := tk_prod (i := 8) (j := 8) (by decide) (by decide) (by decide) (by decide)
  have h := tk_64 hn
  subst h
  have := tn_calls (k := 8 * 8) (by decide) (by decide) hn w
  rw [show s32 (8 * 8) = 1065353216 by decide +kernel] at this
  exact this

/-- What the law needs of the two turns c and d. -/
structure Cs (c d e : Int) (x1 y1 x2 y2 x3 y3 X1 : Nat) (an : Nat) (AWd tn0 tu t5 : Nat) (wh : Int) (g3 : Nat) (p pv g1 : Nat) (un vn : Nat) : Prop where
  qc : floatBits .quo .f64 (floatOfInt .f64 c) 4634204016564240384 = some (Cq c)
  qd : floatBits .quo .f64 (floatOfInt .f64 d) 4634204016564240384 = some (Cq d)
  qe : floatBits .quo .f64 (floatOfInt .f64 e) 4634204016564240384 = some (Cq e)
  pc : ∀ w, Calls Try.prog 34 #[.float .f64 (Cq c)] w fun r w' => r = .returned (.complex .f32 x1 y1) ∧ Dr w w'
  pd : ∀ w, Calls Try.prog 34 #[.float .f64 (Cq d)] w fun r w' => r = .returned (.complex .f32 x2 y2) ∧ Dr w w'
  pe : ∀ w, Calls Try.prog 34 #[.float .f64 (Cq e)] w fun r w' => r = .returned (.complex .f32 x3 y3) ∧ Dr w w'
  ag : ∀ w, Calls Try.prog 39 #[.complex .f32 x1 y1] w fun r w' => r = .returned (.float .f32 an) ∧ Dr w w'
  ca : cvo .f32 .f64 an = some AWd
  tr : Tr AWd c tn0 tu t5 wh g3
  po : ∀ w, Calls Try.prog 40 #[.complex .f32 x1 y1] w fun r w' => r = .returned (.float .f32 p) ∧ w = w'
  cp : cvo .f32 .f64 p = some pv
  gp : gapo pv 4607182418800017408 = some g1
  lp : (FloatKind.f64.format.order g1 4547007122018943789 == some .gt) = false
  mu : ∀ w, Calls Try.prog 42 #[.complex .f32 x1 y1, .complex .f32 x2 y2] w fun r w' => r = .returned (.complex .f32 un vn) ∧ w = w'
  ne : ∀ w, Calls Try.prog 41 #[.complex .f32 un vn, .complex .f32 x3 y3, .float .f64 4547007122018943789] w fun r w' => r = .returned (.bool true) ∧ w = w'
  cx : cvo .f32 .f64 x1 = some X1
  qz : c.tmod 16 = 0 → gapo X1 0 = some 4607182418800017408 ∨ gapo X1 0 = some 0

theorem cs_of {c d : Int} (c1 : -128 ≤ c) (c2 : c < 128) (d1 : -128 ≤ d) (d2 : d < 128) :
    ∃ x1 y1 x2 y2 x3 y3 X1 an AWd tn0 tu t5 wh g3 p pv g1 un vn, Cs c d (c + d) x1 y1 x2 y2 x3 y3 X1 an AWd tn0 tu t5 wh g3 p pv g1 un vn := by
  have hc := cB_all (c := c) (by omega) (by omega)
  have hd := cB_all (c := d) (by omega) (by omega)
  have he := cB_all (c := c + d) (by omega) (by omega)
  unfold cB at hc hd he
  simp only [Bool.and_eq_true, beq_iff_eq] at hc hd he
  have wc := all_of wdJ_all (jc_lt c); have wd := all_of wdJ_all (jc_lt d); have we := all_of wdJ_all (jc_lt (c + d))
  unfold wdJ at wc wd we
  simp only [Bool.and_eq_true, beq_iff_eq] at wc wd we
  obtain ⟨an, tu, t5, wh, g3, ht⟩ := tr_of (tr_all c1 c2)
  obtain ⟨m1, m2, s, p, pv, g1, hp⟩ := po_of (all_of poJ_all (jc_lt c))
  have hj : Nat.mod (Nat.add (jc c) (jc d)) 64 = jc (c + d) := by
    show (jc c + jc d) % 64 = jc (c + d)
    unfold jc; omega
  have hm := ml_all (jc_lt c) (jc_lt d)
  unfold mlJ at hm
  rw [hj] at hm
  obtain ⟨k1, k2, u, k3, k4, v, un, vn, uw, vw, ga, gb, hM⟩ := ml_of hm
  refine ⟨_, _, _, _, _, _, _, _, _, an, tu, t5, wh, g3, p, pv, g1, un, vn, ⟨hc.1, hd.1, he.1, phasor_any (by omega) (by omega), phasor_any (by omega) (by omega), phasor_any (by omega) (by omega), angle_any (jc_lt c), wc.2.2, ht,
    power_any wc.1 wc.2.1 hp, hp.f_w, hp.f_g, hp.f_l, mulc_any wc.1 wc.2.1 wd.1 wd.2.1 hM, near_any we.1 we.2.1 hM, wc.1, fun hz => ?_⟩⟩
  obtain ⟨q, hq⟩ := Int.dvd_of_tmod_eq_zero hz
  have hjc : jc c = 0 ∨ jc c = 16 ∨ jc c = 32 ∨ jc c = 48 := by unfold jc; omega
  rcases hjc with h | h | h | h
  · exact .inl (quarter_one _ (.inl h))
  · exact .inr (quarter_zero _ (.inl h))
  · exact .inl (quarter_one _ (.inr h))
  · exact .inr (quarter_zero _ (.inr h))

theorem at16 (w : World) : Calls Try.prog 39 #[.complex .f32 0 1065353216] w fun r w' => r = .returned (.float .f32 1048576000) ∧ Dr w w' := by
  have := angle_any (j := 16) (by decide) w
  exact this

set_option maxHeartbeats 16000000 in
set_option maxRecDepth 100000 in
theorem circles_walk (a0 : Option Addr) (len0 cap0 : Nat) (z0 : List Int) (a1 : Option Addr) (len1 cap1 : Nat) (z1 : List Int) (w : World) (w0 : IsRow .u8 w a0 len0 cap0 z0) (w1 : IsRow .u8 w a1 len1 cap1 z1) :
    Calls Try.prog 13 #[.slice a0 len0 cap0, .slice a1 len1 cap1] w fun e w' => e = .returned (.bool true) ∧ Below w.heap.size w w' := by
  have m0 : len0 ≤ 9223372036854775807 := by rcases w0 with ⟨_, h, _, _⟩ | ⟨_, _, h1, h2, _⟩ <;> (try simp only [maxLen] at *) <;> omega
  have m1 : len1 ≤ 9223372036854775807 := by rcases w1 with ⟨_, h, _, _⟩ | ⟨_, _, h1, h2, _⟩ <;> (try simp only [maxLen] at *) <;> omega
  by_cases hlong : 1048576 < len0 ∨ 1048576 < len1
  · have hb : (decide (1048576 < len0) || decide (1048576 < len1)) = true := by simpa using hlong
    have HB := Lib.hid hb
    clear hb w0 w1
    go_enter Try.func13, Try.ntmps13
    go_wp2_with (go_at_call 36; refine (b10Long_any _ _ _ _ _ _ _ m0 m1).mono ?_; rintro e w' ⟨rfl, rfl⟩; rw [HB.out])
    go_ret
    exact ⟨rfl, .refl _ _⟩
  have h0 : len0 ≤ 1048576 := by omega
  have h1 : len1 ≤ 1048576 := by omega
  have hb : (decide (1048576 < len0) || decide (1048576 < len1)) = false := by simp; omega
  have HB := Lib.hid hb
  have W0 := Lib.hid w0; have W1 := Lib.hid w1
  clear hb w0 w1 hlong
  go_enter Try.func13, Try.ntmps13
  go_wp2_with fail
  go_at_call 36
  refine (b10Long_any _ _ _ _ _ _ _ m0 m1).mono ?_
  rintro e w' ⟨rfl, rfl⟩
  rw [HB.out]
  go_wp2_with fail
  go_at_call 37
  refine (b10At_any a0 len0 cap0 z0 0 256 _ W0.out h0 (.inl rfl) (by omega) (by omega)).mono ?_
  rintro e w' ⟨i, hi, rfl, rfl⟩
  obtain ⟨c, hcc⟩ : ∃ c : Int, (i : Int) - 128 = c := ⟨_, rfl⟩
  have c1 : -128 ≤ c := by omega
  have c2 : c < 128 := by omega
  go_wp2_with fail
  go_at_call 37
  refine (b10At_any a0 len0 cap0 z0 1 256 _ W0.out h0 (.inr rfl) (by omega) (by omega)).mono ?_
  rintro e w' ⟨j, hj, rfl, rfl⟩
  obtain ⟨d, hdd⟩ : ∃ d : Int, (j : Int) - 128 = d := ⟨_, rfl⟩
  have d1 : -128 ≤ d := by omega
  have d2 : d < 128 := by omega
  obtain ⟨x1, y1, x2, y2, x3, y3, X1, an, AWd, tn0, tu, t5, wh, g3, p, pv, g1, un, vn, C⟩ := cs_of c1 c2 d1 d2
  obtain ⟨ed, hed⟩ : ∃ e : Int, c + d = e := ⟨_, rfl⟩
  rw [hed] at C
  obtain ⟨qc1, qc2⟩ := opf C.qc
  obtain ⟨qd1, qd2⟩ := opf C.qd
  obtain ⟨qe1, qe2⟩ := opf C.qe
  obtain ⟨ca1, ca2⟩ := cvo_ok C.ca
  obtain ⟨cp1, cp2⟩ := cvo_ok C.cp
  obtain ⟨cx1, cx2⟩ := cvo_ok C.cx
  obtain ⟨ta1, ta2⟩ := opf C.tr.f_a
  obtain ⟨tt1, tt2⟩ := opf C.tr.f_t
  obtain ⟨t51, t52⟩ := opf C.tr.f_5
  have tconv := fun w => conv_of C.tr.f_w w
  have wh0 := C.tr.f_0
  have wh1 := C.tr.f_1
  have whr : (wh - 10000).tmod 64 = 0 := C.tr.f_r
  have lp := C.lp
  have l3 := C.tr.f_l
  have HC := Lib.hid C
  clear C
  obtain ⟨qC, hqC⟩ : ∃ q, Cq c = q := ⟨_, rfl⟩
  obtain ⟨qD, hqD⟩ : ∃ q, Cq d = q := ⟨_, rfl⟩
  obtain ⟨qE, hqE⟩ : ∃ q, Cq ed = q := ⟨_, rfl⟩
  have HPC := Lib.hid HC.out.pc; have HPD := Lib.hid HC.out.pd; have HPE := Lib.hid HC.out.pe
  rw [hqC] at qc1 HPC
  rw [hqD] at qd1 HPD
  rw [hqE] at qe1 HPE
  clear hqC hqD hqE
  go_wp2_with fail
  go_at_call 34
  refine (HPC.out _).mono ?_
  rintro e w1 ⟨rfl, hd⟩
  have D1 := Lib.hid hd; clear hd
  go_wp2_with fail
  go_at_call 34
  refine (HPD.out _).mono ?_
  rintro e w2 ⟨rfl, hd⟩
  have D2 := Lib.hid (D1.out.trans hd); clear hd
  go_wp2_with fail
  go_at_call 34
  refine (HPE.out _).mono ?_
  rintro e w3 ⟨rfl, hd⟩
  have D3 := Lib.hid (D2.out.trans hd); clear hd
  go_wp2_with fail
  go_at_call 39
  refine (HC.out.ag _).mono ?_
  rintro e w4 ⟨rfl, hd⟩
  have D4 := Lib.hid (D3.out.trans hd); clear hd
  go_wp2_with fail
  go_at_call 40
  refine (HC.out.po _).mono ?_
  rintro e w' ⟨rfl, rfl⟩
  go_wp2_with fail
  go_at_call 38
  refine (b10Gap_any _ _ _ HC.out.gp _).mono ?_
  rintro e w' ⟨rfl, rfl⟩
  go_wp2_with fail
  go_at_call 42
  refine (HC.out.mu _).mono ?_
  rintro e w' ⟨rfl, rfl⟩
  go_wp2_with fail
  go_at_call 41
  refine (HC.out.ne _).mono ?_
  rintro e w' ⟨rfl, rfl⟩
  go_wp2_with fail
  go_at_call 38
  refine (b10Gap_any _ _ _ HC.out.tr.f_g _).mono ?_
  rintro e w' ⟨rfl, rfl⟩
  have e10 : (FloatKind.f64.format.order 4607182418800017408 0 != some .eq) = true := by decide +kernel
  have e11 : (FloatKind.f64.format.order 4607182418800017408 4607182418800017408 != some .eq) = false := by decide +kernel
  have e00 : (FloatKind.f64.format.order 0 0 != some .eq) = false := by decide +kernel
  have hrest : c.tmod 16 = 0 ∨ (c.tmod 16 == 0) = false := by
    by_cases h : c.tmod 16 = 0
    · exact .inl h
    · exact .inr (by simpa using h)
  have W1d := Lib.hid (IsRow.dr D4.out W1.out)
  have hx0 := fun (v : Nat) (hv : v < 200) => x_eighth (v + 1) (by omega) (by omega)
  have HX0 := Lib.hid hx0
  clear hx0
  rcases hrest with hz | hz
  · rcases HC.out.qz hz with hgz | hgz
    · have HG := Lib.hid hgz
      clear hgz
      go_wp2_with fail
      go_at_call 38
      refine (b10Gap_any _ _ _ HG.out _).mono ?_
      rintro e w' ⟨rfl, rfl⟩
      go_wp2_with fail
      go_at_call 38
      refine (b10Gap_any _ _ _ HG.out _).mono ?_
      rintro e w' ⟨rfl, rfl⟩
      go_wp2_with fail
      go_at_call 37
      refine (b10At_any a1 len1 cap1 z1 0 200 _ W1d.out h1 (.inl rfl) (by omega) (by omega)).mono ?_
      rintro e w' ⟨v, hv, rfl, rfl⟩
      have hxv := HX0.out v hv
      obtain ⟨xi, hxi⟩ : ∃ i : Nat, v + 1 = i := ⟨_, rfl⟩
      have hvi : (1 : Int) + (v : Int) = (xi : Int) := by omega
      rw [hxi] at hxv
      obtain ⟨xa, hxa⟩ : ∃ x, s32 (xi * 8) = x := ⟨_, rfl⟩
      rw [hxa] at hxv
      obtain ⟨xq1, xq2⟩ := opf32 hxv
      have xq1' : ∀ w, fres .quo .f32 w (floatOfInt .f32 (xi : Int)) 1090519040 = xa := xq1
      have xq2' : fcnt .quo .f32 (floatOfInt .f32 (xi : Int)) 1090519040 = 0 := xq2
      have HXA := Lib.hid hxa; have HXI := Lib.hid hxi
      clear xq1 xq2 hxv hxa hxi
      go_wp2_with fail
      go_at_call 37
      refine (b10At_any a1 len1 cap1 z1 1 200 _ W1d.out h1 (.inr rfl) (by omega) (by omega)).mono ?_
      rintro e w' ⟨v2, hv2, rfl, rfl⟩
      have hyv := HX0.out v2 hv2
      obtain ⟨yi, hyi⟩ : ∃ i : Nat, v2 + 1 = i := ⟨_, rfl⟩
      have hvi2 : (1 : Int) + (v2 : Int) = (yi : Int) := by omega
      rw [hyi] at hyv
      obtain ⟨ya, hya⟩ : ∃ x, s32 (yi * 8) = x := ⟨_, rfl⟩
      rw [hya] at hyv
      obtain ⟨yq1, yq2⟩ := opf32 hyv
      have yq1' : ∀ w, fres .quo .f32 w (floatOfInt .f32 (yi : Int)) 1090519040 = ya := yq1
      have yq2' : fcnt .quo .f32 (floatOfInt .f32 (yi : Int)) 1090519040 = 0 := yq2
      obtain ⟨tm, tn, to, T⟩ := ts_of (i := xi) (j := yi) (by have := HXI.out; omega) (by have := HXI.out; omega) (by omega) (by omega)
      rw [HXA.out, hya] at T
      obtain ⟨xy, hxy⟩ : ∃ x, s32 (xi * yi) = x := ⟨_, rfl⟩
      rw [hxy] at T
      obtain ⟨mq1, mq2⟩ := opf32 T.f_xy
      have t1 := T.m0; have t2 := T.m1; have t3 := T.n0; have t4 := T.n1; have t6 := T.o0; have t7 := T.o1; have t8 := T.le1; have t9 := T.le2
      have HT := Lib.hid T
      clear yq1 yq2 hyv hya hxy T
      go_wp2_with fail
      go_at_call 30
      refine (HT.out.a _).mono ?_
      rintro e w' ⟨rfl, rfl⟩
      go_wp2_with fail
      go_at_call 30
      refine (HT.out.b _).mono ?_
      rintro e w' ⟨rfl, rfl⟩
      go_wp2_with fail
      go_at_call 30
      refine (HT.out.c _).mono ?_
      rintro e w' ⟨rfl, rfl⟩
      go_wp2_with fail
      go_at_call 30
      refine (one_calls _).mono ?_
      rintro e w' ⟨rfl, rfl⟩
      go_wp2_with fail
      go_at_call 39
      refine (at16 _).mono ?_
      rintro e w5 ⟨rfl, hd⟩
      have D5 := Lib.hid (D4.out.trans hd); clear hd
      go_wp2_with fail
      go_at_call 43
      refine (same_any _).mono ?_
      rintro e w' ⟨rfl, rfl⟩
      go_wp2
      go_ret
      exact ⟨rfl, D5.out.below⟩
    · have HG := Lib.hid hgz
      clear hgz
      go_wp2_with fail
      go_at_call 38
      refine (b10Gap_any _ _ _ HG.out _).mono ?_
      rintro e w' ⟨rfl, rfl⟩
      go_wp2_with fail
      go_at_call 37
      refine (b10At_any a1 len1 cap1 z1 0 200 _ W1d.out h1 (.inl rfl) (by omega) (by omega)).mono ?_
      rintro e w' ⟨v, hv, rfl, rfl⟩
      have hxv := HX0.out v hv
      obtain ⟨xi, hxi⟩ : ∃ i : Nat, v + 1 = i := ⟨_, rfl⟩
      have hvi : (1 : Int) + (v : Int) = (xi : Int) := by omega
      rw [hxi] at hxv
      obtain ⟨xa, hxa⟩ : ∃ x, s32 (xi * 8) = x := ⟨_, rfl⟩
      rw [hxa] at hxv
      obtain ⟨xq1, xq2⟩ := opf32 hxv
      have xq1' : ∀ w, fres .quo .f32 w (floatOfInt .f32 (xi : Int)) 1090519040 = xa := xq1
      have xq2' : fcnt .quo .f32 (floatOfInt .f32 (xi : Int)) 1090519040 = 0 := xq2
      have HXA := Lib.hid hxa; have HXI := Lib.hid hxi
      clear xq1 xq2 hxv hxa hxi
      go_wp2_with fail
      go_at_call 37
      refine (b10At_any a1 len1 cap1 z1 1 200 _ W1d.out h1 (.inr rfl) (by omega) (by omega)).mono ?_
      rintro e w' ⟨v2, hv2, rfl, rfl⟩
      have hyv := HX0.out v2 hv2
      obtain ⟨yi, hyi⟩ : ∃ i : Nat, v2 + 1 = i := ⟨_, rfl⟩
      have hvi2 : (1 : Int) + (v2 : Int) = (yi : Int) := by omega
      rw [hyi] at hyv
      obtain ⟨ya, hya⟩ : ∃ x, s32 (yi * 8) = x := ⟨_, rfl⟩
      rw [hya] at hyv
      obtain ⟨yq1, yq2⟩ := opf32 hyv
      have yq1' : ∀ w, fres .quo .f32 w (floatOfInt .f32 (yi : Int)) 1090519040 = ya := yq1
      have yq2' : fcnt .quo .f32 (floatOfInt .f32 (yi : Int)) 1090519040 = 0 := yq2
      obtain ⟨tm, tn, to, T⟩ := ts_of (i := xi) (j := yi) (by have := HXI.out; omega) (by have := HXI.out; omega) (by omega) (by omega)
      rw [HXA.out, hya] at T
      obtain ⟨xy, hxy⟩ : ∃ x, s32 (xi * yi) = x := ⟨_, rfl⟩
      rw [hxy] at T
      obtain ⟨mq1, mq2⟩ := opf32 T.f_xy
      have t1 := T.m0; have t2 := T.m1; have t3 := T.n0; have t4 := T.n1; have t6 := T.o0; have t7 := T.o1; have t8 := T.le1; have t9 := T.le2
      have HT := Lib.hid T
      clear yq1 yq2 hyv hya hxy T
      go_wp2_with fail
      go_at_call 30
      refine (HT.out.a _).mono ?_
      rintro e w' ⟨rfl, rfl⟩
      go_wp2_with fail
      go_at_call 30
      refine (HT.out.b _).mono ?_
      rintro e w' ⟨rfl, rfl⟩
      go_wp2_with fail
      go_at_call 30
      refine (HT.out.c _).mono ?_
      rintro e w' ⟨rfl, rfl⟩
      go_wp2_with fail
      go_at_call 30
      refine (one_calls _).mono ?_
      rintro e w' ⟨rfl, rfl⟩
      go_wp2_with fail
      go_at_call 39
      refine (at16 _).mono ?_
      rintro e w5 ⟨rfl, hd⟩
      have D5 := Lib.hid (D4.out.trans hd); clear hd
      go_wp2_with fail
      go_at_call 43
      refine (same_any _).mono ?_
      rintro e w' ⟨rfl, rfl⟩
      go_wp2
      go_ret
      exact ⟨rfl, D5.out.below⟩
  · go_wp2_with fail
    go_at_call 37
    refine (b10At_any a1 len1 cap1 z1 0 200 _ W1d.out h1 (.inl rfl) (by omega) (by omega)).mono ?_
    rintro e w' ⟨v, hv, rfl, rfl⟩
    have hxv := HX0.out v hv
    obtain ⟨xi, hxi⟩ : ∃ i : Nat, v + 1 = i := ⟨_, rfl⟩
    have hvi : (1 : Int) + (v : Int) = (xi : Int) := by omega
    rw [hxi] at hxv
    obtain ⟨xa, hxa⟩ : ∃ x, s32 (xi * 8) = x := ⟨_, rfl⟩
    rw [hxa] at hxv
    obtain ⟨xq1, xq2⟩ := opf32 hxv
    have xq1' : ∀ w, fres .quo .f32 w (floatOfInt .f32 (xi : Int)) 1090519040 = xa := xq1
    have xq2' : fcnt .quo .f32 (floatOfInt .f32 (xi : Int)) 1090519040 = 0 := xq2
    have HXA := Lib.hid hxa; have HXI := Lib.hid hxi
    clear xq1 xq2 hxv hxa hxi
    go_wp2_with fail
    go_at_call 37
    refine (b10At_any a1 len1 cap1 z1 1 200 _ W1d.out h1 (.inr rfl) (by omega) (by omega)).mono ?_
    rintro e w' ⟨v2, hv2, rfl, rfl⟩
    have hyv := HX0.out v2 hv2
    obtain ⟨yi, hyi⟩ : ∃ i : Nat, v2 + 1 = i := ⟨_, rfl⟩
    have hvi2 : (1 : Int) + (v2 : Int) = (yi : Int) := by omega
    rw [hyi] at hyv
    obtain ⟨ya, hya⟩ : ∃ x, s32 (yi * 8) = x := ⟨_, rfl⟩
    rw [hya] at hyv
    obtain ⟨yq1, yq2⟩ := opf32 hyv
    have yq1' : ∀ w, fres .quo .f32 w (floatOfInt .f32 (yi : Int)) 1090519040 = ya := yq1
    have yq2' : fcnt .quo .f32 (floatOfInt .f32 (yi : Int)) 1090519040 = 0 := yq2
    obtain ⟨tm, tn, to, T⟩ := ts_of (i := xi) (j := yi) (by have := HXI.out; omega) (by have := HXI.out; omega) (by omega) (by omega)
    rw [HXA.out, hya] at T
    obtain ⟨xy, hxy⟩ : ∃ x, s32 (xi * yi) = x := ⟨_, rfl⟩
    rw [hxy] at T
    obtain ⟨mq1, mq2⟩ := opf32 T.f_xy
    have t1 := T.m0; have t2 := T.m1; have t3 := T.n0; have t4 := T.n1; have t6 := T.o0; have t7 := T.o1; have t8 := T.le1; have t9 := T.le2
    have HT := Lib.hid T
    clear yq1 yq2 hyv hya hxy T
    go_wp2_with fail
    go_at_call 30
    refine (HT.out.a _).mono ?_
    rintro e w' ⟨rfl, rfl⟩
    go_wp2_with fail
    go_at_call 30
    refine (HT.out.b _).mono ?_
    rintro e w' ⟨rfl, rfl⟩
    go_wp2_with fail
    go_at_call 30
    refine (HT.out.c _).mono ?_
    rintro e w' ⟨rfl, rfl⟩
    go_wp2_with fail
    go_at_call 30
    refine (one_calls _).mono ?_
    rintro e w' ⟨rfl, rfl⟩
    go_wp2_with fail
    go_at_call 39
    refine (at16 _).mono ?_
    rintro e w5 ⟨rfl, hd⟩
    have D5 := Lib.hid (D4.out.trans hd); clear hd
    go_wp2_with fail
    go_at_call 43
    refine (same_any _).mono ?_
    rintro e w' ⟨rfl, rfl⟩
    go_wp2
    go_ret
    exact ⟨rfl, D5.out.below⟩

end Go.Proofs.Ytbphigmpcjodkaa
