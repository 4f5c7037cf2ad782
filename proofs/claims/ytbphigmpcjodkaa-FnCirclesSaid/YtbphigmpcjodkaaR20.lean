/-
  Walks: the law FnPowers. Conditions: none.
-/
import Derived.Test.YtbphigmpcjodkaaPw
import Derived.Test.YtbphigmpcjodkaaR9
set_option linter.unusedVariables false
set_option linter.unusedSimpArgs false
namespace Go.Proofs.Ytbphigmpcjodkaa
open Go Go.RowKit Flo Val Fb

attribute [local go_sem] run_store_float run_fadd run_fsub run_fmul run_fquo run_fconv World.drewN_zero run_f64from run_f64bits unary_negF

/-- A slice of integers that came in: nil, or a row of 'cap' cells, the numbers 'zs'; the first 'len' are its elements. -/
def IsRow (k : IntKind) (w : World) (a : Option Addr) (len cap : Nat) (zs : List Int) : Prop :=
  (a = none ∧ len = 0 ∧ cap = 0 ∧ zs = []) ∨
  ∃ x, a = some x ∧ len ≤ cap ∧ cap ≤ maxLen ∧ zs.length = cap ∧ (∀ i, i < zs.length → w.cell? (x.add i) = some (.int k (zs.getD i 0))) ∧ ∀ n ∈ zs, (Lit.int k n).wf = true


def iOf : Value → Int
  | .int _ x => x
  | _ => 0

theorem b10Long_any (a b : Option Addr) (n m c d : Nat) (w : World) (hn : n ≤ 9223372036854775807) (hm : m ≤ 9223372036854775807) : Calls Try.prog 36 #[.slice a n c, .slice b m d] w fun e w' => e = .returned (.bool (decide (1048576 < n) || decide (1048576 < m))) ∧ w = w' := by
  by_cases h1 : 1048576 < n
  · have e : (decide (1048576 < n) || decide (1048576 < m)) = true := by simp [h1]
    rw [e]
    go_enter Try.func36, Try.ntmps36
    go_wp2
    go_ret
    exact ⟨rfl, rfl⟩
  · by_cases h2 : 1048576 < m
    · have e : (decide (1048576 < n) || decide (1048576 < m)) = true := by simp [h2]
      rw [e]
      go_enter Try.func36, Try.ntmps36
      go_wp2
      go_ret
      exact ⟨ret_bool (by simp; omega), rfl⟩
    · have e : (decide (1048576 < n) || decide (1048576 < m)) = false := by simp [h1, h2]
      rw [e]
      go_enter Try.func36, Try.ntmps36
      go_wp2
      go_ret
      exact ⟨ret_bool (by simp; omega), rfl⟩

set_option maxRecDepth 100000 in
theorem b10At_any (a : Option Addr) (len cap : Nat) (zs : List Int) (i n : Nat) (w : World) (hr : IsRow .u8 w a len cap zs) (hl : len ≤ 1048576) (hi : i = 0 ∨ i = 1) (hn : 2 ≤ n) (hn2 : n ≤ 256) :
    Calls Try.prog 37 #[.slice a len cap, .int .i64 (i : Int), .int .i64 (n : Int)] w fun e w' => ∃ v : Nat, v < n ∧ e = .returned (.int .i64 (v : Int)) ∧ w = w' := by
  have nz : ((n : Int) == 0) = false := by simp; omega
  by_cases h : i < len
  · obtain ⟨bl, off, b, rfl, c1, hb⟩ : ∃ (bl off b : Nat), a = some ⟨bl, off, none⟩ ∧ w.cell? ⟨bl, off + i, none⟩ = some (.int .u8 (b : Int)) ∧ b ≤ 255 := by
      rcases hr with ⟨_, h, _, _⟩ | ⟨x, rfl, h1, h2, h3, h4, h5⟩
      · omega
      · obtain ⟨bl, off, spot⟩ := x
        have hspot : spot = none := by simpa [Addr.add] using World.cell?_spot (h4 0 (by omega))
        subst hspot
        have c1 := h4 i (by omega)
        rw [addr_add] at c1
        have hw := h5 (zs.getD i 0) (by
          rw [List.getD_eq_getElem?_getD, List.getElem?_eq_getElem (by omega)]; exact List.getElem_mem _)
        have hb : 0 ≤ zs.getD i 0 ∧ zs.getD i 0 ≤ 255 := by simpa [Lit.wf, IntKind.min, IntKind.max, IntKind.signed, IntKind.bits] using hw
        obtain ⟨b, hbb⟩ : ∃ b : Nat, zs.getD i 0 = (b : Int) := ⟨(zs.getD i 0).toNat, by omega⟩
        rw [hbb] at c1 hb
        exact ⟨bl, off, b, rfl, c1, by omega⟩
    clear hr
    have hm : (b : Int) % (n : Int) = ((b % n : Nat) : Int) := (Int.natCast_emod b n).symm
    have ht : Int.tmod (b : Int) (n : Int) = ((b % n : Nat) : Int) := by rw [Int.tmod_eq_emod_of_nonneg (by omega)]; exact hm
    have hv : b % n < n := Nat.mod_lt _ (by omega)
    have HM := Lib.hid hm; have HT := Lib.hid ht
    clear hm ht
    rcases hi with rfl | rfl
    · rw [Nat.add_zero] at c1
      go_enter Try.func37, Try.ntmps37
      go_wp2
      go_ret
      exact ⟨b % n, hv, by first | rfl | exact ret_int HM.out | exact ret_int HT.out, rfl⟩
    · go_enter Try.func37, Try.ntmps37
      go_wp2
      go_ret
      exact ⟨b % n, hv, by first | rfl | exact ret_int HM.out | exact ret_int HT.out, rfl⟩
  · clear hr
    rcases hi with rfl | rfl
    · have hm : (11 : Int) % (n : Int) = ((11 % n : Nat) : Int) := (Int.natCast_emod 11 n).symm
      have ht : Int.tmod (11 : Int) (n : Int) = ((11 % n : Nat) : Int) := by rw [Int.tmod_eq_emod_of_nonneg (by omega)]; exact hm
      have hv : 11 % n < n := Nat.mod_lt _ (by omega)
      have HM := Lib.hid hm; have HT := Lib.hid ht
      clear hm ht
      go_enter Try.func37, Try.ntmps37
      go_wp2
      go_ret
      exact ⟨11 % n, hv, by first | rfl | exact ret_int HM.out | exact ret_int HT.out, rfl⟩
    · have hm : (48 : Int) % (n : Int) = ((48 % n : Nat) : Int) := (Int.natCast_emod 48 n).symm
      have ht : Int.tmod (48 : Int) (n : Int) = ((48 % n : Nat) : Int) := by rw [Int.tmod_eq_emod_of_nonneg (by omega)]; exact hm
      have hv : 48 % n < n := Nat.mod_lt _ (by omega)
      have HM := Lib.hid hm; have HT := Lib.hid ht
      clear hm ht
      go_enter Try.func37, Try.ntmps37
      go_wp2
      go_ret
      exact ⟨48 % n, hv, by first | rfl | exact ret_int HM.out | exact ret_int HT.out, rfl⟩

theorem b10Gap_any (a b v : Nat) (h : gapo a b = some v) (w : World) : Calls Try.prog 38 #[.float .f64 a, .float .f64 b] w fun e w' => e = .returned (.float .f64 v) ∧ w = w' := by
  unfold gapo at h
  cases hl : (FloatKind.f64.format.order a b == some .lt)
  · rw [hl, if_neg (by decide)] at h
    obtain ⟨s1, s2⟩ := opf h
    clear h
    go_enter Try.func38, Try.ntmps38
    go_wp2
    go_ret
    exact ⟨rfl, rfl⟩
  · rw [hl, if_pos rfl] at h
    obtain ⟨s1, s2⟩ := opf h
    clear h
    go_enter Try.func38, Try.ntmps38
    go_wp2
    go_ret
    exact ⟨rfl, rfl⟩

/-- The counter as a measure. -/
theorem kx_lt : ∀ j, j < 12 → kOf (.float .f64 (Kx (j + 1))) < kOf (.float .f64 (Kx j)) := by
  have : ∀ j, j < 12 → Kx (j + 1) < Kx j := by decide +kernel
  exact this

set_option maxHeartbeats 4000000 in
set_option maxRecDepth 100000 in
theorem exp_any (x v : Nat) (h : expo x = some v) (w : World) : Calls Try.prog 22 #[.float .f32 x] w fun e w' => e = .returned (.float .f32 v) ∧ w = w' := by
  unfold expo at h
  split at h
  · cases h
  rename_i hno
  have g1 : (FloatKind.f32.format.order x 1128792064 == some .gt) = false := by
    have : (FloatKind.f32.format.order x W200 == some .gt) = false := by revert hno; cases (FloatKind.f32.format.order x W200 == some .gt) <;> simp
    exact this
  have g2 : (FloatKind.f32.format.order x 3276275712 == some .lt) = false := by
    have : (FloatKind.f32.format.order x Wm200 == some .lt) = false := by revert hno; cases (FloatKind.f32.format.order x Wm200 == some .lt) <;> simp
    exact this
  obtain ⟨y, hy, h⟩ := Option.bind_eq_some_iff.1 h
  obtain ⟨tt, ht, h⟩ := Option.bind_eq_some_iff.1 h
  obtain ⟨p, hp, h⟩ := Option.bind_eq_some_iff.1 h
  obtain ⟨q, hq, h⟩ := Option.bind_eq_some_iff.1 h
  obtain ⟨y1, y2⟩ := cvo_ok hy
  obtain ⟨t1, t2⟩ := opf ht
  have t1' : ∀ w, fres .quo .f64 w y 4643211215818981376 = tt := t1
  have t2' : fcnt .quo .f64 y 4643211215818981376 = 0 := t2
  obtain ⟨v1, v2⟩ := cvo_ok h
  have HP := Lib.hid hp; have HQ := Lib.hid hq
  have K0 : Kx 0 = 4622945017495814144 := by decide +kernel
  have HK0 := Lib.hid K0
  clear hno hy ht h t1 t2 hp hq K0
  go_enter Try.func22, Try.ntmps22
  go_wp2
  go_loop [4, 5] (fun pv k => ∃ j a : Nat, j ≤ 12 ∧ xpo tt j = some a ∧ pv = .float .f64 a ∧ k = .float .f64 (Kx j)) (fun _ k => kOf k)
  case atStart => exact ⟨0, W1, by omega, rfl, rfl, by rw [HK0.out]⟩
  case round =>
    obtain ⟨j, a, hj, hxa, rfl, rfl⟩ := hrel
    have hkt := kx_test j (by omega)
    by_cases hlt : j < 12
    · rw [decide_eq_true hlt] at hkt
      obtain ⟨m, d, z, h1, h2, h3, h4⟩ := xpo_next HP.out hlt hxa
      obtain ⟨m1, m2⟩ := opf h1
      obtain ⟨d1, d2⟩ := opf h2
      obtain ⟨z1, z2⟩ := opf h3
      obtain ⟨k1, k2⟩ := opf (kx_step j hlt)
      have HX := Lib.hid h4
      have HLT := Lib.hid (kx_lt j hlt)
      clear h1 h2 h3 h4 hxa
      obtain ⟨kn, hkn⟩ : ∃ z, Kx (j + 1) = z := ⟨_, rfl⟩
      rw [hkn] at k1 HLT
      have HKN := Lib.hid hkn
      clear hkn
      generalize Kx j = kj at *
      go_wp2
      go_round
      case rel => exact ⟨j + 1, z, by omega, HX.out, rfl, by rw [HKN.out]⟩
      case measure => exact HLT.out
    · obtain rfl : j = 12 := by omega
      rw [decide_eq_false (by omega)] at hkt
      have hap : a = p := by have := HP.out; rw [hxa] at this; cases this; rfl
      subst hap
      clear hxa
      go_wp2
      go_loop [4, 27] (fun pv i => ∃ j b : Nat, j ≤ 8 ∧ xqo a j = some b ∧ pv = .float .f64 b ∧ i = .int .i64 (j : Int)) (fun _ i => 8 - (iOf i).toNat)
      case atStart => exact ⟨0, a, by omega, rfl, rfl, rfl⟩
      case round =>
        obtain ⟨i, b, hi, hxb, rfl, rfl⟩ := hrel
        by_cases hl8 : i < 8
        · obtain ⟨z, h1, h2⟩ := xqo_next HQ.out hl8 hxb
          obtain ⟨z1, z2⟩ := opf h1
          have HX := Lib.hid h2
          clear h1 h2 hxb
          go_wp2
          go_round
          case rel => exact ⟨i + 1, z, by omega, HX.out, rfl, by go_num⟩
          case measure => simp [iOf]; omega
        · obtain rfl : i = 8 := by omega
          have hbq : b = q := by have := HQ.out; rw [hxb] at this; cases this; rfl
          subst hbq
          clear hxb
          go_wp2
          go_ret
          exact ⟨rfl, rfl⟩

set_option maxHeartbeats 2000000 in
theorem logn_any (x v : Nat) (h : logo x = some v) (w : World) : Calls Try.prog 28 #[.float .f32 x] w fun e w' => e = .returned (.float .f32 v) ∧ w = w' := by
  unfold logo at h
  obtain ⟨y, hy, h⟩ := Option.bind_eq_some_iff.1 h
  split at h
  · rename_i hb
    simp only [Bool.and_eq_true, beq_iff_eq] at hb
    obtain ⟨⟨⟨hwd, hgt⟩, hxx⟩, hs⟩ := hb
    have hwd' : Wd32 y := by unfold wdB at hwd; simp only [Bool.and_eq_true, decide_eq_true_eq] at hwd; exact hwd
    obtain ⟨y1, y2⟩ := cvo_ok hy
    obtain ⟨v1, v2⟩ := cvo_ok h
    have b1 : (FloatKind.f32.format.order x 0 == some .eq) = false := by rw [hgt]; rfl
    have b2 : (FloatKind.f32.format.order x 0 == some .lt) = false := by rw [hgt]; rfl
    have b3 : (FloatKind.f32.format.order x x != some .eq) = false := by rw [hxx]; rfl
    obtain ⟨s1, s2⟩ := opf32 hs
    have hf3 : (FloatKind.f32.format.order 0 0 == some .eq) = true := by decide +kernel
    clear hy h hwd hgt hxx hs
    go_enter Try.func28, Try.ntmps28
    go_wp2_with (first
      | (go_at_call 50; go_in)
      | (go_at_call 57; refine (naturalLog_any y hwd' _).mono ?_; rintro e w' ⟨rfl, rfl⟩))
    go_ret
    exact ⟨rfl, rfl⟩
  · cases h

theorem x_of {i : Nat} (hi : i < 65) : ∃ xi, floatBits .quo .f32 (floatOfInt .f32 ((i : Int) - 32)) W8f = some xi := by
  have oi := all_of one0 hi
  unfold oneB at oi
  simp only [Bool.and_eq_true, beq_iff_eq] at oi
  obtain ⟨⟨⟨⟨⟨a1, a2⟩, a3⟩, a4⟩, a5⟩, a6⟩ := oi
  exact ⟨_, a1⟩

/-- All words of one pair. -/
structure Pr (i j : Nat) (xi yj xy a b c l wa wb wc wl wx g1 m g2 r : Nat) : Prop where
  x : floatBits .quo .f32 (floatOfInt .f32 ((i : Int) - 32)) W8f = some xi
  y : floatBits .quo .f32 (floatOfInt .f32 ((j : Int) - 32)) W8f = some yj
  s : floatBits .add .f32 xi yj = some xy
  ea : expo xi = some a
  eb : expo yj = some b
  ec : expo xy = some c
  lo : logo a = some l
  ca : cvo .f32 .f64 a = some wa
  cb : cvo .f32 .f64 b = some wb
  cc : cvo .f32 .f64 c = some wc
  cl : cvo .f32 .f64 l = some wl
  cx : cvo .f32 .f64 xi = some wx
  g : gapo wl wx = some g1
  glt : (FloatKind.f64.format.order g1 4562254508917369340 == some .lt) = true
  mm : floatBits .mul .f64 wa wb = some m
  gg : gapo m wc = some g2
  rr : floatBits .mul .f64 4562254508917369340 wc = some r
  ggt : (FloatKind.f64.format.order g2 r == some .lt) = true
  pos : (FloatKind.f32.format.order a 0 == some .gt) = true

theorem pr_of {i j : Nat} (hi : i < 65) (hj : j < 65) : ∃ xi yj xy a b c l wa wb wc wl wx g1 m g2 r, Pr i j xi yj xy a b c l wa wb wc wl wx g1 m g2 r := by
  have ti := all_of tab0 (i := i + 32) (by omega)
  have tj := all_of tab0 (i := j + 32) (by omega)
  have tij := all_of tab0 (i := i + j) (by omega)
  have oi := all_of one0 hi
  have oj := all_of one0 hj
  have tw := two_all hi hj
  unfold tabB at ti tj tij
  unfold oneB at oi oj
  unfold twoB at tw
  simp only [Bool.and_eq_true, beq_iff_eq] at ti tj tij oi oj tw
  obtain ⟨⟨i1, i2⟩, i3⟩ := ti
  obtain ⟨⟨j1, j2⟩, j3⟩ := tj
  obtain ⟨⟨k1, k2⟩, k3⟩ := tij
  obtain ⟨⟨⟨⟨⟨a1, a2⟩, a3⟩, a4⟩, a5⟩, a6⟩ := oi
  obtain ⟨⟨⟨⟨⟨b1, b2⟩, b3⟩, b4⟩, b5⟩, b6⟩ := oj
  obtain ⟨s1, s2⟩ := tw
  obtain ⟨g1, g1a, g1b⟩ := Option.map_eq_some_iff.1 a6
  obtain ⟨m, m1, m2⟩ := Option.bind_eq_some_iff.1 s2
  obtain ⟨g2, g2a, g2b⟩ := Option.map_eq_some_iff.1 m2
  exact ⟨_, _, _, _, _, _, _, _, _, _, _, _, g1, m, g2, _, ⟨a1, b1, s1, i1, j1, k1, a2, i2, j2, k2, a3, a4, g1a, g1b, m1, g2a, k3, g2b, by rw [a5]; rfl⟩⟩

set_option maxHeartbeats 4000000 in
set_option maxRecDepth 100000 in
theorem powers_walk (a0 : Option Addr) (len0 cap0 : Nat) (z0 : List Int) (a1 : Option Addr) (len1 cap1 : Nat) (z1 : List Int) (w : World) (w0 : IsRow .u8 w a0 len0 cap0 z0) (w1 : IsRow .u8 w a1 len1 cap1 z1) :
    Calls Try.prog 12 #[.slice a0 len0 cap0, .slice a1 len1 cap1] w fun e w' => e = .returned (.bool true) ∧ Below w.heap.size w w' := by
  have m0 : len0 ≤ 9223372036854775807 := by rcases w0 with ⟨_, h, _, _⟩ | ⟨_, _, h1, h2, _⟩ <;> (try simp only [maxLen] at *) <;> omega
  have m1 : len1 ≤ 9223372036854775807 := by rcases w1 with ⟨_, h, _, _⟩ | ⟨_, _, h1, h2, _⟩ <;> (try simp only [maxLen] at *) <;> omega
  by_cases hlong : 1048576 < len0 ∨ 1048576 < len1
  · have hb : (decide (1048576 < len0) || decide (1048576 < len1)) = true := by simpa using hlong
    have HB := Lib.hid hb
    clear hb w0 w1
    go_enter Try.func12, Try.ntmps12
    go_wp2_with (go_at_call 36; refine (b10Long_any _ _ _ _ _ _ _ m0 m1).mono ?_; rintro e w' ⟨rfl, rfl⟩; rw [HB.out])
    go_ret
    exact ⟨rfl, .refl _ _⟩
  · have h0 : len0 ≤ 1048576 := by omega
    have h1 : len1 ≤ 1048576 := by omega
    have hb : (decide (1048576 < len0) || decide (1048576 < len1)) = false := by simp; omega
    have HB := Lib.hid hb
    have W0 := Lib.hid w0; have W1 := Lib.hid w1
    clear hb w0 w1 hlong
    go_enter Try.func12, Try.ntmps12
    go_wp2_with (go_at_call 36; refine (b10Long_any _ _ _ _ _ _ _ m0 m1).mono ?_; rintro e w' ⟨rfl, rfl⟩; rw [HB.out])
    go_wp2_with fail
    go_at_call 37
    refine (b10At_any a0 len0 cap0 z0 0 65 _ W0.out h0 (.inl rfl) (by omega) (by omega)).mono ?_
    rintro e w' ⟨i, hi, rfl, rfl⟩
    obtain ⟨xi, hxi⟩ := x_of hi
    obtain ⟨x1, x2⟩ := opf32 hxi
    have x1' : ∀ w, fres .quo .f32 w (floatOfInt .f32 ((i : Int) - 32)) 1090519040 = xi := x1
    have x2' : fcnt .quo .f32 (floatOfInt .f32 ((i : Int) - 32)) 1090519040 = 0 := x2
    have HXI := Lib.hid hxi
    clear x1 x2 hxi
    go_wp2_with fail
    go_at_call 37
    refine (b10At_any a1 len1 cap1 z1 0 65 _ W1.out h1 (.inl rfl) (by omega) (by omega)).mono ?_
    rintro e w' ⟨j, hj, rfl, rfl⟩
    obtain ⟨xi', yj, xy, a, b, c, l, wa, wb, wc, wl, wx, g1, m, g2, r, P⟩ := pr_of hi hj
    have hx2 : xi' = xi := by have := HXI.out; rw [P.x] at this; cases this; rfl
    subst hx2
    obtain ⟨y1, y2⟩ := opf32 P.y
    have y1' : ∀ w, fres .quo .f32 w (floatOfInt .f32 ((j : Int) - 32)) 1090519040 = yj := y1
    have y2' : fcnt .quo .f32 (floatOfInt .f32 ((j : Int) - 32)) 1090519040 = 0 := y2
    obtain ⟨s1, s2⟩ := opf32 P.s
    obtain ⟨ca1, ca2⟩ := cvo_ok P.ca
    obtain ⟨cb1, cb2⟩ := cvo_ok P.cb
    obtain ⟨cc1, cc2⟩ := cvo_ok P.cc
    obtain ⟨cl1, cl2⟩ := cvo_ok P.cl
    obtain ⟨cx1, cx2⟩ := cvo_ok P.cx
    obtain ⟨m1, m2⟩ := opf P.mm
    obtain ⟨r1, r2⟩ := opf P.rr
    have glt := P.glt
    have ggt := P.ggt
    have gpos := P.pos
    have e1 : (FloatKind.f32.format.order 1065353216 1065353216 == some .eq) = true := by decide +kernel
    have e0 : (FloatKind.f32.format.order 0 0 == some .eq) = true := by decide +kernel
    have HP := Lib.hid P
    have HE0 := Lib.hid exp0; have HL1 := Lib.hid log1
    clear y1 y2 P
    go_wp2_with fail
    go_at_call 22
    refine (exp_any xi' a HP.out.ea _).mono ?_
    rintro e w' ⟨rfl, rfl⟩
    go_wp2_with fail
    go_at_call 22
    refine (exp_any yj b HP.out.eb _).mono ?_
    rintro e w' ⟨rfl, rfl⟩
    go_wp2_with fail
    go_at_call 22
    refine (exp_any xy c HP.out.ec _).mono ?_
    rintro e w' ⟨rfl, rfl⟩
    go_wp2_with fail
    go_at_call 28
    refine (logn_any a l HP.out.lo _).mono ?_
    rintro e w' ⟨rfl, rfl⟩
    go_wp2_with fail
    go_at_call 38
    refine (b10Gap_any wl wx g1 HP.out.g _).mono ?_
    rintro e w' ⟨rfl, rfl⟩
    go_wp2_with fail
    go_at_call 38
    refine (b10Gap_any m wc g2 HP.out.gg _).mono ?_
    rintro e w' ⟨rfl, rfl⟩
    go_wp2_with fail
    go_at_call 22
    refine (exp_any 0 1065353216 HE0.out _).mono ?_
    rintro e w' ⟨rfl, rfl⟩
    go_wp2_with fail
    go_at_call 28
    refine (logn_any 1065353216 0 HL1.out _).mono ?_
    rintro e w' ⟨rfl, rfl⟩
    go_wp2_with fail
    go_ret
    exact ⟨rfl, .refl _ _⟩
end Go.Proofs.Ytbphigmpcjodkaa
