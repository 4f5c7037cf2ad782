/-
  Walks: the laws SumNumbers and DotNumbers. Conditions: none.
-/
import Derived.Test.YtbphigmpcjodkaaR1
namespace Go.Proofs.Ytbphigmpcjodkaa
open Go Go.RowKit Flo Val

attribute [local go_sem] run_store_float run_fadd run_fsub run_fmul run_fquo run_fconv

theorem l01Few_any (a : Option Addr) (n c : Nat) (w : World) (hm : n ≤ 1048576) : Calls Try.prog 44 #[.slice a n c] w fun e w' => e = .returned (.bool (decide (n ≤ 256))) ∧ w = w' := by
  by_cases h : n ≤ 256
  · go_enter Try.func44, Try.ntmps44
    go_wp2
    go_ret
    exact ⟨ret_bool (by first | (simp; omega) | simp), rfl⟩
  · go_enter Try.func44, Try.ntmps44
    go_wp2
    go_ret
    exact ⟨ret_bool (by first | (simp; omega) | simp), rfl⟩

def FP (b : Bool) (V : Nat) (w : World) (e : Ending) (w' : World) : Prop :=
  ∃ x, e = .returned (.tuple #[.float .f32 x, .bool b]) ∧ Like .f32 x (if b then V else 0) ∧ Below w.heap.size w w'

theorem fp_no {b : Bool} {V : Nat} {w w' : World} (h : b = false) (hw : Below w.heap.size w w') : FP b V w (.returned (.tuple #[.float .f32 0, .bool false])) w' := by
  subst h; exact ⟨0, rfl, .refl _ _, hw⟩
theorem fp_yes {b : Bool} {V x : Nat} {w w' : World} (h : b = true) (hx : Like .f32 x V) (hw : Below w.heap.size w w') : FP b V w (.returned (.tuple #[.float .f32 x, .bool true])) w' := by
  subst h; exact ⟨x, rfl, hx, hw⟩

set_option maxHeartbeats 1000000 in
set_option maxRecDepth 100000 in
theorem specSum (w : World) (g n c : Nat) (xs : List Nat) (hn : xs.length = n) (hm : n ≤ 1048576) (hx : Fd w g 0 xs) : Calls Try.prog 19 #[.slice (some ⟨g, 0, none⟩) n c] w (FP (decide (n ≤ 256)) (sumF xs n) w) := by
  by_cases h : n ≤ 256
  · skip
    have HB : Hid (decide (n ≤ 256) = true) := Lib.hid (by simpa using h)
    have hin := fun w1 => l01Sum_any g c n xs w1 hn
    have HX := Lib.hid hx
    have HI := Lib.hid hin
    clear hin hx hn
    go_enter Try.func19, Try.ntmps19
    go_wp2_with (first | (go_at_call 44; refine (l01Few_any _ _ _ _ hm).mono ?_; rintro e w' ⟨rfl, rfl⟩; rw [HB.out]) | (go_at_call 46; refine (HI.out _ HX.out hm).mono ?_; rintro e w1 ⟨x, rfl, hl, hd⟩))
    go_ret2
    exact fp_yes (by first | (simp; omega) | simp) hl hd.below
  · have HB : Hid (decide (n ≤ 256) = false) := Lib.hid (by first | (simp; omega) | simp)
    clear hx hn
    go_enter Try.func19, Try.ntmps19
    go_wp2_with (go_at_call 44; refine (l01Few_any _ _ _ _ hm).mono ?_; rintro e w' ⟨rfl, rfl⟩; rw [HB.out])
    go_ret2
    exact fp_no (by first | (simp; omega) | simp) (.refl _ _)

set_option maxHeartbeats 1000000 in
set_option maxRecDepth 100000 in
theorem implSum (w : World) (g n c : Nat) (xs : List Nat) (hn : xs.length = n) (hm : n ≤ 1048576) (hx : Fd w g 0 xs) : Calls Try.prog 20 #[.slice (some ⟨g, 0, none⟩) n c] w (FP (decide (n ≤ 256)) (sumF xs n) w) := by
  by_cases h : n ≤ 256
  · skip
    exact (implSum_yes g c n xs w hn hx hm h).mono fun e w' ⟨x, he, hl, hd⟩ => by subst he; exact fp_yes (by first | (simp; omega) | simp) hl hd.below
  · skip
    clear hx hn
    go_enter Try.func20, Try.ntmps20
    go_wp2
    go_ret2
    exact fp_no (by first | (simp; omega) | simp) (.refl _ _)

set_option maxHeartbeats 1000000 in
set_option maxRecDepth 100000 in
theorem specDot (w : World) (g n c : Nat) (xs : List Nat) (hn : xs.length = n) (hm : n ≤ 1048576) (hx : Fd w g 0 xs) (g2 n2 c2 : Nat) (ys : List Nat) (hn2 : ys.length = n2) (hm2 : n2 ≤ 1048576) (hy : Fd w g2 0 ys) : Calls Try.prog 14 #[.slice (some ⟨g, 0, none⟩) n c, .slice (some ⟨g2, 0, none⟩) n2 c2] w (FP (decide (n ≤ 256) && decide (n = n2)) (dotF xs ys n) w) := by
  by_cases h : n ≤ 256
  · by_cases h2 : n = n2
    · subst h2
      have HB : Hid (decide (n ≤ 256) = true) := Lib.hid (by simpa using h)
      have hin := fun w1 => l01Dot_any g c n xs w1 hn
      have HX := Lib.hid hx; have HY := Lib.hid hy
      have HI := Lib.hid hin
      clear hin hx hn hy
      go_enter Try.func14, Try.ntmps14
      go_wp2_with (first | (go_at_call 44; refine (l01Few_any _ _ _ _ hm).mono ?_; rintro e w' ⟨rfl, rfl⟩; rw [HB.out]) | (go_at_call 45; refine (HI.out _ HX.out g2 c2 ys hn2 HY.out hm).mono ?_; rintro e w1 ⟨x, rfl, hl, hd⟩))
      go_ret2
      exact fp_yes (by first | (simp; omega) | simp) hl hd.below
    · have HB : Hid (decide (n ≤ 256) = true) := Lib.hid (by simpa using h)
      have hne : ((n : Int) != (n2 : Int)) = true := by first | (simp; omega) | simp
      clear hx hn hy hn2
      go_enter Try.func14, Try.ntmps14
      go_wp2_with (go_at_call 44; refine (l01Few_any _ _ _ _ hm).mono ?_; rintro e w' ⟨rfl, rfl⟩; rw [HB.out])
      go_ret2
      exact fp_no (by first | (simp; omega) | simp) (.refl _ _)
  · have HB : Hid (decide (n ≤ 256) = false) := Lib.hid (by first | (simp; omega) | simp)
    clear hx hn hy hn2
    go_enter Try.func14, Try.ntmps14
    go_wp2_with (go_at_call 44; refine (l01Few_any _ _ _ _ hm).mono ?_; rintro e w' ⟨rfl, rfl⟩; rw [HB.out])
    go_ret2
    exact fp_no (by first | (simp; omega) | simp) (.refl _ _)

set_option maxHeartbeats 1000000 in
set_option maxRecDepth 100000 in
theorem implDot (w : World) (g n c : Nat) (xs : List Nat) (hn : xs.length = n) (hm : n ≤ 1048576) (hx : Fd w g 0 xs) (g2 n2 c2 : Nat) (ys : List Nat) (hn2 : ys.length = n2) (hm2 : n2 ≤ 1048576) (hy : Fd w g2 0 ys) : Calls Try.prog 16 #[.slice (some ⟨g, 0, none⟩) n c, .slice (some ⟨g2, 0, none⟩) n2 c2] w (FP (decide (n ≤ 256) && decide (n = n2)) (dotF xs ys n) w) := by
  by_cases h : n ≤ 256
  · by_cases h2 : n = n2
    · subst h2
      exact (implDot_yes g c n xs w hn hx g2 c2 ys hn2 hy hm h).mono fun e w' ⟨x, he, hl, hd⟩ => by subst he; exact fp_yes (by first | (simp; omega) | simp) hl hd.below
    · skip
      have hne : ((n : Int) != (n2 : Int)) = true := by first | (simp; omega) | simp
      clear hx hn hy hn2
      go_enter Try.func16, Try.ntmps16
      go_wp2
      go_ret2
      exact fp_no (by first | (simp; omega) | simp) (.refl _ _)
  · skip
    clear hx hn hy hn2
    go_enter Try.func16, Try.ntmps16
    go_wp2
    go_ret2
    exact fp_no (by first | (simp; omega) | simp) (.refl _ _)

set_option maxHeartbeats 4000000 in
set_option maxRecDepth 100000 in
theorem sumNumbers_walk (a0 : Option Addr) (len0 cap0 : Nat) (z0 : List Nat) (w : World) (w0 : IsFl w a0 len0 z0 ∧ len0 ≤ maxLen) :
    Calls Try.prog 4 #[.slice a0 len0 cap0] w fun e w' => e = .returned (.bool true) ∧ Below w.heap.size w w' := by
  obtain ⟨w0, hlen0⟩ := w0
  have W0 := Lib.hid w0; clear w0
  have HL0 := Lib.hid W0.out.1
  unfold maxLen at hlen0
  by_cases h0 : len0 ≤ 1048576
  case neg =>
    go_enter Try.func4, Try.ntmps4
    go_wp2
    go_ret
    exact ⟨rfl, .refl _ _⟩
  go_enter Try.func4, Try.ntmps4
  have B0 := Lib.hid (Below.refl w.heap.size w)
  go_wp2_with fail
  go_at_call 15
  refine (toFloat32S_any a0 len0 cap0 z0 _ (W0.out.below B0.out) h0).mono ?_
  rintro e w1 ⟨gS0, rfl, hr, hg, hb⟩
  rw [HL0.out]
  have B1 := Lib.hid (B0.out.trans (hb.mono B0.out.size))
  have S0_1 := Lib.hid hr; clear hr hb hg
  go_wp2_with fail
  go_at_call 19
  refine (specSum _ gS0 len0 len0 z0 HL0.out h0 S0_1.out.rd).mono ?_
  rintro e w2 ⟨F19, rfl, hF, hb⟩
  have HF19 := Lib.hid hF; clear hF
  have S0_2 := Lib.hid (S0_1.out.below hb S0_1.out.lt)
  have B2 := Lib.hid (B1.out.trans (hb.mono B1.out.size))
  clear hb
  go_wp2_with fail
  go_at_call 15
  refine (toFloat32S_any a0 len0 cap0 z0 _ (W0.out.below B2.out) h0).mono ?_
  rintro e w3 ⟨gX0, rfl, hr, hg, hb⟩
  rw [HL0.out]
  have B3 := Lib.hid (B2.out.trans (hb.mono B2.out.size))
  have X0_3 := Lib.hid hr; clear hr hb hg
  go_wp2_with fail
  go_at_call 20
  refine (implSum _ gX0 len0 len0 z0 HL0.out h0 X0_3.out.rd).mono ?_
  rintro e w4 ⟨F20, rfl, hF, hb⟩
  have HF20 := Lib.hid hF; clear hF
  have X0_4 := Lib.hid (X0_3.out.below hb X0_3.out.lt)
  have B4 := Lib.hid (B3.out.trans (hb.mono B3.out.size))
  clear hb
  go_wp2_with fail
  go_at_call 17
  refine (sameFloat_like _ _ _ (like_conv2 (HF20.out.trans HF19.out.symm))).mono ?_
  rintro e w5 ⟨rfl, hd⟩
  have hb : Below w4.heap.size w4 w5 := Dr.below (by first | exact hd | exact ((Dr.one _ _).trans hd) | exact (((Dr.one _ _).drewN _).trans hd))
  clear hd
  have X0_5 := Lib.hid (X0_4.out.below hb X0_4.out.lt)
  have B5 := Lib.hid (B4.out.trans (hb.mono B4.out.size))
  clear hb
  go_wp2_with fail
  go_at_call 15
  refine (toFloat32S_any a0 len0 cap0 z0 _ (W0.out.below B5.out) h0).mono ?_
  rintro e w6 ⟨gE0, rfl, hr, hg, hb⟩
  rw [HL0.out]
  have X0_6 := Lib.hid (X0_5.out.below hb X0_5.out.lt)
  have B6 := Lib.hid (B5.out.trans (hb.mono B5.out.size))
  have E0_6 := Lib.hid hr; clear hr hb hg
  go_wp2_with fail
  go_at_call 18
  refine (eqFloat32S_any gX0 0 gE0 0 len0 len0 len0 z0 _ HL0.out X0_6.out.rd E0_6.out.rd h0).mono ?_
  rintro e w7 ⟨rfl, hd⟩
  have hb : Below w6.heap.size w6 w7 := hd.below
  clear hd
  have X0_7 := Lib.hid (X0_6.out.below hb X0_6.out.lt)
  have B7 := Lib.hid (B6.out.trans (hb.mono B6.out.size))
  clear hb
  go_wp2
  go_ret
  exact ⟨rfl, B7.out⟩

set_option maxHeartbeats 4000000 in
set_option maxRecDepth 100000 in
theorem dotNumbers_walk (a0 : Option Addr) (len0 cap0 : Nat) (z0 : List Nat) (a1 : Option Addr) (len1 cap1 : Nat) (z1 : List Nat) (w : World) (w0 : IsFl w a0 len0 z0 ∧ len0 ≤ maxLen) (w1 : IsFl w a1 len1 z1 ∧ len1 ≤ maxLen) :
    Calls Try.prog 3 #[.slice a0 len0 cap0, .slice a1 len1 cap1] w fun e w' => e = .returned (.bool true) ∧ Below w.heap.size w w' := by
  obtain ⟨w0, hlen0⟩ := w0
  have W0 := Lib.hid w0; clear w0
  have HL0 := Lib.hid W0.out.1
  unfold maxLen at hlen0
  obtain ⟨w1, hlen1⟩ := w1
  have W1 := Lib.hid w1; clear w1
  have HL1 := Lib.hid W1.out.1
  unfold maxLen at hlen1
  by_cases h0 : len0 ≤ 1048576
  case neg =>
    go_enter Try.func3, Try.ntmps3
    go_wp2
    go_ret
    exact ⟨rfl, .refl _ _⟩
  by_cases h1 : len1 ≤ 1048576
  case neg =>
    go_enter Try.func3, Try.ntmps3
    go_wp2
    go_ret
    exact ⟨rfl, .refl _ _⟩
  go_enter Try.func3, Try.ntmps3
  have B0 := Lib.hid (Below.refl w.heap.size w)
  go_wp2_with fail
  go_at_call 15
  refine (toFloat32S_any a0 len0 cap0 z0 _ (W0.out.below B0.out) h0).mono ?_
  rintro e w1 ⟨gS0, rfl, hr, hg, hb⟩
  rw [HL0.out]
  have B1 := Lib.hid (B0.out.trans (hb.mono B0.out.size))
  have S0_1 := Lib.hid hr; clear hr hb hg
  go_wp2_with fail
  go_at_call 15
  refine (toFloat32S_any a1 len1 cap1 z1 _ (W1.out.below B1.out) h1).mono ?_
  rintro e w2 ⟨gS1, rfl, hr, hg, hb⟩
  rw [HL1.out]
  have S0_2 := Lib.hid (S0_1.out.below hb S0_1.out.lt)
  have B2 := Lib.hid (B1.out.trans (hb.mono B1.out.size))
  have S1_2 := Lib.hid hr; clear hr hb hg
  go_wp2_with fail
  go_at_call 14
  refine (specDot _ gS0 len0 len0 z0 HL0.out h0 S0_2.out.rd gS1 len1 len1 z1 HL1.out h1 S1_2.out.rd).mono ?_
  rintro e w3 ⟨F14, rfl, hF, hb⟩
  have HF14 := Lib.hid hF; clear hF
  have S0_3 := Lib.hid (S0_2.out.below hb S0_2.out.lt)
  have S1_3 := Lib.hid (S1_2.out.below hb S1_2.out.lt)
  have B3 := Lib.hid (B2.out.trans (hb.mono B2.out.size))
  clear hb
  go_wp2_with fail
  go_at_call 15
  refine (toFloat32S_any a0 len0 cap0 z0 _ (W0.out.below B3.out) h0).mono ?_
  rintro e w4 ⟨gX0, rfl, hr, hg, hb⟩
  rw [HL0.out]
  have B4 := Lib.hid (B3.out.trans (hb.mono B3.out.size))
  have X0_4 := Lib.hid hr; clear hr hb hg
  go_wp2_with fail
  go_at_call 15
  refine (toFloat32S_any a1 len1 cap1 z1 _ (W1.out.below B4.out) h1).mono ?_
  rintro e w5 ⟨gX1, rfl, hr, hg, hb⟩
  rw [HL1.out]
  have X0_5 := Lib.hid (X0_4.out.below hb X0_4.out.lt)
  have B5 := Lib.hid (B4.out.trans (hb.mono B4.out.size))
  have X1_5 := Lib.hid hr; clear hr hb hg
  go_wp2_with fail
  go_at_call 16
  refine (implDot _ gX0 len0 len0 z0 HL0.out h0 X0_5.out.rd gX1 len1 len1 z1 HL1.out h1 X1_5.out.rd).mono ?_
  rintro e w6 ⟨F16, rfl, hF, hb⟩
  have HF16 := Lib.hid hF; clear hF
  have X0_6 := Lib.hid (X0_5.out.below hb X0_5.out.lt)
  have X1_6 := Lib.hid (X1_5.out.below hb X1_5.out.lt)
  have B6 := Lib.hid (B5.out.trans (hb.mono B5.out.size))
  clear hb
  go_wp2_with fail
  go_at_call 17
  refine (sameFloat_like _ _ _ (like_conv2 (HF16.out.trans HF14.out.symm))).mono ?_
  rintro e w7 ⟨rfl, hd⟩
  have hb : Below w6.heap.size w6 w7 := Dr.below (by first | exact hd | exact ((Dr.one _ _).trans hd) | exact (((Dr.one _ _).drewN _).trans hd))
  clear hd
  have X0_7 := Lib.hid (X0_6.out.below hb X0_6.out.lt)
  have X1_7 := Lib.hid (X1_6.out.below hb X1_6.out.lt)
  have B7 := Lib.hid (B6.out.trans (hb.mono B6.out.size))
  clear hb
  go_wp2_with fail
  go_at_call 15
  refine (toFloat32S_any a0 len0 cap0 z0 _ (W0.out.below B7.out) h0).mono ?_
  rintro e w8 ⟨gE0, rfl, hr, hg, hb⟩
  rw [HL0.out]
  have X0_8 := Lib.hid (X0_7.out.below hb X0_7.out.lt)
  have X1_8 := Lib.hid (X1_7.out.below hb X1_7.out.lt)
  have B8 := Lib.hid (B7.out.trans (hb.mono B7.out.size))
  have E0_8 := Lib.hid hr; clear hr hb hg
  go_wp2_with fail
  go_at_call 18
  refine (eqFloat32S_any gX0 0 gE0 0 len0 len0 len0 z0 _ HL0.out X0_8.out.rd E0_8.out.rd h0).mono ?_
  rintro e w9 ⟨rfl, hd⟩
  have hb : Below w8.heap.size w8 w9 := hd.below
  clear hd
  have X0_9 := Lib.hid (X0_8.out.below hb X0_8.out.lt)
  have X1_9 := Lib.hid (X1_8.out.below hb X1_8.out.lt)
  have B9 := Lib.hid (B8.out.trans (hb.mono B8.out.size))
  clear hb
  go_wp2_with fail
  go_at_call 15
  refine (toFloat32S_any a1 len1 cap1 z1 _ (W1.out.below B9.out) h1).mono ?_
  rintro e w10 ⟨gE1, rfl, hr, hg, hb⟩
  rw [HL1.out]
  have X0_10 := Lib.hid (X0_9.out.below hb X0_9.out.lt)
  have X1_10 := Lib.hid (X1_9.out.below hb X1_9.out.lt)
  have B10 := Lib.hid (B9.out.trans (hb.mono B9.out.size))
  have E1_10 := Lib.hid hr; clear hr hb hg
  go_wp2_with fail
  go_at_call 18
  refine (eqFloat32S_any gX1 0 gE1 0 len1 len1 len1 z1 _ HL1.out X1_10.out.rd E1_10.out.rd h1).mono ?_
  rintro e w11 ⟨rfl, hd⟩
  have hb : Below w10.heap.size w10 w11 := hd.below
  clear hd
  have X0_11 := Lib.hid (X0_10.out.below hb X0_10.out.lt)
  have X1_11 := Lib.hid (X1_10.out.below hb X1_10.out.lt)
  have B11 := Lib.hid (B10.out.trans (hb.mono B10.out.size))
  clear hb
  go_wp2
  go_ret
  exact ⟨rfl, B11.out⟩

end Go.Proofs.Ytbphigmpcjodkaa
