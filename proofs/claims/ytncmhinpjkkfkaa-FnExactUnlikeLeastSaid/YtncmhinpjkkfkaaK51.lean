/-
  Walks: the laws LeastLast and UnlikeLeast: the last step. Conditions: none.
-/
import Derived.Test.YtncmhinpjkkfkaaK50
set_option linter.unusedVariables false
set_option linter.unusedSimpArgs false
namespace Go.Proofs.Ytncmhinpjkkfkaa
open Go Go.RowKit
set_option maxHeartbeats 8000000 in
set_option maxRecDepth 100000 in
theorem leastLast_walk_no (a0 : Option Addr) (len0 cap0 : Nat) (z0 : List Int) (x1 : Int) (w : World) (w0 : IsRow .i64 w a0 len0 cap0 z0) (wf1 : (Lit.int .i64 x1).wf = true) (h0 : len0 ≤ 1048576) (hc : llB (z0.take len0) x1 = false) :
    Calls Try.prog 13 #[.slice a0 len0 cap0, .int .i64 x1] w fun e w' => e = .returned (.bool true) ∧ Below w.heap.size w w' := by
  have hlz0 := w0.len
  have HLm0 : len0 ≤ 9223372036854775807 := by
    have := w0; rcases this with ⟨_, h, _, _⟩ | ⟨_, _, h1, h2, _⟩ <;> (try simp only [maxLen] at *) <;> omega
  have W0 := Lib.hid w0; clear w0
  have HL0 := Lib.hid (take_len hlz0)
  clear hlz0
  have bd1 : -9223372036854775808 ≤ x1 ∧ x1 ≤ 9223372036854775807 := by simpa [Lit.wf, IntKind.min, IntKind.max, IntKind.signed, IntKind.bits] using wf1
  obtain ⟨lo1, hi1⟩ := bd1
  clear wf1
  have HC := Lib.hid hc; clear hc
  go_enter Try.func13, Try.ntmps13
  have B0 := Lib.hid (Below.refl w.heap.size w)
  go_wp2_with fail
  go_at_call 23
  refine (toInt64S_any a0 len0 cap0 z0 _ (W0.out.below B0.out) h0).mono ?_
  rintro e w1 ⟨gS0, rfl, hr, hg, hb⟩
  rw [HL0.out] at hr ⊢
  have B1 := Lib.hid (B0.out.trans (hb.mono B0.out.size))
  have ge_S0 : w.heap.size ≤ gS0 := by have := B0.out.size; omega
  have S0_1 := Lib.hid hr
  clear hr hb hg
  go_wp2_with fail
  go_at_call 49
  refine (specLL_no _ gS0 len0 len0 (z0.take len0) HL0.out (Nat.le_refl _) h0 S0_1.out.rd S0_1.out.lt x1 lo1 hi1 HC.out).mono ?_
  rintro e w2 ⟨rfl, hb⟩
  have S0_2 := Lib.hid (S0_1.out.below hb S0_1.out.lt)
  have B2 := Lib.hid (B1.out.trans (hb.mono B1.out.size))
  clear hb
  go_wp2_with fail
  go_at_call 23
  refine (toInt64S_any a0 len0 cap0 z0 _ (W0.out.below B2.out) h0).mono ?_
  rintro e w3 ⟨gX0, rfl, hr, hg, hb⟩
  rw [HL0.out] at hr ⊢
  have B3 := Lib.hid (B2.out.trans (hb.mono B2.out.size))
  have ge_X0 : w.heap.size ≤ gX0 := by have := B2.out.size; omega
  have X0_3 := Lib.hid hr
  clear hr hb hg
  go_wp2_with fail
  go_at_call 50
  refine (implLL_no _ gX0 len0 len0 (z0.take len0) HL0.out (Nat.le_refl _) h0 X0_3.out.rd X0_3.out.lt x1 lo1 hi1 HC.out).mono ?_
  rintro e w4 ⟨rfl, hb⟩
  have X0_4 := Lib.hid (X0_3.out.below hb X0_3.out.lt)
  have B4 := Lib.hid (B3.out.trans (hb.mono B3.out.size))
  clear hb
  go_wp2_with fail
  go_at_call 25
  refine (eqInt64S_any _ _ _ _ _ _ [] [] _ rfl rfl (.inl rfl) (.inl rfl) (by first | omega | simp) (by first | omega | simp)).mono ?_
  rintro e w5 ⟨rfl, hd⟩
  rw [eqB_self]
  have hb : Below w4.heap.size w4 w5 := hd.below
  have X0_5 := Lib.hid (X0_4.out.below hb X0_4.out.lt)
  have B5 := Lib.hid (B4.out.trans (hb.mono B4.out.size))
  clear hb hd
  go_wp2_with fail
  go_at_call 23
  refine (toInt64S_any a0 len0 cap0 z0 _ (W0.out.below B5.out) h0).mono ?_
  rintro e w6 ⟨gE0, rfl, hr, hg, hb⟩
  rw [HL0.out] at hr ⊢
  have X0_6 := Lib.hid (X0_5.out.below hb X0_5.out.lt)
  have B6 := Lib.hid (B5.out.trans (hb.mono B5.out.size))
  have ne_E0_X0 : gE0 ≠ gX0 := by have := X0_5.out.lt; omega
  have ge_E0 : w.heap.size ≤ gE0 := by have := B5.out.size; omega
  have E0_6 := Lib.hid hr
  clear hr hb hg
  go_wp2_with fail
  go_at_call 25
  refine (eqInt64S_any _ _ _ _ _ _ (z0.take len0) (z0.take len0) _ HL0.out HL0.out X0_6.out.at' E0_6.out.at' (by first | omega | simp) (by first | omega | simp)).mono ?_
  rintro e w7 ⟨rfl, hd⟩
  rw [eqB_self]
  have hb : Below w6.heap.size w6 w7 := hd.below
  have X0_7 := Lib.hid (X0_6.out.below hb X0_6.out.lt)
  have E0_7 := Lib.hid (E0_6.out.below hb E0_6.out.lt)
  have B7 := Lib.hid (B6.out.trans (hb.mono B6.out.size))
  clear hb hd
  go_wp2_with fail
  go_at_call 39
  refine (mark_any _ gX0 len0 len0 (z0.take len0) _ HL0.out h0 (by omega) (by omega) X0_7.out).mono ?_
  rintro e w8 ⟨rfl, _, ht⟩
  have B8 := Lib.hid (B7.out.trans (ht.below ge_X0 B7.out.size))
  clear ht
  go_wp2_with fail
  go_at_call 25
  refine (eqInt64S_any _ _ _ _ _ _ [] [] _ rfl rfl (.inl rfl) (.inl rfl) (by first | omega | simp) (by first | omega | simp)).mono ?_
  rintro e w9 ⟨rfl, hd⟩
  rw [eqB_self]
  have hb : Below w8.heap.size w8 w9 := hd.below
  have B9 := Lib.hid (B8.out.trans (hb.mono B8.out.size))
  clear hb hd
  go_wp2_with fail
  go_at_call 39
  refine (mark_nil _ _ _ _).mono ?_
  rintro e w' ⟨rfl, rfl⟩
  go_wp2_with fail
  go_at_call 40
  refine (held_nil _ _ _ _).mono ?_
  rintro e w' ⟨rfl, rfl⟩
  go_wp2_with fail
  go_at_call 23
  refine (toInt64S_any a0 len0 cap0 z0 _ (W0.out.below B9.out) h0).mono ?_
  rintro e w10 ⟨gT0, rfl, hr, hg, hb⟩
  rw [HL0.out] at hr ⊢
  have B10 := Lib.hid (B9.out.trans (hb.mono B9.out.size))
  have ge_T0 : w.heap.size ≤ gT0 := by have := B9.out.size; omega
  have T0_10 := Lib.hid hr
  clear hr hb hg
  go_wp2_with fail
  go_at_call 50
  refine (implLL_no _ gT0 len0 len0 (z0.take len0) HL0.out (Nat.le_refl _) h0 T0_10.out.rd T0_10.out.lt x1 lo1 hi1 HC.out).mono ?_
  rintro e w11 ⟨rfl, hb⟩
  have T0_11 := Lib.hid (T0_10.out.below hb T0_10.out.lt)
  have B11 := Lib.hid (B10.out.trans (hb.mono B10.out.size))
  clear hb
  go_wp2_with fail
  go_at_call 25
  refine (eqInt64S_any _ _ _ _ _ _ [] [] _ rfl rfl (.inl rfl) (.inl rfl) (by first | omega | simp) (by first | omega | simp)).mono ?_
  rintro e w12 ⟨rfl, hd⟩
  rw [eqB_self]
  have hb : Below w11.heap.size w11 w12 := hd.below
  have T0_12 := Lib.hid (T0_11.out.below hb T0_11.out.lt)
  have B12 := Lib.hid (B11.out.trans (hb.mono B11.out.size))
  clear hb hd
  go_wp2_with fail
  go_at_call 40
  refine (held_nil _ _ _ _).mono ?_
  rintro e w' ⟨rfl, rfl⟩
  go_wp2
  go_ret
  exact ⟨rfl, B12.out⟩

set_option maxHeartbeats 8000000 in
set_option maxRecDepth 100000 in
theorem leastLast_walk_yes (a0 : Option Addr) (len0 cap0 : Nat) (z0 : List Int) (x1 : Int) (w : World) (w0 : IsRow .i64 w a0 len0 cap0 z0) (wf1 : (Lit.int .i64 x1).wf = true) (h0 : len0 ≤ 1048576) (hc : llB (z0.take len0) x1 = true) :
    Calls Try.prog 13 #[.slice a0 len0 cap0, .int .i64 x1] w fun e w' => e = .returned (.bool true) ∧ Below w.heap.size w w' := by
  have hlz0 := w0.len
  have HLm0 : len0 ≤ 9223372036854775807 := by
    have := w0; rcases this with ⟨_, h, _, _⟩ | ⟨_, _, h1, h2, _⟩ <;> (try simp only [maxLen] at *) <;> omega
  have W0 := Lib.hid w0; clear w0
  have HL0 := Lib.hid (take_len hlz0)
  clear hlz0
  have bd1 : -9223372036854775808 ≤ x1 ∧ x1 ≤ 9223372036854775807 := by simpa [Lit.wf, IntKind.min, IntKind.max, IntKind.signed, IntKind.bits] using wf1
  obtain ⟨lo1, hi1⟩ := bd1
  clear wf1
  have hbdl0 := llW_len hc
  obtain ⟨m0, hm0⟩ : ∃ m, (wayL (ulL (z0.take len0) x1.toNat ((z0.take len0).length * x1.toNat)) x1.toNat (z0.take len0).length).length = m := ⟨_, rfl⟩
  rw [hm0] at hbdl0
  have HR0 := Lib.hid hm0; clear hm0
  obtain ⟨LL0, hLL0⟩ : ∃ l, wayL (ulL (z0.take len0) x1.toNat ((z0.take len0).length * x1.toNat)) x1.toNat (z0.take len0).length = l := ⟨_, rfl⟩
  have HLL0 := Lib.hid hLL0; clear hLL0
  have HRL0 : Hid (LL0.length = m0) := Lib.hid (by rw [← HLL0.out]; exact HR0.out)
  have HC := Lib.hid hc; clear hc
  go_enter Try.func13, Try.ntmps13
  have B0 := Lib.hid (Below.refl w.heap.size w)
  go_wp2_with fail
  go_at_call 23
  refine (toInt64S_any a0 len0 cap0 z0 _ (W0.out.below B0.out) h0).mono ?_
  rintro e w1 ⟨gS0, rfl, hr, hg, hb⟩
  rw [HL0.out] at hr ⊢
  have B1 := Lib.hid (B0.out.trans (hb.mono B0.out.size))
  have ge_S0 : w.heap.size ≤ gS0 := by have := B0.out.size; omega
  have S0_1 := Lib.hid hr
  clear hr hb hg
  go_wp2_with fail
  go_at_call 49
  refine (specLL_yes _ gS0 len0 len0 (z0.take len0) HL0.out (Nat.le_refl _) h0 S0_1.out.rd S0_1.out.lt x1 lo1 hi1 HC.out).mono ?_
  rintro e w2 ⟨gV0, cV0, rfl, hr0, hg0, hb⟩
  rw [HLL0.out] at hr0
  rw [HR0.out]
  have S0_2 := Lib.hid (S0_1.out.below hb S0_1.out.lt)
  have B2 := Lib.hid (B1.out.trans (hb.mono B1.out.size))
  have ne_V0_S0 : gV0 ≠ gS0 := by have := S0_1.out.lt; omega
  have ge_V0 : w.heap.size ≤ gV0 := by have := B1.out.size; omega
  have V0_2 := Lib.hid hr0
  clear hb hr0 hg0
  go_wp2_with fail
  go_at_call 23
  refine (toInt64S_any a0 len0 cap0 z0 _ (W0.out.below B2.out) h0).mono ?_
  rintro e w3 ⟨gX0, rfl, hr, hg, hb⟩
  rw [HL0.out] at hr ⊢
  have V0_3 := Lib.hid (V0_2.out.below hb V0_2.out.lt)
  have B3 := Lib.hid (B2.out.trans (hb.mono B2.out.size))
  have ne_X0_V0 : gX0 ≠ gV0 := by have := V0_2.out.lt; omega
  have ge_X0 : w.heap.size ≤ gX0 := by have := B2.out.size; omega
  have X0_3 := Lib.hid hr
  clear hr hb hg
  go_wp2_with fail
  go_at_call 50
  refine (implLL_yes _ gX0 len0 len0 (z0.take len0) HL0.out (Nat.le_refl _) h0 X0_3.out.rd X0_3.out.lt x1 lo1 hi1 HC.out).mono ?_
  rintro e w4 ⟨gG0, cG0, rfl, hr0, hg0, hb⟩
  rw [HLL0.out] at hr0
  rw [HR0.out]
  have V0_4 := Lib.hid (V0_3.out.below hb V0_3.out.lt)
  have X0_4 := Lib.hid (X0_3.out.below hb X0_3.out.lt)
  have B4 := Lib.hid (B3.out.trans (hb.mono B3.out.size))
  have ne_G0_V0 : gG0 ≠ gV0 := by have := V0_3.out.lt; omega
  have ne_G0_X0 : gG0 ≠ gX0 := by have := X0_3.out.lt; omega
  have ge_G0 : w.heap.size ≤ gG0 := by have := B3.out.size; omega
  have G0_4 := Lib.hid hr0
  clear hb hr0 hg0
  go_wp2_with fail
  go_at_call 25
  refine (eqInt64S_any _ _ _ _ _ _ LL0 LL0 _ HRL0.out HRL0.out G0_4.out.at' V0_4.out.at' (by first | omega | simp) (by first | omega | simp)).mono ?_
  rintro e w5 ⟨rfl, hd⟩
  rw [eqB_self]
  have hb : Below w4.heap.size w4 w5 := hd.below
  have V0_5 := Lib.hid (V0_4.out.below hb V0_4.out.lt)
  have X0_5 := Lib.hid (X0_4.out.below hb X0_4.out.lt)
  have G0_5 := Lib.hid (G0_4.out.below hb G0_4.out.lt)
  have B5 := Lib.hid (B4.out.trans (hb.mono B4.out.size))
  clear hb hd
  go_wp2_with fail
  go_at_call 23
  refine (toInt64S_any a0 len0 cap0 z0 _ (W0.out.below B5.out) h0).mono ?_
  rintro e w6 ⟨gE0, rfl, hr, hg, hb⟩
  rw [HL0.out] at hr ⊢
  have V0_6 := Lib.hid (V0_5.out.below hb V0_5.out.lt)
  have X0_6 := Lib.hid (X0_5.out.below hb X0_5.out.lt)
  have G0_6 := Lib.hid (G0_5.out.below hb G0_5.out.lt)
  have B6 := Lib.hid (B5.out.trans (hb.mono B5.out.size))
  have ne_E0_V0 : gE0 ≠ gV0 := by have := V0_5.out.lt; omega
  have ne_E0_X0 : gE0 ≠ gX0 := by have := X0_5.out.lt; omega
  have ne_E0_G0 : gE0 ≠ gG0 := by have := G0_5.out.lt; omega
  have ge_E0 : w.heap.size ≤ gE0 := by have := B5.out.size; omega
  have E0_6 := Lib.hid hr
  clear hr hb hg
  go_wp2_with fail
  go_at_call 25
  refine (eqInt64S_any _ _ _ _ _ _ (z0.take len0) (z0.take len0) _ HL0.out HL0.out X0_6.out.at' E0_6.out.at' (by first | omega | simp) (by first | omega | simp)).mono ?_
  rintro e w7 ⟨rfl, hd⟩
  rw [eqB_self]
  have hb : Below w6.heap.size w6 w7 := hd.below
  have V0_7 := Lib.hid (V0_6.out.below hb V0_6.out.lt)
  have X0_7 := Lib.hid (X0_6.out.below hb X0_6.out.lt)
  have G0_7 := Lib.hid (G0_6.out.below hb G0_6.out.lt)
  have E0_7 := Lib.hid (E0_6.out.below hb E0_6.out.lt)
  have B7 := Lib.hid (B6.out.trans (hb.mono B6.out.size))
  clear hb hd
  go_wp2_with fail
  go_at_call 39
  refine (mark_any _ gX0 len0 len0 (z0.take len0) _ HL0.out h0 (by omega) (by omega) X0_7.out).mono ?_
  rintro e w8 ⟨rfl, _, ht⟩
  have V0_8 := Lib.hid (V0_7.out.touch ht (Ne.symm ne_X0_V0))
  have G0_8 := Lib.hid (G0_7.out.touch ht ne_G0_X0)
  have B8 := Lib.hid (B7.out.trans (ht.below ge_X0 B7.out.size))
  clear ht
  go_wp2_with fail
  go_at_call 25
  refine (eqInt64S_any _ _ _ _ _ _ LL0 LL0 _ HRL0.out HRL0.out G0_8.out.at' V0_8.out.at' (by first | omega | simp) (by first | omega | simp)).mono ?_
  rintro e w9 ⟨rfl, hd⟩
  rw [eqB_self]
  have hb : Below w8.heap.size w8 w9 := hd.below
  have V0_9 := Lib.hid (V0_8.out.below hb V0_8.out.lt)
  have G0_9 := Lib.hid (G0_8.out.below hb G0_8.out.lt)
  have B9 := Lib.hid (B8.out.trans (hb.mono B8.out.size))
  clear hb hd
  go_wp2_with fail
  go_at_call 39
  refine (mark_any _ gG0 m0 cG0 LL0 _ HRL0.out (by omega) (by omega) (by omega) G0_9.out).mono ?_
  rintro e w10 ⟨rfl, hmk, ht⟩
  have V0_10 := Lib.hid (V0_9.out.touch ht (Ne.symm ne_G0_V0))
  have B10 := Lib.hid (B9.out.trans (ht.below ge_G0 B9.out.size))
  have G0_10 := Lib.hid hmk
  clear ht hmk
  go_wp2_with fail
  go_at_call 40
  refine (held_any _ gG0 m0 cG0 _ (by omega) (by omega) (by omega) (G0_10.out.rd)).mono ?_
  rintro e w' ⟨rfl, rfl⟩
  go_wp2_with fail
  go_at_call 23
  refine (toInt64S_any a0 len0 cap0 z0 _ (W0.out.below B10.out) h0).mono ?_
  rintro e w11 ⟨gT0, rfl, hr, hg, hb⟩
  rw [HL0.out] at hr ⊢
  have V0_11 := Lib.hid (V0_10.out.below hb V0_10.out.lt)
  have G0_11 := Lib.hid (G0_10.out.below hb G0_10.out.lt)
  have B11 := Lib.hid (B10.out.trans (hb.mono B10.out.size))
  have ne_T0_V0 : gT0 ≠ gV0 := by have := V0_10.out.lt; omega
  have ne_T0_G0 : gT0 ≠ gG0 := by have := G0_10.out.lt; omega
  have ge_T0 : w.heap.size ≤ gT0 := by have := B10.out.size; omega
  have T0_11 := Lib.hid hr
  clear hr hb hg
  go_wp2_with fail
  go_at_call 50
  refine (implLL_yes _ gT0 len0 len0 (z0.take len0) HL0.out (Nat.le_refl _) h0 T0_11.out.rd T0_11.out.lt x1 lo1 hi1 HC.out).mono ?_
  rintro e w12 ⟨gH0, cH0, rfl, hr0, hg0, hb⟩
  rw [HLL0.out] at hr0
  rw [HR0.out]
  have V0_12 := Lib.hid (V0_11.out.below hb V0_11.out.lt)
  have G0_12 := Lib.hid (G0_11.out.below hb G0_11.out.lt)
  have T0_12 := Lib.hid (T0_11.out.below hb T0_11.out.lt)
  have B12 := Lib.hid (B11.out.trans (hb.mono B11.out.size))
  have ne_H0_V0 : gH0 ≠ gV0 := by have := V0_11.out.lt; omega
  have ne_H0_G0 : gH0 ≠ gG0 := by have := G0_11.out.lt; omega
  have ne_H0_T0 : gH0 ≠ gT0 := by have := T0_11.out.lt; omega
  have ge_H0 : w.heap.size ≤ gH0 := by have := B11.out.size; omega
  have H0_12 := Lib.hid hr0
  clear hb hr0 hg0
  go_wp2_with fail
  go_at_call 25
  refine (eqInt64S_any _ _ _ _ _ _ LL0 LL0 _ HRL0.out HRL0.out H0_12.out.at' V0_12.out.at' (by first | omega | simp) (by first | omega | simp)).mono ?_
  rintro e w13 ⟨rfl, hd⟩
  rw [eqB_self]
  have hb : Below w12.heap.size w12 w13 := hd.below
  have V0_13 := Lib.hid (V0_12.out.below hb V0_12.out.lt)
  have G0_13 := Lib.hid (G0_12.out.below hb G0_12.out.lt)
  have T0_13 := Lib.hid (T0_12.out.below hb T0_12.out.lt)
  have H0_13 := Lib.hid (H0_12.out.below hb H0_12.out.lt)
  have B13 := Lib.hid (B12.out.trans (hb.mono B12.out.size))
  clear hb hd
  go_wp2_with fail
  go_at_call 40
  refine (held_any _ gG0 m0 cG0 _ (by omega) (by omega) (by omega) (G0_13.out.rd)).mono ?_
  rintro e w' ⟨rfl, rfl⟩
  go_wp2
  go_ret
  exact ⟨rfl, B13.out⟩

set_option maxHeartbeats 4000000 in
theorem leastLast_walk (a0 : Option Addr) (len0 cap0 : Nat) (z0 : List Int) (x1 : Int) (w : World) (w0 : IsRow .i64 w a0 len0 cap0 z0) (wf1 : (Lit.int .i64 x1).wf = true) :
    Calls Try.prog 13 #[.slice a0 len0 cap0, .int .i64 x1] w fun e w' => e = .returned (.bool true) ∧ Below w.heap.size w w' := by
  by_cases h0 : len0 ≤ 1048576
  case neg =>
    clear w0
    go_enter Try.func13, Try.ntmps13
    go_wp2
    go_ret
    exact ⟨rfl, .refl _ _⟩
  cases hc : llB (z0.take len0) x1
  · exact leastLast_walk_no a0 len0 cap0 z0 x1 w w0 wf1 h0 hc
  · exact leastLast_walk_yes a0 len0 cap0 z0 x1 w w0 wf1 h0 hc

set_option maxHeartbeats 8000000 in
set_option maxRecDepth 100000 in
theorem unlikeLeast_walk_no (a0 : Option Addr) (len0 cap0 : Nat) (z0 : List Int) (x1 : Int) (w : World) (w0 : IsRow .i64 w a0 len0 cap0 z0) (wf1 : (Lit.int .i64 x1).wf = true) (h0 : len0 ≤ 1048576) (hc : ulB (z0.take len0) x1 = false) :
    Calls Try.prog 14 #[.slice a0 len0 cap0, .int .i64 x1] w fun e w' => e = .returned (.bool true) ∧ Below w.heap.size w w' := by
  have hlz0 := w0.len
  have HLm0 : len0 ≤ 9223372036854775807 := by
    have := w0; rcases this with ⟨_, h, _, _⟩ | ⟨_, _, h1, h2, _⟩ <;> (try simp only [maxLen] at *) <;> omega
  have W0 := Lib.hid w0; clear w0
  have HL0 := Lib.hid (take_len hlz0)
  clear hlz0
  have bd1 : -9223372036854775808 ≤ x1 ∧ x1 ≤ 9223372036854775807 := by simpa [Lit.wf, IntKind.min, IntKind.max, IntKind.signed, IntKind.bits] using wf1
  obtain ⟨lo1, hi1⟩ := bd1
  clear wf1
  have HC := Lib.hid hc; clear hc
  go_enter Try.func14, Try.ntmps14
  have B0 := Lib.hid (Below.refl w.heap.size w)
  go_wp2_with fail
  go_at_call 23
  refine (toInt64S_any a0 len0 cap0 z0 _ (W0.out.below B0.out) h0).mono ?_
  rintro e w1 ⟨gS0, rfl, hr, hg, hb⟩
  rw [HL0.out] at hr ⊢
  have B1 := Lib.hid (B0.out.trans (hb.mono B0.out.size))
  have ge_S0 : w.heap.size ≤ gS0 := by have := B0.out.size; omega
  have S0_1 := Lib.hid hr
  clear hr hb hg
  go_wp2_with fail
  go_at_call 51
  refine (specUL_no _ gS0 len0 len0 (z0.take len0) HL0.out (Nat.le_refl _) h0 S0_1.out.rd S0_1.out.lt x1 lo1 hi1 HC.out).mono ?_
  rintro e w2 ⟨rfl, hb⟩
  have S0_2 := Lib.hid (S0_1.out.below hb S0_1.out.lt)
  have B2 := Lib.hid (B1.out.trans (hb.mono B1.out.size))
  clear hb
  go_wp2_with fail
  go_at_call 23
  refine (toInt64S_any a0 len0 cap0 z0 _ (W0.out.below B2.out) h0).mono ?_
  rintro e w3 ⟨gX0, rfl, hr, hg, hb⟩
  rw [HL0.out] at hr ⊢
  have B3 := Lib.hid (B2.out.trans (hb.mono B2.out.size))
  have ge_X0 : w.heap.size ≤ gX0 := by have := B2.out.size; omega
  have X0_3 := Lib.hid hr
  clear hr hb hg
  go_wp2_with fail
  go_at_call 52
  refine (implUL_no _ gX0 len0 len0 (z0.take len0) HL0.out (Nat.le_refl _) h0 X0_3.out.rd X0_3.out.lt x1 lo1 hi1 HC.out).mono ?_
  rintro e w4 ⟨rfl, hb⟩
  have X0_4 := Lib.hid (X0_3.out.below hb X0_3.out.lt)
  have B4 := Lib.hid (B3.out.trans (hb.mono B3.out.size))
  clear hb
  go_wp2_with fail
  go_at_call 25
  refine (eqInt64S_any _ _ _ _ _ _ [] [] _ rfl rfl (.inl rfl) (.inl rfl) (by first | omega | simp) (by first | omega | simp)).mono ?_
  rintro e w5 ⟨rfl, hd⟩
  rw [eqB_self]
  have hb : Below w4.heap.size w4 w5 := hd.below
  have X0_5 := Lib.hid (X0_4.out.below hb X0_4.out.lt)
  have B5 := Lib.hid (B4.out.trans (hb.mono B4.out.size))
  clear hb hd
  go_wp2_with fail
  go_at_call 23
  refine (toInt64S_any a0 len0 cap0 z0 _ (W0.out.below B5.out) h0).mono ?_
  rintro e w6 ⟨gE0, rfl, hr, hg, hb⟩
  rw [HL0.out] at hr ⊢
  have X0_6 := Lib.hid (X0_5.out.below hb X0_5.out.lt)
  have B6 := Lib.hid (B5.out.trans (hb.mono B5.out.size))
  have ne_E0_X0 : gE0 ≠ gX0 := by have := X0_5.out.lt; omega
  have ge_E0 : w.heap.size ≤ gE0 := by have := B5.out.size; omega
  have E0_6 := Lib.hid hr
  clear hr hb hg
  go_wp2_with fail
  go_at_call 25
  refine (eqInt64S_any _ _ _ _ _ _ (z0.take len0) (z0.take len0) _ HL0.out HL0.out X0_6.out.at' E0_6.out.at' (by first | omega | simp) (by first | omega | simp)).mono ?_
  rintro e w7 ⟨rfl, hd⟩
  rw [eqB_self]
  have hb : Below w6.heap.size w6 w7 := hd.below
  have X0_7 := Lib.hid (X0_6.out.below hb X0_6.out.lt)
  have E0_7 := Lib.hid (E0_6.out.below hb E0_6.out.lt)
  have B7 := Lib.hid (B6.out.trans (hb.mono B6.out.size))
  clear hb hd
  go_wp2_with fail
  go_at_call 39
  refine (mark_any _ gX0 len0 len0 (z0.take len0) _ HL0.out h0 (by omega) (by omega) X0_7.out).mono ?_
  rintro e w8 ⟨rfl, _, ht⟩
  have B8 := Lib.hid (B7.out.trans (ht.below ge_X0 B7.out.size))
  clear ht
  go_wp2_with fail
  go_at_call 25
  refine (eqInt64S_any _ _ _ _ _ _ [] [] _ rfl rfl (.inl rfl) (.inl rfl) (by first | omega | simp) (by first | omega | simp)).mono ?_
  rintro e w9 ⟨rfl, hd⟩
  rw [eqB_self]
  have hb : Below w8.heap.size w8 w9 := hd.below
  have B9 := Lib.hid (B8.out.trans (hb.mono B8.out.size))
  clear hb hd
  go_wp2_with fail
  go_at_call 39
  refine (mark_nil _ _ _ _).mono ?_
  rintro e w' ⟨rfl, rfl⟩
  go_wp2_with fail
  go_at_call 40
  refine (held_nil _ _ _ _).mono ?_
  rintro e w' ⟨rfl, rfl⟩
  go_wp2_with fail
  go_at_call 23
  refine (toInt64S_any a0 len0 cap0 z0 _ (W0.out.below B9.out) h0).mono ?_
  rintro e w10 ⟨gT0, rfl, hr, hg, hb⟩
  rw [HL0.out] at hr ⊢
  have B10 := Lib.hid (B9.out.trans (hb.mono B9.out.size))
  have ge_T0 : w.heap.size ≤ gT0 := by have := B9.out.size; omega
  have T0_10 := Lib.hid hr
  clear hr hb hg
  go_wp2_with fail
  go_at_call 52
  refine (implUL_no _ gT0 len0 len0 (z0.take len0) HL0.out (Nat.le_refl _) h0 T0_10.out.rd T0_10.out.lt x1 lo1 hi1 HC.out).mono ?_
  rintro e w11 ⟨rfl, hb⟩
  have T0_11 := Lib.hid (T0_10.out.below hb T0_10.out.lt)
  have B11 := Lib.hid (B10.out.trans (hb.mono B10.out.size))
  clear hb
  go_wp2_with fail
  go_at_call 25
  refine (eqInt64S_any _ _ _ _ _ _ [] [] _ rfl rfl (.inl rfl) (.inl rfl) (by first | omega | simp) (by first | omega | simp)).mono ?_
  rintro e w12 ⟨rfl, hd⟩
  rw [eqB_self]
  have hb : Below w11.heap.size w11 w12 := hd.below
  have T0_12 := Lib.hid (T0_11.out.below hb T0_11.out.lt)
  have B12 := Lib.hid (B11.out.trans (hb.mono B11.out.size))
  clear hb hd
  go_wp2_with fail
  go_at_call 40
  refine (held_nil _ _ _ _).mono ?_
  rintro e w' ⟨rfl, rfl⟩
  go_wp2
  go_ret
  exact ⟨rfl, B12.out⟩

set_option maxHeartbeats 8000000 in
set_option maxRecDepth 100000 in
theorem unlikeLeast_walk_yes (a0 : Option Addr) (len0 cap0 : Nat) (z0 : List Int) (x1 : Int) (w : World) (w0 : IsRow .i64 w a0 len0 cap0 z0) (wf1 : (Lit.int .i64 x1).wf = true) (h0 : len0 ≤ 1048576) (hc : ulB (z0.take len0) x1 = true) :
    Calls Try.prog 14 #[.slice a0 len0 cap0, .int .i64 x1] w fun e w' => e = .returned (.bool true) ∧ Below w.heap.size w w' := by
  have hlz0 := w0.len
  have HLm0 : len0 ≤ 9223372036854775807 := by
    have := w0; rcases this with ⟨_, h, _, _⟩ | ⟨_, _, h1, h2, _⟩ <;> (try simp only [maxLen] at *) <;> omega
  have W0 := Lib.hid w0; clear w0
  have HL0 := Lib.hid (take_len hlz0)
  clear hlz0
  have bd1 : -9223372036854775808 ≤ x1 ∧ x1 ≤ 9223372036854775807 := by simpa [Lit.wf, IntKind.min, IntKind.max, IntKind.signed, IntKind.bits] using wf1
  obtain ⟨lo1, hi1⟩ := bd1
  clear wf1
  have hbdl0 := ulW_len hc
  obtain ⟨m0, hm0⟩ : ∃ m, (wayL (z0.take len0) x1.toNat ((z0.take len0).length / x1.toNat)).length = m := ⟨_, rfl⟩
  rw [hm0] at hbdl0
  have HR0 := Lib.hid hm0; clear hm0
  obtain ⟨LL0, hLL0⟩ : ∃ l, wayL (z0.take len0) x1.toNat ((z0.take len0).length / x1.toNat) = l := ⟨_, rfl⟩
  have HLL0 := Lib.hid hLL0; clear hLL0
  have HRL0 : Hid (LL0.length = m0) := Lib.hid (by rw [← HLL0.out]; exact HR0.out)
  have HC := Lib.hid hc; clear hc
  go_enter Try.func14, Try.ntmps14
  have B0 := Lib.hid (Below.refl w.heap.size w)
  go_wp2_with fail
  go_at_call 23
  refine (toInt64S_any a0 len0 cap0 z0 _ (W0.out.below B0.out) h0).mono ?_
  rintro e w1 ⟨gS0, rfl, hr, hg, hb⟩
  rw [HL0.out] at hr ⊢
  have B1 := Lib.hid (B0.out.trans (hb.mono B0.out.size))
  have ge_S0 : w.heap.size ≤ gS0 := by have := B0.out.size; omega
  have S0_1 := Lib.hid hr
  clear hr hb hg
  go_wp2_with fail
  go_at_call 51
  refine (specUL_yes _ gS0 len0 len0 (z0.take len0) HL0.out (Nat.le_refl _) h0 S0_1.out.rd S0_1.out.lt x1 lo1 hi1 HC.out).mono ?_
  rintro e w2 ⟨gV0, cV0, rfl, hr0, hg0, hb⟩
  rw [HLL0.out] at hr0
  rw [HR0.out]
  have S0_2 := Lib.hid (S0_1.out.below hb S0_1.out.lt)
  have B2 := Lib.hid (B1.out.trans (hb.mono B1.out.size))
  have ne_V0_S0 : gV0 ≠ gS0 := by have := S0_1.out.lt; omega
  have ge_V0 : w.heap.size ≤ gV0 := by have := B1.out.size; omega
  have V0_2 := Lib.hid hr0
  clear hb hr0 hg0
  go_wp2_with fail
  go_at_call 23
  refine (toInt64S_any a0 len0 cap0 z0 _ (W0.out.below B2.out) h0).mono ?_
  rintro e w3 ⟨gX0, rfl, hr, hg, hb⟩
  rw [HL0.out] at hr ⊢
  have V0_3 := Lib.hid (V0_2.out.below hb V0_2.out.lt)
  have B3 := Lib.hid (B2.out.trans (hb.mono B2.out.size))
  have ne_X0_V0 : gX0 ≠ gV0 := by have := V0_2.out.lt; omega
  have ge_X0 : w.heap.size ≤ gX0 := by have := B2.out.size; omega
  have X0_3 := Lib.hid hr
  clear hr hb hg
  go_wp2_with fail
  go_at_call 52
  refine (implUL_yes _ gX0 len0 len0 (z0.take len0) HL0.out (Nat.le_refl _) h0 X0_3.out.rd X0_3.out.lt x1 lo1 hi1 HC.out).mono ?_
  rintro e w4 ⟨gG0, cG0, rfl, hr0, hg0, hb⟩
  rw [HLL0.out] at hr0
  rw [HR0.out]
  have V0_4 := Lib.hid (V0_3.out.below hb V0_3.out.lt)
  have X0_4 := Lib.hid (X0_3.out.below hb X0_3.out.lt)
  have B4 := Lib.hid (B3.out.trans (hb.mono B3.out.size))
  have ne_G0_V0 : gG0 ≠ gV0 := by have := V0_3.out.lt; omega
  have ne_G0_X0 : gG0 ≠ gX0 := by have := X0_3.out.lt; omega
  have ge_G0 : w.heap.size ≤ gG0 := by have := B3.out.size; omega
  have G0_4 := Lib.hid hr0
  clear hb hr0 hg0
  go_wp2_with fail
  go_at_call 25
  refine (eqInt64S_any _ _ _ _ _ _ LL0 LL0 _ HRL0.out HRL0.out G0_4.out.at' V0_4.out.at' (by first | omega | simp) (by first | omega | simp)).mono ?_
  rintro e w5 ⟨rfl, hd⟩
  rw [eqB_self]
  have hb : Below w4.heap.size w4 w5 := hd.below
  have V0_5 := Lib.hid (V0_4.out.below hb V0_4.out.lt)
  have X0_5 := Lib.hid (X0_4.out.below hb X0_4.out.lt)
  have G0_5 := Lib.hid (G0_4.out.below hb G0_4.out.lt)
  have B5 := Lib.hid (B4.out.trans (hb.mono B4.out.size))
  clear hb hd
  go_wp2_with fail
  go_at_call 23
  refine (toInt64S_any a0 len0 cap0 z0 _ (W0.out.below B5.out) h0).mono ?_
  rintro e w6 ⟨gE0, rfl, hr, hg, hb⟩
  rw [HL0.out] at hr ⊢
  have V0_6 := Lib.hid (V0_5.out.below hb V0_5.out.lt)
  have X0_6 := Lib.hid (X0_5.out.below hb X0_5.out.lt)
  have G0_6 := Lib.hid (G0_5.out.below hb G0_5.out.lt)
  have B6 := Lib.hid (B5.out.trans (hb.mono B5.out.size))
  have ne_E0_V0 : gE0 ≠ gV0 := by have := V0_5.out.lt; omega
  have ne_E0_X0 : gE0 ≠ gX0 := by have := X0_5.out.lt; omega
  have ne_E0_G0 : gE0 ≠ gG0 := by have := G0_5.out.lt; omega
  have ge_E0 : w.heap.size ≤ gE0 := by have := B5.out.size; omega
  have E0_6 := Lib.hid hr
  clear hr hb hg
  go_wp2_with fail
  go_at_call 25
  refine (eqInt64S_any _ _ _ _ _ _ (z0.take len0) (z0.take len0) _ HL0.out HL0.out X0_6.out.at' E0_6.out.at' (by first | omega | simp) (by first | omega | simp)).mono ?_
  rintro e w7 ⟨rfl, hd⟩
  rw [eqB_self]
  have hb : Below w6.heap.size w6 w7 := hd.below
  have V0_7 := Lib.hid (V0_6.out.below hb V0_6.out.lt)
  have X0_7 := Lib.hid (X0_6.out.below hb X0_6.out.lt)
  have G0_7 := Lib.hid (G0_6.out.below hb G0_6.out.lt)
  have E0_7 := Lib.hid (E0_6.out.below hb E0_6.out.lt)
  have B7 := Lib.hid (B6.out.trans (hb.mono B6.out.size))
  clear hb hd
  go_wp2_with fail
  go_at_call 39
  refine (mark_any _ gX0 len0 len0 (z0.take len0) _ HL0.out h0 (by omega) (by omega) X0_7.out).mono ?_
  rintro e w8 ⟨rfl, _, ht⟩
  have V0_8 := Lib.hid (V0_7.out.touch ht (Ne.symm ne_X0_V0))
  have G0_8 := Lib.hid (G0_7.out.touch ht ne_G0_X0)
  have B8 := Lib.hid (B7.out.trans (ht.below ge_X0 B7.out.size))
  clear ht
  go_wp2_with fail
  go_at_call 25
  refine (eqInt64S_any _ _ _ _ _ _ LL0 LL0 _ HRL0.out HRL0.out G0_8.out.at' V0_8.out.at' (by first | omega | simp) (by first | omega | simp)).mono ?_
  rintro e w9 ⟨rfl, hd⟩
  rw [eqB_self]
  have hb : Below w8.heap.size w8 w9 := hd.below
  have V0_9 := Lib.hid (V0_8.out.below hb V0_8.out.lt)
  have G0_9 := Lib.hid (G0_8.out.below hb G0_8.out.lt)
  have B9 := Lib.hid (B8.out.trans (hb.mono B8.out.size))
  clear hb hd
  go_wp2_with fail
  go_at_call 39
  refine (mark_any _ gG0 m0 cG0 LL0 _ HRL0.out (by omega) (by omega) (by omega) G0_9.out).mono ?_
  rintro e w10 ⟨rfl, hmk, ht⟩
  have V0_10 := Lib.hid (V0_9.out.touch ht (Ne.symm ne_G0_V0))
  have B10 := Lib.hid (B9.out.trans (ht.below ge_G0 B9.out.size))
  have G0_10 := Lib.hid hmk
  clear ht hmk
  go_wp2_with fail
  go_at_call 40
  refine (held_any _ gG0 m0 cG0 _ (by omega) (by omega) (by omega) (G0_10.out.rd)).mono ?_
  rintro e w' ⟨rfl, rfl⟩
  go_wp2_with fail
  go_at_call 23
  refine (toInt64S_any a0 len0 cap0 z0 _ (W0.out.below B10.out) h0).mono ?_
  rintro e w11 ⟨gT0, rfl, hr, hg, hb⟩
  rw [HL0.out] at hr ⊢
  have V0_11 := Lib.hid (V0_10.out.below hb V0_10.out.lt)
  have G0_11 := Lib.hid (G0_10.out.below hb G0_10.out.lt)
  have B11 := Lib.hid (B10.out.trans (hb.mono B10.out.size))
  have ne_T0_V0 : gT0 ≠ gV0 := by have := V0_10.out.lt; omega
  have ne_T0_G0 : gT0 ≠ gG0 := by have := G0_10.out.lt; omega
  have ge_T0 : w.heap.size ≤ gT0 := by have := B10.out.size; omega
  have T0_11 := Lib.hid hr
  clear hr hb hg
  go_wp2_with fail
  go_at_call 52
  refine (implUL_yes _ gT0 len0 len0 (z0.take len0) HL0.out (Nat.le_refl _) h0 T0_11.out.rd T0_11.out.lt x1 lo1 hi1 HC.out).mono ?_
  rintro e w12 ⟨gH0, cH0, rfl, hr0, hg0, hb⟩
  rw [HLL0.out] at hr0
  rw [HR0.out]
  have V0_12 := Lib.hid (V0_11.out.below hb V0_11.out.lt)
  have G0_12 := Lib.hid (G0_11.out.below hb G0_11.out.lt)
  have T0_12 := Lib.hid (T0_11.out.below hb T0_11.out.lt)
  have B12 := Lib.hid (B11.out.trans (hb.mono B11.out.size))
  have ne_H0_V0 : gH0 ≠ gV0 := by have := V0_11.out.lt; omega
  have ne_H0_G0 : gH0 ≠ gG0 := by have := G0_11.out.lt; omega
  have ne_H0_T0 : gH0 ≠ gT0 := by have := T0_11.out.lt; omega
  have ge_H0 : w.heap.size ≤ gH0 := by have := B11.out.size; omega
  have H0_12 := Lib.hid hr0
  clear hb hr0 hg0
  go_wp2_with fail
  go_at_call 25
  refine (eqInt64S_any _ _ _ _ _ _ LL0 LL0 _ HRL0.out HRL0.out H0_12.out.at' V0_12.out.at' (by first | omega | simp) (by first | omega | simp)).mono ?_
  rintro e w13 ⟨rfl, hd⟩
  rw [eqB_self]
  have hb : Below w12.heap.size w12 w13 := hd.below
  have V0_13 := Lib.hid (V0_12.out.below hb V0_12.out.lt)
  have G0_13 := Lib.hid (G0_12.out.below hb G0_12.out.lt)
  have T0_13 := Lib.hid (T0_12.out.below hb T0_12.out.lt)
  have H0_13 := Lib.hid (H0_12.out.below hb H0_12.out.lt)
  have B13 := Lib.hid (B12.out.trans (hb.mono B12.out.size))
  clear hb hd
  go_wp2_with fail
  go_at_call 40
  refine (held_any _ gG0 m0 cG0 _ (by omega) (by omega) (by omega) (G0_13.out.rd)).mono ?_
  rintro e w' ⟨rfl, rfl⟩
  go_wp2
  go_ret
  exact ⟨rfl, B13.out⟩

set_option maxHeartbeats 4000000 in
theorem unlikeLeast_walk (a0 : Option Addr) (len0 cap0 : Nat) (z0 : List Int) (x1 : Int) (w : World) (w0 : IsRow .i64 w a0 len0 cap0 z0) (wf1 : (Lit.int .i64 x1).wf = true) :
    Calls Try.prog 14 #[.slice a0 len0 cap0, .int .i64 x1] w fun e w' => e = .returned (.bool true) ∧ Below w.heap.size w w' := by
  by_cases h0 : len0 ≤ 1048576
  case neg =>
    clear w0
    go_enter Try.func14, Try.ntmps14
    go_wp2
    go_ret
    exact ⟨rfl, .refl _ _⟩
  cases hc : ulB (z0.take len0) x1
  · exact unlikeLeast_walk_no a0 len0 cap0 z0 x1 w w0 wf1 h0 hc
  · exact unlikeLeast_walk_yes a0 len0 cap0 z0 x1 w w0 wf1 h0 hc

end Go.Proofs.Ytncmhinpjkkfkaa
