/-
  Walks: the law MeanFlow, its two functions put together. Conditions: none.
-/
import Derived.Test.YtncmhinpjkkfkaaK20
namespace Go.Proofs.Ytncmhinpjkkfkaa
open Go Go.RowKit Flo Val

attribute [local go_sem] run_fadd run_fsub run_fmul run_fquo run_fconv

theorem specMean (w : World) (g n c : Nat) (js : List J) (hn : js.length = n) (hcap : n ≤ c) (hm : n ≤ 1048576) (hj : JRd w g 0 js) (hg : g < w.heap.size) (g' n' c' : Nat) (xs : List Int) (hn' : xs.length = n') (hcap' : n' ≤ c') (hm' : n' ≤ 1048576) (hx : Rd w g' 0 xs) (hg' : g' < w.heap.size) : Calls Try.prog 53 #[.slice (some ⟨g, 0, none⟩) n c, .slice (some ⟨g', 0, none⟩) n' c'] w (MeanP js xs w) := by
  cases hc : canB js xs
  · exact specMean_no w g n c js hn hcap hm hj hg g' n' c' xs hn' hcap' hm' hx hg' hc
  · exact specMean_yes w g n c js hn hcap hm hj hg g' n' c' xs hn' hcap' hm' hx hg' hc
theorem implMean (w : World) (g n c : Nat) (js : List J) (hn : js.length = n) (hcap : n ≤ c) (hm : n ≤ 1048576) (hj : JRd w g 0 js) (hg : g < w.heap.size) (g' n' c' : Nat) (xs : List Int) (hn' : xs.length = n') (hcap' : n' ≤ c') (hm' : n' ≤ 1048576) (hx : Rd w g' 0 xs) (hg' : g' < w.heap.size) : Calls Try.prog 54 #[.slice (some ⟨g, 0, none⟩) n c, .slice (some ⟨g', 0, none⟩) n' c'] w (MeanP js xs w) := by
  cases hc : canB js xs
  · exact implMean_no w g n c js hn hcap hm hj hg g' n' c' xs hn' hcap' hm' hx hg' hc
  · exact implMean_yes w g n c js hn hcap hm hj hg g' n' c' xs hn' hcap' hm' hx hg' hc
set_option maxHeartbeats 4000000 in
set_option maxRecDepth 100000 in
theorem meanFlow_walk (a0 : Option Addr) (len0 cap0 : Nat) (z0 : List J) (a1 : Option Addr) (len1 cap1 : Nat) (z1 : List Int) (w : World) (w0 : IsJobs w a0 len0 z0 ∧ len0 ≤ maxLen) (w1 : IsRow .i64 w a1 len1 cap1 z1) :
    Calls Try.prog 15 #[.slice a0 len0 cap0, .slice a1 len1 cap1] w fun e w' => e = .returned (.bool true) ∧ Below w.heap.size w w' := by
  have hlz1 := w1.len
  have HLm1 : len1 ≤ 9223372036854775807 := by
    have := w1; rcases this with ⟨_, h, _, _⟩ | ⟨_, _, h1, h2, _⟩ <;> (try simp only [maxLen] at *) <;> omega
  have W1 := Lib.hid w1; clear w1
  have HL1 := Lib.hid (take_len hlz1)
  clear hlz1
  obtain ⟨w0, hlen0⟩ := w0
  have W0 := Lib.hid w0; clear w0
  have HL0 := Lib.hid W0.out.1
  unfold maxLen at hlen0
  by_cases h1 : len1 ≤ 1048576
  case neg =>
    go_enter Try.func15, Try.ntmps15
    go_wp2
    go_ret
    exact ⟨rfl, .refl _ _⟩
  by_cases hs0 : len0 ≤ 1048576
  case neg =>
    have hz0 : szV (1048576) len0 = -1 := by unfold szV; rw [if_pos (by omega)]
    have HZ0 := Lib.hid hz0; clear hz0
    go_enter Try.func15, Try.ntmps15
    go_wp2_with fail
    go_at_call 26
    refine (szJobS_any _ _ _ _ _ (by omega) (by omega) (by omega)).mono ?_
    rintro e w' ⟨rfl, rfl⟩
    rw [HZ0.out]
    go_wp2
    go_ret
    exact ⟨rfl, .refl _ _⟩
  have hz0 : szV (1048576) len0 = 1048576 - len0 := by unfold szV; rw [if_neg (by omega)]
  have HZ0 := Lib.hid hz0; clear hz0
  have h0 : len0 ≤ 1048576 := by omega
  go_enter Try.func15, Try.ntmps15
  go_wp2_with fail
  go_at_call 26
  refine (szJobS_any _ _ _ _ _ (by omega) (by omega) (by omega)).mono ?_
  rintro e w' ⟨rfl, rfl⟩
  rw [HZ0.out]
  have B0 := Lib.hid (Below.refl w.heap.size w)
  go_wp2_with fail
  go_at_call 28
  refine (toJobS_any a0 len0 cap0 z0 _ (W0.out.below B0.out) h0).mono ?_
  rintro e w1 ⟨gS0, rfl, hr, hg, hb⟩
  rw [HL0.out]
  have B1 := Lib.hid (B0.out.trans (hb.mono B0.out.size))
  have S0_1 := Lib.hid hr; clear hr hb hg
  go_wp2_with fail
  go_at_call 23
  refine (toInt64S_any a1 len1 cap1 z1 _ (W1.out.below B1.out) h1).mono ?_
  rintro e w2 ⟨gS1, rfl, hr, hg, hb⟩
  rw [HL1.out] at hr ⊢
  have S0_2 := Lib.hid (S0_1.out.below hb S0_1.out.lt)
  have B2 := Lib.hid (B1.out.trans (hb.mono B1.out.size))
  have S1_2 := Lib.hid hr; clear hr hb hg
  go_wp2_with fail
  go_at_call 53
  refine (specMean _ gS0 len0 len0 z0 HL0.out (Nat.le_refl _) h0 S0_2.out.rd S0_2.out.lt gS1 len1 len1 (z1.take len1) HL1.out (Nat.le_refl _) h1 S1_2.out.rd S1_2.out.lt).mono ?_
  rintro e w3 ⟨F53, rfl, hF53, hb⟩
  have HF53 := Lib.hid hF53; clear hF53
  have S0_3 := Lib.hid (S0_2.out.below hb S0_2.out.lt)
  have S1_3 := Lib.hid (S1_2.out.below hb S1_2.out.lt)
  have B3 := Lib.hid (B2.out.trans (hb.mono B2.out.size))
  clear hb
  go_wp2_with fail
  go_at_call 28
  refine (toJobS_any a0 len0 cap0 z0 _ (W0.out.below B3.out) h0).mono ?_
  rintro e w4 ⟨gX0, rfl, hr, hg, hb⟩
  rw [HL0.out]
  have B4 := Lib.hid (B3.out.trans (hb.mono B3.out.size))
  have X0_4 := Lib.hid hr; clear hr hb hg
  go_wp2_with fail
  go_at_call 23
  refine (toInt64S_any a1 len1 cap1 z1 _ (W1.out.below B4.out) h1).mono ?_
  rintro e w5 ⟨gX1, rfl, hr, hg, hb⟩
  rw [HL1.out] at hr ⊢
  have X0_5 := Lib.hid (X0_4.out.below hb X0_4.out.lt)
  have B5 := Lib.hid (B4.out.trans (hb.mono B4.out.size))
  have X1_5 := Lib.hid hr; clear hr hb hg
  go_wp2_with fail
  go_at_call 54
  refine (implMean _ gX0 len0 len0 z0 HL0.out (Nat.le_refl _) h0 X0_5.out.rd X0_5.out.lt gX1 len1 len1 (z1.take len1) HL1.out (Nat.le_refl _) h1 X1_5.out.rd X1_5.out.lt).mono ?_
  rintro e w6 ⟨F54, rfl, hF54, hb⟩
  have HF54 := Lib.hid hF54; clear hF54
  have X0_6 := Lib.hid (X0_5.out.below hb X0_5.out.lt)
  have X1_6 := Lib.hid (X1_5.out.below hb X1_5.out.lt)
  have B6 := Lib.hid (B5.out.trans (hb.mono B5.out.size))
  clear hb
  go_wp2_with fail
  go_at_call 55
  refine (sameFloat_like _ _ _ (like_conv2 (HF54.out.trans HF53.out.symm))).mono ?_
  rintro e w7 ⟨rfl, hd⟩
  have hb : Below w6.heap.size w6 w7 := Dr.below (by first | exact hd | exact ((Dr.one _ _).trans hd) | exact (((Dr.one _ _).drewN _).trans hd))
  clear hd
  have X0_7 := Lib.hid (X0_6.out.below hb X0_6.out.lt)
  have X1_7 := Lib.hid (X1_6.out.below hb X1_6.out.lt)
  have B7 := Lib.hid (B6.out.trans (hb.mono B6.out.size))
  clear hb
  go_wp2_with fail
  go_at_call 28
  refine (toJobS_any a0 len0 cap0 z0 _ (W0.out.below B7.out) h0).mono ?_
  rintro e w8 ⟨gE0, rfl, hr, hg, hb⟩
  rw [HL0.out]
  have X0_8 := Lib.hid (X0_7.out.below hb X0_7.out.lt)
  have X1_8 := Lib.hid (X1_7.out.below hb X1_7.out.lt)
  have B8 := Lib.hid (B7.out.trans (hb.mono B7.out.size))
  have E0_8 := Lib.hid hr; clear hr hb hg
  go_wp2_with fail
  go_at_call 30
  refine (eqJobS_any _ _ len0 len0 len0 len0 z0 z0 _ HL0.out HL0.out X0_8.out.at' E0_8.out.at' h0 h0).mono ?_
  rintro e w9 ⟨rfl, hb⟩
  rw [eqJs_self]
  have X0_9 := Lib.hid (X0_8.out.below hb X0_8.out.lt)
  have X1_9 := Lib.hid (X1_8.out.below hb X1_8.out.lt)
  have B9 := Lib.hid (B8.out.trans (hb.mono B8.out.size))
  clear hb
  go_wp2_with fail
  go_at_call 23
  refine (toInt64S_any a1 len1 cap1 z1 _ (W1.out.below B9.out) h1).mono ?_
  rintro e w10 ⟨gE1, rfl, hr, hg, hb⟩
  rw [HL1.out] at hr ⊢
  have X0_10 := Lib.hid (X0_9.out.below hb X0_9.out.lt)
  have X1_10 := Lib.hid (X1_9.out.below hb X1_9.out.lt)
  have B10 := Lib.hid (B9.out.trans (hb.mono B9.out.size))
  have E1_10 := Lib.hid hr; clear hr hb hg
  go_wp2_with fail
  go_at_call 25
  refine (eqInt64S_any _ _ len1 len1 len1 len1 (z1.take len1) (z1.take len1) _ HL1.out HL1.out X1_10.out.at' E1_10.out.at' h1 h1).mono ?_
  rintro e w11 ⟨rfl, hd⟩
  rw [eqB_self]
  have hb : Below w10.heap.size w10 w11 := hd.below
  have X0_11 := Lib.hid (X0_10.out.below hb X0_10.out.lt)
  have X1_11 := Lib.hid (X1_10.out.below hb X1_10.out.lt)
  have B11 := Lib.hid (B10.out.trans (hb.mono B10.out.size))
  clear hb
  go_wp2
  go_ret
  exact ⟨rfl, B11.out⟩

end Go.Proofs.Ytncmhinpjkkfkaa
