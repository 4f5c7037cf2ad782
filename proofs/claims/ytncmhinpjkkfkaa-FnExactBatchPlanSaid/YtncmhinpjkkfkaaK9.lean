/-
  Walks: the law EndsOf. Conditions: none.
-/
import Derived.Test.YtncmhinpjkkfkaaK8
set_option linter.unusedVariables false
set_option linter.unusedSimpArgs false
namespace Go.Proofs.Ytncmhinpjkkfkaa
open Go Go.RowKit

/-- One slice of integers in new memory among the results. -/
def Res1 (w : World) (xs : List Int) (mk : Value → Value) (e : Ending) (w' : World) : Prop :=
  ∃ G c, e = .returned (mk (.slice (some ⟨G, 0, none⟩) xs.length c)) ∧ Row w' G 2 c (xs.map (Value.int .i64)) ∧ w.heap.size ≤ G ∧ Below w.heap.size w w'

theorem endsL_len {js : List J} {xs : List Int} (h : canB js xs = true) : (endsL js xs).length ≤ 1048576 := by
  obtain ⟨hj, _, _⟩ := canB_of h
  obtain ⟨_, n2, _⟩ := jobsB_of hj
  unfold endsL
  rw [endsK_len js xs _ (Nat.le_refl _)]; omega

theorem specEndsOf_no (w : World) (g n c : Nat) (js : List J) (hn : js.length = n) (hcap : n ≤ c) (hm : n ≤ 1048576) (hj : JRd w g 0 js) (hg : g < w.heap.size) (g' n' c' : Nat) (xs : List Int) (hn' : xs.length = n') (hcap' : n' ≤ c') (hm' : n' ≤ 1048576) (hx : Rd w g' 0 xs) (hg' : g' < w.heap.size) (hc : canB js xs = false) :
    Calls Try.prog 56 #[.slice (some ⟨g, 0, none⟩) n c, .slice (some ⟨g', 0, none⟩) n' c'] w fun e w' => e = .returned (.tuple #[.slice none 0 0, .bool false]) ∧ Below w.heap.size w w' := by
  have HN := Lib.hid hn; have HN' := Lib.hid hn'; have HJ := Lib.hid hj; have HX := Lib.hid hx
  clear hn hn' hj hx
  go_enter Try.func56, Try.ntmps56
  go_wp2_with (go_at_call 106; refine (specCan_any _ g n c js HN.out hcap hm HJ.out g' n' c' xs HN'.out hcap' hm' HX.out).mono ?_; rintro e w1 ⟨rfl, hd⟩; rw [hc]; have hb : Below w.heap.size w w1 := hd.below; have hj1 := HJ.out.below hb hg; have hx1 := HX.out.below hb hg'; have J1 := Lib.hid hj1; have X1 := Lib.hid hx1; clear hj1 hx1)
  go_ret2
  exact ⟨rfl, hb⟩

theorem specEndsOf_yes (w : World) (g n c : Nat) (js : List J) (hn : js.length = n) (hcap : n ≤ c) (hm : n ≤ 1048576) (hj : JRd w g 0 js) (hg : g < w.heap.size) (g' n' c' : Nat) (xs : List Int) (hn' : xs.length = n') (hcap' : n' ≤ c') (hm' : n' ≤ 1048576) (hx : Rd w g' 0 xs) (hg' : g' < w.heap.size) (hc : canB js xs = true) :
    Calls Try.prog 56 #[.slice (some ⟨g, 0, none⟩) n c, .slice (some ⟨g', 0, none⟩) n' c'] w (Res1 w (endsL js xs) fun v => .tuple #[v, .bool true]) := by
  have HN := Lib.hid hn; have HN' := Lib.hid hn'; have HJ := Lib.hid hj; have HX := Lib.hid hx
  have hfin : ∀ w1 e w', Below w.heap.size w w1 → Made w1 (endsL js xs) e w' → ∃ v, e = .returned v ∧ Res1 w (endsL js xs) (fun v => .tuple #[v, .bool true]) (.returned (.tuple #[v, .bool true])) w' := by
    rintro w1 e w' h1 ⟨G, rfl, h2, h3, h4⟩
    exact ⟨_, rfl, G, _, rfl, h2, by have := h1.size; omega, h1.trans (h4.mono h1.size)⟩
  have HF := Lib.hid hfin
  clear hn hn' hj hx hfin
  go_enter Try.func56, Try.ntmps56
  go_wp2_with (first
    | (go_at_call 106; refine (specCan_any _ g n c js HN.out hcap hm HJ.out g' n' c' xs HN'.out hcap' hm' HX.out).mono ?_; rintro e w1 ⟨rfl, hd⟩; rw [hc]; have hb : Below w.heap.size w w1 := hd.below; have hj1 := HJ.out.below hb hg; have hx1 := HX.out.below hb hg'; have J1 := Lib.hid hj1; have X1 := Lib.hid hx1; clear hj1 hx1)
    | (go_at_call 107; refine (l02Ends_any _ g n c js HN.out J1.out (by have := hb.size; omega) g' n' c' xs HN'.out X1.out (by have := hb.size; omega) hc).mono ?_; intro e w2 hmade; obtain ⟨v, rfl, hres⟩ := HF.out _ _ _ hb hmade; clear hmade))
  go_ret2
  exact hres

theorem implEndsOf_no (w : World) (g n c : Nat) (js : List J) (hn : js.length = n) (hcap : n ≤ c) (hm : n ≤ 1048576) (hj : JRd w g 0 js) (hg : g < w.heap.size) (g' n' c' : Nat) (xs : List Int) (hn' : xs.length = n') (hcap' : n' ≤ c') (hm' : n' ≤ 1048576) (hx : Rd w g' 0 xs) (hg' : g' < w.heap.size) (hc : canB js xs = false) :
    Calls Try.prog 57 #[.slice (some ⟨g, 0, none⟩) n c, .slice (some ⟨g', 0, none⟩) n' c'] w fun e w' => e = .returned (.tuple #[.slice none 0 0, .bool false]) ∧ Below w.heap.size w w' := by
  have HN := Lib.hid hn; have HN' := Lib.hid hn'; have HJ := Lib.hid hj; have HX := Lib.hid hx
  clear hn hn' hj hx
  go_enter Try.func57, Try.ntmps57
  go_wp2_with (go_at_call 108; refine (implOrders_any _ g n c js HN.out hm HJ.out hg g' n' c' xs HN'.out hm' HX.out hg').mono ?_; rintro e w1 ⟨rfl, hb⟩; rw [hc]; have hj1 := HJ.out.below hb hg; have hx1 := HX.out.below hb hg'; have J1 := Lib.hid hj1; have X1 := Lib.hid hx1; clear hj1 hx1)
  go_ret2
  exact ⟨rfl, hb⟩

theorem implEndsOf_yes (w : World) (g n c : Nat) (js : List J) (hn : js.length = n) (hcap : n ≤ c) (hm : n ≤ 1048576) (hj : JRd w g 0 js) (hg : g < w.heap.size) (g' n' c' : Nat) (xs : List Int) (hn' : xs.length = n') (hcap' : n' ≤ c') (hm' : n' ≤ 1048576) (hx : Rd w g' 0 xs) (hg' : g' < w.heap.size) (hc : canB js xs = true) :
    Calls Try.prog 57 #[.slice (some ⟨g, 0, none⟩) n c, .slice (some ⟨g', 0, none⟩) n' c'] w (Res1 w (endsL js xs) fun v => .tuple #[v, .bool true]) := by
  have HN := Lib.hid hn; have HN' := Lib.hid hn'; have HJ := Lib.hid hj; have HX := Lib.hid hx
  have hfin : ∀ w1 e w', Below w.heap.size w w1 → Made w1 (endsL js xs) e w' → ∃ v, e = .returned v ∧ Res1 w (endsL js xs) (fun v => .tuple #[v, .bool true]) (.returned (.tuple #[v, .bool true])) w' := by
    rintro w1 e w' h1 ⟨G, rfl, h2, h3, h4⟩
    exact ⟨_, rfl, G, _, rfl, h2, by have := h1.size; omega, h1.trans (h4.mono h1.size)⟩
  have HF := Lib.hid hfin
  clear hn hn' hj hx hfin
  go_enter Try.func57, Try.ntmps57
  go_wp2_with (first
    | (go_at_call 108; refine (implOrders_any _ g n c js HN.out hm HJ.out hg g' n' c' xs HN'.out hm' HX.out hg').mono ?_; rintro e w1 ⟨rfl, hb⟩; rw [hc]; have hj1 := HJ.out.below hb hg; have hx1 := HX.out.below hb hg'; have J1 := Lib.hid hj1; have X1 := Lib.hid hx1; clear hj1 hx1)
    | (go_at_call 109; refine (implEnds_any _ g n c js HN.out J1.out (by have := hb.size; omega) g' n' c' xs HN'.out X1.out (by have := hb.size; omega) hc).mono ?_; intro e w2 hmade; obtain ⟨v, rfl, hres⟩ := HF.out _ _ _ hb hmade; clear hmade))
  go_ret2
  exact hres

set_option maxHeartbeats 8000000 in
set_option maxRecDepth 100000 in
theorem endsOf_walk_no (a0 : Option Addr) (len0 cap0 : Nat) (z0 : List J) (a1 : Option Addr) (len1 cap1 : Nat) (z1 : List Int) (w : World) (w0 : IsJobs w a0 len0 z0 ∧ len0 ≤ maxLen) (w1 : IsRow .i64 w a1 len1 cap1 z1) (h1 : len1 ≤ 1048576) (h0 : len0 ≤ 1048576) (hc : canB z0 (z1.take len1) = false) :
    Calls Try.prog 16 #[.slice a0 len0 cap0, .slice a1 len1 cap1] w fun e w' => e = .returned (.bool true) ∧ Below w.heap.size w w' := by
  have hlz1 := w1.len
  have HLm1 : len1 ≤ 9223372036854775807 := by
    have := w1; rcases this with ⟨_, h, _, _⟩ | ⟨_, _, h1, h2, _⟩ <;> simp only [maxLen] at * <;> omega
  have W1 := Lib.hid w1; clear w1
  have HL1 := Lib.hid (take_len hlz1)
  clear hlz1
  obtain ⟨w0, hlen0⟩ := w0
  have W0 := Lib.hid w0; clear w0
  have HL0 := Lib.hid W0.out.1
  unfold maxLen at hlen0
  have HC := Lib.hid hc; clear hc
  have hz0 : szV (1048576) len0 = 1048576 - len0 := by unfold szV; rw [if_neg (by omega)]
  have HZ0 := Lib.hid hz0; clear hz0
  go_enter Try.func16, Try.ntmps16
  go_wp2_with fail
  go_at_call 26
  refine (szJobS_any _ _ _ _ _ (by omega) (by omega) (by omega)).mono ?_
  rintro e w' ⟨rfl, rfl⟩
  rw [HZ0.out]
  have B0 := Lib.hid (Below.refl w.heap.size w)
  go_wp2_with fail
  go_at_call 28
  refine (toJobS_any a0 len0 cap0 z0 _ (W0.out.below B0.out) h0).mono ?_
  rintro e w1 ⟨gS0, rfl, hr, hg, hb⟩
  rw [HL0.out]
  have B1 := Lib.hid (B0.out.trans (hb.mono B0.out.size))
  have ge_S0 : w.heap.size ≤ gS0 := by have := B0.out.size; omega
  have S0_1 := Lib.hid hr
  clear hr hb hg
  go_wp2_with fail
  go_at_call 23
  refine (toInt64S_any a1 len1 cap1 z1 _ (W1.out.below B1.out) h1).mono ?_
  rintro e w2 ⟨gS1, rfl, hr, hg, hb⟩
  rw [HL1.out] at hr ⊢
  have S0_2 := Lib.hid (S0_1.out.below hb S0_1.out.lt)
  have B2 := Lib.hid (B1.out.trans (hb.mono B1.out.size))
  have ne_S1_S0 : gS1 ≠ gS0 := by have := S0_1.out.lt; omega
  have ge_S1 : w.heap.size ≤ gS1 := by have := B1.out.size; omega
  have S1_2 := Lib.hid hr
  clear hr hb hg
  go_wp2_with fail
  go_at_call 56
  refine (specEndsOf_no _ gS0 len0 len0 z0 HL0.out (Nat.le_refl _) h0 S0_2.out.rd S0_2.out.lt gS1 len1 len1 (z1.take len1) HL1.out (Nat.le_refl _) h1 S1_2.out.rd S1_2.out.lt HC.out).mono ?_
  rintro e w3 ⟨rfl, hb⟩
  have S0_3 := Lib.hid (S0_2.out.below hb S0_2.out.lt)
  have S1_3 := Lib.hid (S1_2.out.below hb S1_2.out.lt)
  have B3 := Lib.hid (B2.out.trans (hb.mono B2.out.size))
  clear hb
  go_wp2_with fail
  go_at_call 28
  refine (toJobS_any a0 len0 cap0 z0 _ (W0.out.below B3.out) h0).mono ?_
  rintro e w4 ⟨gX0, rfl, hr, hg, hb⟩
  rw [HL0.out]
  have B4 := Lib.hid (B3.out.trans (hb.mono B3.out.size))
  have ge_X0 : w.heap.size ≤ gX0 := by have := B3.out.size; omega
  have X0_4 := Lib.hid hr
  clear hr hb hg
  go_wp2_with fail
  go_at_call 23
  refine (toInt64S_any a1 len1 cap1 z1 _ (W1.out.below B4.out) h1).mono ?_
  rintro e w5 ⟨gX1, rfl, hr, hg, hb⟩
  rw [HL1.out] at hr ⊢
  have X0_5 := Lib.hid (X0_4.out.below hb X0_4.out.lt)
  have B5 := Lib.hid (B4.out.trans (hb.mono B4.out.size))
  have ne_X1_X0 : gX1 ≠ gX0 := by have := X0_4.out.lt; omega
  have ge_X1 : w.heap.size ≤ gX1 := by have := B4.out.size; omega
  have X1_5 := Lib.hid hr
  clear hr hb hg
  go_wp2_with fail
  go_at_call 57
  refine (implEndsOf_no _ gX0 len0 len0 z0 HL0.out (Nat.le_refl _) h0 X0_5.out.rd X0_5.out.lt gX1 len1 len1 (z1.take len1) HL1.out (Nat.le_refl _) h1 X1_5.out.rd X1_5.out.lt HC.out).mono ?_
  rintro e w6 ⟨rfl, hb⟩
  have X0_6 := Lib.hid (X0_5.out.below hb X0_5.out.lt)
  have X1_6 := Lib.hid (X1_5.out.below hb X1_5.out.lt)
  have B6 := Lib.hid (B5.out.trans (hb.mono B5.out.size))
  clear hb
  go_wp2_with fail
  go_at_call 25
  refine (eqInt64S_any _ _ _ _ _ _ [] [] _ rfl rfl (.inl rfl) (.inl rfl) (by first | omega | simp) (by first | omega | simp)).mono ?_
  rintro e w7 ⟨rfl, hd⟩
  rw [eqB_self]
  have hb : Below w6.heap.size w6 w7 := hd.below
  have X0_7 := Lib.hid (X0_6.out.below hb X0_6.out.lt)
  have X1_7 := Lib.hid (X1_6.out.below hb X1_6.out.lt)
  have B7 := Lib.hid (B6.out.trans (hb.mono B6.out.size))
  clear hb hd
  go_wp2_with fail
  go_at_call 28
  refine (toJobS_any a0 len0 cap0 z0 _ (W0.out.below B7.out) h0).mono ?_
  rintro e w8 ⟨gE0, rfl, hr, hg, hb⟩
  rw [HL0.out]
  have X0_8 := Lib.hid (X0_7.out.below hb X0_7.out.lt)
  have X1_8 := Lib.hid (X1_7.out.below hb X1_7.out.lt)
  have B8 := Lib.hid (B7.out.trans (hb.mono B7.out.size))
  have ne_E0_X0 : gE0 ≠ gX0 := by have := X0_7.out.lt; omega
  have ne_E0_X1 : gE0 ≠ gX1 := by have := X1_7.out.lt; omega
  have ge_E0 : w.heap.size ≤ gE0 := by have := B7.out.size; omega
  have E0_8 := Lib.hid hr
  clear hr hb hg
  go_wp2_with fail
  go_at_call 30
  refine (eqJobS_any _ _ len0 len0 len0 len0 z0 z0 _ HL0.out HL0.out X0_8.out.at' E0_8.out.at' h0 h0).mono ?_
  rintro e w9 ⟨rfl, hb⟩
  rw [eqJs_self]
  have X0_9 := Lib.hid (X0_8.out.below hb X0_8.out.lt)
  have X1_9 := Lib.hid (X1_8.out.below hb X1_8.out.lt)
  have E0_9 := Lib.hid (E0_8.out.below hb E0_8.out.lt)
  have B9 := Lib.hid (B8.out.trans (hb.mono B8.out.size))
  clear hb
  go_wp2_with fail
  go_at_call 23
  refine (toInt64S_any a1 len1 cap1 z1 _ (W1.out.below B9.out) h1).mono ?_
  rintro e w10 ⟨gE1, rfl, hr, hg, hb⟩
  rw [HL1.out] at hr ⊢
  have X0_10 := Lib.hid (X0_9.out.below hb X0_9.out.lt)
  have X1_10 := Lib.hid (X1_9.out.below hb X1_9.out.lt)
  have B10 := Lib.hid (B9.out.trans (hb.mono B9.out.size))
  have ne_E1_X0 : gE1 ≠ gX0 := by have := X0_9.out.lt; omega
  have ne_E1_X1 : gE1 ≠ gX1 := by have := X1_9.out.lt; omega
  have ge_E1 : w.heap.size ≤ gE1 := by have := B9.out.size; omega
  have E1_10 := Lib.hid hr
  clear hr hb hg
  go_wp2_with fail
  go_at_call 25
  refine (eqInt64S_any _ _ _ _ _ _ (z1.take len1) (z1.take len1) _ HL1.out HL1.out X1_10.out.at' E1_10.out.at' (by first | omega | simp) (by first | omega | simp)).mono ?_
  rintro e w11 ⟨rfl, hd⟩
  rw [eqB_self]
  have hb : Below w10.heap.size w10 w11 := hd.below
  have X0_11 := Lib.hid (X0_10.out.below hb X0_10.out.lt)
  have X1_11 := Lib.hid (X1_10.out.below hb X1_10.out.lt)
  have E1_11 := Lib.hid (E1_10.out.below hb E1_10.out.lt)
  have B11 := Lib.hid (B10.out.trans (hb.mono B10.out.size))
  clear hb hd
  go_wp2_with fail
  go_at_call 58
  refine (markJ_any _ gX0 len0 len0 z0 _ HL0.out h0 (by omega) (by omega) X0_11.out).mono ?_
  rintro e w12 ⟨rfl, ht⟩
  have X1_12 := Lib.hid (X1_11.out.touch ht ne_X1_X0)
  have B12 := Lib.hid (B11.out.trans (ht.below ge_X0 B11.out.size))
  clear ht
  go_wp2_with fail
  go_at_call 39
  refine (mark_any _ gX1 len1 len1 (z1.take len1) _ HL1.out h1 (by omega) (by omega) X1_12.out).mono ?_
  rintro e w13 ⟨rfl, _, ht⟩
  have B13 := Lib.hid (B12.out.trans (ht.below ge_X1 B12.out.size))
  clear ht
  go_wp2_with fail
  go_at_call 25
  refine (eqInt64S_any _ _ _ _ _ _ [] [] _ rfl rfl (.inl rfl) (.inl rfl) (by first | omega | simp) (by first | omega | simp)).mono ?_
  rintro e w14 ⟨rfl, hd⟩
  rw [eqB_self]
  have hb : Below w13.heap.size w13 w14 := hd.below
  have B14 := Lib.hid (B13.out.trans (hb.mono B13.out.size))
  clear hb hd
  go_wp2_with fail
  go_at_call 39
  refine (mark_nil _ _ _ _).mono ?_
  rintro e w' ⟨rfl, rfl⟩
  go_wp2_with fail
  go_at_call 40
  refine (held_nil _ _ _ _).mono ?_
  rintro e w' ⟨rfl, rfl⟩
  go_wp2_with fail
  go_at_call 28
  refine (toJobS_any a0 len0 cap0 z0 _ (W0.out.below B14.out) h0).mono ?_
  rintro e w15 ⟨gT0, rfl, hr, hg, hb⟩
  rw [HL0.out]
  have B15 := Lib.hid (B14.out.trans (hb.mono B14.out.size))
  have ge_T0 : w.heap.size ≤ gT0 := by have := B14.out.size; omega
  have T0_15 := Lib.hid hr
  clear hr hb hg
  go_wp2_with fail
  go_at_call 23
  refine (toInt64S_any a1 len1 cap1 z1 _ (W1.out.below B15.out) h1).mono ?_
  rintro e w16 ⟨gT1, rfl, hr, hg, hb⟩
  rw [HL1.out] at hr ⊢
  have T0_16 := Lib.hid (T0_15.out.below hb T0_15.out.lt)
  have B16 := Lib.hid (B15.out.trans (hb.mono B15.out.size))
  have ne_T1_T0 : gT1 ≠ gT0 := by have := T0_15.out.lt; omega
  have ge_T1 : w.heap.size ≤ gT1 := by have := B15.out.size; omega
  have T1_16 := Lib.hid hr
  clear hr hb hg
  go_wp2_with fail
  go_at_call 57
  refine (implEndsOf_no _ gT0 len0 len0 z0 HL0.out (Nat.le_refl _) h0 T0_16.out.rd T0_16.out.lt gT1 len1 len1 (z1.take len1) HL1.out (Nat.le_refl _) h1 T1_16.out.rd T1_16.out.lt HC.out).mono ?_
  rintro e w17 ⟨rfl, hb⟩
  have T0_17 := Lib.hid (T0_16.out.below hb T0_16.out.lt)
  have T1_17 := Lib.hid (T1_16.out.below hb T1_16.out.lt)
  have B17 := Lib.hid (B16.out.trans (hb.mono B16.out.size))
  clear hb
  go_wp2_with fail
  go_at_call 25
  refine (eqInt64S_any _ _ _ _ _ _ [] [] _ rfl rfl (.inl rfl) (.inl rfl) (by first | omega | simp) (by first | omega | simp)).mono ?_
  rintro e w18 ⟨rfl, hd⟩
  rw [eqB_self]
  have hb : Below w17.heap.size w17 w18 := hd.below
  have T0_18 := Lib.hid (T0_17.out.below hb T0_17.out.lt)
  have T1_18 := Lib.hid (T1_17.out.below hb T1_17.out.lt)
  have B18 := Lib.hid (B17.out.trans (hb.mono B17.out.size))
  clear hb hd
  go_wp2_with fail
  go_at_call 40
  refine (held_nil _ _ _ _).mono ?_
  rintro e w' ⟨rfl, rfl⟩
  go_wp2
  go_ret
  exact ⟨rfl, B18.out⟩

set_option maxHeartbeats 8000000 in
set_option maxRecDepth 100000 in
theorem endsOf_walk_yes (a0 : Option Addr) (len0 cap0 : Nat) (z0 : List J) (a1 : Option Addr) (len1 cap1 : Nat) (z1 : List Int) (w : World) (w0 : IsJobs w a0 len0 z0 ∧ len0 ≤ maxLen) (w1 : IsRow .i64 w a1 len1 cap1 z1) (h1 : len1 ≤ 1048576) (h0 : len0 ≤ 1048576) (hc : canB z0 (z1.take len1) = true) :
    Calls Try.prog 16 #[.slice a0 len0 cap0, .slice a1 len1 cap1] w fun e w' => e = .returned (.bool true) ∧ Below w.heap.size w w' := by
  have hlz1 := w1.len
  have HLm1 : len1 ≤ 9223372036854775807 := by
    have := w1; rcases this with ⟨_, h, _, _⟩ | ⟨_, _, h1, h2, _⟩ <;> simp only [maxLen] at * <;> omega
  have W1 := Lib.hid w1; clear w1
  have HL1 := Lib.hid (take_len hlz1)
  clear hlz1
  obtain ⟨w0, hlen0⟩ := w0
  have W0 := Lib.hid w0; clear w0
  have HL0 := Lib.hid W0.out.1
  unfold maxLen at hlen0
  have hbdl0 := endsL_len hc
  obtain ⟨m0, hm0⟩ : ∃ m, (endsL z0 (z1.take len1)).length = m := ⟨_, rfl⟩
  rw [hm0] at hbdl0
  have HR0 := Lib.hid hm0; clear hm0
  obtain ⟨LL0, hLL0⟩ : ∃ l, endsL z0 (z1.take len1) = l := ⟨_, rfl⟩
  have HLL0 := Lib.hid hLL0; clear hLL0
  have HRL0 : Hid (LL0.length = m0) := Lib.hid (by rw [← HLL0.out]; exact HR0.out)
  have HC := Lib.hid hc; clear hc
  have hz0 : szV (1048576) len0 = 1048576 - len0 := by unfold szV; rw [if_neg (by omega)]
  have HZ0 := Lib.hid hz0; clear hz0
  go_enter Try.func16, Try.ntmps16
  go_wp2_with fail
  go_at_call 26
  refine (szJobS_any _ _ _ _ _ (by omega) (by omega) (by omega)).mono ?_
  rintro e w' ⟨rfl, rfl⟩
  rw [HZ0.out]
  have B0 := Lib.hid (Below.refl w.heap.size w)
  go_wp2_with fail
  go_at_call 28
  refine (toJobS_any a0 len0 cap0 z0 _ (W0.out.below B0.out) h0).mono ?_
  rintro e w1 ⟨gS0, rfl, hr, hg, hb⟩
  rw [HL0.out]
  have B1 := Lib.hid (B0.out.trans (hb.mono B0.out.size))
  have ge_S0 : w.heap.size ≤ gS0 := by have := B0.out.size; omega
  have S0_1 := Lib.hid hr
  clear hr hb hg
  go_wp2_with fail
  go_at_call 23
  refine (toInt64S_any a1 len1 cap1 z1 _ (W1.out.below B1.out) h1).mono ?_
  rintro e w2 ⟨gS1, rfl, hr, hg, hb⟩
  rw [HL1.out] at hr ⊢
  have S0_2 := Lib.hid (S0_1.out.below hb S0_1.out.lt)
  have B2 := Lib.hid (B1.out.trans (hb.mono B1.out.size))
  have ne_S1_S0 : gS1 ≠ gS0 := by have := S0_1.out.lt; omega
  have ge_S1 : w.heap.size ≤ gS1 := by have := B1.out.size; omega
  have S1_2 := Lib.hid hr
  clear hr hb hg
  go_wp2_with fail
  go_at_call 56
  refine (specEndsOf_yes _ gS0 len0 len0 z0 HL0.out (Nat.le_refl _) h0 S0_2.out.rd S0_2.out.lt gS1 len1 len1 (z1.take len1) HL1.out (Nat.le_refl _) h1 S1_2.out.rd S1_2.out.lt HC.out).mono ?_
  rintro e w3 ⟨gV0, cV0, rfl, hr0, hg0, hb⟩
  rw [HLL0.out] at hr0
  rw [HR0.out]
  have S0_3 := Lib.hid (S0_2.out.below hb S0_2.out.lt)
  have S1_3 := Lib.hid (S1_2.out.below hb S1_2.out.lt)
  have B3 := Lib.hid (B2.out.trans (hb.mono B2.out.size))
  have ne_V0_S0 : gV0 ≠ gS0 := by have := S0_2.out.lt; omega
  have ne_V0_S1 : gV0 ≠ gS1 := by have := S1_2.out.lt; omega
  have ge_V0 : w.heap.size ≤ gV0 := by have := B2.out.size; omega
  have V0_3 := Lib.hid hr0
  clear hb hr0 hg0
  go_wp2_with fail
  go_at_call 28
  refine (toJobS_any a0 len0 cap0 z0 _ (W0.out.below B3.out) h0).mono ?_
  rintro e w4 ⟨gX0, rfl, hr, hg, hb⟩
  rw [HL0.out]
  have V0_4 := Lib.hid (V0_3.out.below hb V0_3.out.lt)
  have B4 := Lib.hid (B3.out.trans (hb.mono B3.out.size))
  have ne_X0_V0 : gX0 ≠ gV0 := by have := V0_3.out.lt; omega
  have ge_X0 : w.heap.size ≤ gX0 := by have := B3.out.size; omega
  have X0_4 := Lib.hid hr
  clear hr hb hg
  go_wp2_with fail
  go_at_call 23
  refine (toInt64S_any a1 len1 cap1 z1 _ (W1.out.below B4.out) h1).mono ?_
  rintro e w5 ⟨gX1, rfl, hr, hg, hb⟩
  rw [HL1.out] at hr ⊢
  have V0_5 := Lib.hid (V0_4.out.below hb V0_4.out.lt)
  have X0_5 := Lib.hid (X0_4.out.below hb X0_4.out.lt)
  have B5 := Lib.hid (B4.out.trans (hb.mono B4.out.size))
  have ne_X1_V0 : gX1 ≠ gV0 := by have := V0_4.out.lt; omega
  have ne_X1_X0 : gX1 ≠ gX0 := by have := X0_4.out.lt; omega
  have ge_X1 : w.heap.size ≤ gX1 := by have := B4.out.size; omega
  have X1_5 := Lib.hid hr
  clear hr hb hg
  go_wp2_with fail
  go_at_call 57
  refine (implEndsOf_yes _ gX0 len0 len0 z0 HL0.out (Nat.le_refl _) h0 X0_5.out.rd X0_5.out.lt gX1 len1 len1 (z1.take len1) HL1.out (Nat.le_refl _) h1 X1_5.out.rd X1_5.out.lt HC.out).mono ?_
  rintro e w6 ⟨gG0, cG0, rfl, hr0, hg0, hb⟩
  rw [HLL0.out] at hr0
  rw [HR0.out]
  have V0_6 := Lib.hid (V0_5.out.below hb V0_5.out.lt)
  have X0_6 := Lib.hid (X0_5.out.below hb X0_5.out.lt)
  have X1_6 := Lib.hid (X1_5.out.below hb X1_5.out.lt)
  have B6 := Lib.hid (B5.out.trans (hb.mono B5.out.size))
  have ne_G0_V0 : gG0 ≠ gV0 := by have := V0_5.out.lt; omega
  have ne_G0_X0 : gG0 ≠ gX0 := by have := X0_5.out.lt; omega
  have ne_G0_X1 : gG0 ≠ gX1 := by have := X1_5.out.lt; omega
  have ge_G0 : w.heap.size ≤ gG0 := by have := B5.out.size; omega
  have G0_6 := Lib.hid hr0
  clear hb hr0 hg0
  go_wp2_with fail
  go_at_call 25
  refine (eqInt64S_any _ _ _ _ _ _ LL0 LL0 _ HRL0.out HRL0.out G0_6.out.at' V0_6.out.at' (by first | omega | simp) (by first | omega | simp)).mono ?_
  rintro e w7 ⟨rfl, hd⟩
  rw [eqB_self]
  have hb : Below w6.heap.size w6 w7 := hd.below
  have V0_7 := Lib.hid (V0_6.out.below hb V0_6.out.lt)
  have X0_7 := Lib.hid (X0_6.out.below hb X0_6.out.lt)
  have X1_7 := Lib.hid (X1_6.out.below hb X1_6.out.lt)
  have G0_7 := Lib.hid (G0_6.out.below hb G0_6.out.lt)
  have B7 := Lib.hid (B6.out.trans (hb.mono B6.out.size))
  clear hb hd
  go_wp2_with fail
  go_at_call 28
  refine (toJobS_any a0 len0 cap0 z0 _ (W0.out.below B7.out) h0).mono ?_
  rintro e w8 ⟨gE0, rfl, hr, hg, hb⟩
  rw [HL0.out]
  have V0_8 := Lib.hid (V0_7.out.below hb V0_7.out.lt)
  have X0_8 := Lib.hid (X0_7.out.below hb X0_7.out.lt)
  have X1_8 := Lib.hid (X1_7.out.below hb X1_7.out.lt)
  have G0_8 := Lib.hid (G0_7.out.below hb G0_7.out.lt)
  have B8 := Lib.hid (B7.out.trans (hb.mono B7.out.size))
  have ne_E0_V0 : gE0 ≠ gV0 := by have := V0_7.out.lt; omega
  have ne_E0_X0 : gE0 ≠ gX0 := by have := X0_7.out.lt; omega
  have ne_E0_X1 : gE0 ≠ gX1 := by have := X1_7.out.lt; omega
  have ne_E0_G0 : gE0 ≠ gG0 := by have := G0_7.out.lt; omega
  have ge_E0 : w.heap.size ≤ gE0 := by have := B7.out.size; omega
  have E0_8 := Lib.hid hr
  clear hr hb hg
  go_wp2_with fail
  go_at_call 30
  refine (eqJobS_any _ _ len0 len0 len0 len0 z0 z0 _ HL0.out HL0.out X0_8.out.at' E0_8.out.at' h0 h0).mono ?_
  rintro e w9 ⟨rfl, hb⟩
  rw [eqJs_self]
  have V0_9 := Lib.hid (V0_8.out.below hb V0_8.out.lt)
  have X0_9 := Lib.hid (X0_8.out.below hb X0_8.out.lt)
  have X1_9 := Lib.hid (X1_8.out.below hb X1_8.out.lt)
  have G0_9 := Lib.hid (G0_8.out.below hb G0_8.out.lt)
  have E0_9 := Lib.hid (E0_8.out.below hb E0_8.out.lt)
  have B9 := Lib.hid (B8.out.trans (hb.mono B8.out.size))
  clear hb
  go_wp2_with fail
  go_at_call 23
  refine (toInt64S_any a1 len1 cap1 z1 _ (W1.out.below B9.out) h1).mono ?_
  rintro e w10 ⟨gE1, rfl, hr, hg, hb⟩
  rw [HL1.out] at hr ⊢
  have V0_10 := Lib.hid (V0_9.out.below hb V0_9.out.lt)
  have X0_10 := Lib.hid (X0_9.out.below hb X0_9.out.lt)
  have X1_10 := Lib.hid (X1_9.out.below hb X1_9.out.lt)
  have G0_10 := Lib.hid (G0_9.out.below hb G0_9.out.lt)
  have B10 := Lib.hid (B9.out.trans (hb.mono B9.out.size))
  have ne_E1_V0 : gE1 ≠ gV0 := by have := V0_9.out.lt; omega
  have ne_E1_X0 : gE1 ≠ gX0 := by have := X0_9.out.lt; omega
  have ne_E1_X1 : gE1 ≠ gX1 := by have := X1_9.out.lt; omega
  have ne_E1_G0 : gE1 ≠ gG0 := by have := G0_9.out.lt; omega
  have ge_E1 : w.heap.size ≤ gE1 := by have := B9.out.size; omega
  have E1_10 := Lib.hid hr
  clear hr hb hg
  go_wp2_with fail
  go_at_call 25
  refine (eqInt64S_any _ _ _ _ _ _ (z1.take len1) (z1.take len1) _ HL1.out HL1.out X1_10.out.at' E1_10.out.at' (by first | omega | simp) (by first | omega | simp)).mono ?_
  rintro e w11 ⟨rfl, hd⟩
  rw [eqB_self]
  have hb : Below w10.heap.size w10 w11 := hd.below
  have V0_11 := Lib.hid (V0_10.out.below hb V0_10.out.lt)
  have X0_11 := Lib.hid (X0_10.out.below hb X0_10.out.lt)
  have X1_11 := Lib.hid (X1_10.out.below hb X1_10.out.lt)
  have G0_11 := Lib.hid (G0_10.out.below hb G0_10.out.lt)
  have E1_11 := Lib.hid (E1_10.out.below hb E1_10.out.lt)
  have B11 := Lib.hid (B10.out.trans (hb.mono B10.out.size))
  clear hb hd
  go_wp2_with fail
  go_at_call 58
  refine (markJ_any _ gX0 len0 len0 z0 _ HL0.out h0 (by omega) (by omega) X0_11.out).mono ?_
  rintro e w12 ⟨rfl, ht⟩
  have V0_12 := Lib.hid (V0_11.out.touch ht (Ne.symm ne_X0_V0))
  have X1_12 := Lib.hid (X1_11.out.touch ht ne_X1_X0)
  have G0_12 := Lib.hid (G0_11.out.touch ht ne_G0_X0)
  have B12 := Lib.hid (B11.out.trans (ht.below ge_X0 B11.out.size))
  clear ht
  go_wp2_with fail
  go_at_call 39
  refine (mark_any _ gX1 len1 len1 (z1.take len1) _ HL1.out h1 (by omega) (by omega) X1_12.out).mono ?_
  rintro e w13 ⟨rfl, _, ht⟩
  have V0_13 := Lib.hid (V0_12.out.touch ht (Ne.symm ne_X1_V0))
  have G0_13 := Lib.hid (G0_12.out.touch ht ne_G0_X1)
  have B13 := Lib.hid (B12.out.trans (ht.below ge_X1 B12.out.size))
  clear ht
  go_wp2_with fail
  go_at_call 25
  refine (eqInt64S_any _ _ _ _ _ _ LL0 LL0 _ HRL0.out HRL0.out G0_13.out.at' V0_13.out.at' (by first | omega | simp) (by first | omega | simp)).mono ?_
  rintro e w14 ⟨rfl, hd⟩
  rw [eqB_self]
  have hb : Below w13.heap.size w13 w14 := hd.below
  have V0_14 := Lib.hid (V0_13.out.below hb V0_13.out.lt)
  have G0_14 := Lib.hid (G0_13.out.below hb G0_13.out.lt)
  have B14 := Lib.hid (B13.out.trans (hb.mono B13.out.size))
  clear hb hd
  go_wp2_with fail
  go_at_call 39
  refine (mark_any _ gG0 m0 cG0 LL0 _ HRL0.out (by omega) (by omega) (by omega) G0_14.out).mono ?_
  rintro e w15 ⟨rfl, hmk, ht⟩
  have V0_15 := Lib.hid (V0_14.out.touch ht (Ne.symm ne_G0_V0))
  have B15 := Lib.hid (B14.out.trans (ht.below ge_G0 B14.out.size))
  have G0_15 := Lib.hid hmk
  clear ht hmk
  go_wp2_with fail
  go_at_call 40
  refine (held_any _ gG0 m0 cG0 _ (by omega) (by omega) (by omega) (G0_15.out.rd)).mono ?_
  rintro e w' ⟨rfl, rfl⟩
  go_wp2_with fail
  go_at_call 28
  refine (toJobS_any a0 len0 cap0 z0 _ (W0.out.below B15.out) h0).mono ?_
  rintro e w16 ⟨gT0, rfl, hr, hg, hb⟩
  rw [HL0.out]
  have V0_16 := Lib.hid (V0_15.out.below hb V0_15.out.lt)
  have G0_16 := Lib.hid (G0_15.out.below hb G0_15.out.lt)
  have B16 := Lib.hid (B15.out.trans (hb.mono B15.out.size))
  have ne_T0_V0 : gT0 ≠ gV0 := by have := V0_15.out.lt; omega
  have ne_T0_G0 : gT0 ≠ gG0 := by have := G0_15.out.lt; omega
  have ge_T0 : w.heap.size ≤ gT0 := by have := B15.out.size; omega
  have T0_16 := Lib.hid hr
  clear hr hb hg
  go_wp2_with fail
  go_at_call 23
  refine (toInt64S_any a1 len1 cap1 z1 _ (W1.out.below B16.out) h1).mono ?_
  rintro e w17 ⟨gT1, rfl, hr, hg, hb⟩
  rw [HL1.out] at hr ⊢
  have V0_17 := Lib.hid (V0_16.out.below hb V0_16.out.lt)
  have G0_17 := Lib.hid (G0_16.out.below hb G0_16.out.lt)
  have T0_17 := Lib.hid (T0_16.out.below hb T0_16.out.lt)
  have B17 := Lib.hid (B16.out.trans (hb.mono B16.out.size))
  have ne_T1_V0 : gT1 ≠ gV0 := by have := V0_16.out.lt; omega
  have ne_T1_G0 : gT1 ≠ gG0 := by have := G0_16.out.lt; omega
  have ne_T1_T0 : gT1 ≠ gT0 := by have := T0_16.out.lt; omega
  have ge_T1 : w.heap.size ≤ gT1 := by have := B16.out.size; omega
  have T1_17 := Lib.hid hr
  clear hr hb hg
  go_wp2_with fail
  go_at_call 57
  refine (implEndsOf_yes _ gT0 len0 len0 z0 HL0.out (Nat.le_refl _) h0 T0_17.out.rd T0_17.out.lt gT1 len1 len1 (z1.take len1) HL1.out (Nat.le_refl _) h1 T1_17.out.rd T1_17.out.lt HC.out).mono ?_
  rintro e w18 ⟨gH0, cH0, rfl, hr0, hg0, hb⟩
  rw [HLL0.out] at hr0
  rw [HR0.out]
  have V0_18 := Lib.hid (V0_17.out.below hb V0_17.out.lt)
  have G0_18 := Lib.hid (G0_17.out.below hb G0_17.out.lt)
  have T0_18 := Lib.hid (T0_17.out.below hb T0_17.out.lt)
  have T1_18 := Lib.hid (T1_17.out.below hb T1_17.out.lt)
  have B18 := Lib.hid (B17.out.trans (hb.mono B17.out.size))
  have ne_H0_V0 : gH0 ≠ gV0 := by have := V0_17.out.lt; omega
  have ne_H0_G0 : gH0 ≠ gG0 := by have := G0_17.out.lt; omega
  have ne_H0_T0 : gH0 ≠ gT0 := by have := T0_17.out.lt; omega
  have ne_H0_T1 : gH0 ≠ gT1 := by have := T1_17.out.lt; omega
  have ge_H0 : w.heap.size ≤ gH0 := by have := B17.out.size; omega
  have H0_18 := Lib.hid hr0
  clear hb hr0 hg0
  go_wp2_with fail
  go_at_call 25
  refine (eqInt64S_any _ _ _ _ _ _ LL0 LL0 _ HRL0.out HRL0.out H0_18.out.at' V0_18.out.at' (by first | omega | simp) (by first | omega | simp)).mono ?_
  rintro e w19 ⟨rfl, hd⟩
  rw [eqB_self]
  have hb : Below w18.heap.size w18 w19 := hd.below
  have V0_19 := Lib.hid (V0_18.out.below hb V0_18.out.lt)
  have G0_19 := Lib.hid (G0_18.out.below hb G0_18.out.lt)
  have T0_19 := Lib.hid (T0_18.out.below hb T0_18.out.lt)
  have T1_19 := Lib.hid (T1_18.out.below hb T1_18.out.lt)
  have H0_19 := Lib.hid (H0_18.out.below hb H0_18.out.lt)
  have B19 := Lib.hid (B18.out.trans (hb.mono B18.out.size))
  clear hb hd
  go_wp2_with fail
  go_at_call 40
  refine (held_any _ gG0 m0 cG0 _ (by omega) (by omega) (by omega) (G0_19.out.rd)).mono ?_
  rintro e w' ⟨rfl, rfl⟩
  go_wp2
  go_ret
  exact ⟨rfl, B19.out⟩

set_option maxHeartbeats 4000000 in
theorem endsOf_walk (a0 : Option Addr) (len0 cap0 : Nat) (z0 : List J) (a1 : Option Addr) (len1 cap1 : Nat) (z1 : List Int) (w : World) (w0 : IsJobs w a0 len0 z0 ∧ len0 ≤ maxLen) (w1 : IsRow .i64 w a1 len1 cap1 z1) :
    Calls Try.prog 16 #[.slice a0 len0 cap0, .slice a1 len1 cap1] w fun e w' => e = .returned (.bool true) ∧ Below w.heap.size w w' := by
  by_cases h1 : len1 ≤ 1048576
  case neg =>
    clear w1 w0
    go_enter Try.func16, Try.ntmps16
    go_wp2
    go_ret
    exact ⟨rfl, .refl _ _⟩
  by_cases hs0 : len0 ≤ 1048576
  case neg =>
    have hz0 : szV (1048576) len0 = -1 := by unfold szV; rw [if_pos (by omega)]
    have HZ0 := Lib.hid hz0; clear hz0
    have hlen0 := w0.2; unfold maxLen at hlen0
    clear w1 w0
    go_enter Try.func16, Try.ntmps16
    go_wp2_with fail
    go_at_call 26
    refine (szJobS_any _ _ _ _ _ (by omega) (by omega) (by omega)).mono ?_
    rintro e w' ⟨rfl, rfl⟩
    rw [HZ0.out]
    go_wp2
    go_ret
    exact ⟨rfl, .refl _ _⟩
  have hz0 : szV (1048576) len0 = 1048576 - len0 := by unfold szV; rw [if_neg (by omega)]
  have HZ0 := Lib.hid hz0; clear hz0
  have h0 : len0 ≤ 1048576 := by omega
  cases hc : canB z0 (z1.take len1)
  · exact endsOf_walk_no a0 len0 cap0 z0 a1 len1 cap1 z1 w w0 w1 h1 h0 hc
  · exact endsOf_walk_yes a0 len0 cap0 z0 a1 len1 cap1 z1 w w0 w1 h1 h0 hc

end Go.Proofs.Ytncmhinpjkkfkaa
