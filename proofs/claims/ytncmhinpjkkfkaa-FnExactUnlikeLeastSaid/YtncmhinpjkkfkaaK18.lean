/-
  Walks: the law IsJobPlan. Conditions: none.
-/
import Derived.Test.YtncmhinpjkkfkaaK17
set_option linter.unusedVariables false
set_option linter.unusedSimpArgs false
namespace Go.Proofs.Ytncmhinpjkkfkaa
open Go Go.RowKit

set_option maxHeartbeats 4000000 in
set_option maxRecDepth 100000 in
theorem isJobPlan_any (w : World) (g n c : Nat) (js : List J) (hn : js.length = n) (hj : JRd w g 0 js) (hg : g < w.heap.size) (g' c' : Nat) (ss : List Int) (hx : Rd w g' 0 ss) (hg' : g' < w.heap.size) (hs : stB js ss = true) :
    Calls Try.prog 96 #[.slice (some ⟨g, 0, none⟩) n c, .slice (some ⟨g', 0, none⟩) n c'] w fun e w' => e = .returned (.bool (keptK js ss n)) ∧ Below w.heap.size w w' := by
  obtain ⟨hjb, hl, hsb⟩ := stB_of hs
  obtain ⟨n1, n2, hjs⟩ := jobsB_of hjb
  rw [hn] at hl n1 n2
  have hat : ∀ i, i < n → ∃ s t r u v : Int, 0 ≤ s ∧ s ≤ 1000000 ∧ 1 ≤ t ∧ t ≤ 10000 ∧ eN ss i = s ∧ (jN js i).time = t ∧ (jN js i).rel = r ∧ ∀ wr, Below w.heap.size w wr → wr.cell? ⟨g', i, none⟩ = some (.int .i64 s) ∧ wr.cell? ⟨g, i * 4, none⟩ = some (.int .i64 t) ∧ wr.cell? ⟨g, i * 4 + 1, none⟩ = some (.int .i64 r) ∧ wr.cell? ⟨g, i * 4 + 2, none⟩ = some (.int .i64 u) ∧ wr.cell? ⟨g, i * 4 + 3, none⟩ = some (.int .i64 v) := by
    intro i hi
    have b := hsb i (by omega)
    have q := hjs i (by omega)
    refine ⟨ss[i], js[i].time, js[i].rel, js[i].due, js[i].wt, b.1, b.2, q.1, q.2.1, eN_eq (by omega), by rw [jN_eq (by omega)], by rw [jN_eq (by omega)], fun wr hd => ?_⟩
    have c1 := (hx.below hd hg') i (by omega)
    obtain ⟨d0, d1, d2, d3⟩ := (hj.below hd hg) i (by omega)
    rw [Nat.zero_add] at c1 d0 d1 d2 d3
    exact ⟨c1, d0, d1, d2, d3⟩
  have HA := Lib.hid hat
  clear hat hjs hsb hl hs hjb hx hj hn
  go_enter Try.func96, Try.ntmps96
  go_wp2
  go_loopw [5, 6, 7, 10] (fun _ _ _ i wr => ∃ k : Nat, k ≤ n ∧ i = .int .i64 k ∧ keptK js ss k = true ∧ Below w.heap.size w wr) (fun _ _ _ i _ => n - (intOf i).toNat)
  case atStart => exact ⟨0, Nat.zero_le _, rfl, rfl, .refl _ _⟩
  case round =>
    obtain ⟨k, hk, rfl, hkk, hd⟩ := hrel
    have HK := Lib.hid hkk; have HD := Lib.hid hd
    clear hkk hd
    by_cases hlt : k < n
    · obtain ⟨s, t, r, u, v, s0, s1, t0, t1, es, et, er, hcell⟩ := HA.out k hlt
      obtain ⟨c1, c2, c3, c4, c5⟩ := hcell _ HD.out
      have HCk := Lib.hid hcell; have ES := Lib.hid es; have ET := Lib.hid et; have ER := Lib.hid er
      clear hcell es et er
      go_wp2
      have hbW : Below w.heap.size w (wr.alloc (.cells #[.int .i64 t, .int .i64 r, .int .i64 u, .int .i64 v] 67)) := HD.out.alloc HD.out.size _
      have d0 : (wr.alloc (.cells #[.int .i64 t, .int .i64 r, .int .i64 u, .int .i64 v] 67)).cell? ⟨wr.heap.size, 0, none⟩ = some (.int .i64 t) := by rw [cell_of_row _ _ 0 _ 67 (0, 0) (heap_alloc_new wr _)]; rfl
      have d1 : (wr.alloc (.cells #[.int .i64 t, .int .i64 r, .int .i64 u, .int .i64 v] 67)).cell? ⟨wr.heap.size, 1, none⟩ = some (.int .i64 r) := by rw [cell_of_row _ _ 1 _ 67 (0, 0) (heap_alloc_new wr _)]; rfl
      generalize wr.alloc (.cells #[.int .i64 t, .int .i64 r, .int .i64 u, .int .i64 v] 67) = W at hbW d0 d1 ⊢
      generalize wr.heap.size = B at d0 d1 ⊢
      clear c1 c2 c3 c4 c5
      have HW := Lib.hid hbW
      have HD0 : Hid (∀ w', Dr W w' → w'.cell? ⟨B, 0, none⟩ = some (.int .i64 t)) := Lib.hid (by rintro w' ⟨m, rfl⟩; exact d0)
      obtain ⟨c1, _, _, _, _⟩ := HCk.out _ hbW
      clear hbW
      by_cases hr : s < r
      · have hbad : keptK js ss n = false := keptK_bad (i := k) (by unfold badI; rw [ES.out, ER.out, decide_eq_true hr]; rfl) hlt
        have HBAD := Lib.hid hbad; clear hbad
        go_quiet (fail)
        go_wp2
        go_ret
        exact ⟨ret_bool HBAD.out.symm, below_drewN HW.out _⟩
      · have NB : Hid (decide (s < r) = false) := Lib.hid (decide_eq_false hr)
        go_quiet (fail)
        go_wp2
        go_loopw [7, 23] (fun _ m wr' => ∃ q : Nat, q ≤ k ∧ m = .int .i64 q ∧ rowK js ss k q = false ∧ Dr W wr') (fun _ m _ => k - (intOf m).toNat)
        case atStart => exact ⟨0, Nat.zero_le _, rfl, rfl, ⟨_, rfl⟩⟩
        case round =>
          obtain ⟨q, hq, rfl, hrow, hd2⟩ := hrel
          have HR := Lib.hid hrow; have HD2 := Lib.hid hd2
          have HB2 := Lib.hid (HW.out.trans hd2.below)
          clear hrow hd2 c1 d0 d1
          by_cases hlt2 : q < k
          · obtain ⟨s', t', r', u', v', s0', s1', t0', t1', es, et, er, hcell⟩ := HA.out q (by omega)
            obtain ⟨c4, c5, _, _, _⟩ := hcell _ HB2.out
            obtain ⟨c1, _, _, _, _⟩ := HCk.out _ HB2.out
            have d0 := HD0.out _ HD2.out
            have hcl : clash js ss k q = (decide (s' < s + t) && decide (s < s' + t')) := by unfold clash; rw [ES.out, ET.out, es, et]
            have hrn : rowK js ss k (q + 1) = (decide (s' < s + t) && decide (s < s' + t')) := by rw [rowK_succ, HR.out, hcl, Bool.false_or]
            have x1 : IntKind.i64.wrap (s + t) = s + t := IntWalk.i64_in _ (by omega)
            have x2 : IntKind.i64.wrap (s' + t') = s' + t' := IntWalk.i64_in _ (by omega)
            have HCL := Lib.hid hcl; have HRN := Lib.hid hrn
            clear hcell es et er hcl hrn
            by_cases h2 : s < s' + t'
            · by_cases h1 : s' < s + t
              · have hbad : keptK js ss n = false := keptK_bad (badI_row (by rw [HCL.out, decide_eq_true h1, decide_eq_true h2]; rfl) hlt2) hlt
                have HBAD := Lib.hid hbad; clear hbad
                go_wp2
                go_quiet (fail)
                go_wp2
                go_ret
                exact ⟨ret_bool HBAD.out.symm, below_drewN HB2.out _⟩
              · have RN : Hid (rowK js ss k (q + 1) = false) := Lib.hid (by rw [HRN.out, decide_eq_false h1, Bool.false_and])
                go_wp2
                go_quiet (fail)
                go_wp2
                go_roundw
                case rel => exact ⟨q + 1, by omega, by go_num, RN.out, HD2.out.drewN _⟩
                case measure => simp [intOf]; omega
            · have RN : Hid (rowK js ss k (q + 1) = false) := Lib.hid (by rw [HRN.out, decide_eq_false h2, Bool.and_false])
              have hd1 : decide (s < s' + t') = false := decide_eq_false h2
              have h2' : s' + t' ≤ s := by omega
              clear h2
              go_wp2
              go_quiet (fail)
              go_wp2
              go_roundw
              case rel => exact ⟨q + 1, by omega, by go_num, RN.out, HD2.out.drewN _⟩
              case measure => simp [intOf]; omega
          · obtain rfl : q = k := by omega
            have KN : Hid (keptK js ss (q + 1) = true) := Lib.hid (by rw [keptK_succ, HK.out, badI, ES.out, ER.out, NB.out, HR.out]; rfl)
            go_wp2
            go_roundw
            case rel => exact ⟨q + 1, by omega, by go_num, KN.out, HB2.out⟩
            case measure => simp [intOf]; omega
    · obtain rfl : k = n := by omega
      go_wp2
      go_ret
      exact ⟨ret_bool HK.out.symm, HD.out⟩

set_option maxHeartbeats 2000000 in
set_option maxRecDepth 100000 in
theorem specPlan (w : World) (g n c : Nat) (js : List J) (hn : js.length = n) (hcap : n ≤ c) (hm : n ≤ 1048576) (hj : JRd w g 0 js) (hg : g < w.heap.size) (g' n' c' : Nat) (ss : List Int) (hn' : ss.length = n') (hcap' : n' ≤ c') (hm' : n' ≤ 1048576) (hx : Rd w g' 0 ss) (hg' : g' < w.heap.size) :
    Calls Try.prog 41 #[.slice (some ⟨g, 0, none⟩) n c, .slice (some ⟨g', 0, none⟩) n' c'] w fun e w' => e = .returned (.tuple #[.bool (stB js ss && keptK js ss n), .bool (stB js ss)]) ∧ Below w.heap.size w w' := by
  have HN := Lib.hid hn; have HN' := Lib.hid hn'; have HJ := Lib.hid hj; have HX := Lib.hid hx
  cases hs : stB js ss
  · have HS := Lib.hid hs
    clear hn hn' hj hx hs
    go_enter Try.func41, Try.ntmps41
    go_wp2_with (go_at_call 93; refine (l02Starts_any _ g n c js HN.out hm HJ.out g' n' c' ss HN'.out hm' HX.out).mono ?_; rintro e w' ⟨rfl, rfl⟩; rw [HS.out])
    go_ret2
    exact ⟨by simp, .refl _ _⟩
  · have HS := Lib.hid hs
    obtain ⟨_, hl, _⟩ := stB_of hs
    have hnn : n' = n := by omega
    have HNN := Lib.hid hnn
    clear hn hn' hj hx hs hl hnn
    go_enter Try.func41, Try.ntmps41
    go_wp2_with (first
      | (go_at_call 93; refine (l02Starts_any _ g n c js HN.out hm HJ.out g' n' c' ss HN'.out hm' HX.out).mono ?_; rintro e w' ⟨rfl, rfl⟩; rw [HS.out])
      | (go_at_call 94; rw [HNN.out]; refine (l02Kept_any _ g n c js HN.out HJ.out g' c' ss HX.out HS.out).mono ?_; rintro e w1 ⟨rfl, hd⟩))
    go_ret2
    exact ⟨by simp, hd.below⟩

set_option maxHeartbeats 2000000 in
set_option maxRecDepth 100000 in
theorem implPlan (w : World) (g n c : Nat) (js : List J) (hn : js.length = n) (hcap : n ≤ c) (hm : n ≤ 1048576) (hj : JRd w g 0 js) (hg : g < w.heap.size) (g' n' c' : Nat) (ss : List Int) (hn' : ss.length = n') (hcap' : n' ≤ c') (hm' : n' ≤ 1048576) (hx : Rd w g' 0 ss) (hg' : g' < w.heap.size) :
    Calls Try.prog 42 #[.slice (some ⟨g, 0, none⟩) n c, .slice (some ⟨g', 0, none⟩) n' c'] w fun e w' => e = .returned (.tuple #[.bool (stB js ss && keptK js ss n), .bool (stB js ss)]) ∧ Below w.heap.size w w' := by
  have HN := Lib.hid hn; have HN' := Lib.hid hn'; have HJ := Lib.hid hj; have HX := Lib.hid hx
  cases hjb : jobsB js
  · have HJB := Lib.hid hjb
    have e : stB js ss = false := by unfold stB; rw [hjb]; rfl
    rw [e]
    clear hn hn' hj hx hjb e
    go_enter Try.func42, Try.ntmps42
    go_wp2_with (go_at_call 32; refine (implAreJobs_any _ n c js _ HN.out hm (.inr ⟨g, 0, rfl, HJ.out⟩)).mono ?_; rintro e w1 ⟨rfl, hb⟩; rw [HJB.out]; have X1 := Lib.hid (HX.out.below hb hg'); have J1 := Lib.hid (HJ.out.below hb hg))
    go_ret2
    exact ⟨by simp, hb⟩
  have HJB := Lib.hid hjb
  have e : stB js ss = (decide ((n' : Int) = n) && allIn ss 0 1000000) := by unfold stB; rw [hjb, hn, hn', Bool.true_and]
  cases hs : stB js ss
  · have HS := Lib.hid (e.symm.trans hs)
    clear hn hn' hj hx hs hjb e
    go_enter Try.func42, Try.ntmps42
    go_wp2_with (first
      | (go_at_call 32; refine (implAreJobs_any _ n c js _ HN.out hm (.inr ⟨g, 0, rfl, HJ.out⟩)).mono ?_; rintro e w1 ⟨rfl, hb⟩; rw [HJB.out]; have X1 := Lib.hid (HX.out.below hb hg'); have J1 := Lib.hid (HJ.out.below hb hg))
      | (go_at_call 95; refine (areStarts_any _ g' n' c' ss HN'.out hm' X1.out _).mono ?_; rintro e w' ⟨rfl, rfl⟩; rw [HS.out]))
    go_ret2
    exact ⟨by simp, hb⟩
  · have HS := Lib.hid (e.symm.trans hs)
    have HS2 := Lib.hid hs
    obtain ⟨_, hl, _⟩ := stB_of hs
    have hnn : n' = n := by omega
    have HNN := Lib.hid hnn
    clear hn hn' hj hx hs hjb e hl hnn
    go_enter Try.func42, Try.ntmps42
    go_wp2_with (first
      | (go_at_call 32; refine (implAreJobs_any _ n c js _ HN.out hm (.inr ⟨g, 0, rfl, HJ.out⟩)).mono ?_; rintro e w1 ⟨rfl, hb⟩; rw [HJB.out]; have X1 := Lib.hid (HX.out.below hb hg'); have J1 := Lib.hid (HJ.out.below hb hg))
      | (go_at_call 95; refine (areStarts_any _ g' n' c' ss HN'.out hm' X1.out _).mono ?_; rintro e w' ⟨rfl, rfl⟩; rw [HS.out])
      | (go_at_call 96; rw [HNN.out]; refine (isJobPlan_any _ g n c js HN.out J1.out (by have := hb.size; omega) g' c' ss X1.out (by have := hb.size; omega) HS2.out).mono ?_; rintro e w2 ⟨rfl, hb2⟩))
    go_ret2
    exact ⟨by simp, hb.trans (hb2.mono hb.size)⟩

set_option maxHeartbeats 4000000 in
set_option maxRecDepth 100000 in
theorem isJobPlan_walk (a0 : Option Addr) (len0 cap0 : Nat) (z0 : List J) (a1 : Option Addr) (len1 cap1 : Nat) (z1 : List Int) (w : World) (w0 : IsJobs w a0 len0 z0 ∧ len0 ≤ maxLen) (w1 : IsRow .i64 w a1 len1 cap1 z1) :
    Calls Try.prog 9 #[.slice a0 len0 cap0, .slice a1 len1 cap1] w fun e w' => e = .returned (.bool true) ∧ Below w.heap.size w w' := by
  have hlz1 := w1.len
  have HLm1 : len1 ≤ 9223372036854775807 := by
    have := w1; rcases this with ⟨_, h, _, _⟩ | ⟨_, _, h1, h2, _⟩ <;> (try simp only [maxLen] at *) <;> omega
  have W1 := Lib.hid w1; clear w1
  have HL1 := Lib.hid (take_len hlz1)
  clear hlz1
  obtain ⟨w0, hlen0⟩ := w0
  have W0 := Lib.hid w0; clear w0
  have HL0 := Lib.hid W0.out.1
  unfold maxLen at hlen0
  by_cases h1 : len1 ≤ 1048576
  case neg =>
    go_enter Try.func9, Try.ntmps9
    go_wp2
    go_ret
    exact ⟨rfl, .refl _ _⟩
  by_cases hs0 : len0 ≤ 1048576
  case neg =>
    have hz0 : szV (1048576) len0 = -1 := by unfold szV; rw [if_pos (by omega)]
    have HZ0 := Lib.hid hz0; clear hz0
    go_enter Try.func9, Try.ntmps9
    go_wp2_with fail
    go_at_call 26
    refine (szJobS_any _ _ _ _ _ (by omega) (by omega) (by omega)).mono ?_
    rintro e w' ⟨rfl, rfl⟩
    rw [HZ0.out]
    go_wp2
    go_ret
    exact ⟨rfl, .refl _ _⟩
  have hz0 : szV (1048576) len0 = 1048576 - len0 := by unfold szV; rw [if_neg (by omega)]
  have HZ0 := Lib.hid hz0; clear hz0
  have h0 : len0 ≤ 1048576 := by omega
  go_enter Try.func9, Try.ntmps9
  go_wp2_with fail
  go_at_call 26
  refine (szJobS_any _ _ _ _ _ (by omega) (by omega) (by omega)).mono ?_
  rintro e w' ⟨rfl, rfl⟩
  rw [HZ0.out]
  have B0 := Lib.hid (Below.refl w.heap.size w)
  go_wp2_with fail
  go_at_call 28
  refine (toJobS_any a0 len0 cap0 z0 _ (W0.out.below B0.out) h0).mono ?_
  rintro e w1 ⟨gS0, rfl, hr, hg, hb⟩
  rw [HL0.out]
  have B1 := Lib.hid (B0.out.trans (hb.mono B0.out.size))
  have S0_1 := Lib.hid hr; clear hr hb hg
  go_wp2_with fail
  go_at_call 23
  refine (toInt64S_any a1 len1 cap1 z1 _ (W1.out.below B1.out) h1).mono ?_
  rintro e w2 ⟨gS1, rfl, hr, hg, hb⟩
  rw [HL1.out] at hr ⊢
  have S0_2 := Lib.hid (S0_1.out.below hb S0_1.out.lt)
  have B2 := Lib.hid (B1.out.trans (hb.mono B1.out.size))
  have S1_2 := Lib.hid hr; clear hr hb hg
  go_wp2_with fail
  go_at_call 41
  refine (specPlan _ gS0 len0 len0 z0 HL0.out (Nat.le_refl _) h0 S0_2.out.rd S0_2.out.lt gS1 len1 len1 (z1.take len1) HL1.out (Nat.le_refl _) h1 S1_2.out.rd S1_2.out.lt).mono ?_
  rintro e w3 ⟨rfl, hb⟩
  have S0_3 := Lib.hid (S0_2.out.below hb S0_2.out.lt)
  have S1_3 := Lib.hid (S1_2.out.below hb S1_2.out.lt)
  have B3 := Lib.hid (B2.out.trans (hb.mono B2.out.size))
  clear hb
  go_wp2_with fail
  go_at_call 28
  refine (toJobS_any a0 len0 cap0 z0 _ (W0.out.below B3.out) h0).mono ?_
  rintro e w4 ⟨gX0, rfl, hr, hg, hb⟩
  rw [HL0.out]
  have B4 := Lib.hid (B3.out.trans (hb.mono B3.out.size))
  have X0_4 := Lib.hid hr; clear hr hb hg
  go_wp2_with fail
  go_at_call 23
  refine (toInt64S_any a1 len1 cap1 z1 _ (W1.out.below B4.out) h1).mono ?_
  rintro e w5 ⟨gX1, rfl, hr, hg, hb⟩
  rw [HL1.out] at hr ⊢
  have X0_5 := Lib.hid (X0_4.out.below hb X0_4.out.lt)
  have B5 := Lib.hid (B4.out.trans (hb.mono B4.out.size))
  have X1_5 := Lib.hid hr; clear hr hb hg
  go_wp2_with fail
  go_at_call 42
  refine (implPlan _ gX0 len0 len0 z0 HL0.out (Nat.le_refl _) h0 X0_5.out.rd X0_5.out.lt gX1 len1 len1 (z1.take len1) HL1.out (Nat.le_refl _) h1 X1_5.out.rd X1_5.out.lt).mono ?_
  rintro e w6 ⟨rfl, hb⟩
  have X0_6 := Lib.hid (X0_5.out.below hb X0_5.out.lt)
  have X1_6 := Lib.hid (X1_5.out.below hb X1_5.out.lt)
  have B6 := Lib.hid (B5.out.trans (hb.mono B5.out.size))
  clear hb
  go_wp2_with fail
  go_at_call 28
  refine (toJobS_any a0 len0 cap0 z0 _ (W0.out.below B6.out) h0).mono ?_
  rintro e w7 ⟨gE0, rfl, hr, hg, hb⟩
  rw [HL0.out]
  have X0_7 := Lib.hid (X0_6.out.below hb X0_6.out.lt)
  have X1_7 := Lib.hid (X1_6.out.below hb X1_6.out.lt)
  have B7 := Lib.hid (B6.out.trans (hb.mono B6.out.size))
  have E0_7 := Lib.hid hr; clear hr hb hg
  go_wp2_with fail
  go_at_call 30
  refine (eqJobS_any _ _ len0 len0 len0 len0 z0 z0 _ HL0.out HL0.out X0_7.out.at' E0_7.out.at' h0 h0).mono ?_
  rintro e w8 ⟨rfl, hb⟩
  rw [eqJs_self]
  have X0_8 := Lib.hid (X0_7.out.below hb X0_7.out.lt)
  have X1_8 := Lib.hid (X1_7.out.below hb X1_7.out.lt)
  have B8 := Lib.hid (B7.out.trans (hb.mono B7.out.size))
  clear hb
  go_wp2_with fail
  go_at_call 23
  refine (toInt64S_any a1 len1 cap1 z1 _ (W1.out.below B8.out) h1).mono ?_
  rintro e w9 ⟨gE1, rfl, hr, hg, hb⟩
  rw [HL1.out] at hr ⊢
  have X0_9 := Lib.hid (X0_8.out.below hb X0_8.out.lt)
  have X1_9 := Lib.hid (X1_8.out.below hb X1_8.out.lt)
  have B9 := Lib.hid (B8.out.trans (hb.mono B8.out.size))
  have E1_9 := Lib.hid hr; clear hr hb hg
  go_wp2_with fail
  go_at_call 25
  refine (eqInt64S_any _ _ len1 len1 len1 len1 (z1.take len1) (z1.take len1) _ HL1.out HL1.out X1_9.out.at' E1_9.out.at' h1 h1).mono ?_
  rintro e w10 ⟨rfl, hd⟩
  rw [eqB_self]
  have hb : Below w9.heap.size w9 w10 := hd.below
  have X0_10 := Lib.hid (X0_9.out.below hb X0_9.out.lt)
  have X1_10 := Lib.hid (X1_9.out.below hb X1_9.out.lt)
  have B10 := Lib.hid (B9.out.trans (hb.mono B9.out.size))
  clear hb
  go_wp2
  go_ret
  exact ⟨rfl, B10.out⟩

end Go.Proofs.Ytncmhinpjkkfkaa
