/-
  Walks: the law SameJobs. Conditions: none.
-/
import Derived.Test.YtncmhinpjkkfkaaK4
set_option linter.unusedVariables false
set_option linter.unusedSimpArgs false
namespace Go.Proofs.Ytncmhinpjkkfkaa
open Go Go.RowKit

theorem JRow.lt {w : World} {g : Nat} {js : List J} (h : JRow w g js) : g < w.heap.size := Row.lt h
theorem JRow.below {B : Nat} {w w' : World} {g : Nat} {js : List J} (h : JRow w g js) (hb : Below B w w') (hg : g < B) : JRow w' g js := Row.below h hb hg

theorem fieldsOf67 : Try.prog.underlying 67 = some (.struct (Try.prog.fieldsOf 67)) := by kernel_rfl
theorem neqJob (a b c d a' b' c' d' : Int) (w : World) : (binOp .neq 67 (.agg #[.int .i64 a, .int .i64 b, .int .i64 c, .int .i64 d]) (.agg #[.int .i64 a', .int .i64 b', .int .i64 c', .int .i64 d'])).run Try.prog w = .ok (.bool (!((a == a') && (b == b') && (c == c') && (d == d')))) w := by
  rw [run_neq_struct, run_equalIn_agg w 9999 67 _ _ fieldsOf67 (by kernel_rfl)]
  unfold Program.fieldsOf
  rw [Try.underlying67]
  have e := fun (x y : Int) (w : World) => run_equalIn_int (P := Try.prog) w 9998 2 .i64 .i64 x y Try.underlying2
  by_cases h0 : a = a'
  · by_cases h1 : b = b'
    · by_cases h3 : c = c'
      · by_cases h4 : d = d'
        · simp [Op.eqFields, go_sem, e, h0, h1, h3, h4]
        · simp [Op.eqFields, go_sem, e, h0, h1, h3, h4]
      · simp [Op.eqFields, go_sem, e, h0, h1, h3]
    · simp [Op.eqFields, go_sem, e, h0, h1]
  · simp [Op.eqFields, go_sem, e, h0]

set_option maxHeartbeats 4000000 in
set_option maxRecDepth 100000 in
theorem l02Same_any (a a' : Option Addr) (n n' c c' : Nat) (xs ys : List J) (w : World) (hn : xs.length = n) (hn' : ys.length = n') (hx : JAt w a xs) (hy : JAt w a' ys) (hm : n ≤ 1048576) (hm' : n' ≤ 1048576) :
    Calls Try.prog 73 #[.slice a n c, .slice a' n' c'] w fun e w' => e = .returned (.bool (eqJs xs ys)) ∧ Dr w w' := by
  by_cases hl : n = n'
  · subst hl
    have hl : xs.length = ys.length := by omega
    have HL := Lib.hid hl; have HN := Lib.hid hn; have HN' := Lib.hid hn'
    by_cases h0 : n = 0
    · have he : eqJs xs ys = true := eqJs_true (by unfold eqJK; rw [show xs.length = 0 by omega]; simp) hl
      have HE := Lib.hid he
      subst h0
      clear hl hn hn' he hx hy
      go_enter Try.func73, Try.ntmps73
      go_wp2
      refine wp_loop_rounds 1 ?_; rw [rounds_succ]
      go_wp2
      go_ret
      exact ⟨ret_bool HE.out.symm, .refl _⟩
    · rcases hx with rfl | ⟨g, o, rfl, hx⟩
      · simp at hn; omega
      rcases hy with rfl | ⟨g', o', rfl, hy⟩
      · simp at hn'; omega
      have HX := Lib.hid hx; have HY := Lib.hid hy
      clear hl hn hn' hx hy
      go_enter Try.func73, Try.ntmps73
      go_wp2
      go_loopw [5] (fun i wr => ∃ k : Nat, k ≤ n ∧ i = .int .i64 k ∧ eqJK xs ys k ∧ Dr w wr) (fun i _ => n - (intOf i).toNat)
      case atStart => exact ⟨0, Nat.zero_le _, rfl, by simp [eqJK], .refl _⟩
      case round =>
        obtain ⟨k, hk, rfl, hno, hd⟩ := hrel
        by_cases hlt : k < n
        · have hkx : k < xs.length := by have := HN.out; omega
          have hky : k < ys.length := by have := HN'.out; omega
          obtain ⟨c0, c1, c2, c3⟩ := hd.jrd HX.out k hkx
          obtain ⟨d0, d1, d2, d3⟩ := hd.jrd HY.out k hky
          have HK := Lib.hid hno; have HD := Lib.hid hd
          clear hno hd
          have HT := Lib.hid (@eqJK_succ xs ys k HK.out hkx hky)
          have HFa := Lib.hid (@eqJs_false_at xs ys k hkx hky)
          by_cases e0 : xs[k].time = ys[k].time
          case neg =>
            have he : eqJ xs[k] ys[k] = false := by unfold eqJ; simp [e0]
            have e0' : (xs[k].time != ys[k].time) = true := by simp [e0]
            have hs := HFa.out he
            have HS := Lib.hid hs
            clear hs he e0
            go_wp2
            go_quiet (fail)
            go_wp2
            go_ret
            exact ⟨ret_bool HS.out.symm, HD.out.drewN _⟩
          by_cases e1 : xs[k].rel = ys[k].rel
          case neg =>
            have he : eqJ xs[k] ys[k] = false := by unfold eqJ; simp [e1]
            have e0' : (xs[k].time != ys[k].time) = false := by simp [e0]
            have e1' : (xs[k].rel != ys[k].rel) = true := by simp [e1]
            have hs := HFa.out he
            have HS := Lib.hid hs
            clear hs he e0 e1
            go_wp2
            go_quiet (fail)
            go_wp2
            go_ret
            exact ⟨ret_bool HS.out.symm, HD.out.drewN _⟩
          by_cases e2 : xs[k].due = ys[k].due
          case neg =>
            have he : eqJ xs[k] ys[k] = false := by unfold eqJ; simp [e2]
            have e0' : (xs[k].time != ys[k].time) = false := by simp [e0]
            have e1' : (xs[k].rel != ys[k].rel) = false := by simp [e1]
            have e2' : (xs[k].due != ys[k].due) = true := by simp [e2]
            have hs := HFa.out he
            have HS := Lib.hid hs
            clear hs he e0 e1 e2
            go_wp2
            go_quiet (fail)
            go_wp2
            go_ret
            exact ⟨ret_bool HS.out.symm, HD.out.drewN _⟩
          by_cases e3 : xs[k].wt = ys[k].wt
          case neg =>
            have he : eqJ xs[k] ys[k] = false := by unfold eqJ; simp [e3]
            have e0' : (xs[k].time != ys[k].time) = false := by simp [e0]
            have e1' : (xs[k].rel != ys[k].rel) = false := by simp [e1]
            have e2' : (xs[k].due != ys[k].due) = false := by simp [e2]
            have e3' : (xs[k].wt != ys[k].wt) = true := by simp [e3]
            have hs := HFa.out he
            have HS := Lib.hid hs
            clear hs he e0 e1 e2 e3
            go_wp2
            go_quiet (fail)
            go_wp2
            go_ret
            exact ⟨ret_bool HS.out.symm, HD.out.drewN _⟩
          have he : eqJ xs[k] ys[k] = true := by unfold eqJ; simp [e0, e1, e2, e3]
          have e0' : (xs[k].time != ys[k].time) = false := by simp [e0]
          have e1' : (xs[k].rel != ys[k].rel) = false := by simp [e1]
          have e2' : (xs[k].due != ys[k].due) = false := by simp [e2]
          have e3' : (xs[k].wt != ys[k].wt) = false := by simp [e3]
          have hs := HT.out he
          have HS := Lib.hid hs
          clear hs he e0 e1 e2 e3
          go_wp2
          go_quiet (fail)
          go_wp2
          go_roundw
          case rel => exact ⟨k + 1, by omega, by go_num, HS.out, HD.out.drewN _⟩
          case measure => simp [intOf]; omega
        · have hno' : eqJs xs ys = true := eqJs_true (by obtain rfl : k = n := by omega
                                                         rw [HN.out]; exact hno) HL.out
          have HK := Lib.hid hno'; have HD := Lib.hid hd
          clear hno hno' hd
          go_wp2
          go_ret
          exact ⟨ret_bool HK.out.symm, HD.out⟩
  · have he := eqJs_false_len (xs := xs) (ys := ys) (by omega)
    have HE := Lib.hid he
    have hne : ((n : Int) != (n' : Int)) = true := by simp; omega
    clear he hn hn' hx hy
    go_enter Try.func73, Try.ntmps73
    go_wp2
    go_ret
    exact ⟨ret_bool HE.out.symm, .refl _⟩

set_option maxHeartbeats 4000000 in
set_option maxRecDepth 100000 in
theorem slicesEqJ_any (a a' : Option Addr) (n n' c c' : Nat) (xs ys : List J) (w : World) (hn : xs.length = n) (hn' : ys.length = n') (hx : JAt w a xs) (hy : JAt w a' ys) (hm : n ≤ 1048576) (hm' : n' ≤ 1048576) :
    Calls Try.prog 75 #[.slice a n c, .slice a' n' c'] w fun e w' => e = .returned (.bool (eqJs xs ys)) ∧ Dr w w' := by
  by_cases hl : n = n'
  · subst hl
    have hl : xs.length = ys.length := by omega
    have HL := Lib.hid hl; have HN := Lib.hid hn; have HN' := Lib.hid hn'
    by_cases h0 : n = 0
    · have he : eqJs xs ys = true := eqJs_true (by unfold eqJK; rw [show xs.length = 0 by omega]; simp) hl
      have HE := Lib.hid he
      subst h0
      clear hl hn hn' he hx hy
      go_enter Try.func75, Try.ntmps75
      go_wp2
      refine wp_loop_rounds 1 ?_; rw [rounds_succ]
      go_wp2
      go_ret
      exact ⟨ret_bool HE.out.symm, .refl _⟩
    · rcases hx with rfl | ⟨g, o, rfl, hx⟩
      · simp at hn; omega
      rcases hy with rfl | ⟨g', o', rfl, hy⟩
      · simp at hn'; omega
      have HX := Lib.hid hx; have HY := Lib.hid hy
      clear hl hn hn' hx hy
      go_enter Try.func75, Try.ntmps75
      go_wp2
      go_loopw [5, 13] (fun _ i wr => ∃ k : Nat, k ≤ n ∧ i = .int .i64 k ∧ eqJK xs ys k ∧ Dr w wr) (fun _ i _ => n - (intOf i).toNat)
      case atStart => exact ⟨0, Nat.zero_le _, rfl, by simp [eqJK], .refl _⟩
      case round =>
        obtain ⟨k, hk, rfl, hno, hd⟩ := hrel
        by_cases hlt : k < n
        · have hkx : k < xs.length := by have := HN.out; omega
          have hky : k < ys.length := by have := HN'.out; omega
          obtain ⟨c0, c1, c2, c3⟩ := hd.jrd HX.out k hkx
          obtain ⟨d0, d1, d2, d3⟩ := hd.jrd HY.out k hky
          have HK := Lib.hid hno; have HD := Lib.hid hd
          clear hno hd
          have HT := Lib.hid (@eqJK_succ xs ys k HK.out hkx hky)
          have HFa := Lib.hid (@eqJs_false_at xs ys k hkx hky)
          have hnj := fun w => neqJob xs[k].time xs[k].rel xs[k].due xs[k].wt ys[k].time ys[k].rel ys[k].due ys[k].wt w
          cases he : eqJ xs[k] ys[k]
          · have he' : ((xs[k].time == ys[k].time) && (xs[k].rel == ys[k].rel) && (xs[k].due == ys[k].due) && (xs[k].wt == ys[k].wt)) = false := he
            rw [he'] at hnj
            have hs := HFa.out he
            have HS := Lib.hid hs
            clear hs he he'
            go_wp2
            go_quiet (fail)
            go_wp2
            go_ret
            exact ⟨ret_bool HS.out.symm, HD.out.drewN _⟩
          · have he' : ((xs[k].time == ys[k].time) && (xs[k].rel == ys[k].rel) && (xs[k].due == ys[k].due) && (xs[k].wt == ys[k].wt)) = true := he
            rw [he'] at hnj
            have hs := HT.out he
            have HS := Lib.hid hs
            clear hs he he'
            go_wp2
            go_quiet (fail)
            go_wp2
            go_roundw
            case rel => exact ⟨k + 1, by omega, by go_num, HS.out, HD.out.drewN _⟩
            case measure => simp [intOf]; omega
        · have hno' : eqJs xs ys = true := eqJs_true (by obtain rfl : k = n := by omega
                                                         rw [HN.out]; exact hno) HL.out
          have HK := Lib.hid hno'; have HD := Lib.hid hd
          clear hno hno' hd
          go_wp2
          go_ret
          exact ⟨ret_bool HK.out.symm, HD.out⟩
  · have he := eqJs_false_len (xs := xs) (ys := ys) (by omega)
    have HE := Lib.hid he
    have hne : ((n : Int) != (n' : Int)) = true := by simp; omega
    clear he hn hn' hx hy
    go_enter Try.func75, Try.ntmps75
    go_wp2
    go_ret
    exact ⟨ret_bool HE.out.symm, .refl _⟩

theorem specSameJobs (w : World) (g n c : Nat) (xs : List J) (hn : xs.length = n) (_ : n ≤ c) (hm : n ≤ 1048576) (hx : JRd w g 0 xs) (g' n' c' : Nat) (ys : List J) (hn' : ys.length = n') (_ : n' ≤ c') (hm' : n' ≤ 1048576) (hy : JRd w g' 0 ys) :
    Calls Try.prog 27 #[.slice (some ⟨g, 0, none⟩) n c, .slice (some ⟨g', 0, none⟩) n' c'] w fun e w' => e = .returned (.bool (eqJs xs ys)) ∧ Below w.heap.size w w' := by
  have HN := Lib.hid hn; have HN' := Lib.hid hn'; have HX := Lib.hid hx; have HY := Lib.hid hy
  clear hn hn' hx hy
  go_enter Try.func27, Try.ntmps27
  go_wp2_with (go_at_call 73; refine (l02Same_any _ _ n n' c c' xs ys _ HN.out HN'.out (.inr ⟨g, 0, rfl, HX.out⟩) (.inr ⟨g', 0, rfl, HY.out⟩) hm hm').mono ?_; rintro e w' ⟨rfl, nq, rfl⟩)
  go_ret
  exact ⟨rfl, below_drewN (.refl _ _) _⟩

theorem implSameJobs (w : World) (g n c : Nat) (xs : List J) (hn : xs.length = n) (_ : n ≤ c) (hm : n ≤ 1048576) (hx : JRd w g 0 xs) (g' n' c' : Nat) (ys : List J) (hn' : ys.length = n') (_ : n' ≤ c') (hm' : n' ≤ 1048576) (hy : JRd w g' 0 ys) :
    Calls Try.prog 29 #[.slice (some ⟨g, 0, none⟩) n c, .slice (some ⟨g', 0, none⟩) n' c'] w fun e w' => e = .returned (.bool (eqJs xs ys)) ∧ Below w.heap.size w w' := by
  have HN := Lib.hid hn; have HN' := Lib.hid hn'; have HX := Lib.hid hx; have HY := Lib.hid hy
  clear hn hn' hx hy
  go_enter Try.func29, Try.ntmps29
  go_wp2_with (go_at_call 75; refine (slicesEqJ_any _ _ n n' c c' xs ys _ HN.out HN'.out (.inr ⟨g, 0, rfl, HX.out⟩) (.inr ⟨g', 0, rfl, HY.out⟩) hm hm').mono ?_; rintro e w' ⟨rfl, nq, rfl⟩)
  go_ret
  exact ⟨rfl, below_drewN (.refl _ _) _⟩

set_option maxHeartbeats 4000000 in
set_option maxRecDepth 100000 in
theorem sameJobs_walk (a0 : Option Addr) (len0 cap0 : Nat) (z0 : List J) (a1 : Option Addr) (len1 cap1 : Nat) (z1 : List J) (w : World) (w0 : IsJobs w a0 len0 z0 ∧ len0 ≤ maxLen) (w1 : IsJobs w a1 len1 z1 ∧ len1 ≤ maxLen) :
    Calls Try.prog 4 #[.slice a0 len0 cap0, .slice a1 len1 cap1] w fun e w' => e = .returned (.bool true) ∧ Below w.heap.size w w' := by
  obtain ⟨w0, hlen0⟩ := w0
  have W0 := Lib.hid w0; clear w0
  have HL0 := Lib.hid W0.out.1
  unfold maxLen at hlen0
  obtain ⟨w1, hlen1⟩ := w1
  have W1 := Lib.hid w1; clear w1
  have HL1 := Lib.hid W1.out.1
  unfold maxLen at hlen1
  by_cases hs0 : len0 ≤ 1048576
  case neg =>
    have hz0 : szV (1048576) len0 = -1 := by unfold szV; rw [if_pos (by omega)]
    have HZ0 := Lib.hid hz0; clear hz0
    go_enter Try.func4, Try.ntmps4
    go_wp2_with fail
    go_at_call 26
    refine (szJobS_any _ _ _ _ _ (by omega) (by omega) (by omega)).mono ?_
    rintro e w' ⟨rfl, rfl⟩
    rw [HZ0.out]
    go_wp2
    go_ret
    exact ⟨rfl, .refl _ _⟩
  have hz0 : szV (1048576) len0 = 1048576 - len0 := by unfold szV; rw [if_neg (by omega)]
  have HZ0 := Lib.hid hz0; clear hz0
  have h0 : len0 ≤ 1048576 := by omega
  by_cases hs1 : len0 + len1 ≤ 1048576
  case neg =>
    have hz1 : szV (1048576 - len0) len1 = -1 := by unfold szV; rw [if_pos (by omega)]
    have HZ1 := Lib.hid hz1; clear hz1
    go_enter Try.func4, Try.ntmps4
    go_wp2_with fail
    go_at_call 26
    refine (szJobS_any _ _ _ _ _ (by omega) (by omega) (by omega)).mono ?_
    rintro e w' ⟨rfl, rfl⟩
    rw [HZ0.out]
    go_wp2_with fail
    go_at_call 26
    refine (szJobS_any _ _ _ _ _ (by omega) (by omega) (by omega)).mono ?_
    rintro e w' ⟨rfl, rfl⟩
    rw [HZ1.out]
    go_wp2
    go_ret
    exact ⟨rfl, .refl _ _⟩
  have hz1 : szV (1048576 - len0) len1 = 1048576 - len0 - len1 := by unfold szV; rw [if_neg (by omega)]
  have HZ1 := Lib.hid hz1; clear hz1
  have h1 : len1 ≤ 1048576 := by omega
  go_enter Try.func4, Try.ntmps4
  go_wp2_with fail
  go_at_call 26
  refine (szJobS_any _ _ _ _ _ (by omega) (by omega) (by omega)).mono ?_
  rintro e w' ⟨rfl, rfl⟩
  rw [HZ0.out]
  go_wp2_with fail
  go_at_call 26
  refine (szJobS_any _ _ _ _ _ (by omega) (by omega) (by omega)).mono ?_
  rintro e w' ⟨rfl, rfl⟩
  rw [HZ1.out]
  have B0 := Lib.hid (Below.refl w.heap.size w)
  go_wp2_with fail
  go_at_call 28
  refine (toJobS_any a0 len0 cap0 z0 _ (W0.out.below B0.out) h0).mono ?_
  rintro e w1 ⟨gS0, rfl, hr, hg, hb⟩
  rw [HL0.out]
  have B1 := Lib.hid (B0.out.trans (hb.mono B0.out.size))
  have S0_1 := Lib.hid hr; clear hr hb hg
  go_wp2_with fail
  go_at_call 28
  refine (toJobS_any a1 len1 cap1 z1 _ (W1.out.below B1.out) h1).mono ?_
  rintro e w2 ⟨gS1, rfl, hr, hg, hb⟩
  rw [HL1.out]
  have S0_2 := Lib.hid (S0_1.out.below hb S0_1.out.lt)
  have B2 := Lib.hid (B1.out.trans (hb.mono B1.out.size))
  have S1_2 := Lib.hid hr; clear hr hb hg
  go_wp2_with fail
  go_at_call 27
  refine (specSameJobs _ gS0 len0 len0 z0 HL0.out (Nat.le_refl _) h0 S0_2.out.rd gS1 len1 len1 z1 HL1.out (Nat.le_refl _) h1 S1_2.out.rd).mono ?_
  rintro e w3 ⟨rfl, hb⟩
  have S0_3 := Lib.hid (S0_2.out.below hb S0_2.out.lt)
  have S1_3 := Lib.hid (S1_2.out.below hb S1_2.out.lt)
  have B3 := Lib.hid (B2.out.trans (hb.mono B2.out.size))
  clear hb
  go_wp2_with fail
  go_at_call 28
  refine (toJobS_any a0 len0 cap0 z0 _ (W0.out.below B3.out) h0).mono ?_
  rintro e w4 ⟨gX0, rfl, hr, hg, hb⟩
  rw [HL0.out]
  have B4 := Lib.hid (B3.out.trans (hb.mono B3.out.size))
  have X0_4 := Lib.hid hr; clear hr hb hg
  go_wp2_with fail
  go_at_call 28
  refine (toJobS_any a1 len1 cap1 z1 _ (W1.out.below B4.out) h1).mono ?_
  rintro e w5 ⟨gX1, rfl, hr, hg, hb⟩
  rw [HL1.out]
  have X0_5 := Lib.hid (X0_4.out.below hb X0_4.out.lt)
  have B5 := Lib.hid (B4.out.trans (hb.mono B4.out.size))
  have X1_5 := Lib.hid hr; clear hr hb hg
  go_wp2_with fail
  go_at_call 29
  refine (implSameJobs _ gX0 len0 len0 z0 HL0.out (Nat.le_refl _) h0 X0_5.out.rd gX1 len1 len1 z1 HL1.out (Nat.le_refl _) h1 X1_5.out.rd).mono ?_
  rintro e w6 ⟨rfl, hb⟩
  have X0_6 := Lib.hid (X0_5.out.below hb X0_5.out.lt)
  have X1_6 := Lib.hid (X1_5.out.below hb X1_5.out.lt)
  have B6 := Lib.hid (B5.out.trans (hb.mono B5.out.size))
  clear hb
  go_wp2_with fail
  go_at_call 28
  refine (toJobS_any a0 len0 cap0 z0 _ (W0.out.below B6.out) h0).mono ?_
  rintro e w7 ⟨gE0, rfl, hr, hg, hb⟩
  rw [HL0.out]
  have X0_7 := Lib.hid (X0_6.out.below hb X0_6.out.lt)
  have X1_7 := Lib.hid (X1_6.out.below hb X1_6.out.lt)
  have B7 := Lib.hid (B6.out.trans (hb.mono B6.out.size))
  have E0_7 := Lib.hid hr; clear hr hb hg
  go_wp2_with fail
  go_at_call 30
  refine (eqJobS_any _ _ len0 len0 len0 len0 z0 z0 _ HL0.out HL0.out X0_7.out.at' E0_7.out.at' h0 h0).mono ?_
  rintro e w8 ⟨rfl, hb⟩
  rw [eqJs_self]
  have X0_8 := Lib.hid (X0_7.out.below hb X0_7.out.lt)
  have X1_8 := Lib.hid (X1_7.out.below hb X1_7.out.lt)
  have B8 := Lib.hid (B7.out.trans (hb.mono B7.out.size))
  clear hb
  go_wp2_with fail
  go_at_call 28
  refine (toJobS_any a1 len1 cap1 z1 _ (W1.out.below B8.out) h1).mono ?_
  rintro e w9 ⟨gE1, rfl, hr, hg, hb⟩
  rw [HL1.out]
  have X0_9 := Lib.hid (X0_8.out.below hb X0_8.out.lt)
  have X1_9 := Lib.hid (X1_8.out.below hb X1_8.out.lt)
  have B9 := Lib.hid (B8.out.trans (hb.mono B8.out.size))
  have E1_9 := Lib.hid hr; clear hr hb hg
  go_wp2_with fail
  go_at_call 30
  refine (eqJobS_any _ _ len1 len1 len1 len1 z1 z1 _ HL1.out HL1.out X1_9.out.at' E1_9.out.at' h1 h1).mono ?_
  rintro e w10 ⟨rfl, hb⟩
  rw [eqJs_self]
  have X0_10 := Lib.hid (X0_9.out.below hb X0_9.out.lt)
  have X1_10 := Lib.hid (X1_9.out.below hb X1_9.out.lt)
  have B10 := Lib.hid (B9.out.trans (hb.mono B9.out.size))
  clear hb
  go_wp2
  go_ret
  exact ⟨rfl, B10.out⟩
end Go.Proofs.Ytncmhinpjkkfkaa
