/-
  Walks: the law IdleOf. Conditions: none.
-/
import Derived.Test.YtncmhinpjkkfkaaK18
set_option linter.unusedVariables false
set_option linter.unusedSimpArgs false
namespace Go.Proofs.Ytncmhinpjkkfkaa
open Go Go.RowKit

def lastK (js : List J) (ss : List Int) : Nat → Int
  | 0 => 0
  | k + 1 => max (lastK js ss k) (eN ss k + (jN js k).time)
def sumT (js : List J) : Nat → Int
  | 0 => 0
  | k + 1 => sumT js k + (jN js k).time
def idB (js : List J) (ss : List Int) : Bool := stB js ss && keptK js ss js.length
def idV (js : List J) (ss : List Int) : Int := if idB js ss then lastK js ss js.length - sumT js js.length else 0

theorem lastK_bd {js : List J} {ss : List Int} {n : Nat} {P : Nat → Int → Int → Int → Int → Int → Prop} (h : ∀ i, i < n → ∃ s t r u v : Int, 0 ≤ s ∧ s ≤ 1000000 ∧ 1 ≤ t ∧ t ≤ 10000 ∧ eN ss i = s ∧ (jN js i).time = t ∧ P i s t r u v) :
    ∀ k, k ≤ n → 0 ≤ lastK js ss k ∧ lastK js ss k ≤ 1010000 ∧ 0 ≤ sumT js k ∧ sumT js k ≤ 10000 * k := by
  intro k
  induction k with
  | zero => intro _; simp [lastK, sumT]
  | succ k ih =>
    intro hk
    obtain ⟨s, t, _, _, _, s0, s1, t0, t1, es, et, _⟩ := h k (by omega)
    have := ih (by omega)
    unfold lastK sumT
    rw [es, et]
    omega

set_option maxHeartbeats 4000000 in
set_option maxRecDepth 100000 in
theorem specIdle (w : World) (g n c : Nat) (js : List J) (hn : js.length = n) (hcap : n ≤ c) (hm : n ≤ 1048576) (hj : JRd w g 0 js) (hg : g < w.heap.size) (g' n' c' : Nat) (ss : List Int) (hn' : ss.length = n') (hcap' : n' ≤ c') (hm' : n' ≤ 1048576) (hx : Rd w g' 0 ss) (hg' : g' < w.heap.size) :
    Calls Try.prog 45 #[.slice (some ⟨g, 0, none⟩) n c, .slice (some ⟨g', 0, none⟩) n' c'] w fun e w' => e = .returned (.tuple #[.int .i64 (idV js ss), .bool (idB js ss)]) ∧ Below w.heap.size w w' := by
  have HN := Lib.hid hn; have HN' := Lib.hid hn'; have HJ := Lib.hid hj; have HX := Lib.hid hx
  cases hs : stB js ss
  · have HS := Lib.hid hs
    have e2 : idB js ss = false := by unfold idB; rw [hs]; rfl
    have e1 : idV js ss = 0 := by unfold idV; rw [e2]; rfl
    rw [e1, e2]
    clear hn hn' hj hx hs e1 e2
    go_enter Try.func45, Try.ntmps45
    go_wp2_with (go_at_call 93; refine (l02Starts_any _ g n c js HN.out hm HJ.out g' n' c' ss HN'.out hm' HX.out).mono ?_; rintro e w' ⟨rfl, rfl⟩; rw [HS.out])
    go_ret2
    exact ⟨rfl, .refl _ _⟩
  have HS := Lib.hid hs
  obtain ⟨hjb, hl, hsb⟩ := stB_of hs
  have hnn : n' = n := by omega
  have HNN := Lib.hid hnn
  cases hk : keptK js ss n
  · have HK := Lib.hid hk
    have e2 : idB js ss = false := by unfold idB; rw [hn, hk, Bool.and_false]
    have e1 : idV js ss = 0 := by unfold idV; rw [e2]; rfl
    rw [e1, e2]
    clear hn hn' hj hx hs e1 e2 hk hjb hl hsb hnn
    go_enter Try.func45, Try.ntmps45
    go_wp2_with (first
      | (go_at_call 93; refine (l02Starts_any _ g n c js HN.out hm HJ.out g' n' c' ss HN'.out hm' HX.out).mono ?_; rintro e w' ⟨rfl, rfl⟩; rw [HS.out])
      | (go_at_call 94; rw [HNN.out]; refine (l02Kept_any _ g n c js HN.out HJ.out g' c' ss HX.out HS.out).mono ?_; rintro e w1 ⟨rfl, hd⟩; rw [HK.out]; have hb : Below w.heap.size w w1 := hd.below))
    go_ret2
    exact ⟨rfl, hb⟩
  have HK := Lib.hid hk
  obtain ⟨n1, n2, hjs⟩ := jobsB_of hjb
  have e2 : idB js ss = true := by unfold idB; rw [hs, hn, hk]; rfl
  have e1 : idV js ss = lastK js ss n - sumT js n := by unfold idV; rw [e2, hn]; rfl
  rw [e1, e2]
  have hat : ∀ i, i < n → ∃ s t r u v : Int, 0 ≤ s ∧ s ≤ 1000000 ∧ 1 ≤ t ∧ t ≤ 10000 ∧ eN ss i = s ∧ (jN js i).time = t ∧ ∀ wr, Below w.heap.size w wr → wr.cell? ⟨g', i, none⟩ = some (.int .i64 s) ∧ wr.cell? ⟨g, i * 4, none⟩ = some (.int .i64 t) ∧ wr.cell? ⟨g, i * 4 + 1, none⟩ = some (.int .i64 r) ∧ wr.cell? ⟨g, i * 4 + 2, none⟩ = some (.int .i64 u) ∧ wr.cell? ⟨g, i * 4 + 3, none⟩ = some (.int .i64 v) := by
    intro i hi
    have b := hsb i (by omega)
    have q := hjs i (by omega)
    refine ⟨ss[i], js[i].time, js[i].rel, js[i].due, js[i].wt, b.1, b.2, q.1, q.2.1, eN_eq (by omega), by rw [jN_eq (by omega)], fun wr hd => ?_⟩
    have c1 := (hx.below hd hg') i (by omega)
    obtain ⟨d0, d1, d2, d3⟩ := (hj.below hd hg) i (by omega)
    rw [Nat.zero_add] at c1 d0 d1 d2 d3
    exact ⟨c1, d0, d1, d2, d3⟩
  have hbd := lastK_bd (n := n) hat
  have HA := Lib.hid hat; have HBD := Lib.hid hbd
  rw [hn] at n1 n2
  clear hat hbd hjs hsb hl hs hjb hx hj hn hn' hk e1 e2 hnn
  go_enter Try.func45, Try.ntmps45
  go_wp2_with (first
    | (go_at_call 93; refine (l02Starts_any _ g n c js HN.out hm HJ.out g' n' c' ss HN'.out hm' HX.out).mono ?_; rintro e w' ⟨rfl, rfl⟩; rw [HS.out])
    | (go_at_call 94; rw [HNN.out]; refine (l02Kept_any _ g n c js HN.out HJ.out g' c' ss HX.out HS.out).mono ?_; rintro e w1 ⟨rfl, hd⟩; rw [HK.out]; have hb : Below w.heap.size w w1 := hd.below))
  go_loopw [6, 7, 8] (fun a b i wr => ∃ k : Nat, k ≤ n ∧ i = .int .i64 k ∧ a = .int .i64 (lastK js ss k) ∧ b = .int .i64 (sumT js k) ∧ Below w.heap.size w wr) (fun _ _ i _ => n - (intOf i).toNat)
  case atStart => exact ⟨0, Nat.zero_le _, rfl, rfl, rfl, hb⟩
  case round =>
    obtain ⟨k, hk, rfl, rfl, rfl, hd⟩ := hrel
    have HD := Lib.hid hd
    clear hd
    by_cases hlt : k < n
    · obtain ⟨s, t, r, u, v, s0, s1, t0, t1, es, et, hcell⟩ := HA.out k hlt
      obtain ⟨c1, c2, c3, c4, c5⟩ := hcell _ HD.out
      obtain ⟨b0, b1, b2, b3⟩ := HBD.out k (by omega)
      have hkn : k < n' := by have := HNN.out; omega
      have hl1 : lastK js ss (k + 1) = max (lastK js ss k) (s + t) := by rw [← es, ← et]; rfl
      have hs1 : sumT js (k + 1) = sumT js k + t := by rw [← et]; rfl
      have HCk := Lib.hid hcell; have HL1 := Lib.hid hl1; have HS1 := Lib.hid hs1
      generalize lastK js ss k = lk at *
      generalize sumT js k = sk at *
      have x1 : IntKind.i64.wrap (s + t) = s + t := IntWalk.i64_in _ (by omega)
      have x2 : IntKind.i64.wrap (sk + t) = sk + t := IntWalk.i64_in _ (by omega)
      clear hcell es et hl1 hs1
      go_wp2
      go_quiet ((go_at_call 97; exact quiet_eq (l00Max_any _ _ _)))
      go_wp2
      go_roundw
      case rel => exact ⟨k + 1, by omega, by go_num, by rw [HL1.out], by rw [HS1.out], below_drewN HD.out _⟩
      case measure => simp [intOf]; omega
    · obtain rfl : k = n := by omega
      obtain ⟨b0, b1, b2, b3⟩ := HBD.out k (by omega)
      have x1 : IntKind.i64.wrap (lastK js ss k - sumT js k) = lastK js ss k - sumT js k := IntWalk.i64_in _ (by omega)
      go_wp2
      go_ret2
      exact ⟨rfl, HD.out⟩

set_option maxHeartbeats 4000000 in
set_option maxRecDepth 100000 in
theorem implIdle (w : World) (g n c : Nat) (js : List J) (hn : js.length = n) (hcap : n ≤ c) (hm : n ≤ 1048576) (hj : JRd w g 0 js) (hg : g < w.heap.size) (g' n' c' : Nat) (ss : List Int) (hn' : ss.length = n') (hcap' : n' ≤ c') (hm' : n' ≤ 1048576) (hx : Rd w g' 0 ss) (hg' : g' < w.heap.size) :
    Calls Try.prog 46 #[.slice (some ⟨g, 0, none⟩) n c, .slice (some ⟨g', 0, none⟩) n' c'] w fun e w' => e = .returned (.tuple #[.int .i64 (idV js ss), .bool (idB js ss)]) ∧ Below w.heap.size w w' := by
  have HN := Lib.hid hn; have HN' := Lib.hid hn'; have HJ := Lib.hid hj; have HX := Lib.hid hx
  cases hs : stB js ss
  · have e2 : idB js ss = false := by unfold idB; rw [hs]; rfl
    have e1 : idV js ss = 0 := by unfold idV; rw [e2]; rfl
    have HV : Hid ((stB js ss && keptK js ss n) = false) := Lib.hid (by rw [hs]; rfl)
    rw [e1, e2]
    have HS := Lib.hid hs
    clear hn hn' hj hx hs e1 e2
    go_enter Try.func46, Try.ntmps46
    go_wp2_with (go_at_call 42; refine (implPlan _ g n c js HN.out hcap hm HJ.out hg g' n' c' ss HN'.out hcap' hm' HX.out hg').mono ?_; rintro e w1 ⟨rfl, hb⟩; rw [HV.out, HS.out])
    go_ret2
    exact ⟨rfl, hb⟩
  have HS := Lib.hid hs
  obtain ⟨hjb, hl, hsb⟩ := stB_of hs
  have hnn : n' = n := by omega
  have HNN := Lib.hid hnn
  cases hk : keptK js ss n
  · have e2 : idB js ss = false := by unfold idB; rw [hn, hk, Bool.and_false]
    have e1 : idV js ss = 0 := by unfold idV; rw [e2]; rfl
    have HV : Hid ((stB js ss && keptK js ss n) = false) := Lib.hid (by rw [hk, Bool.and_false])
    rw [e1, e2]
    clear hn hn' hj hx hs e1 e2 hk hjb hl hsb hnn
    go_enter Try.func46, Try.ntmps46
    go_wp2_with (go_at_call 42; refine (implPlan _ g n c js HN.out hcap hm HJ.out hg g' n' c' ss HN'.out hcap' hm' HX.out hg').mono ?_; rintro e w1 ⟨rfl, hb⟩; rw [HV.out, HS.out])
    go_ret2
    exact ⟨rfl, hb⟩
  have HV : Hid ((stB js ss && keptK js ss n) = true) := Lib.hid (by rw [hs, hk]; rfl)
  obtain ⟨n1, n2, hjs⟩ := jobsB_of hjb
  have e2 : idB js ss = true := by unfold idB; rw [hs, hn, hk]; rfl
  have e1 : idV js ss = lastK js ss n - sumT js n := by unfold idV; rw [e2, hn]; rfl
  rw [e1, e2]
  have hat : ∀ i, i < n → ∃ s t r u v : Int, 0 ≤ s ∧ s ≤ 1000000 ∧ 1 ≤ t ∧ t ≤ 10000 ∧ eN ss i = s ∧ (jN js i).time = t ∧ ∀ wr, Below w.heap.size w wr → wr.cell? ⟨g', i, none⟩ = some (.int .i64 s) ∧ wr.cell? ⟨g, i * 4, none⟩ = some (.int .i64 t) ∧ wr.cell? ⟨g, i * 4 + 1, none⟩ = some (.int .i64 r) ∧ wr.cell? ⟨g, i * 4 + 2, none⟩ = some (.int .i64 u) ∧ wr.cell? ⟨g, i * 4 + 3, none⟩ = some (.int .i64 v) := by
    intro i hi
    have b := hsb i (by omega)
    have q := hjs i (by omega)
    refine ⟨ss[i], js[i].time, js[i].rel, js[i].due, js[i].wt, b.1, b.2, q.1, q.2.1, eN_eq (by omega), by rw [jN_eq (by omega)], fun wr hd => ?_⟩
    have c1 := (hx.below hd hg') i (by omega)
    obtain ⟨d0, d1, d2, d3⟩ := (hj.below hd hg) i (by omega)
    rw [Nat.zero_add] at c1 d0 d1 d2 d3
    exact ⟨c1, d0, d1, d2, d3⟩
  have hbd := lastK_bd (n := n) hat
  have HA := Lib.hid hat; have HBD := Lib.hid hbd
  rw [hn] at n1 n2
  clear hat hbd hjs hsb hl hs hjb hx hj hn hn' hk e1 e2 hnn
  go_enter Try.func46, Try.ntmps46
  go_wp2_with (go_at_call 42; refine (implPlan _ g n c js HN.out hcap hm HJ.out hg g' n' c' ss HN'.out hcap' hm' HX.out hg').mono ?_; rintro e w1 ⟨rfl, hb⟩; rw [HV.out, HS.out])
  go_loopw [8, 9, 10, 11, 26] (fun a b _ _ i wr => ∃ k : Nat, k ≤ n ∧ i = .int .i64 k ∧ a = .int .i64 (lastK js ss k) ∧ b = .int .i64 (sumT js k) ∧ Below w.heap.size w wr) (fun _ _ _ _ i _ => n - (intOf i).toNat)
  case atStart => exact ⟨0, Nat.zero_le _, rfl, rfl, rfl, hb⟩
  case round =>
    obtain ⟨k, hk, rfl, rfl, rfl, hd⟩ := hrel
    have HD := Lib.hid hd
    clear hd
    by_cases hlt : k < n
    · obtain ⟨s, t, r, u, v, s0, s1, t0, t1, es, et, hcell⟩ := HA.out k hlt
      obtain ⟨c1, c2, c3, c4, c5⟩ := hcell _ HD.out
      obtain ⟨b0, b1, b2, b3⟩ := HBD.out k (by omega)
      have hkn : k < n' := by have := HNN.out; omega
      have hl1 : lastK js ss (k + 1) = max (lastK js ss k) (s + t) := by rw [← es, ← et]; rfl
      have hs1 : sumT js (k + 1) = sumT js k + t := by rw [← et]; rfl
      have HCk := Lib.hid hcell; have HL1 := Lib.hid hl1; have HS1 := Lib.hid hs1
      generalize lastK js ss k = lk at *
      generalize sumT js k = sk at *
      have x1 : IntKind.i64.wrap (s + t) = s + t := IntWalk.i64_in _ (by omega)
      have x2 : IntKind.i64.wrap (sk + t) = sk + t := IntWalk.i64_in _ (by omega)
      clear hcell es et hl1 hs1
      go_wp2
      have hbW : Below w.heap.size w (wr.alloc (.cells #[.int .i64 t, .int .i64 r, .int .i64 u, .int .i64 v] 67)) := HD.out.alloc HD.out.size _
      have d0 : (wr.alloc (.cells #[.int .i64 t, .int .i64 r, .int .i64 u, .int .i64 v] 67)).cell? ⟨wr.heap.size, 0, none⟩ = some (.int .i64 t) := by rw [cell_of_row _ _ 0 _ 67 (0, 0) (heap_alloc_new wr _)]; rfl
      generalize wr.alloc (.cells #[.int .i64 t, .int .i64 r, .int .i64 u, .int .i64 v] 67) = W at hbW d0 ⊢
      generalize wr.heap.size = B at d0 ⊢
      clear c1 c2 c3 c4 c5
      have HW := Lib.hid hbW
      obtain ⟨c1, _, _, _, _⟩ := HCk.out _ hbW
      clear hbW
      by_cases hmx : lk < s + t
      · have HM : Hid (max lk (s + t) = s + t) := Lib.hid (by omega)
        go_quiet (fail)
        go_wp2
        go_roundw
        case rel => exact ⟨k + 1, by omega, by go_num, by rw [HL1.out, HM.out], by rw [HS1.out], below_drewN HW.out _⟩
        case measure => simp [intOf]; omega
      · have HM : Hid (max lk (s + t) = lk) := Lib.hid (by omega)
        go_quiet (fail)
        go_wp2
        go_roundw
        case rel => exact ⟨k + 1, by omega, by go_num, by rw [HL1.out, HM.out], by rw [HS1.out], below_drewN HW.out _⟩
        case measure => simp [intOf]; omega
    · obtain rfl : k = n := by omega
      obtain ⟨b0, b1, b2, b3⟩ := HBD.out k (by omega)
      have x1 : IntKind.i64.wrap (lastK js ss k - sumT js k) = lastK js ss k - sumT js k := IntWalk.i64_in _ (by omega)
      go_wp2
      go_ret2
      exact ⟨rfl, HD.out⟩

set_option maxHeartbeats 4000000 in
set_option maxRecDepth 100000 in
theorem idleOf_walk (a0 : Option Addr) (len0 cap0 : Nat) (z0 : List J) (a1 : Option Addr) (len1 cap1 : Nat) (z1 : List Int) (w : World) (w0 : IsJobs w a0 len0 z0 ∧ len0 ≤ maxLen) (w1 : IsRow .i64 w a1 len1 cap1 z1) :
    Calls Try.prog 11 #[.slice a0 len0 cap0, .slice a1 len1 cap1] w fun e w' => e = .returned (.bool true) ∧ Below w.heap.size w w' := by
  have hlz1 := w1.len
  have HLm1 : len1 ≤ 9223372036854775807 := by
    have := w1; rcases this with ⟨_, h, _, _⟩ | ⟨_, _, h1, h2, _⟩ <;> (try simp only [maxLen] at *) <;> omega
  have W1 := Lib.hid w1; clear w1
  have HL1 := Lib.hid (take_len hlz1)
  clear hlz1
  obtain ⟨w0, hlen0⟩ := w0
  have W0 := Lib.hid w0; clear w0
  have HL0 := Lib.hid W0.out.1
  unfold maxLen at hlen0
  by_cases h1 : len1 ≤ 1048576
  case neg =>
    go_enter Try.func11, Try.ntmps11
    go_wp2
    go_ret
    exact ⟨rfl, .refl _ _⟩
  by_cases hs0 : len0 ≤ 1048576
  case neg =>
    have hz0 : szV (1048576) len0 = -1 := by unfold szV; rw [if_pos (by omega)]
    have HZ0 := Lib.hid hz0; clear hz0
    go_enter Try.func11, Try.ntmps11
    go_wp2_with fail
    go_at_call 26
    refine (szJobS_any _ _ _ _ _ (by omega) (by omega) (by omega)).mono ?_
    rintro e w' ⟨rfl, rfl⟩
    rw [HZ0.out]
    go_wp2
    go_ret
    exact ⟨rfl, .refl _ _⟩
  have hz0 : szV (1048576) len0 = 1048576 - len0 := by unfold szV; rw [if_neg (by omega)]
  have HZ0 := Lib.hid hz0; clear hz0
  have h0 : len0 ≤ 1048576 := by omega
  go_enter Try.func11, Try.ntmps11
  go_wp2_with fail
  go_at_call 26
  refine (szJobS_any _ _ _ _ _ (by omega) (by omega) (by omega)).mono ?_
  rintro e w' ⟨rfl, rfl⟩
  rw [HZ0.out]
  have B0 := Lib.hid (Below.refl w.heap.size w)
  go_wp2_with fail
  go_at_call 28
  refine (toJobS_any a0 len0 cap0 z0 _ (W0.out.below B0.out) h0).mono ?_
  rintro e w1 ⟨gS0, rfl, hr, hg, hb⟩
  rw [HL0.out]
  have B1 := Lib.hid (B0.out.trans (hb.mono B0.out.size))
  have S0_1 := Lib.hid hr; clear hr hb hg
  go_wp2_with fail
  go_at_call 23
  refine (toInt64S_any a1 len1 cap1 z1 _ (W1.out.below B1.out) h1).mono ?_
  rintro e w2 ⟨gS1, rfl, hr, hg, hb⟩
  rw [HL1.out] at hr ⊢
  have S0_2 := Lib.hid (S0_1.out.below hb S0_1.out.lt)
  have B2 := Lib.hid (B1.out.trans (hb.mono B1.out.size))
  have S1_2 := Lib.hid hr; clear hr hb hg
  go_wp2_with fail
  go_at_call 45
  refine (specIdle _ gS0 len0 len0 z0 HL0.out (Nat.le_refl _) h0 S0_2.out.rd S0_2.out.lt gS1 len1 len1 (z1.take len1) HL1.out (Nat.le_refl _) h1 S1_2.out.rd S1_2.out.lt).mono ?_
  rintro e w3 ⟨rfl, hb⟩
  have S0_3 := Lib.hid (S0_2.out.below hb S0_2.out.lt)
  have S1_3 := Lib.hid (S1_2.out.below hb S1_2.out.lt)
  have B3 := Lib.hid (B2.out.trans (hb.mono B2.out.size))
  clear hb
  go_wp2_with fail
  go_at_call 28
  refine (toJobS_any a0 len0 cap0 z0 _ (W0.out.below B3.out) h0).mono ?_
  rintro e w4 ⟨gX0, rfl, hr, hg, hb⟩
  rw [HL0.out]
  have B4 := Lib.hid (B3.out.trans (hb.mono B3.out.size))
  have X0_4 := Lib.hid hr; clear hr hb hg
  go_wp2_with fail
  go_at_call 23
  refine (toInt64S_any a1 len1 cap1 z1 _ (W1.out.below B4.out) h1).mono ?_
  rintro e w5 ⟨gX1, rfl, hr, hg, hb⟩
  rw [HL1.out] at hr ⊢
  have X0_5 := Lib.hid (X0_4.out.below hb X0_4.out.lt)
  have B5 := Lib.hid (B4.out.trans (hb.mono B4.out.size))
  have X1_5 := Lib.hid hr; clear hr hb hg
  go_wp2_with fail
  go_at_call 46
  refine (implIdle _ gX0 len0 len0 z0 HL0.out (Nat.le_refl _) h0 X0_5.out.rd X0_5.out.lt gX1 len1 len1 (z1.take len1) HL1.out (Nat.le_refl _) h1 X1_5.out.rd X1_5.out.lt).mono ?_
  rintro e w6 ⟨rfl, hb⟩
  have X0_6 := Lib.hid (X0_5.out.below hb X0_5.out.lt)
  have X1_6 := Lib.hid (X1_5.out.below hb X1_5.out.lt)
  have B6 := Lib.hid (B5.out.trans (hb.mono B5.out.size))
  clear hb
  go_wp2_with fail
  go_at_call 28
  refine (toJobS_any a0 len0 cap0 z0 _ (W0.out.below B6.out) h0).mono ?_
  rintro e w7 ⟨gE0, rfl, hr, hg, hb⟩
  rw [HL0.out]
  have X0_7 := Lib.hid (X0_6.out.below hb X0_6.out.lt)
  have X1_7 := Lib.hid (X1_6.out.below hb X1_6.out.lt)
  have B7 := Lib.hid (B6.out.trans (hb.mono B6.out.size))
  have E0_7 := Lib.hid hr; clear hr hb hg
  go_wp2_with fail
  go_at_call 30
  refine (eqJobS_any _ _ len0 len0 len0 len0 z0 z0 _ HL0.out HL0.out X0_7.out.at' E0_7.out.at' h0 h0).mono ?_
  rintro e w8 ⟨rfl, hb⟩
  rw [eqJs_self]
  have X0_8 := Lib.hid (X0_7.out.below hb X0_7.out.lt)
  have X1_8 := Lib.hid (X1_7.out.below hb X1_7.out.lt)
  have B8 := Lib.hid (B7.out.trans (hb.mono B7.out.size))
  clear hb
  go_wp2_with fail
  go_at_call 23
  refine (toInt64S_any a1 len1 cap1 z1 _ (W1.out.below B8.out) h1).mono ?_
  rintro e w9 ⟨gE1, rfl, hr, hg, hb⟩
  rw [HL1.out] at hr ⊢
  have X0_9 := Lib.hid (X0_8.out.below hb X0_8.out.lt)
  have X1_9 := Lib.hid (X1_8.out.below hb X1_8.out.lt)
  have B9 := Lib.hid (B8.out.trans (hb.mono B8.out.size))
  have E1_9 := Lib.hid hr; clear hr hb hg
  go_wp2_with fail
  go_at_call 25
  refine (eqInt64S_any _ _ len1 len1 len1 len1 (z1.take len1) (z1.take len1) _ HL1.out HL1.out X1_9.out.at' E1_9.out.at' h1 h1).mono ?_
  rintro e w10 ⟨rfl, hd⟩
  rw [eqB_self]
  have hb : Below w9.heap.size w9 w10 := hd.below
  have X0_10 := Lib.hid (X0_9.out.below hb X0_9.out.lt)
  have X1_10 := Lib.hid (X1_9.out.below hb X1_9.out.lt)
  have B10 := Lib.hid (B9.out.trans (hb.mono B9.out.size))
  clear hb
  go_wp2
  go_ret
  exact ⟨rfl, B10.out⟩

end Go.Proofs.Ytncmhinpjkkfkaa
