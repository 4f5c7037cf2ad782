/-
  Walks: the law IsJobPlan, the checks. Conditions: none.
-/
import Derived.Test.YtncmhinpjkkfkaaK11
set_option linter.unusedVariables false
set_option linter.unusedSimpArgs false
namespace Go.Proofs.Ytncmhinpjkkfkaa
open Go Go.RowKit

def stB (js : List J) (ss : List Int) : Bool := jobsB js && (decide ((ss.length : Int) = js.length) && allIn ss 0 1000000)
def clash (js : List J) (ss : List Int) (i k : Nat) : Bool := decide (eN ss k < eN ss i + (jN js i).time) && decide (eN ss i < eN ss k + (jN js k).time)
def rowK (js : List J) (ss : List Int) (i m : Nat) : Bool := (List.range m).any (clash js ss i)
def badI (js : List J) (ss : List Int) (i : Nat) : Bool := decide (eN ss i < (jN js i).rel) || rowK js ss i i
def keptK (js : List J) (ss : List Int) (m : Nat) : Bool := (List.range m).all fun i => !badI js ss i

theorem rowK_succ (js : List J) (ss : List Int) (i m : Nat) : rowK js ss i (m + 1) = (rowK js ss i m || clash js ss i m) := by
  unfold rowK; rw [List.range_succ, List.any_append]; simp
theorem keptK_succ (js : List J) (ss : List Int) (m : Nat) : keptK js ss (m + 1) = (keptK js ss m && !badI js ss m) := by
  unfold keptK; rw [List.range_succ, List.all_append]; simp
theorem badI_row {js : List J} {ss : List Int} {i m : Nat} (h : clash js ss i m = true) (hm : m < i) : badI js ss i = true := by
  unfold badI rowK
  rw [Bool.or_eq_true, List.any_eq_true]
  exact .inr ⟨m, List.mem_range.2 hm, h⟩
theorem keptK_bad {js : List J} {ss : List Int} {n i : Nat} (h : badI js ss i = true) (hi : i < n) : keptK js ss n = false := by
  unfold keptK
  rw [List.all_eq_false]
  exact ⟨i, List.mem_range.2 hi, by simp [h]⟩

theorem l02Starts_any (w : World) (g n c : Nat) (js : List J) (hn : js.length = n) (hm : n ≤ 1048576) (hj : JRd w g 0 js) (g' n' c' : Nat) (ss : List Int) (hn' : ss.length = n') (hm' : n' ≤ 1048576) (hx : Rd w g' 0 ss) :
    Calls Try.prog 93 #[.slice (some ⟨g, 0, none⟩) n c, .slice (some ⟨g', 0, none⟩) n' c'] w fun e w' => e = .returned (.bool (stB js ss)) ∧ w = w' := by
  have hb : stB js ss = (jobsB js && (decide ((n' : Int) = n) && allIn ss 0 1000000)) := by unfold stB; rw [hn, hn']
  have HB := Lib.hid hb; have HN := Lib.hid hn; have HN' := Lib.hid hn'; have HJ := Lib.hid hj; have HC := Lib.hid hx
  clear hb hn hn' hj hx
  go_enter Try.func93, Try.ntmps93
  go_wp2
  go_loop [5] (fun i => ∃ k : Nat, k ≤ n' ∧ i = .int .i64 k ∧ allIn (ss.take k) 0 1000000 = true) (fun i => n' - (intOf i).toNat)
  case atStart => exact ⟨0, Nat.zero_le _, rfl, by simp [allIn]⟩
  case round =>
    obtain ⟨k, hk, rfl, hno⟩ := hrel
    have HO := Lib.hid hno
    clear hno
    by_cases hlt : k < n'
    · have hkx : k < ss.length := by have := HN'.out; omega
      have hcell := HC.out k hkx
      rw [Nat.zero_add] at hcell
      have hs := allIn_succ ss 0 1000000 k hkx
      rw [HO.out, Bool.true_and] at hs
      have hf := allIn_false ss 0 1000000 (k + 1)
      have HS := Lib.hid hs; have HF := Lib.hid hf
      clear hs hf
      by_cases h1 : inB ss[k] 0 1000000 = true
      · go_wp2_with (go_at_call 69; refine (l00In_any _ _ _ _).mono ?_; rintro e w' ⟨rfl, rfl⟩; rw [h1])
        go_round
        case rel => exact ⟨k + 1, by omega, by go_num, by rw [HS.out, h1]⟩
        case measure => simp [intOf]; omega
      · rw [Bool.not_eq_true] at h1
        go_wp2_with (go_at_call 69; refine (l00In_any _ _ _ _).mono ?_; rintro e w' ⟨rfl, rfl⟩; rw [h1])
        go_ret
        exact ⟨ret_bool (by rw [HB.out, HF.out (by rw [HS.out, h1]), Bool.and_false, Bool.and_false]), rfl⟩
    · have hfin : allIn ss 0 1000000 = true := by
        have := HO.out; rw [List.take_of_length_le (by have := HN'.out; omega)] at this; exact this
      have HF := Lib.hid hfin; clear hfin
      cases hj : jobsB js
      · have HJB := Lib.hid hj; clear hj
        go_wp2_with (go_at_call 77; refine (l02Jobs_any _ n c js _ HN.out hm (.inr ⟨g, 0, rfl, HJ.out⟩)).mono ?_; rintro e w' ⟨rfl, rfl⟩; rw [HJB.out])
        go_ret
        exact ⟨ret_bool (by rw [HB.out, HJB.out, Bool.false_and]), rfl⟩
      · have HJB := Lib.hid hj; clear hj
        by_cases he : n' = n
        · subst he
          go_wp2_with (go_at_call 77; refine (l02Jobs_any _ n' c js _ HN.out hm (.inr ⟨g, 0, rfl, HJ.out⟩)).mono ?_; rintro e w' ⟨rfl, rfl⟩; rw [HJB.out])
          go_ret
          exact ⟨ret_bool (by rw [HB.out, HJB.out, HF.out]; simp), rfl⟩
        · have HDF := Lib.hid (decide_eq_false (show ¬ (n' : Int) = n by omega))
          have hbe : ((n' : Int) == (n : Int)) = false := beq_eq_false_iff_ne.2 (by omega)
          go_wp2_with (go_at_call 77; refine (l02Jobs_any _ n c js _ HN.out hm (.inr ⟨g, 0, rfl, HJ.out⟩)).mono ?_; rintro e w' ⟨rfl, rfl⟩; rw [HJB.out])
          go_ret
          exact ⟨ret_bool (by rw [HB.out, HDF.out, Bool.false_and, Bool.and_false]), rfl⟩

theorem areStarts_any (w : World) (g' n' c' : Nat) (ss : List Int) (hn' : ss.length = n') (hm' : n' ≤ 1048576) (hx : Rd w g' 0 ss) (x : Int) :
    Calls Try.prog 95 #[.slice (some ⟨g', 0, none⟩) n' c', .int .i64 x] w fun e w' => e = .returned (.bool (decide ((n' : Int) = x) && allIn ss 0 1000000)) ∧ w = w' := by
  have hb : manyB ss x x 0 1000000 = (decide ((n' : Int) = x) && allIn ss 0 1000000) := by
    unfold manyB; rw [hn', ← Bool.and_assoc]
    congr 1
    by_cases h : (n' : Int) = x
    · simp [h]
    · simp [h]; omega
  have HB := Lib.hid hb; have HN' := Lib.hid hn'; have HC := Lib.hid hx
  clear hb hn' hx
  go_enter Try.func95, Try.ntmps95
  go_wp2_with (go_at_call 126; refine (areMany_any _ n' c' ss _ _ _ _ _ HN'.out hm' (.inr ⟨g', 0, rfl, HC.out⟩)).mono ?_; rintro e w' ⟨rfl, rfl⟩; rw [HB.out])
  go_ret
  exact ⟨rfl, rfl⟩

/-- What is known of valid starts. -/
theorem stB_of {js : List J} {ss : List Int} (h : stB js ss = true) : jobsB js = true ∧ ss.length = js.length ∧ ∀ i (hi : i < ss.length), 0 ≤ ss[i] ∧ ss[i] ≤ 1000000 := by
  unfold stB at h
  simp only [Bool.and_eq_true, decide_eq_true_eq] at h
  exact ⟨h.1, by omega, fun i hi => allIn_mem h.2.2 _ (List.getElem_mem _)⟩

set_option maxHeartbeats 4000000 in
set_option maxRecDepth 100000 in
theorem l02Kept_any (w : World) (g n c : Nat) (js : List J) (hn : js.length = n) (hj : JRd w g 0 js) (g' c' : Nat) (ss : List Int) (hx : Rd w g' 0 ss) (hs : stB js ss = true) :
    Calls Try.prog 94 #[.slice (some ⟨g, 0, none⟩) n c, .slice (some ⟨g', 0, none⟩) n c'] w fun e w' => e = .returned (.bool (keptK js ss n)) ∧ Dr w w' := by
  obtain ⟨hjb, hl, hsb⟩ := stB_of hs
  obtain ⟨n1, n2, hjs⟩ := jobsB_of hjb
  rw [hn] at hl n1 n2
  have hat : ∀ i, i < n → ∃ s t r : Int, 0 ≤ s ∧ s ≤ 1000000 ∧ 1 ≤ t ∧ t ≤ 10000 ∧ eN ss i = s ∧ (jN js i).time = t ∧ (jN js i).rel = r ∧ ∀ wr, Dr w wr → wr.cell? ⟨g', i, none⟩ = some (.int .i64 s) ∧ wr.cell? ⟨g, i * 4, none⟩ = some (.int .i64 t) ∧ wr.cell? ⟨g, i * 4 + 1, none⟩ = some (.int .i64 r) := by
    intro i hi
    have b := hsb i (by omega)
    have q := hjs i (by omega)
    refine ⟨ss[i], js[i].time, js[i].rel, b.1, b.2, q.1, q.2.1, eN_eq (by omega), by rw [jN_eq (by omega)], by rw [jN_eq (by omega)], fun wr hd => ?_⟩
    have c1 := (hd.rd hx) i (by omega)
    obtain ⟨d0, d1, _, _⟩ := (hd.jrd hj) i (by omega)
    rw [Nat.zero_add] at c1 d0 d1
    exact ⟨c1, d0, d1⟩
  have HA := Lib.hid hat
  clear hat hjs hsb hl hs hjb hx hj hn
  go_enter Try.func94, Try.ntmps94
  go_wp2
  go_loopw [5, 6] (fun i _ wr => ∃ k : Nat, k ≤ n ∧ i = .int .i64 k ∧ keptK js ss k = true ∧ Dr w wr) (fun i _ _ => n - (intOf i).toNat)
  case atStart => exact ⟨0, Nat.zero_le _, rfl, rfl, .refl _⟩
  case round =>
    obtain ⟨k, hk, rfl, hkk, hd⟩ := hrel
    have HK := Lib.hid hkk; have HD := Lib.hid hd
    clear hkk hd
    by_cases hlt : k < n
    · obtain ⟨s, t, r, s0, s1, t0, t1, es, et, er, hcell⟩ := HA.out k hlt
      obtain ⟨c1, c2, c3⟩ := hcell _ HD.out
      have HCk := Lib.hid hcell; have ES := Lib.hid es; have ET := Lib.hid et; have ER := Lib.hid er
      clear hcell es et er
      by_cases hr : s < r
      · have hbad : keptK js ss n = false := keptK_bad (i := k) (by unfold badI; rw [ES.out, ER.out, decide_eq_true hr]; rfl) hlt
        have HBAD := Lib.hid hbad; clear hbad
        go_wp2
        go_quiet (fail)
        go_wp2
        go_ret
        exact ⟨ret_bool HBAD.out.symm, HD.out.drewN _⟩
      · go_wp2
        go_quiet (fail)
        go_wp2
        have NB : Hid (decide (s < r) = false) := Lib.hid (decide_eq_false (by omega))
        go_loopw [6] (fun m wr' => ∃ q : Nat, q ≤ k ∧ m = .int .i64 q ∧ rowK js ss k q = false ∧ Dr w wr') (fun m _ => k - (intOf m).toNat)
        case atStart => exact ⟨0, Nat.zero_le _, rfl, rfl, HD.out.drewN _⟩
        case round =>
          obtain ⟨q, hq, rfl, hrow, hd2⟩ := hrel
          have HR := Lib.hid hrow; have HD2 := Lib.hid hd2
          clear hrow hd2 c1 c2 c3
          by_cases hlt2 : q < k
          · obtain ⟨s', t', r', s0', s1', t0', t1', es, et, er, hcell⟩ := HA.out q (by omega)
            obtain ⟨c4, c5, c6⟩ := hcell _ HD2.out
            obtain ⟨c1, c2, c3⟩ := HCk.out _ HD2.out
            have hcl : clash js ss k q = (decide (s' < s + t) && decide (s < s' + t')) := by unfold clash; rw [ES.out, ET.out, es, et]
            have hrn : rowK js ss k (q + 1) = (decide (s' < s + t) && decide (s < s' + t')) := by rw [rowK_succ, HR.out, hcl, Bool.false_or]
            have x1 : IntKind.i64.wrap (s + t) = s + t := IntWalk.i64_in _ (by omega)
            have x2 : IntKind.i64.wrap (s' + t') = s' + t' := IntWalk.i64_in _ (by omega)
            have HCL := Lib.hid hcl; have HRN := Lib.hid hrn
            clear hcell es et er hcl hrn
            by_cases h1 : s' < s + t
            · by_cases h2 : s < s' + t'
              · have hbad : keptK js ss n = false := keptK_bad (badI_row (by rw [HCL.out, decide_eq_true h1, decide_eq_true h2]; rfl) hlt2) hlt
                have HBAD := Lib.hid hbad; clear hbad
                go_wp2
                go_quiet (fail)
                go_wp2
                go_ret
                exact ⟨ret_bool HBAD.out.symm, HD2.out.drewN _⟩
              · have RN : Hid (rowK js ss k (q + 1) = false) := Lib.hid (by rw [HRN.out, decide_eq_false h2, Bool.and_false])
                go_wp2
                go_quiet (fail)
                go_wp2
                go_roundw
                case rel => exact ⟨q + 1, by omega, by go_num, RN.out, HD2.out.drewN _⟩
                case measure => simp [intOf]; omega
            · have RN : Hid (rowK js ss k (q + 1) = false) := Lib.hid (by rw [HRN.out, decide_eq_false h1, Bool.false_and])
              have hd1 : decide (s' < s + t) = false := decide_eq_false h1
              have h1' : s + t ≤ s' := by omega
              clear h1
              go_wp2
              go_quiet (fail)
              go_wp2
              go_roundw
              case rel => exact ⟨q + 1, by omega, by go_num, RN.out, HD2.out.drewN _⟩
              case measure => simp [intOf]; omega
          · obtain rfl : q = k := by omega
            have KN : Hid (keptK js ss (q + 1) = true) := Lib.hid (by rw [keptK_succ, HK.out, badI, ES.out, ER.out, NB.out, HR.out]; rfl)
            go_wp2
            go_roundw
            case rel => exact ⟨q + 1, by omega, by go_num, KN.out, HD2.out⟩
            case measure => simp [intOf]; omega
    · obtain rfl : k = n := by omega
      go_wp2
      go_ret
      exact ⟨ret_bool HK.out.symm, HD.out⟩
end Go.Proofs.Ytncmhinpjkkfkaa
