/-
  Walks: jobs with unlike times, each to the machine on which it ends first. Conditions: none.
-/
import Derived.Test.YtncmhinpjkkfkaaK23
import Derived.Test.YtncmhinpjkkfkaaK13
set_option linter.unusedVariables false
set_option linter.unusedSimpArgs false
namespace Go.Proofs.Ytncmhinpjkkfkaa
open Go Go.RowKit

/-- When the i-th job would end on each machine. -/
def thenL (ts : List Int) (m : Nat) (fs : List Int) (i : Nat) (k : Nat) : List Int := (List.range k).map fun (j : Nat) => fs.getD j 0 + ts.getD (i * m + j) 0
theorem thenL_len (ts : List Int) (m : Nat) (fs : List Int) (i k : Nat) : (thenL ts m fs i k).length = k := by simp [thenL]
theorem thenL_get {ts : List Int} {m : Nat} {fs : List Int} {i k j : Nat} (h : j < k) : (thenL ts m fs i k).getD j 0 = fs.getD j 0 + ts.getD (i * m + j) 0 := by simp [thenL, h]
theorem thenL_succ (ts : List Int) (m : Nat) (fs : List Int) (i k : Nat) : thenL ts m fs i (k + 1) = thenL ts m fs i k ++ [fs.getD k 0 + ts.getD (i * m + k) 0] := by simp [thenL, List.range_succ]

/-- The machines so far, and the times at which they are free. -/
def unS (ts : List Int) (m : Nat) : Nat → List Int × List Int
  | 0 => ([], List.replicate m 0)
  | i + 1 => ((unS ts m i).1 ++ [((amK (thenL ts m (unS ts m i).2 i m) m : Nat) : Int)],
      (unS ts m i).2.set (amK (thenL ts m (unS ts m i).2 i m) m) ((thenL ts m (unS ts m i).2 i m).getD (amK (thenL ts m (unS ts m i).2 i m) m) 0))

theorem unS_len (ts : List Int) (m : Nat) : ∀ i, (unS ts m i).1.length = i ∧ (unS ts m i).2.length = m
  | 0 => by simp [unS]
  | i + 1 => by have := unS_len ts m i; simp [unS, this]

theorem unS_bd {ts : List Int} {m n : Nat} (ht : ∀ i, i < n * m → 1 ≤ ts.getD i 0 ∧ ts.getD i 0 ≤ 10000) (hm : 1 ≤ m) :
    ∀ k, k ≤ n → ∀ i, i < m → 0 ≤ (unS ts m k).2.getD i 0 ∧ (unS ts m k).2.getD i 0 ≤ 10000 * k
  | 0, _, i, hi => by simp [unS, hi]
  | k + 1, hk, i, hi => by
    have ih := unS_bd ht hm k (by omega)
    have hl := (unS_len ts m k).2
    have ha := amK_lt (thenL ts m (unS ts m k).2 k m) m hm
    have h1 := ih (amK (thenL ts m (unS ts m k).2 k m) m) ha
    have hmul : k * m + amK (thenL ts m (unS ts m k).2 k m) m < n * m := by
      have : (k + 1) * m ≤ n * m := Nat.mul_le_mul_right _ hk
      rw [Nat.add_mul, Nat.one_mul] at this; omega
    have h3 := ht _ hmul
    simp only [unS]
    rw [getD_set _ _ _ _ (by omega)]
    split
    · rw [thenL_get ha]; omega
    · have := ih i hi; omega

def unB (ts : List Int) (x : Int) : Bool := machB x && (decide (1 ≤ ts.length / x.toNat) && (decide (ts.length % x.toNat = 0) && (decide (ts.length / x.toNat ≤ 24) && allIn ts 1 10000)))

theorem unB_at {ts : List Int} {n m : Nat} (hn : ts.length = n) (hx : machB (m : Int) = true) : unB ts m = (decide (1 ≤ n / m) && (decide (n % m = 0) && (decide (n / m ≤ 24) && allIn ts 1 10000))) := by
  unfold unB; rw [hx, hn]; simp
theorem unB_of {ts : List Int} {x : Int} (h : unB ts x = true) : ∃ m : Nat, x = m ∧ 1 ≤ m ∧ m ≤ 8 ∧ machB x = true ∧ 1 ≤ ts.length / m ∧ ts.length % m = 0 ∧ ts.length / m ≤ 24 ∧ ts.length = ts.length / m * m ∧ ∀ y ∈ ts, 1 ≤ y ∧ y ≤ 10000 := by
  unfold unB at h
  simp only [Bool.and_eq_true, decide_eq_true_eq] at h
  obtain ⟨h0, h1, h2, h3, h4⟩ := h
  have hb := inB_lo h0
  refine ⟨x.toNat, by omega, by omega, by omega, h0, h1, h2, h3, ?_, allIn_mem h4⟩
  have := Nat.div_add_mod' ts.length x.toNat
  omega

theorem castDM (n m : Nat) : ((n : Int) % (m : Int)) = ((n % m : Nat) : Int) ∧ ((n : Int) / (m : Int)) = ((n / m : Nat) : Int) := ⟨by omega, by omega⟩

set_option maxHeartbeats 1000000 in
theorem l02Unlike_any (g c n : Nat) (ts : List Int) (x : Int) (w : World) (hn : ts.length = n) (hm : n ≤ 1048576) (hc : Rd w g 0 ts) :
    Calls Try.prog 89 #[.slice (some ⟨g, 0, none⟩) n c, .int .i64 x] w fun e w' => e = .returned (.bool (unB ts x)) ∧ w = w' := by
  cases hx : machB x with
  | false =>
    have hu : unB ts x = false := by unfold unB; rw [hx]; rfl
    have HU := Lib.hid hu; have HX := Lib.hid hx
    clear hu hx hc hn
    go_enter Try.func89, Try.ntmps89
    go_wp2_with (go_at_call 80; refine (l02Machines_any _ _).mono ?_; rintro e w' ⟨rfl, rfl⟩; rw [HX.out])
    go_ret
    exact ⟨ret_bool HU.out.symm, rfl⟩
  | true =>
    have hb := inB_lo hx
    obtain ⟨m, rfl⟩ : ∃ m : Nat, x = m := ⟨x.toNat, by omega⟩
    have m1 : 1 ≤ m := by omega
    have m2 : m ≤ 8 := by omega
    have hu := unB_at hn hx
    obtain ⟨hcm, hcd⟩ := castDM n m
    have HX := Lib.hid hx; have HN := Lib.hid hn; have HC := Lib.hid hc
    have mz : ((m : Int) == 0) = false := by simp; omega
    clear hb hx hn hc
    by_cases h1 : n < 1
    · have hu' : unB ts m = false := by
        rw [hu, Nat.div_eq_of_lt (by omega)]; rfl
      have HU := Lib.hid hu'
      clear hu hu' hcm hcd
      go_enter Try.func89, Try.ntmps89
      go_wp2_with (go_at_call 80; refine (l02Machines_any _ _).mono ?_; rintro e w' ⟨rfl, rfl⟩; rw [HX.out])
      go_ret
      exact ⟨ret_bool HU.out.symm, rfl⟩
    by_cases h2 : n % m = 0
    · have hz : ((n : Int) % (m : Int) != 0) = false := by rw [hcm, h2]; rfl
      have hge : m ≤ n := Nat.le_of_dvd (by omega) (Nat.dvd_of_mod_eq_zero h2)
      have hd1 : 1 ≤ n / m := (Nat.le_div_iff_mul_le (by omega)).2 (by omega)
      by_cases h3 : n / m ≤ 24
      · have hle : (n : Int) / (m : Int) ≤ 24 := by rw [hcd]; omega
        have hu' : unB ts m = allIn ts 1 10000 := by rw [hu, decide_eq_true hd1, decide_eq_true h2, decide_eq_true h3]; rfl
        have HU := Lib.hid hu'
        clear hu hu' hcm hcd h2
        go_enter Try.func89, Try.ntmps89
        go_wp2_with (go_at_call 80; refine (l02Machines_any _ _).mono ?_; rintro e w' ⟨rfl, rfl⟩; rw [HX.out])
        go_loop [6] (fun i => ∃ k : Nat, k ≤ n ∧ i = .int .i64 k ∧ allIn (ts.take k) 1 10000 = true) (fun i => n - (intOf i).toNat)
        case atStart => exact ⟨0, Nat.zero_le _, rfl, by simp [allIn]⟩
        case round =>
          obtain ⟨k, hk, rfl, hno⟩ := hrel
          have HO := Lib.hid hno
          clear hno
          by_cases hlt : k < n
          · have hkx : k < ts.length := by have := HN.out; omega
            have hcell := HC.out k hkx
            rw [Nat.zero_add] at hcell
            have hs := allIn_succ ts 1 10000 k hkx
            rw [HO.out, Bool.true_and] at hs
            have hf := allIn_false ts 1 10000 (k + 1)
            have HS := Lib.hid hs; have HF := Lib.hid hf
            clear hs hf
            by_cases h1 : inB ts[k] 1 10000 = true
            · go_wp2_with (go_at_call 69; refine (l00In_any _ _ _ _).mono ?_; rintro e w' ⟨rfl, rfl⟩)
              go_round
              case rel => exact ⟨k + 1, by omega, by go_num, by rw [HS.out, h1]⟩
              case measure => simp [intOf]; omega
            · rw [Bool.not_eq_true] at h1
              go_wp2_with (go_at_call 69; refine (l00In_any _ _ _ _).mono ?_; rintro e w' ⟨rfl, rfl⟩)
              go_ret
              exact ⟨ret_bool (by rw [HU.out, HF.out (by rw [HS.out, h1])]), rfl⟩
          · have hfin : allIn ts 1 10000 = true := by
              have := HO.out; rw [List.take_of_length_le (by have := HN.out; omega)] at this; exact this
            have HF := Lib.hid hfin; clear hfin
            go_wp2
            go_ret
            exact ⟨ret_bool (by rw [HU.out, HF.out]), rfl⟩
      · have hle : (24 : Int) < (n : Int) / (m : Int) := by rw [hcd]; omega
        have hle2 : (n : Int) / (m : Int) ≤ 1048576 := by rw [hcd]; have := Nat.div_le_self n m; omega
        have hu' : unB ts m = false := by rw [hu, decide_eq_false h3, Bool.false_and, Bool.and_false, Bool.and_false]
        have HU := Lib.hid hu'
        clear hu hu' hcm hcd h2
        go_enter Try.func89, Try.ntmps89
        go_wp2_with (go_at_call 80; refine (l02Machines_any _ _).mono ?_; rintro e w' ⟨rfl, rfl⟩; rw [HX.out])
        go_ret
        exact ⟨ret_bool HU.out.symm, rfl⟩
    · have hz : ((n : Int) % (m : Int) != 0) = true := by rw [hcm]; simp; omega
      have hu' : unB ts m = false := by rw [hu, decide_eq_false h2, Bool.false_and, Bool.and_false]
      have HU := Lib.hid hu'
      clear hu hu' hcm hcd h2
      go_enter Try.func89, Try.ntmps89
      go_wp2_with (go_at_call 80; refine (l02Machines_any _ _).mono ?_; rintro e w' ⟨rfl, rfl⟩; rw [HX.out])
      go_ret
      exact ⟨ret_bool HU.out.symm, rfl⟩

/-- What the program says of the jobs: how many, if they are valid. -/
def UJ (ts : List Int) (x : Int) (w : World) (e : Ending) (w' : World) : Prop :=
  ∃ v : Int, e = .returned (.tuple #[.int .i64 v, .bool (unB ts x)]) ∧ (unB ts x = true → v = ((ts.length / x.toNat : Nat) : Int)) ∧ w = w'

set_option maxHeartbeats 1000000 in
theorem unlikeJobs_any (g c n : Nat) (ts : List Int) (x : Int) (w : World) (hn : ts.length = n) (hm : n ≤ 1048576) (hc : Rd w g 0 ts) :
    Calls Try.prog 91 #[.slice (some ⟨g, 0, none⟩) n c, .int .i64 x] w (UJ ts x w) := by
  have hat := hc.at'
  cases hx : machB x with
  | false =>
    have hu : unB ts x = false := by unfold unB; rw [hx]; rfl
    have HU := Lib.hid hu; have HX := Lib.hid hx
    clear hu hx hc hn hat
    go_enter Try.func91, Try.ntmps91
    go_wp2_with (go_at_call 83; refine (areMachines_any _ _).mono ?_; rintro e w' ⟨rfl, rfl⟩; rw [HX.out])
    go_ret2
    exact ⟨0, by first | (rw [HU.out]; done) | (rw [HU.out]; rfl) | simp [HU.out], fun h => (by rw [HU.out] at h; cases h), rfl⟩
  | true =>
    have hb := inB_lo hx
    obtain ⟨m, rfl⟩ : ∃ m : Nat, x = m := ⟨x.toNat, by omega⟩
    have m1 : 1 ≤ m := by omega
    have m2 : m ≤ 8 := by omega
    have hu := unB_at hn hx
    obtain ⟨hcm, hcd⟩ := castDM n m
    have HX := Lib.hid hx; have HN := Lib.hid hn; have HC := Lib.hid hat
    have mz : ((m : Int) == 0) = false := by simp; omega
    clear hb hx hn hc hat
    by_cases h2 : n % m = 0
    · have hz : ((n : Int) % (m : Int) != 0) = false := by rw [hcm, h2]; rfl
      cases h4 : allIn ts 1 10000 with
      | false =>
        have hu' : unB ts m = false := by rw [hu, h4, Bool.and_false, Bool.and_false, Bool.and_false]
        have HU := Lib.hid hu'; have H4 := Lib.hid h4
        clear hu hu' hcm hcd h2 h4
        go_enter Try.func91, Try.ntmps91
        go_wp2_with (first | (go_at_call 83; refine (areMachines_any _ _).mono ?_; rintro e w' ⟨rfl, rfl⟩; rw [HX.out]) | (go_at_call 78; refine (areWithin_any _ n c ts 1 10000 _ HN.out hm HC.out).mono ?_; rintro e w' ⟨rfl, rfl⟩; rw [H4.out]))
        go_ret2
        exact ⟨0, by first | (rw [HU.out]; done) | (rw [HU.out]; rfl) | simp [HU.out], fun h => (by rw [HU.out] at h; cases h), rfl⟩
      | true =>
        have hu' : unB ts m = (decide (1 ≤ n / m) && decide (n / m ≤ 24)) := by rw [hu, h4, decide_eq_true h2, Bool.true_and, Bool.and_true]
        have HU := Lib.hid hu'; have H4 := Lib.hid h4
        have hle1 : 0 ≤ (n : Int) / (m : Int) := by rw [hcd]; exact Int.natCast_nonneg _
        have hle2 : (n : Int) / (m : Int) ≤ 1048576 := by rw [hcd]; have := Nat.div_le_self n m; omega
        have HV : Hid (((ts.length / (m : Int).toNat : Nat) : Int) = ((n / m : Nat) : Int)) := Lib.hid (by rw [HN.out, Int.toNat_natCast])
        clear hu hu' hcm h2 h4
        generalize hq : n / m = q at *
        clear hq
        by_cases h5 : 1 ≤ q
        · by_cases h6 : q ≤ 24
          · go_enter Try.func91, Try.ntmps91
            go_wp2_with (first | (go_at_call 83; refine (areMachines_any _ _).mono ?_; rintro e w' ⟨rfl, rfl⟩; rw [HX.out]) | (go_at_call 78; refine (areWithin_any _ n c ts 1 10000 _ HN.out hm HC.out).mono ?_; rintro e w' ⟨rfl, rfl⟩; rw [H4.out]))
            go_ret2
            exact ⟨q, by (rw [HU.out]; simp [h5, h6]; try omega), fun _ => HV.out.symm, rfl⟩
          · go_enter Try.func91, Try.ntmps91
            go_wp2_with (first | (go_at_call 83; refine (areMachines_any _ _).mono ?_; rintro e w' ⟨rfl, rfl⟩; rw [HX.out]) | (go_at_call 78; refine (areWithin_any _ n c ts 1 10000 _ HN.out hm HC.out).mono ?_; rintro e w' ⟨rfl, rfl⟩; rw [H4.out]))
            go_ret2
            exact ⟨q, by (rw [HU.out]; simp [h5]; try omega), fun _ => HV.out.symm, rfl⟩
        · go_enter Try.func91, Try.ntmps91
          go_wp2_with (first | (go_at_call 83; refine (areMachines_any _ _).mono ?_; rintro e w' ⟨rfl, rfl⟩; rw [HX.out]) | (go_at_call 78; refine (areWithin_any _ n c ts 1 10000 _ HN.out hm HC.out).mono ?_; rintro e w' ⟨rfl, rfl⟩; rw [H4.out]))
          go_ret2
          exact ⟨q, by (rw [HU.out]; simp; try omega), fun _ => HV.out.symm, rfl⟩
    · have hz : ((n : Int) % (m : Int) != 0) = true := by rw [hcm]; simp; omega
      have hu' : unB ts m = false := by rw [hu, decide_eq_false h2, Bool.false_and, Bool.and_false]
      have HU := Lib.hid hu'
      clear hu hu' hcm hcd h2
      go_enter Try.func91, Try.ntmps91
      go_wp2_with (go_at_call 83; refine (areMachines_any _ _).mono ?_; rintro e w' ⟨rfl, rfl⟩; rw [HX.out])
      go_ret2
      exact ⟨0, by first | (rw [HU.out]; done) | (rw [HU.out]; rfl) | simp [HU.out], fun h => (by rw [HU.out] at h; cases h), rfl⟩

end Go.Proofs.Ytncmhinpjkkfkaa
