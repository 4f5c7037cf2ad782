/-
  Walks: orders of jobs and when they end. Conditions: none.
-/
import Derived.Test.YtncmhinpjkkfkaaK6
set_option linter.unusedVariables false
set_option linter.unusedSimpArgs false
namespace Go.Proofs.Ytncmhinpjkkfkaa
open Go Go.RowKit

def canB (js : List J) (xs : List Int) : Bool := jobsB js && (ordB xs js.length xs.length && decide ((xs.length : Int) = js.length))

theorem jobsB_of {js : List J} (h : jobsB js = true) : 1 ≤ js.length ∧ js.length ≤ 24 ∧ ∀ i (hi : i < js.length), 1 ≤ js[i].time ∧ js[i].time ≤ 10000 ∧ 0 ≤ js[i].rel ∧ js[i].rel ≤ 10000 ∧ 0 ≤ js[i].due ∧ js[i].due ≤ 10000 ∧ 0 ≤ js[i].wt ∧ js[i].wt ≤ 10000 := by
  unfold jobsB at h
  simp only [Bool.and_eq_true, decide_eq_true_eq] at h
  refine ⟨h.2.1, h.2.2, fun i hi => ?_⟩
  have h1 := h.1
  unfold jobsK at h1
  rw [List.take_length] at h1
  have h2 := List.all_eq_true.1 h1 js[i] (List.getElem_mem _)
  unfold jobB inB at h2
  simp only [Bool.and_eq_true, decide_eq_true_eq] at h2
  omega

theorem ordB_at {xs : List Int} {n : Int} {k : Nat} (h : ordB xs n k = true) (i : Nat) (hi : i < k) (hl : i < xs.length) : 0 ≤ xs[i] ∧ xs[i] < n := by
  unfold ordB at h
  have h1 := List.all_eq_true.1 h i (List.mem_range.2 hi)
  simp only [Bool.and_eq_true, List.getD_eq_getElem?_getD, List.getElem?_eq_getElem hl, Option.getD_some] at h1
  have := inB_lo h1.1
  omega

theorem canB_of {js : List J} {xs : List Int} (h : canB js xs = true) : jobsB js = true ∧ xs.length = js.length ∧ ∀ i (hi : i < xs.length), 0 ≤ xs[i] ∧ xs[i] < (js.length : Int) := by
  unfold canB at h
  simp only [Bool.and_eq_true, decide_eq_true_eq] at h
  exact ⟨h.1, by omega, fun i hi => ordB_at h.2.1 i hi hi⟩

theorem specCan_any (w : World) (g n c : Nat) (js : List J) (hn : js.length = n) (hcap : n ≤ c) (hm : n ≤ 1048576) (hj : JRd w g 0 js) (g' n' c' : Nat) (xs : List Int) (hn' : xs.length = n') (hcap' : n' ≤ c') (hm' : n' ≤ 1048576) (hx : Rd w g' 0 xs) :
    Calls Try.prog 106 #[.slice (some ⟨g, 0, none⟩) n c, .slice (some ⟨g', 0, none⟩) n' c'] w fun e w' => e = .returned (.bool (canB js xs)) ∧ Dr w w' := by
  subst hn'
  subst hn
  have HJ := Lib.hid hj; have HX := Lib.hid hx
  clear hj hx
  cases h : jobsB js
  · go_enter Try.func106, Try.ntmps106
    go_wp2_with (go_at_call 77; refine (l02Jobs_any _ js.length c js _ rfl hm (.inr ⟨g, 0, rfl, HJ.out⟩)).mono ?_; rintro e w' ⟨rfl, rfl⟩)
    go_ret
    exact ⟨ret_bool (by rw [canB, h, Bool.false_and]), .refl _⟩
  · go_enter Try.func106, Try.ntmps106
    go_wp2_with (first
      | (go_at_call 77; refine (l02Jobs_any _ js.length c js _ rfl hm (.inr ⟨g, 0, rfl, HJ.out⟩)).mono ?_; rintro e w' ⟨rfl, rfl⟩)
      | (go_at_call 70; refine (l02Orders_any g' c' xs js.length _ hcap' hm' (by omega) (by omega) HX.out).mono ?_; rintro e w' ⟨rfl, hd⟩))
    go_ret
    exact ⟨ret_bool (by rw [canB, h, Bool.true_and]), hd⟩

theorem implOrders_any (w : World) (g n c : Nat) (js : List J) (hn : js.length = n) (hm : n ≤ 1048576) (hj : JRd w g 0 js) (hg : g < w.heap.size) (g' n' c' : Nat) (xs : List Int) (hn' : xs.length = n') (hm' : n' ≤ 1048576) (hx : Rd w g' 0 xs) (hg' : g' < w.heap.size) :
    Calls Try.prog 108 #[.slice (some ⟨g, 0, none⟩) n c, .slice (some ⟨g', 0, none⟩) n' c'] w fun e w' => e = .returned (.bool (canB js xs)) ∧ Below w.heap.size w w' := by
  subst hn'
  subst hn
  have HJ := Lib.hid hj; have HX := Lib.hid hx
  clear hj hx
  cases h : jobsB js
  · go_enter Try.func108, Try.ntmps108
    go_wp2_with (go_at_call 32; refine (implAreJobs_any _ js.length c js _ rfl hm (.inr ⟨g, 0, rfl, HJ.out⟩)).mono ?_; rintro e w' ⟨rfl, hb⟩; rw [h])
    go_ret
    exact ⟨ret_bool (by rw [canB, h, Bool.false_and]), hb⟩
  · obtain ⟨n1, n2, _⟩ := jobsB_of h
    have hi : isOrdB xs js.length = (ordB xs js.length xs.length && decide ((xs.length : Int) = js.length)) := by
      rw [isOrdB, show inB (js.length : Int) 1 24 = true by simp [inB]; omega, Bool.true_and]
    have HI := Lib.hid hi; clear hi
    go_enter Try.func108, Try.ntmps108
    go_wp2_with (first
      | (go_at_call 32; refine (implAreJobs_any _ js.length c js _ rfl hm (.inr ⟨g, 0, rfl, HJ.out⟩)).mono ?_; rintro e w' ⟨rfl, hb⟩; rw [h]; have hx1 := HX.out.below hb hg'; have HX1 := Lib.hid hx1; clear hx1)
      | (go_at_call 24; refine (implIsOrder_any _ c' xs.length xs js.length _ rfl hm' (.inr ⟨g', 0, rfl, HX1.out⟩)).mono ?_; rintro e w' ⟨rfl, hb2⟩))
    go_ret
    exact ⟨ret_bool (by rw [canB, h, Bool.true_and, HI.out]), hb.trans (hb2.mono hb.size)⟩

/-! ### Ends -/
def jAt (js : List J) (i : Int) : J := js.getD i.toNat default
def stepE (js : List J) (st : Int × List Int) (i : Int) : Int × List Int := (max st.1 (jAt js i).rel + (jAt js i).time, st.2.set i.toNat (max st.1 (jAt js i).rel + (jAt js i).time))
def endsK (js : List J) (xs : List Int) (k : Nat) : Int × List Int := (xs.take k).foldl (stepE js) (0, List.replicate js.length 0)
def endsL (js : List J) (xs : List Int) : List Int := (endsK js xs xs.length).2

theorem endsK_succ (js : List J) (xs : List Int) (k : Nat) (h : k < xs.length) : endsK js xs (k + 1) = stepE js (endsK js xs k) xs[k] := by
  unfold endsK; rw [List.take_succ_eq_append_getElem h, List.foldl_append]; rfl
theorem endsK_len (js : List J) (xs : List Int) : ∀ k, k ≤ xs.length → (endsK js xs k).2.length = js.length := by
  intro k
  induction k with
  | zero => intro _; simp [endsK]
  | succ k ih => intro h; rw [endsK_succ js xs k (by omega)]; simp [stepE, ih (by omega)]
theorem jAt_eq {js : List J} {i : Int} (h0 : 0 ≤ i) (h : i < js.length) : jAt js i = js[i.toNat]'(by omega) := by
  unfold jAt; rw [List.getD_eq_getElem?_getD, List.getElem?_eq_getElem (show i.toNat < js.length by omega)]; rfl

theorem endsK_bd {js : List J} {xs : List Int} (h : canB js xs = true) : ∀ k, k ≤ xs.length → 0 ≤ (endsK js xs k).1 ∧ (endsK js xs k).1 ≤ 10000 + 10000 * k ∧ ∀ x ∈ (endsK js xs k).2, 0 ≤ x ∧ x ≤ 10000 + 10000 * k := by
  obtain ⟨hj, hl, hx⟩ := canB_of h
  obtain ⟨n1, n2, hjs⟩ := jobsB_of hj
  intro k
  induction k with
  | zero =>
    intro _
    refine ⟨by simp [endsK], by simp [endsK], fun x hx => ?_⟩
    simp [endsK] at hx
    omega
  | succ k ih =>
    intro hk
    obtain ⟨i1, i2, i3⟩ := ih (by omega)
    have hxk := hx k (by omega)
    rw [endsK_succ js xs k (by omega)]
    have hjk := hjs xs[k].toNat (by omega)
    have e := jAt_eq hxk.1 hxk.2
    unfold stepE
    rw [e]
    refine ⟨by omega, by omega, fun x hx => ?_⟩
    rcases List.mem_or_eq_of_mem_set hx with h1 | h1
    · have := i3 x h1; omega
    · omega
end Go.Proofs.Ytncmhinpjkkfkaa
