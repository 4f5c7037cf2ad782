/-
  Walks: the law ListPlan. Conditions: none.
-/
import Derived.Test.YtncmhinpjkkfkaaK23
import Derived.Test.YtncmhinpjkkfkaaK16
namespace Go.Proofs.Ytncmhinpjkkfkaa
open Go Go.RowKit

def lpB (ts xs : List Int) (x : Int) : Bool := timesB ts && ((ordB xs ts.length xs.length && decide ((xs.length : Int) = ts.length)) && machB x)
def lpL (ts xs : List Int) (x : Int) : List Int := planOut ts xs x.toNat ts.length
def lpV (ts xs : List Int) (x : Int) : Int := planLast ts xs x.toNat ts.length
theorem lpB_of {ts xs : List Int} {x : Int} (h : lpB ts xs x = true) : timesB ts = true ∧ (ordB xs ts.length xs.length && decide ((xs.length : Int) = ts.length)) = true ∧ machB x = true := by
  unfold lpB at h
  rw [Bool.and_eq_true, Bool.and_eq_true] at h
  exact ⟨h.1, h.2.1, h.2.2⟩
theorem lpL_len {ts xs : List Int} {x : Int} (h : lpB ts xs x = true) : (lpL ts xs x).length ≤ 1048576 := by
  obtain ⟨h1, _, _⟩ := lpB_of h
  obtain ⟨_, t2, _⟩ := timesB_of h1
  unfold lpL planOut
  rw [(planS_len _ _ _ _).1]; omega

set_option maxHeartbeats 2000000 in
set_option maxRecDepth 100000 in
theorem specLP_no (w : World) (g n c : Nat) (ts : List Int) (hn : ts.length = n) (hcap : n ≤ c) (hm : n ≤ 1048576) (hj : Rd w g 0 ts) (hg : g < w.heap.size) (g' n' c' : Nat) (xs : List Int) (hn' : xs.length = n') (hcap' : n' ≤ c') (hm' : n' ≤ 1048576) (hx : Rd w g' 0 xs) (hg' : g' < w.heap.size) (x : Int) (xlo : -9223372036854775808 ≤ x) (xhi : x ≤ 9223372036854775807) (hc : lpB ts xs x = false) :
    Calls Try.prog 47 #[.slice (some ⟨g, 0, none⟩) n c, .slice (some ⟨g', 0, none⟩) n' c', .int .i64 x] w fun e w' => e = .returned (.tuple #[.slice none 0 0, .int .i64 0, .bool false]) ∧ Below w.heap.size w w' := by
  have HN := Lib.hid hn; have HN' := Lib.hid hn'; have HJ := Lib.hid hj; have HX := Lib.hid hx
  cases h1 : timesB ts with
  | false =>
    have H1 := Lib.hid h1
    clear h1 hc hn hn' hj hx
    go_enter Try.func47, Try.ntmps47
    go_wp2_with (first | (go_at_call 79; refine (l02Times_any _ n c ts _ HN.out hm HJ.out.at').mono ?_; rintro e w' ⟨rfl, rfl⟩; rw [H1.out]))
    go_ret3
    exact ⟨rfl, .refl _ _⟩
  | true =>
    have H1 := Lib.hid h1
    obtain ⟨t1, t2, _⟩ := timesB_of h1
    cases h2 : ordB xs ts.length xs.length && decide ((xs.length : Int) = ts.length) with
    | false =>
      have h2' : (ordB xs n xs.length && decide ((xs.length : Int) = n)) = false := by (rw [← hn]; exact h2)
      have H2 := Lib.hid h2'
      rw [hn] at t1 t2
      clear h1 hc hn hn' hj hx h2 h2'
      go_enter Try.func47, Try.ntmps47
      go_wp2_with (first | (go_at_call 79; refine (l02Times_any _ n c ts _ HN.out hm HJ.out.at').mono ?_; rintro e w' ⟨rfl, rfl⟩; rw [H1.out]) | (go_at_call 70; refine (l02Orders_n _ g' n' c' xs HN'.out hcap' hm' n (by omega) (by omega) HX.out).mono ?_; rintro e w1 ⟨rfl, hd⟩; rw [H2.out]; have hb : Below w.heap.size w w1 := hd.below; have J1 := Lib.hid (HJ.out.below hb hg); have X1 := Lib.hid (HX.out.below hb hg')))
      go_ret3
      exact ⟨rfl, hb⟩
    | true =>
      have h2' : (ordB xs n xs.length && decide ((xs.length : Int) = n)) = true := by (rw [← hn]; exact h2)
      have H2 := Lib.hid h2'
      have h3 : machB x = false := by unfold lpB at hc; rw [h1, h2] at hc; simpa using hc
      have H3 := Lib.hid h3
      rw [hn] at t1 t2
      clear h1 hc hn hn' hj hx h2 h2' h3
      go_enter Try.func47, Try.ntmps47
      go_wp2_with (first | (go_at_call 79; refine (l02Times_any _ n c ts _ HN.out hm HJ.out.at').mono ?_; rintro e w' ⟨rfl, rfl⟩; rw [H1.out]) | (go_at_call 70; refine (l02Orders_n _ g' n' c' xs HN'.out hcap' hm' n (by omega) (by omega) HX.out).mono ?_; rintro e w1 ⟨rfl, hd⟩; rw [H2.out]; have hb : Below w.heap.size w w1 := hd.below; have J1 := Lib.hid (HJ.out.below hb hg); have X1 := Lib.hid (HX.out.below hb hg')) | (go_at_call 80; refine (l02Machines_any _ _).mono ?_; rintro e w' ⟨rfl, rfl⟩; rw [H3.out]))
      go_ret3
      exact ⟨rfl, hb⟩

set_option maxHeartbeats 2000000 in
set_option maxRecDepth 100000 in
theorem specLP_yes (w : World) (g n c : Nat) (ts : List Int) (hn : ts.length = n) (hcap : n ≤ c) (hm : n ≤ 1048576) (hj : Rd w g 0 ts) (hg : g < w.heap.size) (g' n' c' : Nat) (xs : List Int) (hn' : xs.length = n') (hcap' : n' ≤ c') (hm' : n' ≤ 1048576) (hx : Rd w g' 0 xs) (hg' : g' < w.heap.size) (x : Int) (xlo : -9223372036854775808 ≤ x) (xhi : x ≤ 9223372036854775807) (hc : lpB ts xs x = true) :
    Calls Try.prog 47 #[.slice (some ⟨g, 0, none⟩) n c, .slice (some ⟨g', 0, none⟩) n' c', .int .i64 x] w (Res1 w (lpL ts xs x) fun v => .tuple #[v, .int .i64 (lpV ts xs x), .bool true]) := by
  have HN := Lib.hid hn; have HN' := Lib.hid hn'; have HJ := Lib.hid hj; have HX := Lib.hid hx
  obtain ⟨h1, h2, h3⟩ := lpB_of hc
  obtain ⟨t1, t2, t3⟩ := timesB_of h1
  obtain ⟨m, hmx⟩ : ∃ m : Nat, x = m := ⟨x.toNat, by have := inB_lo h3; omega⟩
  subst hmx
  have hm3 := inB_lo h3
  have m1 : 1 ≤ m := by omega
  have m2 : m ≤ 8 := by omega
  have h2' : (ordB xs n xs.length && decide ((xs.length : Int) = n)) = true := by (rw [← hn]; exact h2)
  have hord := h2
  rw [Bool.and_eq_true, decide_eq_true_eq] at hord
  obtain ⟨ho1, ho2⟩ := hord
  have hnn : n = n' := by omega
  subst hnn
  have ht : ∀ i, i < n → 1 ≤ ts.getD i 0 ∧ ts.getD i 0 ≤ 10000 := fun i hi => t3 _ (getD_mem (by omega))
  have hxr : ∀ i, i < n → 0 ≤ xs.getD i 0 ∧ xs.getD i 0 < n := fun i hi => by
    have := ordB_at ho1 i (by omega) (by omega)
    rw [List.getD_eq_getElem?_getD, List.getElem?_eq_getElem (by omega)]
    show 0 ≤ xs[i] ∧ xs[i] < n
    rw [hn] at this; exact this
  rw [hn] at t1 t2
  have hplan := fun w1 h1 h2 h3 h4 => l02Plan_any w1 g n c ts hn h1 h2 g' c' xs hn' h3 h4 t1 t2 ht hxr m m1 m2
  have hfin : ∀ w1 e w', Below w.heap.size w w1 → PlanP ts xs m n w1 e w' → ∃ v, e = .returned (.tuple #[v, .int .i64 (lpV ts xs m)]) ∧ Res1 w (lpL ts xs m) (fun v => .tuple #[v, .int .i64 (lpV ts xs m), .bool true]) (.returned (.tuple #[v, .int .i64 (lpV ts xs m), .bool true])) w' := by
    rintro w1 e w' hb ⟨G, rfl, h2, h3, h4⟩
    have el : (lpL ts xs m).length = n := by unfold lpL planOut; rw [(planS_len _ _ _ _).1]; exact hn
    have ev : planLast ts xs m n = lpV ts xs m := by unfold lpV; rw [hn]; rfl
    refine ⟨.slice (some ⟨G, 0, none⟩) n n, by rw [ev], G, n, by rw [el], ?_, by have := hb.size; omega, hb.trans (h4.mono hb.size)⟩
    have : lpL ts xs m = planOut ts xs m n := by unfold lpL; rw [hn]; rfl
    rw [this]; exact h2
  have H1 := Lib.hid h1; have H2 := Lib.hid h2'; have H3 := Lib.hid h3; have HP := Lib.hid hplan; have HF := Lib.hid hfin
  clear h1 hc hn hn' hj hx h2 h2' h3 hplan hfin t3 hm3 ho1 ho2 ht hxr
  go_enter Try.func47, Try.ntmps47
  go_wp2_with (first | (go_at_call 79; refine (l02Times_any _ n c ts _ HN.out hm HJ.out.at').mono ?_; rintro e w' ⟨rfl, rfl⟩; rw [H1.out]) | (go_at_call 70; refine (l02Orders_n _ g' n c' xs HN'.out hcap' hm' n (by omega) (by omega) HX.out).mono ?_; rintro e w1 ⟨rfl, hd⟩; rw [H2.out]; have hb : Below w.heap.size w w1 := hd.below; have J1 := Lib.hid (HJ.out.below hb hg); have X1 := Lib.hid (HX.out.below hb hg')) | (go_at_call 80; refine (l02Machines_any _ _).mono ?_; rintro e w' ⟨rfl, rfl⟩; rw [H3.out]) | (go_at_call 98; refine (HP.out _ J1.out (by have := hb.size; omega) X1.out (by have := hb.size; omega)).mono ?_; intro e w2 hmade; obtain ⟨v, rfl, hres⟩ := HF.out _ _ _ hb hmade; clear hmade))
  go_ret3
  exact hres

set_option maxHeartbeats 2000000 in
set_option maxRecDepth 100000 in
theorem implLP_no (w : World) (g n c : Nat) (ts : List Int) (hn : ts.length = n) (hcap : n ≤ c) (hm : n ≤ 1048576) (hj : Rd w g 0 ts) (hg : g < w.heap.size) (g' n' c' : Nat) (xs : List Int) (hn' : xs.length = n') (hcap' : n' ≤ c') (hm' : n' ≤ 1048576) (hx : Rd w g' 0 xs) (hg' : g' < w.heap.size) (x : Int) (xlo : -9223372036854775808 ≤ x) (xhi : x ≤ 9223372036854775807) (hc : lpB ts xs x = false) :
    Calls Try.prog 48 #[.slice (some ⟨g, 0, none⟩) n c, .slice (some ⟨g', 0, none⟩) n' c', .int .i64 x] w fun e w' => e = .returned (.tuple #[.slice none 0 0, .int .i64 0, .bool false]) ∧ Below w.heap.size w w' := by
  have HN := Lib.hid hn; have HN' := Lib.hid hn'; have HJ := Lib.hid hj; have HX := Lib.hid hx
  cases h1 : timesB ts with
  | false =>
    have H1 := Lib.hid h1
    clear h1 hc hn hn' hj hx
    go_enter Try.func48, Try.ntmps48
    go_wp2_with (first | (go_at_call 82; refine (areTimes_any _ n c ts _ HN.out hm HJ.out.at').mono ?_; rintro e w' ⟨rfl, rfl⟩; rw [H1.out]))
    go_ret3
    exact ⟨rfl, .refl _ _⟩
  | true =>
    have H1 := Lib.hid h1
    obtain ⟨t1, t2, _⟩ := timesB_of h1
    cases h2 : ordB xs ts.length xs.length && decide ((xs.length : Int) = ts.length) with
    | false =>
      have h2' : isOrdB xs n = false := by (rw [← hn]; unfold isOrdB; rw [show inB (ts.length : Int) 1 24 = true by unfold inB; simp; omega, Bool.true_and]; exact h2)
      have H2 := Lib.hid h2'
      rw [hn] at t1 t2
      clear h1 hc hn hn' hj hx h2 h2'
      go_enter Try.func48, Try.ntmps48
      go_wp2_with (first | (go_at_call 82; refine (areTimes_any _ n c ts _ HN.out hm HJ.out.at').mono ?_; rintro e w' ⟨rfl, rfl⟩; rw [H1.out]) | (go_at_call 24; refine (implIsOrder_any _ c' n' xs n _ HN'.out hm' HX.out.at').mono ?_; rintro e w1 ⟨rfl, hb⟩; rw [H2.out]; have J1 := Lib.hid (HJ.out.below hb hg); have X1 := Lib.hid (HX.out.below hb hg')))
      go_ret3
      exact ⟨rfl, hb⟩
    | true =>
      have h2' : isOrdB xs n = true := by (rw [← hn]; unfold isOrdB; rw [show inB (ts.length : Int) 1 24 = true by unfold inB; simp; omega, Bool.true_and]; exact h2)
      have H2 := Lib.hid h2'
      have h3 : machB x = false := by unfold lpB at hc; rw [h1, h2] at hc; simpa using hc
      have H3 := Lib.hid h3
      rw [hn] at t1 t2
      clear h1 hc hn hn' hj hx h2 h2' h3
      go_enter Try.func48, Try.ntmps48
      go_wp2_with (first | (go_at_call 82; refine (areTimes_any _ n c ts _ HN.out hm HJ.out.at').mono ?_; rintro e w' ⟨rfl, rfl⟩; rw [H1.out]) | (go_at_call 24; refine (implIsOrder_any _ c' n' xs n _ HN'.out hm' HX.out.at').mono ?_; rintro e w1 ⟨rfl, hb⟩; rw [H2.out]; have J1 := Lib.hid (HJ.out.below hb hg); have X1 := Lib.hid (HX.out.below hb hg')) | (go_at_call 83; refine (areMachines_any _ _).mono ?_; rintro e w' ⟨rfl, rfl⟩; rw [H3.out]))
      go_ret3
      exact ⟨rfl, hb⟩

set_option maxHeartbeats 2000000 in
set_option maxRecDepth 100000 in
theorem implLP_yes (w : World) (g n c : Nat) (ts : List Int) (hn : ts.length = n) (hcap : n ≤ c) (hm : n ≤ 1048576) (hj : Rd w g 0 ts) (hg : g < w.heap.size) (g' n' c' : Nat) (xs : List Int) (hn' : xs.length = n') (hcap' : n' ≤ c') (hm' : n' ≤ 1048576) (hx : Rd w g' 0 xs) (hg' : g' < w.heap.size) (x : Int) (xlo : -9223372036854775808 ≤ x) (xhi : x ≤ 9223372036854775807) (hc : lpB ts xs x = true) :
    Calls Try.prog 48 #[.slice (some ⟨g, 0, none⟩) n c, .slice (some ⟨g', 0, none⟩) n' c', .int .i64 x] w (Res1 w (lpL ts xs x) fun v => .tuple #[v, .int .i64 (lpV ts xs x), .bool true]) := by
  have HN := Lib.hid hn; have HN' := Lib.hid hn'; have HJ := Lib.hid hj; have HX := Lib.hid hx
  obtain ⟨h1, h2, h3⟩ := lpB_of hc
  obtain ⟨t1, t2, t3⟩ := timesB_of h1
  obtain ⟨m, hmx⟩ : ∃ m : Nat, x = m := ⟨x.toNat, by have := inB_lo h3; omega⟩
  subst hmx
  have hm3 := inB_lo h3
  have m1 : 1 ≤ m := by omega
  have m2 : m ≤ 8 := by omega
  have h2' : isOrdB xs n = true := by (rw [← hn]; unfold isOrdB; rw [show inB (ts.length : Int) 1 24 = true by unfold inB; simp; omega, Bool.true_and]; exact h2)
  have hord := h2
  rw [Bool.and_eq_true, decide_eq_true_eq] at hord
  obtain ⟨ho1, ho2⟩ := hord
  have hnn : n = n' := by omega
  subst hnn
  have ht : ∀ i, i < n → 1 ≤ ts.getD i 0 ∧ ts.getD i 0 ≤ 10000 := fun i hi => t3 _ (getD_mem (by omega))
  have hxr : ∀ i, i < n → 0 ≤ xs.getD i 0 ∧ xs.getD i 0 < n := fun i hi => by
    have := ordB_at ho1 i (by omega) (by omega)
    rw [List.getD_eq_getElem?_getD, List.getElem?_eq_getElem (by omega)]
    show 0 ≤ xs[i] ∧ xs[i] < n
    rw [hn] at this; exact this
  rw [hn] at t1 t2
  have hplan := fun w1 h1 h2 h3 h4 => listPlan_any w1 g n c ts hn h1 h2 g' c' xs hn' h3 h4 t1 t2 ht hxr m m1 m2
  have hfin : ∀ w1 e w', Below w.heap.size w w1 → PlanP ts xs m n w1 e w' → ∃ v, e = .returned (.tuple #[v, .int .i64 (lpV ts xs m)]) ∧ Res1 w (lpL ts xs m) (fun v => .tuple #[v, .int .i64 (lpV ts xs m), .bool true]) (.returned (.tuple #[v, .int .i64 (lpV ts xs m), .bool true])) w' := by
    rintro w1 e w' hb ⟨G, rfl, h2, h3, h4⟩
    have el : (lpL ts xs m).length = n := by unfold lpL planOut; rw [(planS_len _ _ _ _).1]; exact hn
    have ev : planLast ts xs m n = lpV ts xs m := by unfold lpV; rw [hn]; rfl
    refine ⟨.slice (some ⟨G, 0, none⟩) n n, by rw [ev], G, n, by rw [el], ?_, by have := hb.size; omega, hb.trans (h4.mono hb.size)⟩
    have : lpL ts xs m = planOut ts xs m n := by unfold lpL; rw [hn]; rfl
    rw [this]; exact h2
  have H1 := Lib.hid h1; have H2 := Lib.hid h2'; have H3 := Lib.hid h3; have HP := Lib.hid hplan; have HF := Lib.hid hfin
  clear h1 hc hn hn' hj hx h2 h2' h3 hplan hfin t3 hm3 ho1 ho2 ht hxr
  go_enter Try.func48, Try.ntmps48
  go_wp2_with (first | (go_at_call 82; refine (areTimes_any _ n c ts _ HN.out hm HJ.out.at').mono ?_; rintro e w' ⟨rfl, rfl⟩; rw [H1.out]) | (go_at_call 24; refine (implIsOrder_any _ c' n xs n _ HN'.out hm' HX.out.at').mono ?_; rintro e w1 ⟨rfl, hb⟩; rw [H2.out]; have J1 := Lib.hid (HJ.out.below hb hg); have X1 := Lib.hid (HX.out.below hb hg')) | (go_at_call 83; refine (areMachines_any _ _).mono ?_; rintro e w' ⟨rfl, rfl⟩; rw [H3.out]) | (go_at_call 99; refine (HP.out _ J1.out (by have := hb.size; omega) X1.out (by have := hb.size; omega)).mono ?_; intro e w2 hmade; obtain ⟨v, rfl, hres⟩ := HF.out _ _ _ hb hmade; clear hmade))
  go_ret3
  exact hres

set_option maxHeartbeats 8000000 in
set_option maxRecDepth 100000 in
theorem listPlan_walk_no (a0 : Option Addr) (len0 cap0 : Nat) (z0 : List Int) (a1 : Option Addr) (len1 cap1 : Nat) (z1 : List Int) (x2 : Int) (w : World) (w0 : IsRow .i64 w a0 len0 cap0 z0) (w1 : IsRow .i64 w a1 len1 cap1 z1) (wf2 : (Lit.int .i64 x2).wf = true) (h0 : len0 ≤ 1048576) (h1 : len1 ≤ 1048576) (hc : lpB (z0.take len0) (z1.take len1) x2 = false) :
    Calls Try.prog 12 #[.slice a0 len0 cap0, .slice a1 len1 cap1, .int .i64 x2] w fun e w' => e = .returned (.bool true) ∧ Below w.heap.size w w' := by
  have hlz0 := w0.len
  have HLm0 : len0 ≤ 9223372036854775807 := by
    have := w0; rcases this with ⟨_, h, _, _⟩ | ⟨_, _, h1, h2, _⟩ <;> (try simp only [maxLen] at *) <;> omega
  have W0 := Lib.hid w0; clear w0
  have HL0 := Lib.hid (take_len hlz0)
  clear hlz0
  have hlz1 := w1.len
  have HLm1 : len1 ≤ 9223372036854775807 := by
    have := w1; rcases this with ⟨_, h, _, _⟩ | ⟨_, _, h1, h2, _⟩ <;> (try simp only [maxLen] at *) <;> omega
  have W1 := Lib.hid w1; clear w1
  have HL1 := Lib.hid (take_len hlz1)
  clear hlz1
  have bd2 : -9223372036854775808 ≤ x2 ∧ x2 ≤ 9223372036854775807 := by simpa [Lit.wf, IntKind.min, IntKind.max, IntKind.signed, IntKind.bits] using wf2
  obtain ⟨lo2, hi2⟩ := bd2
  clear wf2
  have HC := Lib.hid hc; clear hc
  go_enter Try.func12, Try.ntmps12
  have B0 := Lib.hid (Below.refl w.heap.size w)
  go_wp2_with fail
  go_at_call 23
  refine (toInt64S_any a0 len0 cap0 z0 _ (W0.out.below B0.out) h0).mono ?_
  rintro e w1 ⟨gS0, rfl, hr, hg, hb⟩
  rw [HL0.out] at hr ⊢
  have B1 := Lib.hid (B0.out.trans (hb.mono B0.out.size))
  have ge_S0 : w.heap.size ≤ gS0 := by have := B0.out.size; omega
  have S0_1 := Lib.hid hr
  clear hr hb hg
  go_wp2_with fail
  go_at_call 23
  refine (toInt64S_any a1 len1 cap1 z1 _ (W1.out.below B1.out) h1).mono ?_
  rintro e w2 ⟨gS1, rfl, hr, hg, hb⟩
  rw [HL1.out] at hr ⊢
  have S0_2 := Lib.hid (S0_1.out.below hb S0_1.out.lt)
  have B2 := Lib.hid (B1.out.trans (hb.mono B1.out.size))
  have ne_S1_S0 : gS1 ≠ gS0 := by have := S0_1.out.lt; omega
  have ge_S1 : w.heap.size ≤ gS1 := by have := B1.out.size; omega
  have S1_2 := Lib.hid hr
  clear hr hb hg
  go_wp2_with fail
  go_at_call 47
  refine (specLP_no _ gS0 len0 len0 (z0.take len0) HL0.out (Nat.le_refl _) h0 S0_2.out.rd S0_2.out.lt gS1 len1 len1 (z1.take len1) HL1.out (Nat.le_refl _) h1 S1_2.out.rd S1_2.out.lt x2 lo2 hi2 HC.out).mono ?_
  rintro e w3 ⟨rfl, hb⟩
  have S0_3 := Lib.hid (S0_2.out.below hb S0_2.out.lt)
  have S1_3 := Lib.hid (S1_2.out.below hb S1_2.out.lt)
  have B3 := Lib.hid (B2.out.trans (hb.mono B2.out.size))
  clear hb
  go_wp2_with fail
  go_at_call 23
  refine (toInt64S_any a0 len0 cap0 z0 _ (W0.out.below B3.out) h0).mono ?_
  rintro e w4 ⟨gX0, rfl, hr, hg, hb⟩
  rw [HL0.out] at hr ⊢
  have B4 := Lib.hid (B3.out.trans (hb.mono B3.out.size))
  have ge_X0 : w.heap.size ≤ gX0 := by have := B3.out.size; omega
  have X0_4 := Lib.hid hr
  clear hr hb hg
  go_wp2_with fail
  go_at_call 23
  refine (toInt64S_any a1 len1 cap1 z1 _ (W1.out.below B4.out) h1).mono ?_
  rintro e w5 ⟨gX1, rfl, hr, hg, hb⟩
  rw [HL1.out] at hr ⊢
  have X0_5 := Lib.hid (X0_4.out.below hb X0_4.out.lt)
  have B5 := Lib.hid (B4.out.trans (hb.mono B4.out.size))
  have ne_X1_X0 : gX1 ≠ gX0 := by have := X0_4.out.lt; omega
  have ge_X1 : w.heap.size ≤ gX1 := by have := B4.out.size; omega
  have X1_5 := Lib.hid hr
  clear hr hb hg
  go_wp2_with fail
  go_at_call 48
  refine (implLP_no _ gX0 len0 len0 (z0.take len0) HL0.out (Nat.le_refl _) h0 X0_5.out.rd X0_5.out.lt gX1 len1 len1 (z1.take len1) HL1.out (Nat.le_refl _) h1 X1_5.out.rd X1_5.out.lt x2 lo2 hi2 HC.out).mono ?_
  rintro e w6 ⟨rfl, hb⟩
  have X0_6 := Lib.hid (X0_5.out.below hb X0_5.out.lt)
  have X1_6 := Lib.hid (X1_5.out.below hb X1_5.out.lt)
  have B6 := Lib.hid (B5.out.trans (hb.mono B5.out.size))
  clear hb
  go_wp2_with fail
  go_at_call 25
  refine (eqInt64S_any _ _ _ _ _ _ [] [] _ rfl rfl (.inl rfl) (.inl rfl) (by first | omega | simp) (by first | omega | simp)).mono ?_
  rintro e w7 ⟨rfl, hd⟩
  rw [eqB_self]
  have hb : Below w6.heap.size w6 w7 := hd.below
  have X0_7 := Lib.hid (X0_6.out.below hb X0_6.out.lt)
  have X1_7 := Lib.hid (X1_6.out.below hb X1_6.out.lt)
  have B7 := Lib.hid (B6.out.trans (hb.mono B6.out.size))
  clear hb hd
  go_wp2_with fail
  go_at_call 23
  refine (toInt64S_any a0 len0 cap0 z0 _ (W0.out.below B7.out) h0).mono ?_
  rintro e w8 ⟨gE0, rfl, hr, hg, hb⟩
  rw [HL0.out] at hr ⊢
  have X0_8 := Lib.hid (X0_7.out.below hb X0_7.out.lt)
  have X1_8 := Lib.hid (X1_7.out.below hb X1_7.out.lt)
  have B8 := Lib.hid (B7.out.trans (hb.mono B7.out.size))
  have ne_E0_X0 : gE0 ≠ gX0 := by have := X0_7.out.lt; omega
  have ne_E0_X1 : gE0 ≠ gX1 := by have := X1_7.out.lt; omega
  have ge_E0 : w.heap.size ≤ gE0 := by have := B7.out.size; omega
  have E0_8 := Lib.hid hr
  clear hr hb hg
  go_wp2_with fail
  go_at_call 25
  refine (eqInt64S_any _ _ _ _ _ _ (z0.take len0) (z0.take len0) _ HL0.out HL0.out X0_8.out.at' E0_8.out.at' (by first | omega | simp) (by first | omega | simp)).mono ?_
  rintro e w9 ⟨rfl, hd⟩
  rw [eqB_self]
  have hb : Below w8.heap.size w8 w9 := hd.below
  have X0_9 := Lib.hid (X0_8.out.below hb X0_8.out.lt)
  have X1_9 := Lib.hid (X1_8.out.below hb X1_8.out.lt)
  have E0_9 := Lib.hid (E0_8.out.below hb E0_8.out.lt)
  have B9 := Lib.hid (B8.out.trans (hb.mono B8.out.size))
  clear hb hd
  go_wp2_with fail
  go_at_call 23
  refine (toInt64S_any a1 len1 cap1 z1 _ (W1.out.below B9.out) h1).mono ?_
  rintro e w10 ⟨gE1, rfl, hr, hg, hb⟩
  rw [HL1.out] at hr ⊢
  have X0_10 := Lib.hid (X0_9.out.below hb X0_9.out.lt)
  have X1_10 := Lib.hid (X1_9.out.below hb X1_9.out.lt)
  have B10 := Lib.hid (B9.out.trans (hb.mono B9.out.size))
  have ne_E1_X0 : gE1 ≠ gX0 := by have := X0_9.out.lt; omega
  have ne_E1_X1 : gE1 ≠ gX1 := by have := X1_9.out.lt; omega
  have ge_E1 : w.heap.size ≤ gE1 := by have := B9.out.size; omega
  have E1_10 := Lib.hid hr
  clear hr hb hg
  go_wp2_with fail
  go_at_call 25
  refine (eqInt64S_any _ _ _ _ _ _ (z1.take len1) (z1.take len1) _ HL1.out HL1.out X1_10.out.at' E1_10.out.at' (by first | omega | simp) (by first | omega | simp)).mono ?_
  rintro e w11 ⟨rfl, hd⟩
  rw [eqB_self]
  have hb : Below w10.heap.size w10 w11 := hd.below
  have X0_11 := Lib.hid (X0_10.out.below hb X0_10.out.lt)
  have X1_11 := Lib.hid (X1_10.out.below hb X1_10.out.lt)
  have E1_11 := Lib.hid (E1_10.out.below hb E1_10.out.lt)
  have B11 := Lib.hid (B10.out.trans (hb.mono B10.out.size))
  clear hb hd
  go_wp2_with fail
  go_at_call 39
  refine (mark_any _ gX0 len0 len0 (z0.take len0) _ HL0.out h0 (by omega) (by omega) X0_11.out).mono ?_
  rintro e w12 ⟨rfl, _, ht⟩
  have X1_12 := Lib.hid (X1_11.out.touch ht ne_X1_X0)
  have B12 := Lib.hid (B11.out.trans (ht.below ge_X0 B11.out.size))
  clear ht
  go_wp2_with fail
  go_at_call 39
  refine (mark_any _ gX1 len1 len1 (z1.take len1) _ HL1.out h1 (by omega) (by omega) X1_12.out).mono ?_
  rintro e w13 ⟨rfl, _, ht⟩
  have B13 := Lib.hid (B12.out.trans (ht.below ge_X1 B12.out.size))
  clear ht
  go_wp2_with fail
  go_at_call 25
  refine (eqInt64S_any _ _ _ _ _ _ [] [] _ rfl rfl (.inl rfl) (.inl rfl) (by first | omega | simp) (by first | omega | simp)).mono ?_
  rintro e w14 ⟨rfl, hd⟩
  rw [eqB_self]
  have hb : Below w13.heap.size w13 w14 := hd.below
  have B14 := Lib.hid (B13.out.trans (hb.mono B13.out.size))
  clear hb hd
  go_wp2_with fail
  go_at_call 39
  refine (mark_nil _ _ _ _).mono ?_
  rintro e w' ⟨rfl, rfl⟩
  go_wp2_with fail
  go_at_call 40
  refine (held_nil _ _ _ _).mono ?_
  rintro e w' ⟨rfl, rfl⟩
  go_wp2_with fail
  go_at_call 23
  refine (toInt64S_any a0 len0 cap0 z0 _ (W0.out.below B14.out) h0).mono ?_
  rintro e w15 ⟨gT0, rfl, hr, hg, hb⟩
  rw [HL0.out] at hr ⊢
  have B15 := Lib.hid (B14.out.trans (hb.mono B14.out.size))
  have ge_T0 : w.heap.size ≤ gT0 := by have := B14.out.size; omega
  have T0_15 := Lib.hid hr
  clear hr hb hg
  go_wp2_with fail
  go_at_call 23
  refine (toInt64S_any a1 len1 cap1 z1 _ (W1.out.below B15.out) h1).mono ?_
  rintro e w16 ⟨gT1, rfl, hr, hg, hb⟩
  rw [HL1.out] at hr ⊢
  have T0_16 := Lib.hid (T0_15.out.below hb T0_15.out.lt)
  have B16 := Lib.hid (B15.out.trans (hb.mono B15.out.size))
  have ne_T1_T0 : gT1 ≠ gT0 := by have := T0_15.out.lt; omega
  have ge_T1 : w.heap.size ≤ gT1 := by have := B15.out.size; omega
  have T1_16 := Lib.hid hr
  clear hr hb hg
  go_wp2_with fail
  go_at_call 48
  refine (implLP_no _ gT0 len0 len0 (z0.take len0) HL0.out (Nat.le_refl _) h0 T0_16.out.rd T0_16.out.lt gT1 len1 len1 (z1.take len1) HL1.out (Nat.le_refl _) h1 T1_16.out.rd T1_16.out.lt x2 lo2 hi2 HC.out).mono ?_
  rintro e w17 ⟨rfl, hb⟩
  have T0_17 := Lib.hid (T0_16.out.below hb T0_16.out.lt)
  have T1_17 := Lib.hid (T1_16.out.below hb T1_16.out.lt)
  have B17 := Lib.hid (B16.out.trans (hb.mono B16.out.size))
  clear hb
  go_wp2_with fail
  go_at_call 25
  refine (eqInt64S_any _ _ _ _ _ _ [] [] _ rfl rfl (.inl rfl) (.inl rfl) (by first | omega | simp) (by first | omega | simp)).mono ?_
  rintro e w18 ⟨rfl, hd⟩
  rw [eqB_self]
  have hb : Below w17.heap.size w17 w18 := hd.below
  have T0_18 := Lib.hid (T0_17.out.below hb T0_17.out.lt)
  have T1_18 := Lib.hid (T1_17.out.below hb T1_17.out.lt)
  have B18 := Lib.hid (B17.out.trans (hb.mono B17.out.size))
  clear hb hd
  go_wp2_with fail
  go_at_call 40
  refine (held_nil _ _ _ _).mono ?_
  rintro e w' ⟨rfl, rfl⟩
  go_wp2
  go_ret
  exact ⟨rfl, B18.out⟩

set_option maxHeartbeats 8000000 in
set_option maxRecDepth 100000 in
theorem listPlan_walk_yes (a0 : Option Addr) (len0 cap0 : Nat) (z0 : List Int) (a1 : Option Addr) (len1 cap1 : Nat) (z1 : List Int) (x2 : Int) (w : World) (w0 : IsRow .i64 w a0 len0 cap0 z0) (w1 : IsRow .i64 w a1 len1 cap1 z1) (wf2 : (Lit.int .i64 x2).wf = true) (h0 : len0 ≤ 1048576) (h1 : len1 ≤ 1048576) (hc : lpB (z0.take len0) (z1.take len1) x2 = true) :
    Calls Try.prog 12 #[.slice a0 len0 cap0, .slice a1 len1 cap1, .int .i64 x2] w fun e w' => e = .returned (.bool true) ∧ Below w.heap.size w w' := by
  have hlz0 := w0.len
  have HLm0 : len0 ≤ 9223372036854775807 := by
    have := w0; rcases this with ⟨_, h, _, _⟩ | ⟨_, _, h1, h2, _⟩ <;> (try simp only [maxLen] at *) <;> omega
  have W0 := Lib.hid w0; clear w0
  have HL0 := Lib.hid (take_len hlz0)
  clear hlz0
  have hlz1 := w1.len
  have HLm1 : len1 ≤ 9223372036854775807 := by
    have := w1; rcases this with ⟨_, h, _, _⟩ | ⟨_, _, h1, h2, _⟩ <;> (try simp only [maxLen] at *) <;> omega
  have W1 := Lib.hid w1; clear w1
  have HL1 := Lib.hid (take_len hlz1)
  clear hlz1
  have bd2 : -9223372036854775808 ≤ x2 ∧ x2 ≤ 9223372036854775807 := by simpa [Lit.wf, IntKind.min, IntKind.max, IntKind.signed, IntKind.bits] using wf2
  obtain ⟨lo2, hi2⟩ := bd2
  clear wf2
  have hbdl0 := lpL_len hc
  obtain ⟨m0, hm0⟩ : ∃ m, (lpL (z0.take len0) (z1.take len1) x2).length = m := ⟨_, rfl⟩
  rw [hm0] at hbdl0
  have HR0 := Lib.hid hm0; clear hm0
  obtain ⟨LL0, hLL0⟩ : ∃ l, lpL (z0.take len0) (z1.take len1) x2 = l := ⟨_, rfl⟩
  have HLL0 := Lib.hid hLL0; clear hLL0
  have HRL0 : Hid (LL0.length = m0) := Lib.hid (by rw [← HLL0.out]; exact HR0.out)
  have HC := Lib.hid hc; clear hc
  go_enter Try.func12, Try.ntmps12
  have B0 := Lib.hid (Below.refl w.heap.size w)
  go_wp2_with fail
  go_at_call 23
  refine (toInt64S_any a0 len0 cap0 z0 _ (W0.out.below B0.out) h0).mono ?_
  rintro e w1 ⟨gS0, rfl, hr, hg, hb⟩
  rw [HL0.out] at hr ⊢
  have B1 := Lib.hid (B0.out.trans (hb.mono B0.out.size))
  have ge_S0 : w.heap.size ≤ gS0 := by have := B0.out.size; omega
  have S0_1 := Lib.hid hr
  clear hr hb hg
  go_wp2_with fail
  go_at_call 23
  refine (toInt64S_any a1 len1 cap1 z1 _ (W1.out.below B1.out) h1).mono ?_
  rintro e w2 ⟨gS1, rfl, hr, hg, hb⟩
  rw [HL1.out] at hr ⊢
  have S0_2 := Lib.hid (S0_1.out.below hb S0_1.out.lt)
  have B2 := Lib.hid (B1.out.trans (hb.mono B1.out.size))
  have ne_S1_S0 : gS1 ≠ gS0 := by have := S0_1.out.lt; omega
  have ge_S1 : w.heap.size ≤ gS1 := by have := B1.out.size; omega
  have S1_2 := Lib.hid hr
  clear hr hb hg
  go_wp2_with fail
  go_at_call 47
  refine (specLP_yes _ gS0 len0 len0 (z0.take len0) HL0.out (Nat.le_refl _) h0 S0_2.out.rd S0_2.out.lt gS1 len1 len1 (z1.take len1) HL1.out (Nat.le_refl _) h1 S1_2.out.rd S1_2.out.lt x2 lo2 hi2 HC.out).mono ?_
  rintro e w3 ⟨gV0, cV0, rfl, hr0, hg0, hb⟩
  rw [HLL0.out] at hr0
  rw [HR0.out]
  have S0_3 := Lib.hid (S0_2.out.below hb S0_2.out.lt)
  have S1_3 := Lib.hid (S1_2.out.below hb S1_2.out.lt)
  have B3 := Lib.hid (B2.out.trans (hb.mono B2.out.size))
  have ne_V0_S0 : gV0 ≠ gS0 := by have := S0_2.out.lt; omega
  have ne_V0_S1 : gV0 ≠ gS1 := by have := S1_2.out.lt; omega
  have ge_V0 : w.heap.size ≤ gV0 := by have := B2.out.size; omega
  have V0_3 := Lib.hid hr0
  clear hb hr0 hg0
  go_wp2_with fail
  go_at_call 23
  refine (toInt64S_any a0 len0 cap0 z0 _ (W0.out.below B3.out) h0).mono ?_
  rintro e w4 ⟨gX0, rfl, hr, hg, hb⟩
  rw [HL0.out] at hr ⊢
  have V0_4 := Lib.hid (V0_3.out.below hb V0_3.out.lt)
  have B4 := Lib.hid (B3.out.trans (hb.mono B3.out.size))
  have ne_X0_V0 : gX0 ≠ gV0 := by have := V0_3.out.lt; omega
  have ge_X0 : w.heap.size ≤ gX0 := by have := B3.out.size; omega
  have X0_4 := Lib.hid hr
  clear hr hb hg
  go_wp2_with fail
  go_at_call 23
  refine (toInt64S_any a1 len1 cap1 z1 _ (W1.out.below B4.out) h1).mono ?_
  rintro e w5 ⟨gX1, rfl, hr, hg, hb⟩
  rw [HL1.out] at hr ⊢
  have V0_5 := Lib.hid (V0_4.out.below hb V0_4.out.lt)
  have X0_5 := Lib.hid (X0_4.out.below hb X0_4.out.lt)
  have B5 := Lib.hid (B4.out.trans (hb.mono B4.out.size))
  have ne_X1_V0 : gX1 ≠ gV0 := by have := V0_4.out.lt; omega
  have ne_X1_X0 : gX1 ≠ gX0 := by have := X0_4.out.lt; omega
  have ge_X1 : w.heap.size ≤ gX1 := by have := B4.out.size; omega
  have X1_5 := Lib.hid hr
  clear hr hb hg
  go_wp2_with fail
  go_at_call 48
  refine (implLP_yes _ gX0 len0 len0 (z0.take len0) HL0.out (Nat.le_refl _) h0 X0_5.out.rd X0_5.out.lt gX1 len1 len1 (z1.take len1) HL1.out (Nat.le_refl _) h1 X1_5.out.rd X1_5.out.lt x2 lo2 hi2 HC.out).mono ?_
  rintro e w6 ⟨gG0, cG0, rfl, hr0, hg0, hb⟩
  rw [HLL0.out] at hr0
  rw [HR0.out]
  have V0_6 := Lib.hid (V0_5.out.below hb V0_5.out.lt)
  have X0_6 := Lib.hid (X0_5.out.below hb X0_5.out.lt)
  have X1_6 := Lib.hid (X1_5.out.below hb X1_5.out.lt)
  have B6 := Lib.hid (B5.out.trans (hb.mono B5.out.size))
  have ne_G0_V0 : gG0 ≠ gV0 := by have := V0_5.out.lt; omega
  have ne_G0_X0 : gG0 ≠ gX0 := by have := X0_5.out.lt; omega
  have ne_G0_X1 : gG0 ≠ gX1 := by have := X1_5.out.lt; omega
  have ge_G0 : w.heap.size ≤ gG0 := by have := B5.out.size; omega
  have G0_6 := Lib.hid hr0
  clear hb hr0 hg0
  go_wp2_with fail
  go_at_call 25
  refine (eqInt64S_any _ _ _ _ _ _ LL0 LL0 _ HRL0.out HRL0.out G0_6.out.at' V0_6.out.at' (by first | omega | simp) (by first | omega | simp)).mono ?_
  rintro e w7 ⟨rfl, hd⟩
  rw [eqB_self]
  have hb : Below w6.heap.size w6 w7 := hd.below
  have V0_7 := Lib.hid (V0_6.out.below hb V0_6.out.lt)
  have X0_7 := Lib.hid (X0_6.out.below hb X0_6.out.lt)
  have X1_7 := Lib.hid (X1_6.out.below hb X1_6.out.lt)
  have G0_7 := Lib.hid (G0_6.out.below hb G0_6.out.lt)
  have B7 := Lib.hid (B6.out.trans (hb.mono B6.out.size))
  clear hb hd
  go_wp2_with fail
  go_at_call 23
  refine (toInt64S_any a0 len0 cap0 z0 _ (W0.out.below B7.out) h0).mono ?_
  rintro e w8 ⟨gE0, rfl, hr, hg, hb⟩
  rw [HL0.out] at hr ⊢
  have V0_8 := Lib.hid (V0_7.out.below hb V0_7.out.lt)
  have X0_8 := Lib.hid (X0_7.out.below hb X0_7.out.lt)
  have X1_8 := Lib.hid (X1_7.out.below hb X1_7.out.lt)
  have G0_8 := Lib.hid (G0_7.out.below hb G0_7.out.lt)
  have B8 := Lib.hid (B7.out.trans (hb.mono B7.out.size))
  have ne_E0_V0 : gE0 ≠ gV0 := by have := V0_7.out.lt; omega
  have ne_E0_X0 : gE0 ≠ gX0 := by have := X0_7.out.lt; omega
  have ne_E0_X1 : gE0 ≠ gX1 := by have := X1_7.out.lt; omega
  have ne_E0_G0 : gE0 ≠ gG0 := by have := G0_7.out.lt; omega
  have ge_E0 : w.heap.size ≤ gE0 := by have := B7.out.size; omega
  have E0_8 := Lib.hid hr
  clear hr hb hg
  go_wp2_with fail
  go_at_call 25
  refine (eqInt64S_any _ _ _ _ _ _ (z0.take len0) (z0.take len0) _ HL0.out HL0.out X0_8.out.at' E0_8.out.at' (by first | omega | simp) (by first | omega | simp)).mono ?_
  rintro e w9 ⟨rfl, hd⟩
  rw [eqB_self]
  have hb : Below w8.heap.size w8 w9 := hd.below
  have V0_9 := Lib.hid (V0_8.out.below hb V0_8.out.lt)
  have X0_9 := Lib.hid (X0_8.out.below hb X0_8.out.lt)
  have X1_9 := Lib.hid (X1_8.out.below hb X1_8.out.lt)
  have G0_9 := Lib.hid (G0_8.out.below hb G0_8.out.lt)
  have E0_9 := Lib.hid (E0_8.out.below hb E0_8.out.lt)
  have B9 := Lib.hid (B8.out.trans (hb.mono B8.out.size))
  clear hb hd
  go_wp2_with fail
  go_at_call 23
  refine (toInt64S_any a1 len1 cap1 z1 _ (W1.out.below B9.out) h1).mono ?_
  rintro e w10 ⟨gE1, rfl, hr, hg, hb⟩
  rw [HL1.out] at hr ⊢
  have V0_10 := Lib.hid (V0_9.out.below hb V0_9.out.lt)
  have X0_10 := Lib.hid (X0_9.out.below hb X0_9.out.lt)
  have X1_10 := Lib.hid (X1_9.out.below hb X1_9.out.lt)
  have G0_10 := Lib.hid (G0_9.out.below hb G0_9.out.lt)
  have B10 := Lib.hid (B9.out.trans (hb.mono B9.out.size))
  have ne_E1_V0 : gE1 ≠ gV0 := by have := V0_9.out.lt; omega
  have ne_E1_X0 : gE1 ≠ gX0 := by have := X0_9.out.lt; omega
  have ne_E1_X1 : gE1 ≠ gX1 := by have := X1_9.out.lt; omega
  have ne_E1_G0 : gE1 ≠ gG0 := by have := G0_9.out.lt; omega
  have ge_E1 : w.heap.size ≤ gE1 := by have := B9.out.size; omega
  have E1_10 := Lib.hid hr
  clear hr hb hg
  go_wp2_with fail
  go_at_call 25
  refine (eqInt64S_any _ _ _ _ _ _ (z1.take len1) (z1.take len1) _ HL1.out HL1.out X1_10.out.at' E1_10.out.at' (by first | omega | simp) (by first | omega | simp)).mono ?_
  rintro e w11 ⟨rfl, hd⟩
  rw [eqB_self]
  have hb : Below w10.heap.size w10 w11 := hd.below
  have V0_11 := Lib.hid (V0_10.out.below hb V0_10.out.lt)
  have X0_11 := Lib.hid (X0_10.out.below hb X0_10.out.lt)
  have X1_11 := Lib.hid (X1_10.out.below hb X1_10.out.lt)
  have G0_11 := Lib.hid (G0_10.out.below hb G0_10.out.lt)
  have E1_11 := Lib.hid (E1_10.out.below hb E1_10.out.lt)
  have B11 := Lib.hid (B10.out.trans (hb.mono B10.out.size))
  clear hb hd
  go_wp2_with fail
  go_at_call 39
  refine (mark_any _ gX0 len0 len0 (z0.take len0) _ HL0.out h0 (by omega) (by omega) X0_11.out).mono ?_
  rintro e w12 ⟨rfl, _, ht⟩
  have V0_12 := Lib.hid (V0_11.out.touch ht (Ne.symm ne_X0_V0))
  have X1_12 := Lib.hid (X1_11.out.touch ht ne_X1_X0)
  have G0_12 := Lib.hid (G0_11.out.touch ht ne_G0_X0)
  have B12 := Lib.hid (B11.out.trans (ht.below ge_X0 B11.out.size))
  clear ht
  go_wp2_with fail
  go_at_call 39
  refine (mark_any _ gX1 len1 len1 (z1.take len1) _ HL1.out h1 (by omega) (by omega) X1_12.out).mono ?_
  rintro e w13 ⟨rfl, _, ht⟩
  have V0_13 := Lib.hid (V0_12.out.touch ht (Ne.symm ne_X1_V0))
  have G0_13 := Lib.hid (G0_12.out.touch ht ne_G0_X1)
  have B13 := Lib.hid (B12.out.trans (ht.below ge_X1 B12.out.size))
  clear ht
  go_wp2_with fail
  go_at_call 25
  refine (eqInt64S_any _ _ _ _ _ _ LL0 LL0 _ HRL0.out HRL0.out G0_13.out.at' V0_13.out.at' (by first | omega | simp) (by first | omega | simp)).mono ?_
  rintro e w14 ⟨rfl, hd⟩
  rw [eqB_self]
  have hb : Below w13.heap.size w13 w14 := hd.below
  have V0_14 := Lib.hid (V0_13.out.below hb V0_13.out.lt)
  have G0_14 := Lib.hid (G0_13.out.below hb G0_13.out.lt)
  have B14 := Lib.hid (B13.out.trans (hb.mono B13.out.size))
  clear hb hd
  go_wp2_with fail
  go_at_call 39
  refine (mark_any _ gG0 m0 cG0 LL0 _ HRL0.out (by omega) (by omega) (by omega) G0_14.out).mono ?_
  rintro e w15 ⟨rfl, hmk, ht⟩
  have V0_15 := Lib.hid (V0_14.out.touch ht (Ne.symm ne_G0_V0))
  have B15 := Lib.hid (B14.out.trans (ht.below ge_G0 B14.out.size))
  have G0_15 := Lib.hid hmk
  clear ht hmk
  go_wp2_with fail
  go_at_call 40
  refine (held_any _ gG0 m0 cG0 _ (by omega) (by omega) (by omega) (G0_15.out.rd)).mono ?_
  rintro e w' ⟨rfl, rfl⟩
  go_wp2_with fail
  go_at_call 23
  refine (toInt64S_any a0 len0 cap0 z0 _ (W0.out.below B15.out) h0).mono ?_
  rintro e w16 ⟨gT0, rfl, hr, hg, hb⟩
  rw [HL0.out] at hr ⊢
  have V0_16 := Lib.hid (V0_15.out.below hb V0_15.out.lt)
  have G0_16 := Lib.hid (G0_15.out.below hb G0_15.out.lt)
  have B16 := Lib.hid (B15.out.trans (hb.mono B15.out.size))
  have ne_T0_V0 : gT0 ≠ gV0 := by have := V0_15.out.lt; omega
  have ne_T0_G0 : gT0 ≠ gG0 := by have := G0_15.out.lt; omega
  have ge_T0 : w.heap.size ≤ gT0 := by have := B15.out.size; omega
  have T0_16 := Lib.hid hr
  clear hr hb hg
  go_wp2_with fail
  go_at_call 23
  refine (toInt64S_any a1 len1 cap1 z1 _ (W1.out.below B16.out) h1).mono ?_
  rintro e w17 ⟨gT1, rfl, hr, hg, hb⟩
  rw [HL1.out] at hr ⊢
  have V0_17 := Lib.hid (V0_16.out.below hb V0_16.out.lt)
  have G0_17 := Lib.hid (G0_16.out.below hb G0_16.out.lt)
  have T0_17 := Lib.hid (T0_16.out.below hb T0_16.out.lt)
  have B17 := Lib.hid (B16.out.trans (hb.mono B16.out.size))
  have ne_T1_V0 : gT1 ≠ gV0 := by have := V0_16.out.lt; omega
  have ne_T1_G0 : gT1 ≠ gG0 := by have := G0_16.out.lt; omega
  have ne_T1_T0 : gT1 ≠ gT0 := by have := T0_16.out.lt; omega
  have ge_T1 : w.heap.size ≤ gT1 := by have := B16.out.size; omega
  have T1_17 := Lib.hid hr
  clear hr hb hg
  go_wp2_with fail
  go_at_call 48
  refine (implLP_yes _ gT0 len0 len0 (z0.take len0) HL0.out (Nat.le_refl _) h0 T0_17.out.rd T0_17.out.lt gT1 len1 len1 (z1.take len1) HL1.out (Nat.le_refl _) h1 T1_17.out.rd T1_17.out.lt x2 lo2 hi2 HC.out).mono ?_
  rintro e w18 ⟨gH0, cH0, rfl, hr0, hg0, hb⟩
  rw [HLL0.out] at hr0
  rw [HR0.out]
  have V0_18 := Lib.hid (V0_17.out.below hb V0_17.out.lt)
  have G0_18 := Lib.hid (G0_17.out.below hb G0_17.out.lt)
  have T0_18 := Lib.hid (T0_17.out.below hb T0_17.out.lt)
  have T1_18 := Lib.hid (T1_17.out.below hb T1_17.out.lt)
  have B18 := Lib.hid (B17.out.trans (hb.mono B17.out.size))
  have ne_H0_V0 : gH0 ≠ gV0 := by have := V0_17.out.lt; omega
  have ne_H0_G0 : gH0 ≠ gG0 := by have := G0_17.out.lt; omega
  have ne_H0_T0 : gH0 ≠ gT0 := by have := T0_17.out.lt; omega
  have ne_H0_T1 : gH0 ≠ gT1 := by have := T1_17.out.lt; omega
  have ge_H0 : w.heap.size ≤ gH0 := by have := B17.out.size; omega
  have H0_18 := Lib.hid hr0
  clear hb hr0 hg0
  go_wp2_with fail
  go_at_call 25
  refine (eqInt64S_any _ _ _ _ _ _ LL0 LL0 _ HRL0.out HRL0.out H0_18.out.at' V0_18.out.at' (by first | omega | simp) (by first | omega | simp)).mono ?_
  rintro e w19 ⟨rfl, hd⟩
  rw [eqB_self]
  have hb : Below w18.heap.size w18 w19 := hd.below
  have V0_19 := Lib.hid (V0_18.out.below hb V0_18.out.lt)
  have G0_19 := Lib.hid (G0_18.out.below hb G0_18.out.lt)
  have T0_19 := Lib.hid (T0_18.out.below hb T0_18.out.lt)
  have T1_19 := Lib.hid (T1_18.out.below hb T1_18.out.lt)
  have H0_19 := Lib.hid (H0_18.out.below hb H0_18.out.lt)
  have B19 := Lib.hid (B18.out.trans (hb.mono B18.out.size))
  clear hb hd
  go_wp2_with fail
  go_at_call 40
  refine (held_any _ gG0 m0 cG0 _ (by omega) (by omega) (by omega) (G0_19.out.rd)).mono ?_
  rintro e w' ⟨rfl, rfl⟩
  go_wp2
  go_ret
  exact ⟨rfl, B19.out⟩

set_option maxHeartbeats 4000000 in
theorem listPlan_walk (a0 : Option Addr) (len0 cap0 : Nat) (z0 : List Int) (a1 : Option Addr) (len1 cap1 : Nat) (z1 : List Int) (x2 : Int) (w : World) (w0 : IsRow .i64 w a0 len0 cap0 z0) (w1 : IsRow .i64 w a1 len1 cap1 z1) (wf2 : (Lit.int .i64 x2).wf = true) :
    Calls Try.prog 12 #[.slice a0 len0 cap0, .slice a1 len1 cap1, .int .i64 x2] w fun e w' => e = .returned (.bool true) ∧ Below w.heap.size w w' := by
  by_cases h0 : len0 ≤ 1048576
  case neg =>
    clear w0 w1
    go_enter Try.func12, Try.ntmps12
    go_wp2
    go_ret
    exact ⟨rfl, .refl _ _⟩
  by_cases h1 : len1 ≤ 1048576
  case neg =>
    clear w0 w1
    go_enter Try.func12, Try.ntmps12
    go_wp2
    go_ret
    exact ⟨rfl, .refl _ _⟩
  cases hc : lpB (z0.take len0) (z1.take len1) x2
  · exact listPlan_walk_no a0 len0 cap0 z0 a1 len1 cap1 z1 x2 w w0 w1 wf2 h0 h1 hc
  · exact listPlan_walk_yes a0 len0 cap0 z0 a1 len1 cap1 z1 x2 w w0 w1 wf2 h0 h1 hc

end Go.Proofs.Ytncmhinpjkkfkaa
