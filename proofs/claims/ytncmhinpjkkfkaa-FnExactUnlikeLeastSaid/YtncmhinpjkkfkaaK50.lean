/-
  Walks: the laws LeastLast and UnlikeLeast. Conditions: none.
-/
import Derived.Test.YtncmhinpjkkfkaaK49
set_option linter.unusedVariables false
set_option linter.unusedSimpArgs false
namespace Go.Proofs.Ytncmhinpjkkfkaa
open Go Go.RowKit

set_option maxHeartbeats 2000000 in
set_option maxRecDepth 100000 in
theorem specLL_no (w : World) (g n c : Nat) (ts : List Int) (hn : ts.length = n) (hcap : n ≤ c) (hm : n ≤ 1048576) (hj : Rd w g 0 ts) (hg : g < w.heap.size) (x : Int) (xlo : -9223372036854775808 ≤ x) (xhi : x ≤ 9223372036854775807) (hc : llB ts x = false) :
    Calls Try.prog 49 #[.slice (some ⟨g, 0, none⟩) n c, .int .i64 x] w fun e w' => e = .returned (.tuple #[.slice none 0 0, .int .i64 0, .bool false]) ∧ Below w.heap.size w w' := by
  have HRD := Lib.hid hj
  have HN := Lib.hid hn
  clear hj
  cases htb : timesB ts with
  | false =>
    have HTB := Lib.hid htb; clear htb hc hn
    go_enter Try.func49, Try.ntmps49
    go_wp2_with (first | (go_at_call 79; refine (l02Times_any _ n c ts _ HN.out hm HRD.out.at').mono ?_; rintro e w' ⟨rfl, rfl⟩; rw [HTB.out]))
    go_ret3
    first | exact ⟨rfl, .refl _ _⟩ | exact ⟨rfl, HBB.out⟩ | (rw [HWB.out]; exact ⟨rfl, HBB.out⟩)
  | true =>
    cases hmb : machB x with
    | false =>
      have HTB := Lib.hid htb; have HMB := Lib.hid hmb; clear htb hmb hc hn
      go_enter Try.func49, Try.ntmps49
      go_wp2_with (first | (go_at_call 79; refine (l02Times_any _ n c ts _ HN.out hm HRD.out.at').mono ?_; rintro e w' ⟨rfl, rfl⟩; rw [HTB.out]) | (go_at_call 80; refine (l02Machines_any _ _).mono ?_; rintro e w' ⟨rfl, rfl⟩; rw [HMB.out]))
      go_ret3
      first | exact ⟨rfl, .refl _ _⟩ | exact ⟨rfl, HBB.out⟩ | (rw [HWB.out]; exact ⟨rfl, HBB.out⟩)
    | true =>
      have HTB := Lib.hid htb; have HMB := Lib.hid hmb
      have hb := inB_lo hmb
      obtain ⟨m, rfl⟩ : ∃ m : Nat, x = m := ⟨x.toNat, by omega⟩
      obtain ⟨n1, n2, _⟩ := timesB_of htb
      rw [hn] at n1 n2
      have m1 : 1 ≤ m := by omega
      have m2 : m ≤ 8 := by omega
      have hfd : decide (m ^ n ≤ 65536) = false := by unfold llB at hc; rw [htb, hmb, Int.toNat_natCast, hn] at hc; simpa using hc
      have HFD := Lib.hid hfd
      have hpw := powered_any m n m1 m2 n2
      rw [show min 65537 (m ^ n) = 65537 by have := of_decide_eq_false hfd; omega] at hpw
      have HPW := Lib.hid hpw
      clear htb hmb hc hn hb hfd hpw
      go_enter Try.func49, Try.ntmps49
      go_wp2_with (first | (go_at_call 79; refine (l02Times_any _ n c ts _ HN.out hm HRD.out.at').mono ?_; rintro e w' ⟨rfl, rfl⟩; rw [HTB.out]) | (go_at_call 80; refine (l02Machines_any _ _).mono ?_; rintro e w' ⟨rfl, rfl⟩; rw [HMB.out]) | (go_at_call 100; refine (few_any m n m1 m2 n2 _).mono ?_; rintro e w' ⟨rfl, rfl⟩; rw [HFD.out]))
      go_ret3
      first | exact ⟨rfl, .refl _ _⟩ | exact ⟨rfl, HBB.out⟩ | (rw [HWB.out]; exact ⟨rfl, HBB.out⟩)

set_option maxHeartbeats 2000000 in
set_option maxRecDepth 100000 in
theorem implLL_no (w : World) (g n c : Nat) (ts : List Int) (hn : ts.length = n) (hcap : n ≤ c) (hm : n ≤ 1048576) (hj : Rd w g 0 ts) (hg : g < w.heap.size) (x : Int) (xlo : -9223372036854775808 ≤ x) (xhi : x ≤ 9223372036854775807) (hc : llB ts x = false) :
    Calls Try.prog 50 #[.slice (some ⟨g, 0, none⟩) n c, .int .i64 x] w fun e w' => e = .returned (.tuple #[.slice none 0 0, .int .i64 0, .bool false]) ∧ Below w.heap.size w w' := by
  obtain ⟨wb, hwb⟩ : ∃ wb, w.alloc (.cells #[.slice (some ⟨g, 0, none⟩) n c] 22) = wb := ⟨_, rfl⟩
  have RB : Row wb w.heap.size 22 1 [.slice (some ⟨g, 0, none⟩) n c] := by rw [← hwb]; exact row1 rfl
  have BB : Below w.heap.size w wb := by rw [← hwb]; exact below_alloc (Below.refl _ _) _
  have HRD := Lib.hid (hj.below BB hg)
  have c1 := Lw.Row1.cell RB
  rw [← hwb] at c1
  have HWB := Lib.hid hwb; have HBB := Lib.hid BB
  clear RB BB hwb
  have HN := Lib.hid hn
  clear hj
  cases htb : timesB ts with
  | false =>
    have HTB := Lib.hid htb; clear htb hc hn
    go_enter Try.func50, Try.ntmps50
    go_wp2_with (first | (go_at_call 82; rw [HWB.out]; refine (areTimes_any _ n c ts _ HN.out hm HRD.out.at').mono ?_; rintro e w' ⟨rfl, rfl⟩; rw [HTB.out]; rw [HWB.out] at c1))
    go_ret3
    first | exact ⟨rfl, .refl _ _⟩ | exact ⟨rfl, HBB.out⟩ | (rw [HWB.out]; exact ⟨rfl, HBB.out⟩)
  | true =>
    cases hmb : machB x with
    | false =>
      have HTB := Lib.hid htb; have HMB := Lib.hid hmb; clear htb hmb hc hn
      go_enter Try.func50, Try.ntmps50
      go_wp2_with (first | (go_at_call 82; rw [HWB.out]; refine (areTimes_any _ n c ts _ HN.out hm HRD.out.at').mono ?_; rintro e w' ⟨rfl, rfl⟩; rw [HTB.out]; rw [HWB.out] at c1) | (go_at_call 83; refine (areMachines_any _ _).mono ?_; rintro e w' ⟨rfl, rfl⟩; rw [HMB.out]))
      go_ret3
      first | exact ⟨rfl, .refl _ _⟩ | exact ⟨rfl, HBB.out⟩ | (rw [HWB.out]; exact ⟨rfl, HBB.out⟩)
    | true =>
      have HTB := Lib.hid htb; have HMB := Lib.hid hmb
      have hb := inB_lo hmb
      obtain ⟨m, rfl⟩ : ∃ m : Nat, x = m := ⟨x.toNat, by omega⟩
      obtain ⟨n1, n2, _⟩ := timesB_of htb
      rw [hn] at n1 n2
      have m1 : 1 ≤ m := by omega
      have m2 : m ≤ 8 := by omega
      have hfd : decide (m ^ n ≤ 65536) = false := by unfold llB at hc; rw [htb, hmb, Int.toNat_natCast, hn] at hc; simpa using hc
      have HFD := Lib.hid hfd
      have hpw := powered_any m n m1 m2 n2
      rw [show min 65537 (m ^ n) = 65537 by have := of_decide_eq_false hfd; omega] at hpw
      have HPW := Lib.hid hpw
      clear htb hmb hc hn hb hfd hpw
      go_enter Try.func50, Try.ntmps50
      go_wp2_with (first | (go_at_call 82; rw [HWB.out]; refine (areTimes_any _ n c ts _ HN.out hm HRD.out.at').mono ?_; rintro e w' ⟨rfl, rfl⟩; rw [HTB.out]; rw [HWB.out] at c1) | (go_at_call 83; refine (areMachines_any _ _).mono ?_; rintro e w' ⟨rfl, rfl⟩; rw [HMB.out]) | (go_at_call 102; refine (HPW.out _).mono ?_; rintro e w' ⟨rfl, rfl⟩))
      go_ret3
      first | exact ⟨rfl, .refl _ _⟩ | exact ⟨rfl, HBB.out⟩ | (rw [HWB.out]; exact ⟨rfl, HBB.out⟩)

set_option maxHeartbeats 2000000 in
set_option maxRecDepth 100000 in
theorem specUL_no (w : World) (g n c : Nat) (ts : List Int) (hn : ts.length = n) (hcap : n ≤ c) (hm : n ≤ 1048576) (hj : Rd w g 0 ts) (hg : g < w.heap.size) (x : Int) (xlo : -9223372036854775808 ≤ x) (xhi : x ≤ 9223372036854775807) (hc : ulB ts x = false) :
    Calls Try.prog 51 #[.slice (some ⟨g, 0, none⟩) n c, .int .i64 x] w fun e w' => e = .returned (.tuple #[.slice none 0 0, .int .i64 0, .bool false]) ∧ Below w.heap.size w w' := by
  have HRD := Lib.hid hj
  have HN := Lib.hid hn
  clear hj
  cases hub : unB ts x with
  | false =>
    have HUB := Lib.hid hub; clear hub hc hn
    go_enter Try.func51, Try.ntmps51
    go_wp2_with (first | (go_at_call 89; refine (l02Unlike_any g c n ts _ _ HN.out hm HRD.out).mono ?_; rintro e w' ⟨rfl, rfl⟩; rw [HUB.out]))
    go_ret3
    first | exact ⟨rfl, .refl _ _⟩ | exact ⟨rfl, HBB.out⟩ | (rw [HWB.out]; exact ⟨rfl, HBB.out⟩)
  | true =>
    have HUB := Lib.hid hub
    obtain ⟨m, rfl, m1, m2, _, n1, _, n2, hnm, _⟩ := unB_of hub
    rw [hn] at n1 n2 hnm
    have hfd0 : decide (m ^ (ts.length / m) ≤ 65536) = false := by unfold ulB at hc; rw [hub, Int.toNat_natCast] at hc; simpa using hc
    rw [hn] at hfd0
    obtain ⟨q, hq⟩ : ∃ q, n / m = q := ⟨_, rfl⟩
    have hqv : ((ts.length / (m : Int).toNat : Nat) : Int) = (q : Int) := by rw [Int.toNat_natCast, hn, hq]
    have hcd : (n : Int) / (m : Int) = (q : Int) := by rw [(castDM n m).2, hq]
    rw [hq] at n1 n2 hnm hfd0
    have mz : ((m : Int) == 0) = false := by simp; omega
    have hle1 : 0 ≤ (n : Int) / (m : Int) := by rw [hcd]; omega
    have hle2 : (n : Int) / (m : Int) ≤ 24 := by rw [hcd]; omega
    have HFD := Lib.hid hfd0; have HQV := Lib.hid hqv
    have hpw := powered_any m q m1 m2 n2
    rw [show min 65537 (m ^ q) = 65537 by have := of_decide_eq_false hfd0; omega] at hpw
    have HPW := Lib.hid hpw
    clear hub hc hn hfd0 hpw hq hqv hnm
    go_enter Try.func51, Try.ntmps51
    go_wp2_with (first | (go_at_call 89; refine (l02Unlike_any g c n ts _ _ HN.out hm HRD.out).mono ?_; rintro e w' ⟨rfl, rfl⟩; rw [HUB.out]) | (go_at_call 100; refine (few_any m q m1 m2 n2 _).mono ?_; rintro e w' ⟨rfl, rfl⟩; rw [HFD.out]))
    go_ret3
    first | exact ⟨rfl, .refl _ _⟩ | exact ⟨rfl, HBB.out⟩ | (rw [HWB.out]; exact ⟨rfl, HBB.out⟩)

set_option maxHeartbeats 2000000 in
set_option maxRecDepth 100000 in
theorem implUL_no (w : World) (g n c : Nat) (ts : List Int) (hn : ts.length = n) (hcap : n ≤ c) (hm : n ≤ 1048576) (hj : Rd w g 0 ts) (hg : g < w.heap.size) (x : Int) (xlo : -9223372036854775808 ≤ x) (xhi : x ≤ 9223372036854775807) (hc : ulB ts x = false) :
    Calls Try.prog 52 #[.slice (some ⟨g, 0, none⟩) n c, .int .i64 x] w fun e w' => e = .returned (.tuple #[.slice none 0 0, .int .i64 0, .bool false]) ∧ Below w.heap.size w w' := by
  obtain ⟨wb, hwb⟩ : ∃ wb, (w.alloc (.cells #[.slice (some ⟨g, 0, none⟩) n c] 22)).alloc (.cells #[.int .i64 x] 2) = wb := ⟨_, rfl⟩
  have RB : Row wb w.heap.size 22 1 [.slice (some ⟨g, 0, none⟩) n c] := by rw [← hwb]; exact (row1 rfl).alloc _
  have RM : Row wb (w.heap.size + 1) 2 1 [.int .i64 x] := by rw [← hwb]; exact row1 (by simp)
  have BB : Below w.heap.size w wb := by rw [← hwb]; exact below_alloc (below_alloc (Below.refl _ _) _) _
  have HRD := Lib.hid (hj.below BB hg)
  have c1 := Lw.Row1.cell RB; have c2 := Lw.Row1.cell RM
  rw [← hwb] at c1 c2
  have HWB := Lib.hid hwb; have HBB := Lib.hid BB
  clear RB RM BB hwb
  have HN := Lib.hid hn
  clear hj
  cases hub : unB ts x with
  | false =>
    have HUB := Lib.hid hub; clear hub hc hn
    go_enter Try.func52, Try.ntmps52
    go_wp2_with (first | (go_at_call 91; rw [HWB.out]; refine (unlikeJobs_any g c n ts _ _ HN.out hm HRD.out).mono ?_; rintro e w' ⟨v, rfl, hv, rfl⟩; rw [HUB.out]; have HV := Lib.hid hv; clear hv; rw [HWB.out] at c1 c2))
    go_ret3
    first | exact ⟨rfl, .refl _ _⟩ | exact ⟨rfl, HBB.out⟩ | (rw [HWB.out]; exact ⟨rfl, HBB.out⟩)
  | true =>
    have HUB := Lib.hid hub
    obtain ⟨m, rfl, m1, m2, _, n1, _, n2, hnm, _⟩ := unB_of hub
    rw [hn] at n1 n2 hnm
    have hfd0 : decide (m ^ (ts.length / m) ≤ 65536) = false := by unfold ulB at hc; rw [hub, Int.toNat_natCast] at hc; simpa using hc
    rw [hn] at hfd0
    obtain ⟨q, hq⟩ : ∃ q, n / m = q := ⟨_, rfl⟩
    have hqv : ((ts.length / (m : Int).toNat : Nat) : Int) = (q : Int) := by rw [Int.toNat_natCast, hn, hq]
    have hcd : (n : Int) / (m : Int) = (q : Int) := by rw [(castDM n m).2, hq]
    rw [hq] at n1 n2 hnm hfd0
    have mz : ((m : Int) == 0) = false := by simp; omega
    have hle1 : 0 ≤ (n : Int) / (m : Int) := by rw [hcd]; omega
    have hle2 : (n : Int) / (m : Int) ≤ 24 := by rw [hcd]; omega
    have HFD := Lib.hid hfd0; have HQV := Lib.hid hqv
    have hpw := powered_any m q m1 m2 n2
    rw [show min 65537 (m ^ q) = 65537 by have := of_decide_eq_false hfd0; omega] at hpw
    have HPW := Lib.hid hpw
    clear hub hc hn hfd0 hpw hq hqv hnm
    go_enter Try.func52, Try.ntmps52
    go_wp2_with (first | (go_at_call 91; rw [HWB.out]; refine (unlikeJobs_any g c n ts _ _ HN.out hm HRD.out).mono ?_; rintro e w' ⟨v, rfl, hv, rfl⟩; rw [hv HUB.out, HQV.out, HUB.out]; clear hv; rw [HWB.out] at c1 c2) | (go_at_call 102; refine (HPW.out _).mono ?_; rintro e w' ⟨rfl, rfl⟩))
    go_ret3
    first | exact ⟨rfl, .refl _ _⟩ | exact ⟨rfl, HBB.out⟩ | (rw [HWB.out]; exact ⟨rfl, HBB.out⟩)

theorem llW_len {ts : List Int} {x : Int} (h : llB ts x = true) : (wayL (ulL ts x.toNat (ts.length * x.toNat)) x.toNat ts.length).length ≤ 1048576 := by
  obtain ⟨m, rfl, m1, m2, _, _, _, n1, n2, _⟩ := llB_of h
  rw [wayL_len]; omega
theorem ulW_len {ts : List Int} {x : Int} (h : ulB ts x = true) : (wayL ts x.toNat (ts.length / x.toNat)).length ≤ 1048576 := by
  obtain ⟨m, rfl, m1, m2, _, _, n1, n2, _⟩ := ulB_of h
  rw [wayL_len, Int.toNat_natCast]; omega

end Go.Proofs.Ytncmhinpjkkfkaa
