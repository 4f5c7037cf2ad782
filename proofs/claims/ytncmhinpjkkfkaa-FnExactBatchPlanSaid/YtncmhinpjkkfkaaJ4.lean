/-
  Walks: the law IsOrder. Conditions: none.
-/
import Derived.Test.YtncmhinpjkkfkaaJ3
set_option linter.unusedVariables false
set_option linter.unusedSimpArgs false
namespace Go.Proofs.Ytncmhinpjkkfkaa
open Go Go.RowKit

/-- All numbers below n, each once. -/
def isOrdB (xs : List Int) (n : Int) : Bool := inB n 1 24 && (ordB xs n xs.length && decide ((xs.length : Int) = n))

theorem specIsOrder_any (g c : Nat) (n' : Nat) (xs : List Int) (n : Int) (w : World) (hl : xs.length = n') (hcap : n' ≤ c) (hm : n' ≤ 1048576) (hc : Rd w g 0 xs) :
    Calls Try.prog 22 #[.slice (some ⟨g, 0, none⟩) n' c, .int .i64 n] w fun e w' => e = .returned (.bool (isOrdB xs n)) ∧ Dr w w' := by
  subst hl
  by_cases h : inB n 1 24 = true
  · obtain ⟨b0, b1⟩ := inB_lo h
    have HC := Lib.hid hc
    go_enter Try.func22, Try.ntmps22
    go_wp2_with (first | (go_at_call 69; refine (l00In_any _ _ _ _).mono ?_; rintro e w' ⟨rfl, rfl⟩) | (go_at_call 70; refine (l02Orders_any g c xs n _ hcap hm (by omega) (by omega) HC.out).mono ?_; rintro e w' ⟨rfl, hd⟩))
    go_ret
    exact ⟨ret_bool (by rw [isOrdB, h, Bool.true_and]), hd⟩
  · rw [Bool.not_eq_true] at h
    go_enter Try.func22, Try.ntmps22
    go_wp2_with (first | (go_at_call 69; refine (l00In_any _ _ _ _).mono ?_; rintro e w' ⟨rfl, rfl⟩))
    go_ret
    exact ⟨ret_bool (by rw [isOrdB, h, Bool.false_and]), .refl _⟩

theorem implIsOrder_any (a : Option Addr) (c : Nat) (n' : Nat) (xs : List Int) (n : Int) (w : World) (hl : xs.length = n') (hm : n' ≤ 1048576) (hc : At w a xs) :
    Calls Try.prog 24 #[.slice a n' c, .int .i64 n] w fun e w' => e = .returned (.bool (isOrdB xs n)) ∧ Below w.heap.size w w' := by
  have HL := Lib.hid hl
  by_cases h : inB n 1 24 = true
  · by_cases he : (n' : Int) = n
    · subst he
      have hne : ((n' : Int) != (n' : Int)) = false := by simp
      go_enter Try.func24, Try.ntmps24
      clear hl
      go_wp2_with (first | (go_at_call 71; refine (within_any _ _ _ _).mono ?_; rintro e w' ⟨rfl, rfl⟩) | (go_at_call 72; refine (isAll_any a n' c xs _ HL.out hm hc).mono ?_; rintro e w' ⟨rfl, hd⟩))
      go_ret
      exact ⟨ret_bool (by rw [isOrdB, h, Bool.true_and, HL.out]; simp), hd⟩
    · have hne : ((n' : Int) != n) = true := by simp; omega
      clear hl hc
      go_enter Try.func24, Try.ntmps24
      go_wp2_with (first | (go_at_call 71; refine (within_any _ _ _ _).mono ?_; rintro e w' ⟨rfl, rfl⟩))
      go_ret
      exact ⟨ret_bool (by rw [isOrdB, HL.out, decide_eq_false he]; simp), .refl _ _⟩
  · rw [Bool.not_eq_true] at h
    clear hl hc
    go_enter Try.func24, Try.ntmps24
    go_wp2_with (first | (go_at_call 71; refine (within_any _ _ _ _).mono ?_; rintro e w' ⟨rfl, rfl⟩))
    go_ret
    exact ⟨ret_bool (by rw [isOrdB, h, Bool.false_and]), .refl _ _⟩

theorem take_len {zs : List Int} {len : Nat} (h : len ≤ zs.length) : (zs.take len).length = len := by simp; omega

theorem IsRow.len {k : IntKind} {w : World} {a : Option Addr} {len cap : Nat} {zs : List Int} (h : IsRow k w a len cap zs) : len ≤ zs.length := by
  rcases h with ⟨_, h, _, _⟩ | ⟨_, _, h1, _, h2, _⟩ <;> omega

theorem eqB_self (xs : List Int) : eqB xs xs = true := by simp [eqB]

set_option maxHeartbeats 1000000 in
theorem isOrder_walk (a0 : Option Addr) (len0 cap0 : Nat) (z0 : List Int) (a1 : Int) (w : World) (w0 : IsRow .i64 w a0 len0 cap0 z0) (_ : (Lit.int .i64 a1).wf = true) :
    Calls Try.prog 3 #[.slice a0 len0 cap0, .int .i64 a1] w fun e w' => e = .returned (.bool true) ∧ Below w.heap.size w w' := by
  have hlz := w0.len
  have W0 := Lib.hid w0; clear w0
  by_cases h : len0 ≤ 1048576
  · have hlen := take_len hlz
    have HL := Lib.hid hlen; clear hlen
    go_enter Try.func3, Try.ntmps3
    go_wp2_with fail
    go_at_call 23
    refine (toInt64S_any a0 len0 cap0 z0 _ W0.out h).mono ?_
    rintro e w1 ⟨g1, rfl, hr1, hg1, hb1⟩
    rw [HL.out] at hr1 ⊢
    have R1 := Lib.hid hr1; have B1 := Lib.hid hb1; clear hr1 hb1
    go_wp2_with fail
    go_at_call 22
    refine (specIsOrder_any g1 len0 len0 (z0.take len0) a1 _ HL.out (Nat.le_refl _) h R1.out.rd).mono ?_
    rintro e w2 ⟨rfl, hd2⟩
    have D2 := Lib.hid hd2; clear hd2
    go_wp2_with fail
    go_at_call 23
    refine (toInt64S_any a0 len0 cap0 z0 _ (W0.out.below (B1.out.trans D2.out.below)) h).mono ?_
    rintro e w3 ⟨g3, rfl, hr3, hg3, hb3⟩
    rw [HL.out] at hr3 ⊢
    have R3 := Lib.hid hr3; have B3 := Lib.hid (B1.out.trans (D2.out.below.trans (hb3.mono (B1.out.trans D2.out.below).size))); clear hr3 hb3
    go_wp2_with fail
    go_at_call 24
    refine (implIsOrder_any _ len0 len0 (z0.take len0) a1 _ HL.out h R3.out.at').mono ?_
    rintro e w4 ⟨rfl, hb4⟩
    have R4 := Lib.hid (R3.out.below hb4 R3.out.lt)
    have B4 := Lib.hid (B3.out.trans (hb4.mono B3.out.size)); clear hb4
    go_wp2_with fail
    go_at_call 23
    refine (toInt64S_any a0 len0 cap0 z0 _ (W0.out.below B4.out) h).mono ?_
    rintro e w5 ⟨g5, rfl, hr5, hg5, hb5⟩
    rw [HL.out] at hr5 ⊢
    have R5 := Lib.hid hr5; have R45 := Lib.hid (R4.out.below hb5 R4.out.lt)
    have B5 := Lib.hid (B4.out.trans (hb5.mono B4.out.size)); clear hr5 hb5
    go_wp2_with fail
    go_at_call 25
    refine (eqInt64S_any _ _ len0 len0 len0 len0 (z0.take len0) (z0.take len0) _ HL.out HL.out R45.out.at' R5.out.at' h h).mono ?_
    rintro e w6 ⟨rfl, hd6⟩
    rw [eqB_self]
    go_wp2
    go_ret
    exact ⟨rfl, B5.out.trans hd6.below⟩
  · go_enter Try.func3, Try.ntmps3
    go_wp2
    go_ret
    exact ⟨rfl, .refl _ _⟩
end Go.Proofs.Ytncmhinpjkkfkaa
