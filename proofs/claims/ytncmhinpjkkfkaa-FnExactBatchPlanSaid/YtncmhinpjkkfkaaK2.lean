/-
  Walks: comparison of lists of jobs, valid jobs; the laws SameJobs and AreJobs. Conditions: none.
-/
import Derived.Test.YtncmhinpjkkfkaaK1
import Derived.StillTailTactics
set_option linter.unusedVariables false
set_option linter.unusedSimpArgs false
namespace Go.Proofs.Ytncmhinpjkkfkaa
open Go Go.RowKit

def eqJ (a b : J) : Bool := (a.time == b.time) && (a.rel == b.rel) && (a.due == b.due) && (a.wt == b.wt)
theorem eqJ_iff {a b : J} : eqJ a b = true ↔ a = b := by
  unfold eqJ; cases a; cases b; simp [and_assoc]
def eqJs (js ks : List J) : Bool := decide (js = ks)
def eqJK (js ks : List J) (k : Nat) : Prop := js.take k = ks.take k
theorem eqJK_succ {xs ys : List J} {k : Nat} (h : eqJK xs ys k) (hx : k < xs.length) (hy : k < ys.length) (e : eqJ xs[k] ys[k] = true) : eqJK xs ys (k + 1) := by
  unfold eqJK at *
  rw [List.take_succ_eq_append_getElem hx, List.take_succ_eq_append_getElem hy, h, eqJ_iff.1 e]
theorem eqJs_false_len {xs ys : List J} (h : xs.length ≠ ys.length) : eqJs xs ys = false := by
  unfold eqJs; exact decide_eq_false fun e => h (by rw [e])
theorem eqJs_false_at {xs ys : List J} {k : Nat} (hx : k < xs.length) (hy : k < ys.length) (e : eqJ xs[k] ys[k] = false) : eqJs xs ys = false := by
  unfold eqJs; exact decide_eq_false fun h => by subst h; rw [eqJ_iff.2 rfl] at e; cases e
theorem eqJs_true {xs ys : List J} (h : eqJK xs ys xs.length) (hl : xs.length = ys.length) : eqJs xs ys = true := by
  unfold eqJs eqJK at *
  rw [List.take_length, hl, List.take_length] at h
  simp [h]
theorem eqJs_self (xs : List J) : eqJs xs xs = true := by simp [eqJs]

def JAt (w : World) (a : Option Addr) (js : List J) : Prop := js = [] ∨ ∃ g o, a = some ⟨g, o, none⟩ ∧ JRd w g o js
theorem JRow.at' {w : World} {g : Nat} {js : List J} (h : JRow w g js) : JAt w (some ⟨g, 0, none⟩) js := .inr ⟨g, 0, rfl, h.rd⟩

set_option maxHeartbeats 2000000 in
set_option maxRecDepth 100000 in
theorem eqJobS_any (a a' : Option Addr) (n n' c c' : Nat) (xs ys : List J) (w : World) (hn : xs.length = n) (hn' : ys.length = n') (hx : JAt w a xs) (hy : JAt w a' ys) (hm : n ≤ 1048576) (hm' : n' ≤ 1048576) :
    Calls Try.prog 30 #[.slice a n c, .slice a' n' c'] w fun e w' => e = .returned (.bool (eqJs xs ys)) ∧ Below w.heap.size w w' := by
  by_cases hl : n = n'
  · subst hl
    have hl : xs.length = ys.length := by omega
    have HL := Lib.hid hl; have HN := Lib.hid hn; have HN' := Lib.hid hn'
    by_cases h0 : n = 0
    · have he : eqJs xs ys = true := eqJs_true (by unfold eqJK; rw [show xs.length = 0 by omega]; simp) hl
      have HE := Lib.hid he
      subst h0
      clear hl hn hn' he hx hy
      go_enter Try.func30, Try.ntmps30
      go_wp2
      refine wp_loop_rounds 1 ?_; rw [rounds_succ]
      go_wp2
      go_ret
      exact ⟨ret_bool HE.out.symm, .refl _ _⟩
    · rcases hx with rfl | ⟨g, o, rfl, hx⟩
      · simp at hn; omega
      rcases hy with rfl | ⟨g', o', rfl, hy⟩
      · simp at hn'; omega
      have HX := Lib.hid hx; have HY := Lib.hid hy
      have L1 := block_lt_of_cell (hx 0 (by omega)).1
      have L2 := block_lt_of_cell (hy 0 (by omega)).1
      clear hl hn hn' hx hy
      go_enter Try.func30, Try.ntmps30
      go_wp2
      go_loopw [5] (fun i wr => ∃ k : Nat, k ≤ n ∧ i = .int .i64 k ∧ eqJK xs ys k ∧ Below w.heap.size w wr) (fun i _ => n - (intOf i).toNat)
      case atStart => exact ⟨0, Nat.zero_le _, rfl, by simp [eqJK], .refl _ _⟩
      case round =>
        obtain ⟨k, hk, rfl, hno, hd⟩ := hrel
        by_cases hlt : k < n
        · have hkx : k < xs.length := by have := HN.out; omega
          have hky : k < ys.length := by have := HN'.out; omega
          obtain ⟨c0, c1, c2, c3⟩ := HX.out.below hd L1 k hkx
          obtain ⟨d0, d1, d2, d3⟩ := HY.out.below hd L2 k hky
          have HK := Lib.hid hno; have HD := Lib.hid hd
          clear hno hd
          have HT := Lib.hid (@eqJK_succ xs ys k HK.out hkx hky)
          have HFa := Lib.hid (@eqJs_false_at xs ys k hkx hky)
          go_wp2
          go_still_tail 8, (by kernel_rfl)
          change wpList _ _ _ _ _ wr.drew
          have hB : ∀ w', Below wr.drew.heap.size wr.drew w' → Below w.heap.size w w' := fun w' h => (HD.out.drew).trans (h.mono HD.out.size)
          have HBB := Lib.hid hB; clear hB
          cases he : eqJ xs[k] ys[k]
          · have hs := HFa.out he
            have HS := Lib.hid hs
            have he' : ((xs[k].time == ys[k].time) && (xs[k].rel == ys[k].rel) && (xs[k].due == ys[k].due) && (xs[k].wt == ys[k].wt)) = false := he
            have HE := Lib.hid he'
            clear hs he he'
            go_wp2_with (go_at_call 76; refine (eqJob_any _ _ _ _ _ _ _ _ _).mono ?_; rintro e w' ⟨rfl, hb'⟩; rw [HE.out])
            go_ret
            exact ⟨ret_bool HS.out.symm, HBB.out _ hb'⟩
          · have hs := HT.out he
            have HS := Lib.hid hs
            have he' : ((xs[k].time == ys[k].time) && (xs[k].rel == ys[k].rel) && (xs[k].due == ys[k].due) && (xs[k].wt == ys[k].wt)) = true := he
            have HE := Lib.hid he'
            clear hs he he'
            go_wp2_with (go_at_call 76; refine (eqJob_any _ _ _ _ _ _ _ _ _).mono ?_; rintro e w' ⟨rfl, hb'⟩; rw [HE.out])
            go_roundw
            case rel => exact ⟨k + 1, by omega, by go_num, HS.out, HBB.out _ hb'⟩
            case measure => simp [intOf]; omega
        · have hno' : eqJs xs ys = true := eqJs_true (by obtain rfl : k = n := by omega
                                                         rw [HN.out]; exact hno) HL.out
          have HK := Lib.hid hno'; have HD := Lib.hid hd
          clear hno hno' hd
          go_wp2
          go_ret
          exact ⟨ret_bool HK.out.symm, HD.out⟩
  · have he := eqJs_false_len (xs := xs) (ys := ys) (by omega)
    have HE := Lib.hid he
    have hne : ((n : Int) != (n' : Int)) = true := by simp; omega
    clear he hn hn' hx hy
    go_enter Try.func30, Try.ntmps30
    go_wp2
    go_ret
    exact ⟨ret_bool HE.out.symm, .refl _ _⟩
end Go.Proofs.Ytncmhinpjkkfkaa
