/-
  Walks: a law's marks in the memory of results and arguments. Conditions: none.
-/
import Derived.Test.YtncmhinpjkkfkaaK5
set_option linter.unusedVariables false
set_option linter.unusedSimpArgs false
namespace Go.Proofs.Ytncmhinpjkkfkaa
open Go Go.RowKit

/-- Block g alone may have been written; there may be new blocks. -/
def Touch (g : Nat) (w w' : World) : Prop := w.grownBy w' (some g)
theorem Touch.refl (g : Nat) (w : World) : Touch g w w := World.grownBy.refl w _
theorem Touch.trans {g : Nat} {a b c : World} (h : Touch g a b) (k : Touch g b c) : Touch g a c :=
  ⟨k.os.trans h.os, k.tape.trans h.tape, k.output.trans h.output, Nat.le_trans h.size k.size, fun i hi hne => (k.block i (Nat.lt_of_lt_of_le hi h.size) hne).trans (h.block i hi hne)⟩
theorem Touch.set {g : Nat} {a w : World} (h : Touch g a w) (j : Nat) (u : Value) : Touch g a (w.setCell ⟨g, j, none⟩ u) :=
  h.trans ⟨rfl, rfl, rfl, by simp [World.setCell], fun k _ hne => Below.heap_setCell _ _ _ _ (fun e => hne (by rw [e]))⟩
theorem Touch.below {g B : Nat} {w w' : World} (h : Touch g w w') (hB : B ≤ g) (hw : B ≤ w.heap.size) : Below B w w' :=
  ⟨h.os, h.tape, h.output, h.size, fun k hk => h.block k (by omega) (fun e => by injection e; omega)⟩
theorem Row.touch {w w' : World} {g g' c : Nat} {T : TypeId} {vs : List Value} (h : Row w g' T c vs) (ht : Touch g w w') (hne : g' ≠ g) : Row w' g' T c vs := by
  have hl := h.lt
  obtain ⟨cur, hh, r⟩ := h
  exact ⟨cur, by rw [ht.block g' hl (fun e => hne (by injection e))]; exact hh, r⟩
theorem JRow.touch {w w' : World} {g g' : Nat} {js : List J} (h : JRow w g' js) (ht : Touch g w w') (hne : g' ≠ g) : JRow w' g' js := Row.touch h ht hne

def iota (k : Int) (n : Nat) : List Int := (List.range n).map fun (p : Nat) => k + (p : Int)
theorem iota_len (k : Int) (n : Nat) : (iota k n).length = n := by simp [iota]
def markV (xs : List Int) (k0 : Int) (j : Nat) : List Value := (List.range xs.length).map fun (p : Nat) => .int .i64 (if p < j then k0 + p else xs.getD p 0)
theorem markV_len (xs : List Int) (k0 : Int) (j : Nat) : (markV xs k0 j).length = xs.length := by simp [markV]
theorem markV_zero (xs : List Int) (k0 : Int) : markV xs k0 0 = xs.map (Value.int .i64) := by
  refine List.ext_getElem (by simp [markV]) fun i h1 h2 => ?_
  have : i < xs.length := by simpa using h2
  simp [markV, List.getElem?_eq_getElem this]
theorem markV_all (xs : List Int) (k0 : Int) : markV xs k0 xs.length = (iota k0 xs.length).map (Value.int .i64) := by
  refine List.ext_getElem (by simp [markV, iota]) fun i h1 h2 => ?_
  have : i < xs.length := by simpa [iota] using h2
  simp [markV, iota, this]
theorem markV_set (xs : List Int) (k0 : Int) (j : Nat) (h : j < xs.length) : (markV xs k0 j).set j (.int .i64 (k0 + j)) = markV xs k0 (j + 1) := by
  refine List.ext_getElem (by simp [markV]) fun i h1 h2 => ?_
  rw [List.getElem_set]
  simp only [markV, List.getElem_map, List.getElem_range]
  by_cases e : j = i
  · subst e; rw [if_pos rfl, if_pos (by omega)]
  · rw [if_neg e]
    by_cases e2 : i < j
    · rw [if_pos e2, if_pos (by omega)]
    · rw [if_neg e2, if_neg (by omega)]

def Marked (w : World) (g c n : Nat) (k0 : Int) (e : Ending) (w' : World) : Prop :=
  e = .returned (.int .i64 (k0 + n)) ∧ Row w' g 2 c ((iota k0 n).map (Value.int .i64)) ∧ Touch g w w'

set_option maxHeartbeats 1000000 in
theorem mark_any (w : World) (g n c : Nat) (xs : List Int) (k0 : Int) (hn : xs.length = n) (hm : n ≤ 1048576) (b0 : 0 ≤ k0) (b1 : k0 ≤ 100000000) (hr : Row w g 2 c (xs.map (Value.int .i64))) :
    Calls Try.prog 39 #[.slice (some ⟨g, 0, none⟩) n c, .int .i64 k0] w (Marked w g c n k0) := by
  have hfin : ∀ w', Row w' g 2 c (markV xs k0 n) → Touch g w w' → Marked w g c n k0 (.returned (.int .i64 (k0 + n))) w' := by
    intro w' h1 h2
    refine ⟨rfl, ?_, h2⟩
    rw [← hn, markV_all, hn] at h1; exact h1
  have HF := Lib.hid hfin; have HN := Lib.hid hn
  rw [← markV_zero xs k0] at hr
  have HR0 := Lib.hid hr
  clear hfin hn hr
  go_enter Try.func39, Try.ntmps39
  go_wp2
  go_loopw [1, 5] (fun q i wr => ∃ k : Nat, k ≤ n ∧ i = .int .i64 k ∧ q = .int .i64 (k0 + k) ∧ Row wr g 2 c (markV xs k0 k) ∧ Touch g w wr) (fun _ i _ => n - (intOf i).toNat)
  case atStart => exact ⟨0, Nat.zero_le _, rfl, by simp, HR0.out, .refl _ _⟩
  case round =>
    obtain ⟨k, hk, rfl, rfl, hrk, ht⟩ := hrel
    have HR := Lib.hid hrk; have HT := Lib.hid ht
    clear hrk ht
    by_cases hlt : k < n
    · have hkx : k < xs.length := by have := HN.out; omega
      have hold := HR.out.cell k (by rw [markV_len]; exact hkx)
      generalize (markV xs k0 k)[k]'(by rw [markV_len]; exact hkx) = vold at hold
      have hfree := HR.out.free k
      have hset := HR.out.set k (.int .i64 (k0 + k))
      rw [markV_set xs k0 k hkx] at hset
      have HS := Lib.hid hset; clear hset
      go_wp2
      go_roundw
      case rel => exact ⟨k + 1, by omega, by go_num, by go_num, HS.out, HT.out.set _ _⟩
      case measure => simp [intOf]; omega
    · obtain rfl : k = n := by omega
      go_wp2
      go_ret
      exact HF.out _ HR.out HT.out

theorem mark_nil (w : World) (a : Option Addr) (c : Nat) (k0 : Int) : Calls Try.prog 39 #[.slice a 0 c, .int .i64 k0] w fun e w' => e = .returned (.int .i64 k0) ∧ w = w' := by
  go_enter Try.func39, Try.ntmps39
  go_wp2
  refine wp_loop_rounds 1 ?_; rw [rounds_succ]
  go_wp2
  go_ret
  exact ⟨rfl, rfl⟩

theorem held_nil (w : World) (a : Option Addr) (c : Nat) (k0 : Int) : Calls Try.prog 40 #[.slice a 0 c, .int .i64 k0] w fun e w' => e = .returned (.int .i64 k0) ∧ w = w' := by
  go_enter Try.func40, Try.ntmps40
  go_wp2
  refine wp_loop_rounds 1 ?_; rw [rounds_succ]
  go_wp2
  go_ret
  exact ⟨rfl, rfl⟩

set_option maxHeartbeats 1000000 in
theorem held_any (w : World) (g n c : Nat) (k0 : Int) (hm : n ≤ 1048576) (b0 : 0 ≤ k0) (b1 : k0 ≤ 100000000) (hr : Rd w g 0 (iota k0 n)) :
    Calls Try.prog 40 #[.slice (some ⟨g, 0, none⟩) n c, .int .i64 k0] w fun e w' => e = .returned (.int .i64 (k0 + n)) ∧ w = w' := by
  have HR := Lib.hid hr; clear hr
  go_enter Try.func40, Try.ntmps40
  go_wp2
  go_loop [1, 5] (fun q i => ∃ k : Nat, k ≤ n ∧ i = .int .i64 k ∧ q = .int .i64 (k0 + k)) (fun _ i => n - (intOf i).toNat)
  case atStart => exact ⟨0, Nat.zero_le _, rfl, by simp⟩
  case round =>
    obtain ⟨k, hk, rfl, rfl⟩ := hrel
    by_cases hlt : k < n
    · have hcell := HR.out k (by rw [iota_len]; exact hlt)
      have he : (iota k0 n)[k]'(by rw [iota_len]; exact hlt) = k0 + k := by simp [iota]
      rw [he, Nat.zero_add] at hcell
      have hne : (k0 + (k : Int) != k0 + (k : Int)) = false := by simp
      clear he
      go_wp2
      go_round
      case rel => exact ⟨k + 1, by omega, by go_num, by go_num⟩
      case measure => simp [intOf]; omega
    · obtain rfl : k = n := by omega
      go_wp2
      go_ret
      exact ⟨rfl, rfl⟩

def MarkedJ (w : World) (g n : Nat) (k0 : Int) (e : Ending) (w' : World) : Prop :=
  e = .returned (.int .i64 (k0 + 4 * n)) ∧ Touch g w w'

set_option maxHeartbeats 4000000 in
theorem markJ_any (w : World) (g n c : Nat) (js : List J) (k0 : Int) (hn : js.length = n) (hm : n ≤ 1048576) (b0 : 0 ≤ k0) (b1 : k0 ≤ 100000000) (hr : JRow w g js) :
    Calls Try.prog 58 #[.slice (some ⟨g, 0, none⟩) n c, .int .i64 k0] w (MarkedJ w g n k0) := by
  have hfin : ∀ w', Touch g w w' → MarkedJ w g n k0 (.returned (.int .i64 (k0 + 4 * n))) w' := fun w' h => ⟨rfl, h⟩
  have HF := Lib.hid hfin; have HN := Lib.hid hn
  have hr' : ∃ vs, vs.length = n * 4 ∧ Row w g 67 (n * 4) vs := ⟨jpart js n n, jpart_len js n n, by have := hr; unfold JRow at this; rw [hn] at this; exact this⟩
  have HR0 := Lib.hid hr'
  clear hfin hn hr hr'
  go_enter Try.func58, Try.ntmps58
  go_wp2
  go_loopw [1, 5] (fun q i wr => ∃ k : Nat, k ≤ n ∧ i = .int .i64 k ∧ q = .int .i64 (k0 + 4 * k) ∧ (∃ vs, vs.length = n * 4 ∧ Row wr g 67 (n * 4) vs) ∧ Touch g w wr) (fun _ i _ => n - (intOf i).toNat)
  case atStart => exact ⟨0, Nat.zero_le _, rfl, by simp, HR0.out, .refl _ _⟩
  case round =>
    obtain ⟨k, hk, rfl, rfl, ⟨vs, hvs, hrk⟩, ht⟩ := hrel
    have HR := Lib.hid hrk; have HT := Lib.hid ht; have HV := Lib.hid hvs
    clear hrk ht
    by_cases hlt : k < n
    · have d0 := HR.out.cell (k * 4) (by omega)
      have d1 := HR.out.cell (k * 4 + 1) (by omega)
      have d2 := HR.out.cell (k * 4 + 2) (by omega)
      have d3 := HR.out.cell (k * 4 + 3) (by omega)
      generalize vs[k * 4]'(by omega) = v0 at d0
      generalize vs[k * 4 + 1]'(by omega) = v1 at d1
      generalize vs[k * 4 + 2]'(by omega) = v2 at d2
      generalize vs[k * 4 + 3]'(by omega) = v3 at d3
      have f0 := HR.out.free (k * 4)
      have f1 := HR.out.free (k * 4 + 1)
      have f2 := HR.out.free (k * 4 + 2)
      have f3 := HR.out.free (k * 4 + 3)
      have hset := fun a b c d => (((HR.out.set (k * 4) a).set (k * 4 + 1) b).set (k * 4 + 2) c).set (k * 4 + 3) d
      have HS := Lib.hid hset; clear hset hvs
      go_wp2
      go_roundw
      case rel => exact ⟨k + 1, by omega, by go_num, by go_num, ⟨_, by simpa using HV.out, HS.out _ _ _ _⟩, (((HT.out.set _ _).set _ _).set _ _).set _ _⟩
      case measure => simp [intOf]; omega
    · obtain rfl : k = n := by omega
      clear hvs
      go_wp2
      go_ret
      exact HF.out _ HT.out
end Go.Proofs.Ytncmhinpjkkfkaa
