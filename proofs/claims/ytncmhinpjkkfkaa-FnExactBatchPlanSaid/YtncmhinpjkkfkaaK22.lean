/-
  Rows of integers that a call has made, by list; the index of the first least one. Conditions: none.
-/
import Derived.Test.YtncmhinpjkkfkaaK11
set_option linter.unusedVariables false
set_option linter.unusedSimpArgs false
namespace Go.Proofs.Ytncmhinpjkkfkaa
open Go Go.RowKit

/-- Block g is a row of c cells of integers, the first of which hold xs. -/
def Rw (w : World) (g c : Nat) (xs : List Int) : Prop := Row w g 2 c (xs.map (Value.int .i64))

theorem Rw.lt {w : World} {g c : Nat} {xs : List Int} (h : Rw w g c xs) : g < w.heap.size := Row.lt h
theorem Rw.cell {w : World} {g c : Nat} {xs : List Int} (h : Rw w g c xs) (i : Nat) (hi : i < xs.length) : w.cell? ⟨g, i, none⟩ = some (.int .i64 (xs.getD i 0)) := by
  have := Row.cell h i (by simpa using hi)
  rw [this, List.getD_eq_getElem?_getD, List.getElem?_eq_getElem hi]; simp
theorem Rw.free {w : World} {g c : Nat} {xs : List Int} (h : Rw w g c xs) (i : Nat) : w.frozen? ⟨g, i, none⟩ = false := Row.free h i
theorem Rw.set {w : World} {g c : Nat} {xs : List Int} (h : Rw w g c xs) (i : Nat) (v : Int) : Rw (w.setCell ⟨g, i, none⟩ (.int .i64 v)) g c (xs.set i v) := by
  have := Row.set h i (.int .i64 v)
  unfold Rw; rw [List.map_set]; exact this
theorem Rw.other {w : World} {g c : Nat} {xs : List Int} (h : Rw w g c xs) {a : Addr} (ha : g ≠ a.block) (u : Value) : Rw (w.setCell a u) g c xs := Row.other h ha u
theorem Rw.below {B : Nat} {w w' : World} {g c : Nat} {xs : List Int} (h : Rw w g c xs) (hb : Below B w w') (hg : g < B) : Rw w' g c xs := Row.below h hb hg
theorem Rw.alloc {w : World} {g c : Nat} {xs : List Int} (h : Rw w g c xs) (o : Obj) : Rw (w.alloc o) g c xs := Row.alloc h o
theorem Rw.dr {w w' : World} {g c : Nat} {xs : List Int} (h : Rw w g c xs) (hd : Dr w w') : Rw w' g c xs := Row.dr h hd
theorem Rw.rd {w : World} {g c : Nat} {xs : List Int} (h : Rw w g c xs) : Rd w g 0 xs := Row.rd h
theorem Rd.get {w : World} {g : Nat} {xs : List Int} (h : Rd w g 0 xs) (i : Nat) (hi : i < xs.length) : w.cell? ⟨g, i, none⟩ = some (.int .i64 (xs.getD i 0)) := by
  have := h i hi
  rw [Nat.zero_add] at this
  rw [this, List.getD_eq_getElem?_getD, List.getElem?_eq_getElem hi]; simp
theorem rw_zero {w : World} {g n c : Nat} (h : Row w g 2 c (List.replicate n (.int .i64 0))) : Rw w g c (List.replicate n 0) := by
  unfold Rw; simpa using h
theorem rw_nil {w : World} {g c : Nat} (h : Row w g 2 c []) : Rw w g c [] := h

/-- The index of the first least one of the first k. -/
def amK (xs : List Int) : Nat → Nat
  | 0 => 0
  | k + 1 => if k = 0 then 0 else if xs.getD k 0 < xs.getD (amK xs k) 0 then k else amK xs k

theorem amK_one (xs : List Int) : amK xs 1 = 0 := rfl
theorem amK_step {xs : List Int} {k : Nat} (h : 1 ≤ k) : amK xs (k + 1) = if xs.getD k 0 < xs.getD (amK xs k) 0 then k else amK xs k := by
  simp only [amK]; rw [if_neg (by omega)]
theorem amK_lt (xs : List Int) : ∀ k, 1 ≤ k → amK xs k < k
  | 0, h => by omega
  | k + 1, _ => by
    simp only [amK]
    split
    · omega
    · split
      · omega
      · have := amK_lt xs k (by omega); omega
theorem amK_first (xs : List Int) : ∀ k, 1 ≤ k → (∀ j, j < k → xs.getD (amK xs k) 0 ≤ xs.getD j 0) ∧ ∀ j, j < amK xs k → xs.getD (amK xs k) 0 < xs.getD j 0
  | 0, h => by omega
  | k + 1, _ => by
    by_cases h0 : k = 0
    · subst h0
      refine ⟨fun j hj => ?_, fun j hj => by rw [amK_one] at hj; omega⟩
      have : j = 0 := by omega
      subst this; rw [amK_one]; exact Int.le_refl _
    · obtain ⟨h1, h2⟩ := amK_first xs k (by omega)
      rw [amK_step (by omega)]
      by_cases hc : xs.getD k 0 < xs.getD (amK xs k) 0
      · rw [if_pos hc]
        refine ⟨fun j hj => ?_, fun j hj => ?_⟩
        · by_cases e : j = k
          · subst e; exact Int.le_refl _
          · have := h1 j (by omega); omega
        · have := h1 j hj; omega
      · rw [if_neg hc]
        refine ⟨fun j hj => ?_, h2⟩
        by_cases e : j = k
        · subst e; omega
        · exact h1 j (by omega)

/-- What the list is behind a store. -/
theorem getD_set (l : List Int) (i j : Nat) (v : Int) (hi : i < l.length) : (l.set i v).getD j 0 = if i = j then v else l.getD j 0 := by
  rw [List.getD_eq_getElem?_getD, List.getElem?_set, List.getD_eq_getElem?_getD]
  by_cases h : i = j
  · subst h; simp [hi]
  · simp [h]

set_option maxHeartbeats 1000000 in
theorem slicesMin_any (g c n : Nat) (xs : List Int) (w : World) (hn : xs.length = n) (hm : n ≤ 1048576) (h1 : 1 ≤ n) (hc : Rd w g 0 xs) :
    Calls Try.prog 128 #[.slice (some ⟨g, 0, none⟩) n c] w fun e w' => e = .returned (.int .i64 (xs.getD (amK xs n) 0)) ∧ w = w' := by
  have HN := Lib.hid hn; have HC := Lib.hid hc
  have c0 := hc.get 0 (by omega)
  have m0 : (0 : Int) < n := by omega
  clear hn hc
  go_enter Try.func128, Try.ntmps128
  go_wp2
  go_loop [3, 4] (fun m i => ∃ k : Nat, 1 ≤ k ∧ k ≤ n ∧ i = .int .i64 k ∧ m = .int .i64 (xs.getD (amK xs k) 0)) (fun _ i => n - (intOf i).toNat)
  case atStart => exact ⟨1, by omega, by omega, rfl, rfl⟩
  case round =>
    obtain ⟨k, hk1, hk, rfl, rfl⟩ := hrel
    by_cases hlt : k < n
    · have ck := HC.out.get k (by have := HN.out; omega)
      have hs : xs.getD (amK xs (k + 1)) 0 = min (xs.getD (amK xs k) 0) (xs.getD k 0) := by
        rw [amK_step hk1]; split <;> omega
      have HS := Lib.hid hs; clear hs
      generalize xs.getD (amK xs k) 0 = a at *
      generalize xs.getD k 0 = b at *
      by_cases hab : b < a
      · have HM : Hid (min a b = b) := Lib.hid (by omega)
        go_wp2
        go_round
        case rel => exact ⟨k + 1, by omega, by omega, by go_num, by rw [HS.out, HM.out]⟩
        case measure => simp [intOf]; omega
      · have HM : Hid (min a b = a) := Lib.hid (by omega)
        go_wp2
        go_round
        case rel => exact ⟨k + 1, by omega, by omega, by go_num, by rw [HS.out, HM.out]⟩
        case measure => simp [intOf]; omega
    · obtain rfl : k = n := by omega
      go_wp2
      go_ret
      exact ⟨rfl, rfl⟩

set_option maxHeartbeats 1000000 in
theorem slicesIndex_any (g c n : Nat) (xs : List Int) (a : Nat) (v : Int) (w : World) (hn : xs.length = n) (hm : n ≤ 1048576) (hc : Rd w g 0 xs) (ha : a < n) (hv : xs.getD a 0 = v) (hf : ∀ j, j < a → v < xs.getD j 0) :
    Calls Try.prog 127 #[.slice (some ⟨g, 0, none⟩) n c, .int .i64 v] w fun e w' => e = .returned (.int .i64 a) ∧ w = w' := by
  have HN := Lib.hid hn; have HC := Lib.hid hc; have HV := Lib.hid hv; have HF := Lib.hid hf
  clear hn hc hv hf
  go_enter Try.func127, Try.ntmps127
  go_wp2
  go_loop [5, 8] (fun _ i => ∃ k : Nat, k ≤ a ∧ i = .int .i64 k) (fun _ i => n - (intOf i).toNat)
  case atStart => exact ⟨0, Nat.zero_le _, rfl⟩
  case round =>
    obtain ⟨k, hk, rfl⟩ := hrel
    have hlt : k < n := by omega
    have ck := HC.out.get k (by have := HN.out; omega)
    by_cases hka : k < a
    · have hne := HF.out k hka
      generalize xs.getD k 0 = b at *
      have hb : (v == b) = false := by simp; omega
      clear hne
      go_wp2
      go_round
      case rel => exact ⟨k + 1, by omega, by go_num⟩
      case measure => simp [intOf]; omega
    · obtain rfl : k = a := by omega
      rw [HV.out] at ck
      go_wp2
      go_ret
      exact ⟨rfl, rfl⟩

theorem firstFree_any (g c n : Nat) (xs : List Int) (w : World) (hn : xs.length = n) (hm : n ≤ 1048576) (h1 : 1 ≤ n) (hc : Rd w g 0 xs) :
    Calls Try.prog 92 #[.slice (some ⟨g, 0, none⟩) n c] w fun e w' => e = .returned (.int .i64 (amK xs n)) ∧ w = w' := by
  have hl := amK_lt xs n h1
  have HN := Lib.hid hn; have HC := Lib.hid hc
  have HF := Lib.hid (amK_first xs n h1).2
  clear hn hc
  go_enter Try.func92, Try.ntmps92
  go_wp2_with (first
    | (go_at_call 128; refine (slicesMin_any g c n xs _ HN.out hm h1 HC.out).mono ?_; rintro e w' ⟨rfl, rfl⟩)
    | (go_at_call 127; refine (slicesIndex_any g c n xs (amK xs n) _ _ HN.out hm HC.out hl rfl HF.out).mono ?_; rintro e w' ⟨rfl, rfl⟩))
  go_ret
  exact ⟨rfl, rfl⟩
end Go.Proofs.Ytncmhinpjkkfkaa
