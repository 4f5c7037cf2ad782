/-
  Walks: numbers 1, 2, 3 .. written into a slice of 32-bit floats and found there again; slices compared where there is none. Conditions: none.
-/
import Derived.Test.YtjlbjlcficbdlaaDoorE4
set_option linter.unusedVariables false
set_option linter.unusedSimpArgs false
namespace Go.Proofs.YtjlbjlcficbdlaaDoor
open Go Go.RowKit Flo Fl
attribute [local go_sem] Fl.run_store_float

/-- The number k as a 32-bit float. -/
def fk (k : Nat) : Nat := floatOfInt .f32 (k : Int)
theorem fk_order : ((List.range 301).all fun k => FloatKind.f32.format.order (fk k) (fk k) == some .eq) = true := by kernel_rfl
theorem fk_self {k : Nat} (h : k ≤ 300) : (FloatKind.f32.format.order (floatOfInt .f32 (k : Int)) (floatOfInt .f32 (k : Int)) != some .eq) = false := by
  have h1 := List.all_eq_true.1 fk_order k (List.mem_range.2 (by omega))
  show (FloatKind.f32.format.order (fk k) (fk k) != some .eq) = false
  simp only [bne, h1, Bool.not_true]

def iotaF (k0 n : Nat) : List Nat := (List.range n).map fun (p : Nat) => fk (k0 + p)
theorem iotaF_len (k0 n : Nat) : (iotaF k0 n).length = n := by simp [iotaF]
def markF (xs : List Nat) (k0 j : Nat) : List Value := (List.range xs.length).map fun (p : Nat) => .float .f32 (if p < j then fk (k0 + p) else xs.getD p 0)
theorem markF_len (xs : List Nat) (k0 j : Nat) : (markF xs k0 j).length = xs.length := by simp [markF]
theorem markF_zero (xs : List Nat) (k0 : Nat) : markF xs k0 0 = xs.map (Value.float .f32) := by
  unfold markF
  refine List.ext_getElem (by simp) fun i h1 h2 => ?_
  have hi : i < xs.length := by simpa using h1
  simp [List.getD, List.getElem?_eq_getElem hi]
theorem markF_all (xs : List Nat) (k0 : Nat) : markF xs k0 xs.length = (iotaF k0 xs.length).map (Value.float .f32) := by
  unfold markF iotaF
  refine List.ext_getElem (by simp) fun i h1 h2 => ?_
  have hi : i < xs.length := by simpa using h1
  simp [hi]
theorem markF_set (xs : List Nat) (k0 j : Nat) (h : j < xs.length) : (markF xs k0 j).set j (.float .f32 (fk (k0 + j))) = markF xs k0 (j + 1) := by
  unfold markF
  refine List.ext_getElem (by simp) fun i h1 h2 => ?_
  rw [List.getElem_set]
  by_cases e : j = i
  · subst e; simp
  · rw [if_neg e]
    simp only [List.getElem_map, List.getElem_range]
    by_cases e2 : i < j
    · rw [if_pos e2, if_pos (by omega)]
    · rw [if_neg e2, if_neg (by omega)]

def MarkedF (w : World) (g c n k0 : Nat) (e : Ending) (w' : World) : Prop :=
  e = .returned (.int .i64 ((k0 : Int) + n)) ∧ Row w' g 56 c ((iotaF k0 n).map (Value.float .f32)) ∧ Touch g w w'

set_option maxHeartbeats 1000000 in
theorem markF_any (w : World) (g n c : Nat) (xs : List Nat) (k0 : Nat) (hn : xs.length = n) (hm : n ≤ 256) (b1 : k0 ≤ 10) (hr : Row w g 56 c (xs.map (Value.float .f32))) :
    Calls Tryd.prog 28 #[.slice (some ⟨g, 0, none⟩) n c, .int .i64 k0] w (MarkedF w g c n k0) := by
  have hfin : ∀ w', Row w' g 56 c (markF xs k0 n) → Touch g w w' → MarkedF w g c n k0 (.returned (.int .i64 ((k0 : Int) + n))) w' := by
    intro w' h1 h2
    refine ⟨rfl, ?_, h2⟩
    rw [← hn, markF_all, hn] at h1; exact h1
  have HF := Lib.hid hfin; have HN := Lib.hid hn
  rw [← markF_zero xs k0] at hr
  have HR0 := Lib.hid hr
  clear hfin hn hr
  go_enter Tryd.func28, Tryd.ntmps28
  go_wp2
  go_loopw [1, 5] (fun q i wr => ∃ k : Nat, k ≤ n ∧ i = .int .i64 k ∧ q = .int .i64 ((k0 : Int) + k) ∧ Row wr g 56 c (markF xs k0 k) ∧ Touch g w wr) (fun _ i _ => n - (intOf i).toNat)
  case atStart => exact ⟨0, Nat.zero_le _, rfl, by simp, HR0.out, .refl _ _⟩
  case round =>
    obtain ⟨k, hk, rfl, rfl, hrk, ht⟩ := hrel
    have HR := Lib.hid hrk; have HT := Lib.hid ht
    clear hrk ht
    by_cases hlt : k < n
    · have hkx : k < xs.length := by have := HN.out; omega
      have hold := HR.out.cell k (by rw [markF_len]; exact hkx)
      generalize (markF xs k0 k)[k]'(by rw [markF_len]; exact hkx) = vold at hold
      have hfree := HR.out.free k
      have hset := HR.out.set k (.float .f32 (fk (k0 + k)))
      rw [markF_set xs k0 k hkx] at hset
      have hfk : floatOfInt .f32 ((k0 : Int) + (k : Int)) = fk (k0 + k) := by unfold fk; rw [Int.natCast_add]
      have HS := Lib.hid hset; clear hset
      go_wp2
      go_roundw
      case rel => exact ⟨k + 1, by omega, by go_num, by go_num, HS.out, HT.out.set _ _⟩
      case measure => simp [intOf]; omega
    · obtain rfl : k = n := by omega
      go_wp2
      go_ret
      exact HF.out _ HR.out HT.out

theorem markF_nil (w : World) (a : Option Addr) (c : Nat) (k0 : Int) : Calls Tryd.prog 28 #[.slice a 0 c, .int .i64 k0] w fun e w' => e = .returned (.int .i64 k0) ∧ w = w' := by
  go_enter Tryd.func28, Tryd.ntmps28
  go_wp2
  refine wp_loop_rounds 1 ?_; rw [rounds_succ]
  go_wp2
  go_ret
  exact ⟨rfl, rfl⟩

theorem heldF_nil (w : World) (a : Option Addr) (c : Nat) (k0 : Int) : Calls Tryd.prog 29 #[.slice a 0 c, .int .i64 k0] w fun e w' => e = .returned (.int .i64 k0) ∧ w = w' := by
  go_enter Tryd.func29, Tryd.ntmps29
  go_wp2
  refine wp_loop_rounds 1 ?_; rw [rounds_succ]
  go_wp2
  go_ret
  exact ⟨rfl, rfl⟩

theorem eqF_nil (w : World) (a a' : Option Addr) (c c' : Nat) : Calls Tryd.prog 25 #[.slice a 0 c, .slice a' 0 c'] w fun e w' => e = .returned (.bool true) ∧ w = w' := by
  go_enter Tryd.func25, Tryd.ntmps25
  go_wp2
  refine wp_loop_rounds 1 ?_; rw [rounds_succ]
  go_wp2
  go_ret
  exact ⟨rfl, rfl⟩

set_option maxHeartbeats 1000000 in
theorem heldF_any (w : World) (g n c k0 : Nat) (hm : n ≤ 256) (b1 : k0 ≤ 10) (hr : Fl.Fd w g 0 (iotaF k0 n)) :
    Calls Tryd.prog 29 #[.slice (some ⟨g, 0, none⟩) n c, .int .i64 k0] w fun e w' => e = .returned (.int .i64 ((k0 : Int) + n)) ∧ w = w' := by
  have HR := Lib.hid hr; clear hr
  go_enter Tryd.func29, Tryd.ntmps29
  go_wp2
  go_loop [1, 5] (fun q i => ∃ k : Nat, k ≤ n ∧ i = .int .i64 k ∧ q = .int .i64 ((k0 : Int) + k)) (fun _ i => n - (intOf i).toNat)
  case atStart => exact ⟨0, Nat.zero_le _, rfl, by simp⟩
  case round =>
    obtain ⟨k, hk, rfl, rfl⟩ := hrel
    by_cases hlt : k < n
    · have hcell := HR.out k (by rw [iotaF_len]; exact hlt)
      have he : (iotaF k0 n)[k]'(by rw [iotaF_len]; exact hlt) = floatOfInt .f32 ((k0 : Int) + (k : Int)) := by simp [iotaF, fk]
      rw [he, Nat.zero_add] at hcell
      have hne := fk_self (k := k0 + k) (by omega)
      rw [Int.natCast_add] at hne
      clear he
      go_wp2
      go_round
      case rel => exact ⟨k + 1, by omega, by go_num, by go_num⟩
      case measure => simp [intOf]; omega
    · obtain rfl : k = n := by omega
      go_wp2
      go_ret
      exact ⟨rfl, rfl⟩

end Go.Proofs.YtjlbjlcficbdlaaDoor
