/-
  Walks: the library's number of a text of eight digits in base 16; the program's readHex. Conditions: the two errors of the library lie as their initialisers lay them.
-/
import Derived.Test.YtjlbjlcficbdlaaDoorE2
import Derived.Test.YtjlbjlcficbdlaaDoorD4
import Derived.Test.YtjlbjlcficbdlaaDoorShP
import Derived.Lib.Strings
import Derived.Lib.ConvBytes
import Derived.Lib.AtoiAllMem
import Derived.Laws.Strings3
import Derived.Laws.Closers25
import Derived.Laws.Closers25b
set_option linter.unusedVariables false
set_option linter.unusedSimpArgs false
namespace Go.Proofs.YtjlbjlcficbdlaaDoor
open Go Go.RowKit Flo

theorem lower_any (c : Int) (w : World) : Calls Tryd.prog 95 #[.int .u8 c] w fun e w' => e = .returned (.int .u8 (bits .or .u8 c 32)) ∧ w = w' := by
  go_enter Tryd.func95, Tryd.ntmps95
  go_wp2
  go_ret
  exact ⟨rfl, rfl⟩

/-- The four kinds of byte: a decimal digit; a letter of base 16; another letter; no digit. -/
theorem hw_cases : ∀ n, n < 256 →
    (48 ≤ n ∧ n ≤ 57 ∧ hw (UInt8.ofNat n) = some (n - 48)) ∨
    (¬ (48 ≤ n ∧ n ≤ 57) ∧ n ≠ 95 ∧ 97 ≤ n ||| 32 ∧ n ||| 32 ≤ 102 ∧ hw (UInt8.ofNat n) = some ((n ||| 32) - 87)) ∨
    (¬ (48 ≤ n ∧ n ≤ 57) ∧ n ≠ 95 ∧ 103 ≤ n ||| 32 ∧ n ||| 32 ≤ 122 ∧ hw (UInt8.ofNat n) = none) ∨
    (¬ (48 ≤ n ∧ n ≤ 57) ∧ ¬ (97 ≤ n ||| 32 ∧ n ||| 32 ≤ 122) ∧ hw (UInt8.ofNat n) = none) := by decide +kernel
theorem or_lower : ∀ n : Nat, n < 256 → bits .or .u8 (n : Int) 32 = ((n ||| 32 : Nat) : Int) := by decide +kernel

def puV : Option Nat → Value
  | some n => .tuple #[.int .u64 n, .nilIface]
  | none => .tuple #[.int .u64 0, .iface 90 (.int .i64 2)]
theorem pun_cons {a d : Nat} {c : UInt8} {r : List UInt8} (h : hw c = some d) : pun a (c :: r) = pun (16 * a + d) r := by
  conv => lhs; unfold pun
  rw [h]
theorem pun_bad {a : Nat} {c : UInt8} {r : List UInt8} (h : hw c = none) : pun a (c :: r) = none := by
  conv => lhs; unfold pun
  rw [h]

set_option maxHeartbeats 32000000 in
set_option maxRecDepth 100000 in
theorem parseUintI_16 (t : ByteArray) (h8 : t.size = 8) (w : World) :
    Calls Tryd.prog 77 #[.string t, .int .i64 16, .int .i64 32] w fun e w' => e = .returned (puV (pun 0 t.data.toList)) ∧ Below w.heap.size w w' := by
  have hemp : t.toList.isEmpty = false := by
    rw [← decide_eq_emptyBytes]
    exact decide_eq_false (fun h => by rw [h] at h8; cases h8)
  have hcv := Lib.run_convert_string_bytes (P := Tryd.prog) w 9 68 5 t (u := .string) Tryd.underlying9 Tryd.underlying68 Tryd.underlying5
  have hB : ∀ j, j < t.size → (Lib.bytesWorld w 5 t).cell? ⟨w.heap.size, j, none⟩ = some (.int .u8 (t.data.toList.getD j 0).toNat) := fun j hj => Lib.bytesWorld_cell w 5 t j hj
  have hbel : Below w.heap.size w (Lib.bytesWorld w 5 t) := Joins.below_bytesWorld _ _ _ _ (Nat.le_refl _)
  obtain ⟨W1, hW1⟩ : ∃ W1, W1 = Lib.bytesWorld w 5 t := ⟨_, rfl⟩
  rw [← hW1] at hcv hB hbel
  clear hW1
  obtain ⟨bs, hL⟩ : ∃ bs, bs = t.data.toList := ⟨_, rfl⟩
  have hLn : bs.length = t.size := by rw [hL, Lib.size_eq]
  rw [← hL] at hB ⊢
  clear hL
  rw [h8] at hB hLn hcv
  have HBel := Lib.hid hbel; have HLn := Lib.hid hLn; have HBc := Lib.hid hB
  clear hbel hLn hB
  have hmv : IntKind.u64.wrap (IntKind.u64.wrap 4294967296 - 1) = 4294967295 := by
    rw [IntKind.wrap_u64, IntKind.wrap_u64]
    decide
  go_enter Tryd.func77, Tryd.ntmps77
  go_wp2
  go_loop [12, 13, 101] (fun vu vn vi => ∃ (k acc : Nat) (a : Int), vu = .bool false ∧ vn = .int .u64 a ∧ vi = .int .i64 k ∧ k ≤ 8 ∧ Hid (a = (acc : Int) ∧ acc < 16 ^ k ∧ pun 0 bs = pun acc (bs.drop k)))
    (fun _ _ vi => 8 - (intOf vi).toNat)
  case atStart => exact ⟨0, 0, 0, rfl, rfl, rfl, by omega, rfl, by simp, rfl⟩
  case round =>
    obtain ⟨k, acc, a, rfl, rfl, rfl, hk, hh⟩ := hrel
    obtain ⟨ha, hacc, hdec⟩ := hh.out
    clear hh
    have HA := Lib.hid ha; have HAC := Lib.hid hacc
    have hp1 : 16 ^ k ≤ 16 ^ 8 := Nat.pow_le_pow_right (by decide) hk
    have hp2 : acc < 4294967296 := Nat.lt_of_lt_of_le hacc hp1
    have a0 : 0 ≤ a := by omega
    have a1 : a < 4294967296 := by omega
    clear hp1 hp2 ha hacc
    by_cases hkn : k < 8
    · have hc := HBc.out k hkn
      have hkl : k < bs.length := by rw [HLn.out]; exact hkn
      have hdrop : bs.drop k = bs[k] :: bs.drop (k + 1) := List.drop_eq_getElem_cons hkl
      have hget : bs.getD k 0 = bs[k] := by simp [List.getD, List.getElem?_eq_getElem hkl]
      rw [hdrop] at hdec
      rw [hget] at hc
      generalize bs[k] = c at hc hdec
      clear hdrop hget hkl
      obtain ⟨n, hn⟩ : ∃ n : Nat, c.toNat = n := ⟨_, rfl⟩
      have hn256 : n < 256 := by rw [← hn]; exact c.toNat_lt
      have hcn : UInt8.ofNat n = c := by rw [← hn]; simp
      have hcases := hw_cases n hn256
      have hor := or_lower n hn256
      rw [hcn] at hcases
      rw [hn] at hc
      obtain ⟨lo, hlo⟩ : ∃ lo : Nat, n ||| 32 = lo := ⟨_, rfl⟩
      rw [hlo] at hcases hor
      clear hn hcn hlo
      have hnext : acc < 16 ^ k → ∀ d, d < 16 → 16 * acc + d < 16 ^ (k + 1) ∧ 16 * acc + d < 4294967296 := by
        intro h1 d hd
        have h2 : 16 * acc + d < 16 ^ (k + 1) := by rw [Nat.pow_succ]; omega
        exact ⟨h2, Nat.lt_of_lt_of_le h2 (Nat.pow_le_pow_right (by decide) (by omega) : 16 ^ (k + 1) ≤ 16 ^ 8)⟩
      have HNX := Lib.hid (hnext HAC.out)
      clear hnext
      have icut : a < 1152921504606846976 := by omega
      rcases hcases with ⟨c1, c2, h⟩ | ⟨c0, c95, c1, c2, h⟩ | ⟨c0, c95, c1, c2, h⟩ | ⟨c0, c1, h⟩
      · have h2 := HNX.out (n - 48) (by omega)
        have iov : a * 16 + ((n : Int) - 48) ≤ 4294967295 := by have := HA.out; omega
        have HN : Hid (a * 16 + ((n : Int) - 48) = ((16 * acc + (n - 48) : Nat) : Int) ∧ 16 * acc + (n - 48) < 16 ^ (k + 1) ∧ pun 0 bs = pun (16 * acc + (n - 48)) (bs.drop (k + 1))) := Lib.hid ⟨by have := HA.out; omega, h2.1, hdec.trans (pun_cons h)⟩
        clear h h2 hor hdec hn256
        go_wp2
        refine ⟨⟨k + 1, 16 * acc + (n - 48), a * 16 + ((n : Int) - 48), rfl, (by first | rfl | (congr 1; omega)), (by first | rfl | (congr 1; omega)), by omega, HN⟩, by simp [intOf]; omega⟩
      · have h2 := HNX.out (lo - 87) (by omega)
        have iov : a * 16 + ((lo : Int) - 97 + 10) ≤ 4294967295 := by have := HA.out; omega
        have i16 : (lo : Int) - 97 + 10 < 16 := by omega
        have i95 : ((n : Int) == 95) = false := by simp; omega
        have HN : Hid (a * 16 + ((lo : Int) - 97 + 10) = ((16 * acc + (lo - 87) : Nat) : Int) ∧ 16 * acc + (lo - 87) < 16 ^ (k + 1) ∧ pun 0 bs = pun (16 * acc + (lo - 87)) (bs.drop (k + 1))) := Lib.hid ⟨by have := HA.out; omega, h2.1, hdec.trans (pun_cons h)⟩
        clear h h2 hdec
        go_wp2_with (go_at_call 95; refine (lower_any _ _).mono ?_; rintro e w' ⟨rfl, rfl⟩; rw [hor])
        all_goals (refine ⟨⟨k + 1, 16 * acc + (lo - 87), a * 16 + ((lo : Int) - 97 + 10), rfl, (by first | rfl | (congr 1; omega)), (by first | rfl | (congr 1; omega)), by omega, HN⟩, by simp [intOf]; omega⟩)
      · have i16 : 16 ≤ (lo : Int) - 97 + 10 := by omega
        have i95 : ((n : Int) == 95) = false := by simp; omega
        have hE : Hid (pun 0 bs = none) := Lib.hid (hdec.trans (pun_bad h))
        clear h hdec
        go_wp2_with (go_at_call 95; refine (lower_any _ _).mono ?_; rintro e w' ⟨rfl, rfl⟩; rw [hor])
        all_goals go_ret2
        all_goals exact ⟨by rw [hE.out]; rfl, HBel.out⟩
      · have hE : Hid (pun 0 bs = none) := Lib.hid (hdec.trans (pun_bad h))
        have hlo9 : (lo : Int) < 97 ∨ 122 < (lo : Int) := by omega
        clear h hdec c1
        by_cases c95 : n = 95
        · subst c95
          have hor2 : bits .or .u8 95 32 = 127 := by decide
          clear hor hlo9
          go_wp2_with (go_at_call 95; refine (lower_any _ _).mono ?_; rintro e w' ⟨rfl, rfl⟩; rw [hor2])
          all_goals go_ret2
          all_goals exact ⟨by rw [hE.out]; rfl, HBel.out⟩
        · have i95 : ((n : Int) == 95) = false := by simp; omega
          rcases hlo9 with hlo9 | hlo9
          all_goals (
            go_wp2_with (go_at_call 95; refine (lower_any _ _).mono ?_; rintro e w' ⟨rfl, rfl⟩; rw [hor])
            all_goals go_ret2
            all_goals exact ⟨by rw [hE.out]; rfl, HBel.out⟩)
    · have hkk : k = 8 := by omega
      subst hkk
      have hE : Hid (pun 0 bs = some acc) := Lib.hid (by rw [hdec, List.drop_eq_nil_of_le (by rw [HLn.out]; exact Nat.le_refl _)]; rfl)
      have ha := HA.out
      subst ha
      clear hdec a0 a1
      go_wp2
      go_ret2
      exact ⟨by rw [hE.out]; rfl, HBel.out⟩

end Go.Proofs.YtjlbjlcficbdlaaDoor
