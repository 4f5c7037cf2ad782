/-
  Decimal numerals: the digits laid from the last, the number that a numeral spells, lists of numerals with commas. Plain laws. Conditions: none.
-/
import Derived.Lib.ItoaNum
import Derived.Lib.ParseIntBCases
import Derived.Lib.Join
import Derived.Lib.SplitLaws
import Derived.Lib.IndexBytes
set_option linter.unusedVariables false
set_option linter.unusedSimpArgs false
namespace Go.Proofs.YtjlbjlcficbdlaaDoor
open Go Go.Lib

/-- The loop's list: the digits of r ahead of o. -/
def dd (r : Nat) (o : List UInt8) : List UInt8 := if r = 0 ∧ o ≠ [] then o else decDigits r ++ o
theorem dd_step (r : Nat) (o : List UInt8) (h : ¬ (r = 0 ∧ o ≠ [])) : dd (r / 10) (UInt8.ofNat (48 + r % 10) :: o) = dd r o := by
  unfold dd
  rw [if_neg h]
  by_cases h1 : r < 10
  · rw [if_pos ⟨by omega, by simp⟩, decDigits_one h1, Nat.mod_eq_of_lt h1]; rfl
  · rw [if_neg (by intro h2; omega)]
    conv => rhs; rw [decDigits, dif_neg h1]
    simp
theorem dd_nil (r : Nat) : dd r [] = decDigits r := by unfold dd; rw [if_neg (by simp)]; simp
theorem dd_end (o : List UInt8) (h : o ≠ []) : dd 0 o = o := by unfold dd; rw [if_pos ⟨rfl, h⟩]
theorem dd_len (r : Nat) (o : List UInt8) : o.length ≤ (dd r o).length := by unfold dd; split <;> simp
theorem itoa_abs (n : Int) : itoa n = if n < 0 then 45 :: decDigits n.natAbs else decDigits n.natAbs := by
  unfold itoa
  split
  · rfl
  · rw [show n.toNat = n.natAbs by omega]
theorem nDigits_le {u k : Nat} (h : u < 10 ^ (k + 1)) : nDigits u ≤ k + 1 := by
  induction k generalizing u with
  | zero => rw [nDigits_small (by simpa using h)]; exact Nat.le_refl _
  | succ k ih =>
    by_cases h1 : u < 10
    · rw [nDigits_small h1]; omega
    · rw [nDigits_big h1]
      have := ih (u := u / 10) (by rw [Nat.pow_succ] at h; omega)
      omega
theorem decDigits_len20 {u : Nat} (h : u ≤ 9223372036854775808) : (decDigits u).length ≤ 20 := by
  rw [decDigits_length]; exact nDigits_le (k := 19) (by omega)
theorem decDigits_len16 {u : Nat} (h : u ≤ 1000000000000000) : (decDigits u).length ≤ 16 := by
  rw [decDigits_length]; exact nDigits_le (k := 15) (by omega)
theorem decDigits_ne (u : Nat) : decDigits u ≠ [] := by
  intro h
  have := decDigits_length u
  rw [h] at this
  have := nDigits_pos u
  simp at *
  omega

/-! ### What a text spells -/

/-- The reference's number: the digits alone count. -/
def digB (c : UInt8) : Bool := decide (48 ≤ c.toNat) && decide (c.toNat ≤ 57)
def vl (n : Nat) (c : UInt8) : Nat := if digB c then 10 * n + (c.toNat - 48) else n
def valD (l : List UInt8) : Nat := l.foldl vl 0

theorem digB_of {d : Nat} (h : d < 10) : digB (UInt8.ofNat (48 + d)) = true ∧ (UInt8.ofNat (48 + d)).toNat = 48 + d := by
  have e : (UInt8.ofNat (48 + d)).toNat = 48 + d := by rw [UInt8.toNat_ofNat']; omega
  refine ⟨?_, e⟩
  unfold digB
  rw [e]
  simp only [Bool.and_eq_true, decide_eq_true_eq]
  omega
theorem valD_digits (u : Nat) : valD (decDigits u) = u := by
  induction u using Nat.strongRecOn with
  | _ u ih =>
    by_cases h : u < 10
    · rw [decDigits_one h]
      have := digB_of h
      show vl 0 (UInt8.ofNat (48 + u)) = u
      unfold vl
      rw [if_pos this.1, this.2]; omega
    · rw [decDigits, dif_neg h]
      have hd : u % 10 < 10 := Nat.mod_lt _ (by decide)
      have := digB_of hd
      unfold valD at ih ⊢
      rw [List.foldl_append, ih (u / 10) (by omega)]
      simp only [List.foldl_cons, List.foldl_nil, vl, this.1, this.2, if_true]
      omega
theorem vl_lt {n k : Nat} (c : UInt8) (h : n < 10 ^ k) : vl n c < 10 ^ (k + 1) := by
  unfold vl
  split
  · rename_i h1
    unfold digB at h1
    simp only [Bool.and_eq_true, decide_eq_true_eq] at h1
    rw [Nat.pow_succ]; omega
  · rw [Nat.pow_succ]; omega
theorem foldl_lt : ∀ (l : List UInt8) (n k : Nat), n < 10 ^ k → l.foldl vl n < 10 ^ (k + l.length)
  | [], n, k, h => by simpa using h
  | c :: r, n, k, h => by
    have := foldl_lt r (vl n c) (k + 1) (vl_lt c h)
    simp only [List.foldl_cons, List.length_cons]
    rw [show k + (r.length + 1) = k + 1 + r.length by omega]; exact this
theorem valD_lt (l : List UInt8) : valD l < 10 ^ l.length := by
  have := foldl_lt l 0 0 (by decide)
  simpa [valD] using this
theorem valD_take (l : List UInt8) (i : Nat) (h : i < l.length) : valD (l.take (i + 1)) = vl (valD (l.take i)) l[i] := by
  unfold valD
  rw [← List.take_append_getElem h, List.foldl_append]; rfl

def lim : Int := 1000000000000000
/-- The reference's number with its sign. -/
def sval (l : List UInt8) : Int := if l.head? = some 45 then -(valD l : Int) else valD l
/-- Is v in range, and l its numeral? -/
def fitB (l : List UInt8) (v : Int) : Bool := decide (-1000000000000000 ≤ v) && decide (v ≤ 1000000000000000) && decide (itoa v = l)
def lenB (l : List UInt8) : Bool := decide (1 ≤ l.length) && decide (l.length ≤ 17)
/-- The reference's answer. -/
def spv (l : List UInt8) : Option Int := if lenB l && fitB l (sval l) then some (sval l) else none
/-- The program's answer. -/
def ipv (l : List UInt8) : Option Int := match parseIntB 64 l with
  | .ok v => if fitB l v then some v else none
  | _ => none

theorem fitB_iff {l : List UInt8} {v : Int} : fitB l v = true ↔ (-1000000000000000 ≤ v ∧ v ≤ 1000000000000000) ∧ itoa v = l := by
  unfold fitB; simp only [Bool.and_eq_true, decide_eq_true_eq]

theorem head_digits (u : Nat) : ∃ c r, decDigits u = c :: r ∧ digB c = true := by
  induction u using Nat.strongRecOn with
  | _ u ih =>
    by_cases h : u < 10
    · exact ⟨_, [], decDigits_one h, (digB_of h).1⟩
    · obtain ⟨c, r, h1, h2⟩ := ih (u / 10) (by omega)
      exact ⟨c, r ++ [UInt8.ofNat (48 + u % 10)], by rw [decDigits, dif_neg h, h1]; rfl, h2⟩
theorem digB_ne {c : UInt8} (h : digB c = true) : c ≠ 45 ∧ c ≠ 43 ∧ c ≠ 44 ∧ c.toNat ≠ 43 ∧ c.toNat ≠ 45 := by
  unfold digB at h
  simp only [Bool.and_eq_true, decide_eq_true_eq] at h
  refine ⟨?_, ?_, ?_, by omega, by omega⟩ <;> (rintro rfl; simp at h)
theorem sval_itoa {v : Int} : sval (itoa v) = v := by
  rw [itoa_abs]
  split
  · rename_i h
    unfold sval
    rw [if_pos (by simp)]
    have : valD (45 :: decDigits v.natAbs) = v.natAbs := by
      have h1 : vl 0 45 = 0 := by decide
      unfold valD
      rw [List.foldl_cons, h1]
      exact valD_digits _
    rw [this]; omega
  · obtain ⟨c, r, h1, h2⟩ := head_digits v.natAbs
    unfold sval
    rw [if_neg (by rw [h1]; simp; exact (digB_ne h2).1), valD_digits]; omega
theorem lenB_itoa {v : Int} (h : -1000000000000000 ≤ v ∧ v ≤ 1000000000000000) : lenB (itoa v) = true := by
  have h1 : (decDigits v.natAbs).length ≤ 16 := decDigits_len16 (by omega)
  have h2 : 1 ≤ (decDigits v.natAbs).length := List.length_pos_iff.2 (decDigits_ne _)
  unfold lenB
  rw [itoa_abs]
  simp only [Bool.and_eq_true, decide_eq_true_eq]
  split
  · rw [List.length_cons]; omega
  · omega

theorem spv_iff {l : List UInt8} {v : Int} : spv l = some v ↔ (-1000000000000000 ≤ v ∧ v ≤ 1000000000000000) ∧ itoa v = l := by
  constructor
  · intro h
    unfold spv at h
    split at h
    · rename_i hc
      cases h
      exact fitB_iff.1 (Bool.and_eq_true _ _ ▸ hc).2
    · cases h
  · rintro ⟨h1, rfl⟩
    unfold spv
    rw [sval_itoa, lenB_itoa h1, fitB_iff.2 ⟨h1, rfl⟩]; rfl

theorem parseUintM_app (M : Nat) : ∀ (l : List UInt8) (r : List UInt8) (acc u : Nat), parseUintM M acc l = .ok u → parseUintM M acc (l ++ r) = parseUintM M u r
  | [], r, acc, u, h => by simp only [parseUintM] at h; cases h; rfl
  | c :: l, r, acc, u, h => by
    rw [List.cons_append]
    simp only [parseUintM] at h ⊢
    split at h
    · rename_i h1
      split at h
      · cases h
      · rename_i h2
        split at h
        · cases h
        · rename_i h3
          rw [if_pos h1, if_neg h2, if_neg h3]
          exact parseUintM_app M l r _ u h
    · cases h
theorem parse_digits (M : Nat) (hM : 1000000000000000 ≤ M) : ∀ u, u ≤ 1000000000000000 → parseUintM M 0 (decDigits u) = .ok u := by
  intro u
  induction u using Nat.strongRecOn with
  | _ u ih =>
    intro hu
    by_cases h : u < 10
    · rw [decDigits_one h]
      have := digB_of h
      simp only [parseUintM, this.2]
      rw [if_pos (by omega), if_neg (by omega), if_neg (by omega)]
      congr 1; omega
    · rw [decDigits, dif_neg h, parseUintM_app M _ _ 0 (u / 10) (ih (u / 10) (by omega) (by omega))]
      have hd : u % 10 < 10 := Nat.mod_lt _ (by decide)
      have := digB_of hd
      simp only [parseUintM, this.2]
      rw [if_pos (by omega), if_neg (by omega), if_neg (by omega)]
      congr 1; omega
theorem parse_itoa {v : Int} (h : -1000000000000000 ≤ v ∧ v ≤ 1000000000000000) : parseIntB 64 (itoa v) = .ok v := by
  have hp : parseUintB 64 (decDigits v.natAbs) = .ok v.natAbs := by
    unfold parseUintB
    rw [if_neg (decDigits_ne _)]
    exact parse_digits _ (by decide) _ (by omega)
  rw [itoa_abs]
  split
  · rw [parseIntB_minus, hp]
    simp only [signedC]
    rw [if_neg (by have : (2:Nat) ^ (64 - 1) = 9223372036854775808 := by decide
                   omega)]
    congr 1; omega
  · obtain ⟨c, r, h1, h2⟩ := head_digits v.natAbs
    have h3 := digB_ne h2
    rw [h1, parseIntB_plain 64 c r h3.2.2.2.1 h3.2.2.2.2, ← h1, hp]
    simp only [signlessC]
    rw [if_neg (by have : (2:Nat) ^ (64 - 1) = 9223372036854775808 := by decide
                   omega)]
    congr 1; omega
theorem ipv_iff {l : List UInt8} {v : Int} : ipv l = some v ↔ (-1000000000000000 ≤ v ∧ v ≤ 1000000000000000) ∧ itoa v = l := by
  constructor
  · intro h
    unfold ipv at h
    split at h
    · split at h
      · rename_i hc
        cases h
        exact fitB_iff.1 hc
      · cases h
    · cases h
  · rintro ⟨h1, rfl⟩
    unfold ipv
    rw [parse_itoa h1]
    simp only
    rw [if_pos (fitB_iff.2 ⟨h1, rfl⟩)]
theorem ipv_spv (l : List UInt8) : ipv l = spv l := by
  apply Option.ext
  intro v
  rw [ipv_iff, spv_iff]

end Go.Proofs.YtjlbjlcficbdlaaDoor
