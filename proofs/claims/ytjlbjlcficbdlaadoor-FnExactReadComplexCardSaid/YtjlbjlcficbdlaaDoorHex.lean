/-
  Texts of eight hexadecimal digits: the digits of a number, the number of digits, lists of such texts with commas. Plain laws. Conditions: none.
-/
import Derived.Test.YtjlbjlcficbdlaaDoorCut
set_option linter.unusedVariables false
set_option linter.unusedSimpArgs false
namespace Go.Proofs.YtjlbjlcficbdlaaDoor
open Go Go.Lib

/-- A digit's byte. -/
def hx (d : Nat) : UInt8 := if d < 10 then UInt8.ofNat (48 + d) else UInt8.ofNat (87 + d)
/-- The last k digits of n in base 16, the highest first. -/
def hexL : Nat → Nat → List UInt8
  | 0, _ => []
  | k + 1, n => hexL k (n / 16) ++ [hx (n % 16)]
theorem hexL_len : ∀ k n, (hexL k n).length = k
  | 0, _ => rfl
  | k + 1, n => by unfold hexL; rw [List.length_append, hexL_len k]; rfl
theorem div_pow (n k : Nat) : n / 16 / 16 ^ k = n / 16 ^ (k + 1) := by
  rw [Nat.div_div_eq_div_mul, Nat.pow_succ, Nat.mul_comm]
theorem pow_div (n k : Nat) : n / 16 ^ k / 16 = n / 16 ^ (k + 1) := by
  rw [Nat.div_div_eq_div_mul, Nat.pow_succ]
theorem hexL_cons : ∀ k n, hexL (k + 1) n = hx (n / 16 ^ k % 16) :: hexL k n
  | 0, n => by simp [hexL]
  | k + 1, n => by
    conv => lhs; unfold hexL
    rw [hexL_cons k (n / 16), div_pow]
    conv => rhs; rhs; unfold hexL
    rfl
theorem hexL_zero : ∀ m, hexL m 0 = List.replicate m 48
  | 0 => rfl
  | m + 1 => by
    unfold hexL
    rw [show 0 / 16 = 0 from rfl, hexL_zero m, List.replicate_succ']; rfl
theorem hexL_pad : ∀ d m n, n < 16 ^ d → hexL (m + d) n = List.replicate m 48 ++ hexL d n
  | 0, m, n, h => by
    have : n = 0 := by simpa using h
    subst this
    rw [Nat.add_zero, hexL_zero]; simp [hexL]
  | d + 1, m, n, h => by
    have h2 : n / 16 < 16 ^ d := by
      rw [Nat.pow_succ] at h
      exact Nat.div_lt_of_lt_mul (by rw [Nat.mul_comm]; exact h)
    show hexL (m + d + 1) n = _
    conv => lhs; unfold hexL
    rw [hexL_pad d m _ h2, List.append_assoc]
    conv => rhs; rhs; unfold hexL

/-- The value of a digit of the reference. -/
def hv (c : UInt8) : Option Nat := if 48 ≤ c.toNat ∧ c.toNat ≤ 57 then some (c.toNat - 48) else if 97 ≤ c.toNat ∧ c.toNat ≤ 102 then some (c.toNat - 87) else none
/-- The value of a digit of the library: in either case. -/
def hw (c : UInt8) : Option Nat := if 48 ≤ c.toNat ∧ c.toNat ≤ 57 then some (c.toNat - 48) else if 97 ≤ c.toNat ∧ c.toNat ≤ 102 then some (c.toNat - 87) else if 65 ≤ c.toNat ∧ c.toNat ≤ 70 then some (c.toNat - 55) else none
theorem hv_hw {c : UInt8} {d : Nat} (h : hv c = some d) : hw c = some d := by
  unfold hv at h; unfold hw
  split
  · rename_i h1; rw [if_pos h1] at h; exact h
  · rename_i h1; rw [if_neg h1] at h
    split
    · rename_i h2; rw [if_pos h2] at h; exact h
    · rename_i h2; rw [if_neg h2] at h; cases h
theorem hw_lt {c : UInt8} {d : Nat} (h : hw c = some d) : d < 16 := by
  unfold hw at h
  split at h
  · cases h; omega
  · split at h
    · cases h; omega
    · split at h
      · cases h; omega
      · cases h
theorem hv_lt {c : UInt8} {d : Nat} (h : hv c = some d) : d < 16 := hw_lt (hv_hw h)
theorem hv_hx : ∀ d, d < 16 → hv (hx d) = some d := by decide
theorem hx_44 : ∀ d, d < 16 → hx d ≠ 44 := by decide
theorem hx_hv {c : UInt8} {d : Nat} (h : hv c = some d) : hx d = c := by
  have hc := c.toNat_lt
  unfold hv at h
  apply UInt8.toNat_inj.1
  split at h
  · cases h
    unfold hx
    rw [if_pos (by omega), show 48 + (c.toNat - 48) = c.toNat by omega]; simp
  · split at h
    · cases h
      unfold hx
      rw [if_neg (by omega), show 87 + (c.toNat - 87) = c.toNat by omega]; simp
    · cases h

/-- The reference's number. -/
def spn : Nat → List UInt8 → Option Nat
  | a, [] => some a
  | a, c :: r => match hv c with
    | some d => spn (16 * a + d) r
    | none => none
/-- The library's number, if each byte is a digit. -/
def pun : Nat → List UInt8 → Option Nat
  | a, [] => some a
  | a, c :: r => match hw c with
    | some d => pun (16 * a + d) r
    | none => none
/-- The library's number, 0 where a byte is no digit. -/
def prd (l : List UInt8) : Nat := (pun 0 l).getD 0
theorem spn_pun : ∀ (l : List UInt8) (a n : Nat), spn a l = some n → pun a l = some n
  | [], a, n, h => h
  | c :: r, a, n, h => by
    unfold spn at h; unfold pun
    cases hc : hv c with
    | none => rw [hc] at h; cases h
    | some d => rw [hc] at h; rw [hv_hw hc]; exact spn_pun r _ _ h
theorem pun_lt : ∀ (l : List UInt8) (a n k : Nat), a < 16 ^ k → pun a l = some n → n < 16 ^ (k + l.length)
  | [], a, n, k, ha, h => by
    have : a = n := by simpa [pun] using h
    subst this; exact ha
  | c :: r, a, n, k, ha, h => by
    unfold pun at h
    cases hc : hw c with
    | none => rw [hc] at h; cases h
    | some d =>
      rw [hc] at h
      have h1 := hw_lt hc
      have := pun_lt r (16 * a + d) n (k + 1) (by rw [Nat.pow_succ]; omega) h
      rw [List.length_cons, show k + (r.length + 1) = k + 1 + r.length by omega]; exact this
theorem prd_lt {l : List UInt8} (h : l.length = 8) : prd l < 4294967296 := by
  unfold prd
  cases hp : pun 0 l with
  | none => simp
  | some n =>
    have := pun_lt l 0 n 0 (by simp) hp
    rw [h] at this
    simpa using this
theorem spn_hexL : ∀ (k n a : Nat) (r : List UInt8), n < 16 ^ k → spn a (hexL k n ++ r) = spn (a * 16 ^ k + n) r
  | 0, n, a, r, h => by
    have : n = 0 := by simpa using h
    subst this; simp [hexL]
  | k + 1, n, a, r, h => by
    have h2 : n / 16 < 16 ^ k := by
      rw [Nat.pow_succ] at h
      exact Nat.div_lt_of_lt_mul (by rw [Nat.mul_comm]; exact h)
    unfold hexL
    rw [List.append_assoc, spn_hexL k _ a _ h2]
    show spn _ (hx (n % 16) :: r) = _
    conv => lhs; unfold spn
    rw [hv_hx _ (Nat.mod_lt _ (by decide))]
    show spn (16 * (a * 16 ^ k + n / 16) + n % 16) r = _
    congr 1
    rw [Nat.pow_succ, Nat.mul_add, ← Nat.mul_assoc a, Nat.mul_comm 16 (a * 16 ^ k)]
    omega
theorem hexL_spn : ∀ (l : List UInt8) (a n : Nat), spn a l = some n → hexL l.length n = l ∧ n / 16 ^ l.length = a
  | [], a, n, h => by
    have : a = n := by simpa [spn] using h
    subst this; simp [hexL]
  | c :: r, a, n, h => by
    unfold spn at h
    cases hc : hv c with
    | none => rw [hc] at h; cases h
    | some d =>
      rw [hc] at h
      have h0 := hv_lt hc
      obtain ⟨h1, h2⟩ := hexL_spn r _ n h
      rw [List.length_cons, hexL_cons, h1, h2]
      refine ⟨?_, ?_⟩
      · rw [show (16 * a + d) % 16 = d by omega, hx_hv hc]
      · rw [← pow_div, h2]; omega

/-- The reference's number of a piece: eight digits of a number's bits. -/
def spx (B : Nat → Nat) (p : List UInt8) : Option Nat :=
  if p.length = 8 then match spn 0 p with
    | some n => if B n = n then some n else none
    | none => none
  else none
theorem spx_iff {B : Nat → Nat} (hB : ∀ n, n < 4294967296 → B n < 4294967296) {p : List UInt8} (hl : p.length = 8) : (spx B p).isSome = true ↔ hexL 8 (B (prd p)) = p := by
  constructor
  · intro h
    unfold spx at h
    rw [if_pos hl] at h
    cases hn : spn 0 p with
    | none => rw [hn] at h; cases h
    | some n =>
      rw [hn] at h
      have h1 : B n = n := by
        by_cases e : B n = n
        · exact e
        · simp [e] at h
      have h2 : prd p = n := by unfold prd; rw [spn_pun _ _ _ hn]; rfl
      have := (hexL_spn p 0 n hn).1
      rw [hl] at this
      rw [h2, h1, this]
  · intro h
    have h1 : B (prd p) < 16 ^ 8 := hB _ (prd_lt hl)
    have h2 := spn_hexL 8 (B (prd p)) 0 [] h1
    rw [List.append_nil, h] at h2
    have h3 : spn 0 p = some (B (prd p)) := by rw [h2]; simp [spn]
    have h4 : prd p = B (prd p) := by
      have : prd p = (pun 0 p).getD 0 := rfl
      rw [spn_pun _ _ _ h3] at this
      exact this
    unfold spx
    rw [if_pos hl, h3]
    simp [← h4]
theorem spx_prd {B : Nat → Nat} {p : List UInt8} {n : Nat} (h : spx B p = some n) : prd p = n := by
  unfold spx at h
  split at h
  · cases hn : spn 0 p with
    | none => rw [hn] at h; cases h
    | some m =>
      rw [hn] at h
      have : m = n := by
        by_cases e : B m = m
        · simpa [e] using h
        · simp [e] at h
      subst this
      unfold prd; rw [spn_pun _ _ _ hn]; rfl
  · cases h
theorem spx_len {B : Nat → Nat} {p : List UInt8} {n : Nat} (h : spx B p = some n) : p.length = 8 := by
  unfold spx at h
  split at h
  · assumption
  · cases h
theorem hexL_44 : ∀ k n, 44 ∉ hexL k n
  | 0, n => by simp [hexL]
  | k + 1, n => by
    unfold hexL
    intro h
    rcases List.mem_append.1 h with h | h
    · exact hexL_44 k _ h
    · have h1 : 44 = hx (n % 16) := by simpa using h
      exact hx_44 _ (Nat.mod_lt _ (by decide)) h1.symm

/-! ### Texts with commas between them -/
theorem cutsL_join : ∀ (qs : List (List UInt8)) (cur q : List UInt8), (∀ p ∈ q :: qs, 44 ∉ p) → cutsL cur (Lib.join (q :: qs) [44]) = (cur ++ q) :: qs
  | [], cur, q, h => by
    have := cutsL_app q cur [] (h q List.mem_cons_self)
    rw [List.append_nil] at this
    show cutsL cur (Lib.join [q] [44]) = _
    rw [show Lib.join [q] [44] = q from by simp [Lib.join], this]; rfl
  | p :: qs, cur, q, h => by
    rw [show Lib.join (q :: p :: qs) [44] = q ++ (44 :: Lib.join (p :: qs) [44]) by simp [Lib.join], cutsL_app _ _ _ (h q List.mem_cons_self)]
    conv => lhs; unfold cutsL
    rw [if_pos rfl, cutsL_join qs [] p (fun x hx => h x (List.mem_cons_of_mem _ hx)), List.nil_append]
theorem cutsL_ne (r cur : List UInt8) : cutsL cur r ≠ [] := by
  induction r generalizing cur with
  | nil => simp [cutsL]
  | cons c r ih =>
    unfold cutsL
    split
    · simp
    · exact ih _
theorem join_cutsL : ∀ (r cur : List UInt8), Lib.join (cutsL cur r) [44] = cur ++ r
  | [], cur => by simp [cutsL, Lib.join]
  | c :: r, cur => by
    unfold cutsL
    split
    · rename_i h; subst h
      have := join_cutsL r []
      cases hc : cutsL [] r with
      | nil => exact absurd hc (cutsL_ne _ _)
      | cons p ps =>
        rw [hc] at this
        rw [show Lib.join (cur :: p :: ps) [44] = cur ++ (44 :: Lib.join (p :: ps) [44]) by simp [Lib.join], this]; rfl
    · rw [join_cutsL r]; simp
/-- Texts put together again give the text that was cut iff each is its piece. -/
theorem join_same {l : List UInt8} (f : List UInt8 → List UInt8) (hf : ∀ p, 44 ∉ f p) : Lib.join ((cutsL [] l).map f) [44] = l ↔ ∀ p ∈ cutsL [] l, f p = p := by
  constructor
  · intro h
    cases hc : cutsL [] l with
    | nil => exact absurd hc (cutsL_ne _ _)
    | cons q qs =>
      rw [hc, List.map_cons] at h
      have h1 := cutsL_join (qs.map f) [] (f q) (by
        intro p hp
        rcases List.mem_cons.1 hp with rfl | hp
        · exact hf _
        · obtain ⟨x, _, rfl⟩ := List.mem_map.1 hp; exact hf _)
      rw [h, hc, List.nil_append] at h1
      intro p hp
      have h2 : (q :: qs).map f = q :: qs := by rw [List.map_cons]; exact h1.symm
      have h3 : (q :: qs).map f = (q :: qs).map id := by rw [h2, List.map_id]
      exact List.map_inj_left.1 h3 p hp
  · intro h
    rw [List.map_congr_left (g := id) h, List.map_id, join_cutsL]; rfl

/-! ### The lists with a text -/
/-- The reference's list. -/
def rn (B : Nat → Nat) (l : List UInt8) : Option (List Nat) :=
  if l = n4 then some []
  else if decide ((cutsL [] l).length ≤ 256) && (cutsL [] l).all (fun p => (spx B p).isSome) then some ((cutsL [] l).map prd) else none
theorem rn_none {B : Nat → Nat} : rn B n4 = some [] := by unfold rn; rw [if_pos rfl]
theorem rn_long {B : Nat → Nat} {l : List UInt8} (h : l ≠ n4) (h2 : ¬ (cutsL [] l).length ≤ 256) : rn B l = none := by
  unfold rn; rw [if_neg h, decide_eq_false h2]; rfl
theorem rn_bad {B : Nat → Nat} {l : List UInt8} (h : l ≠ n4) {k : Nat} (hk : k < (cutsL [] l).length) (hv : spx B (cutsL [] l)[k] = none) : rn B l = none := by
  have : (cutsL [] l).all (fun p => (spx B p).isSome) = false := by
    rw [List.all_eq_false]
    exact ⟨_, List.getElem_mem hk, by rw [hv]; decide⟩
  unfold rn; rw [if_neg h, this, Bool.and_false]; rfl
theorem rn_ok {B : Nat → Nat} {l : List UInt8} (h : l ≠ n4) (h2 : (cutsL [] l).length ≤ 256) (h3 : ∀ p ∈ cutsL [] l, (spx B p).isSome = true) : rn B l = some ((cutsL [] l).map prd) := by
  have : (cutsL [] l).all (fun p => (spx B p).isSome) = true := List.all_eq_true.2 h3
  unfold rn; rw [if_neg h, decide_eq_true h2, this]; rfl
theorem rn_len {B : Nat → Nat} {l : List UInt8} {vs : List Nat} (h : rn B l = some vs) : vs.length ≤ 256 := by
  unfold rn at h
  split at h
  · cases h; simp
  · split at h
    · rename_i h1
      cases h
      simp only [Bool.and_eq_true, decide_eq_true_eq] at h1
      simpa using h1.1
    · cases h
/-- The program's way: every piece of eight bytes, at most 256 of them, and the numbers' text is the text. -/
theorem rn_text {B : Nat → Nat} (hB : ∀ n, n < 4294967296 → B n < 4294967296) {l : List UInt8} (h : l ≠ n4) (h2 : (cutsL [] l).length ≤ 256) (h3 : ∀ p ∈ cutsL [] l, p.length = 8) :
    rn B l = if Lib.join (((cutsL [] l).map prd).map fun n => hexL 8 (B n)) [44] = l then some ((cutsL [] l).map prd) else none := by
  rw [List.map_map, show ((fun n => hexL 8 (B n)) ∘ prd) = fun p => hexL 8 (B (prd p)) from rfl]
  by_cases e : Lib.join ((cutsL [] l).map fun p => hexL 8 (B (prd p))) [44] = l
  · rw [if_pos e]
    refine rn_ok h h2 fun p hp => (spx_iff hB (h3 p hp)).2 ?_
    exact (join_same (fun p => hexL 8 (B (prd p))) (fun p => hexL_44 _ _)).1 e p hp
  · rw [if_neg e]
    have h4 : ¬ ∀ p ∈ cutsL [] l, hexL 8 (B (prd p)) = p := fun hh => e ((join_same (fun p => hexL 8 (B (prd p))) (fun p => hexL_44 _ _)).2 hh)
    have h5 : (cutsL [] l).all (fun p => (spx B p).isSome) = false := by
      cases hall : (cutsL [] l).all (fun p => (spx B p).isSome) with
      | false => rfl
      | true => exact absurd (fun p hp => (spx_iff hB (h3 p hp)).1 (List.all_eq_true.1 hall p hp)) h4
    unfold rn; rw [if_neg h, h5, Bool.and_false]; rfl

end Go.Proofs.YtjlbjlcficbdlaaDoor
