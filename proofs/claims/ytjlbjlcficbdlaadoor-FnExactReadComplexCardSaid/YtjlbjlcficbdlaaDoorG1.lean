/-
  Texts of sixteen hexadecimal digits, two numbers each; lists of such texts with commas. Plain laws. Conditions: none.
-/
import Derived.Test.YtjlbjlcficbdlaaDoorHex
set_option linter.unusedVariables false
set_option linter.unusedSimpArgs false
namespace Go.Proofs.YtjlbjlcficbdlaaDoor
open Go Go.Lib

/-- The reference's two numbers of a piece. -/
def spc (B : Nat → Nat) (p : List UInt8) : Option (Nat × Nat) :=
  if p.length = 16 then match spx B (p.take 8), spx B (p.drop 8) with
    | some a, some b => some (a, b)
    | _, _ => none
  else none
/-- The library's two numbers of a piece. -/
def prd2 (p : List UInt8) : Nat × Nat := (prd (p.take 8), prd (p.drop 8))
/-- The sixteen digits of two numbers. -/
def hx16 (B : Nat → Nat) (v : Nat × Nat) : List UInt8 := hexL 8 (B v.1) ++ hexL 8 (B v.2)
theorem hx16_len (B : Nat → Nat) (v : Nat × Nat) : (hx16 B v).length = 16 := by simp [hx16, hexL_len]
theorem hx16_44 (B : Nat → Nat) (v : Nat × Nat) : 44 ∉ hx16 B v := by
  unfold hx16
  intro h
  rcases List.mem_append.1 h with h | h
  · exact hexL_44 _ _ h
  · exact hexL_44 _ _ h
theorem spc_eq {B : Nat → Nat} {p : List UInt8} (hl : p.length = 16) : (spc B p).isSome = ((spx B (p.take 8)).isSome && (spx B (p.drop 8)).isSome) := by
  unfold spc
  rw [if_pos hl]
  cases spx B (p.take 8) <;> cases spx B (p.drop 8) <;> rfl
theorem spc_iff {B : Nat → Nat} (hB : ∀ n, n < 4294967296 → B n < 4294967296) {p : List UInt8} (hl : p.length = 16) : (spc B p).isSome = true ↔ hx16 B (prd2 p) = p := by
  have h1 : (p.take 8).length = 8 := by rw [List.length_take, hl]; rfl
  have h2 : (p.drop 8).length = 8 := by rw [List.length_drop, hl]
  rw [spc_eq hl, Bool.and_eq_true, spx_iff hB h1, spx_iff hB h2]
  show _ ↔ hexL 8 (B (prd (p.take 8))) ++ hexL 8 (B (prd (p.drop 8))) = p
  constructor
  · rintro ⟨e1, e2⟩
    rw [e1, e2, List.take_append_drop]
  · intro h
    have h3 : hexL 8 (B (prd (p.take 8))) ++ hexL 8 (B (prd (p.drop 8))) = p.take 8 ++ p.drop 8 := by rw [List.take_append_drop]; exact h
    exact List.append_inj h3 (by rw [hexL_len, h1])
theorem spc_no {B : Nat → Nat} {p : List UInt8} (h : p.length ≠ 16) : spc B p = none := by
  unfold spc; rw [if_neg h]
theorem spc_yes {B : Nat → Nat} {p : List UInt8} {a b : Nat} (hl : p.length = 16) (h1 : spx B (p.take 8) = some a) (h2 : spx B (p.drop 8) = some b) : spc B p = some (a, b) := by
  unfold spc; rw [if_pos hl, h1, h2]
theorem spc_no1 {B : Nat → Nat} {p : List UInt8} (h : spx B (p.take 8) = none) : spc B p = none := by
  unfold spc; split
  · rw [h]
  · rfl
theorem spc_no2 {B : Nat → Nat} {p : List UInt8} (h : spx B (p.drop 8) = none) : spc B p = none := by
  unfold spc; split
  · rw [h]; cases spx B (p.take 8) <;> rfl
  · rfl

/-- The list of a text of pieces. -/
def rg {α : Type} (sp : List UInt8 → Bool) (pr : List UInt8 → α) (l : List UInt8) : Option (List α) :=
  if l = n4 then some []
  else if decide ((cutsL [] l).length ≤ 256) && (cutsL [] l).all sp then some ((cutsL [] l).map pr) else none
theorem rg_none {α : Type} {sp : List UInt8 → Bool} {pr : List UInt8 → α} : rg sp pr n4 = some [] := by unfold rg; rw [if_pos rfl]
theorem rg_long {α : Type} {sp : List UInt8 → Bool} {pr : List UInt8 → α} {l : List UInt8} (h : l ≠ n4) (h2 : ¬ (cutsL [] l).length ≤ 256) : rg sp pr l = none := by
  unfold rg; rw [if_neg h, decide_eq_false h2]; rfl
theorem rg_bad {α : Type} {sp : List UInt8 → Bool} {pr : List UInt8 → α} {l : List UInt8} (h : l ≠ n4) {k : Nat} (hk : k < (cutsL [] l).length) (hv : sp (cutsL [] l)[k] = false) : rg sp pr l = none := by
  have : (cutsL [] l).all sp = false := by
    rw [List.all_eq_false]
    exact ⟨_, List.getElem_mem hk, by rw [hv]; decide⟩
  unfold rg; rw [if_neg h, this, Bool.and_false]; rfl
theorem rg_ok {α : Type} {sp : List UInt8 → Bool} {pr : List UInt8 → α} {l : List UInt8} (h : l ≠ n4) (h2 : (cutsL [] l).length ≤ 256) (h3 : ∀ p ∈ cutsL [] l, sp p = true) : rg sp pr l = some ((cutsL [] l).map pr) := by
  have : (cutsL [] l).all sp = true := List.all_eq_true.2 h3
  unfold rg; rw [if_neg h, decide_eq_true h2, this]; rfl
theorem rg_len {α : Type} {sp : List UInt8 → Bool} {pr : List UInt8 → α} {l : List UInt8} {vs : List α} (h : rg sp pr l = some vs) : vs.length ≤ 256 := by
  unfold rg at h
  split at h
  · cases h; simp
  · split at h
    · rename_i h1
      cases h
      simp only [Bool.and_eq_true, decide_eq_true_eq] at h1
      simpa using h1.1
    · cases h
/-- The program's way: at most 256 pieces, and the list's text is the text. -/
theorem rg_text {α : Type} {sp : List UInt8 → Bool} {pr : List UInt8 → α} {tx : α → List UInt8} (h44 : ∀ a, 44 ∉ tx a) {l : List UInt8} (h : l ≠ n4) (h2 : (cutsL [] l).length ≤ 256) (h3 : ∀ p ∈ cutsL [] l, (sp p = true ↔ tx (pr p) = p)) :
    rg sp pr l = if Lib.join (((cutsL [] l).map pr).map tx) [44] = l then some ((cutsL [] l).map pr) else none := by
  rw [List.map_map, show (tx ∘ pr) = fun p => tx (pr p) from rfl]
  by_cases e : Lib.join ((cutsL [] l).map fun p => tx (pr p)) [44] = l
  · rw [if_pos e]
    refine rg_ok h h2 fun p hp => (h3 p hp).2 ?_
    exact (join_same (fun p => tx (pr p)) (fun p => h44 _)).1 e p hp
  · rw [if_neg e]
    have h4 : ¬ ∀ p ∈ cutsL [] l, tx (pr p) = p := fun hh => e ((join_same (fun p => tx (pr p)) (fun p => h44 _)).2 hh)
    have h5 : (cutsL [] l).all sp = false := by
      cases hall : (cutsL [] l).all sp with
      | false => rfl
      | true => exact absurd (fun p hp => (h3 p hp).1 (List.all_eq_true.1 hall p hp)) h4
    unfold rg; rw [if_neg h, h5, Bool.and_false]; rfl

/-- The list of complex numbers of a text. -/
def rc (B : Nat → Nat) (l : List UInt8) : Option (List (Nat × Nat)) := rg (fun p => (spc B p).isSome) prd2 l

end Go.Proofs.YtjlbjlcficbdlaaDoor
