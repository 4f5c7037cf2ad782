/-
  The pieces of a text between commas: plain laws. Conditions: none.
-/
import Derived.Test.YtjlbjlcficbdlaaDoorDec
import Derived.Lib.Split
set_option linter.unusedVariables false
set_option linter.unusedSimpArgs false
namespace Go.Proofs.YtjlbjlcficbdlaaDoor
open Go Go.Lib

/-- The pieces of r, the first of them with cur ahead. -/
def cutsL : List UInt8 → List UInt8 → List (List UInt8)
  | cur, [] => [cur]
  | cur, c :: r => if c = 44 then cur :: cutsL [] r else cutsL (cur ++ [c]) r

theorem cutsL_app : ∀ (p cur r : List UInt8), 44 ∉ p → cutsL cur (p ++ r) = cutsL (cur ++ p) r
  | [], cur, r, _ => by simp
  | c :: p, cur, r, h => by
    have h1 : c ≠ 44 := fun e => h (by rw [e]; exact List.mem_cons_self)
    have h2 : 44 ∉ p := fun e => h (List.mem_cons_of_mem _ e)
    rw [List.cons_append]
    conv => lhs; unfold cutsL
    rw [if_neg h1, cutsL_app p _ r h2]; simp
theorem cutsL_len : ∀ (r cur : List UInt8), (cutsL cur r).length ≤ r.length + 1
  | [], cur => by simp [cutsL]
  | c :: r, cur => by
    unfold cutsL
    split
    · have := cutsL_len r []; simp only [List.length_cons]; omega
    · have := cutsL_len r (cur ++ [c]); simp only [List.length_cons]; omega

theorem cutsL_mem : ∀ (r cur p : List UInt8), p ∈ cutsL cur r → p.length ≤ cur.length + r.length
  | [], cur, p, h => by
    have : p = cur := by simpa [cutsL] using h
    subst this; omega
  | c :: r, cur, p, h => by
    unfold cutsL at h
    split at h
    · rcases List.mem_cons.1 h with rfl | h
      · omega
      · have := cutsL_mem r [] p h; simp only [List.length_cons, List.length_nil] at *; omega
    · have := cutsL_mem r (cur ++ [c]) p h; simp only [List.length_cons, List.length_append, List.length_nil] at *; omega

theorem occ44 (l : List UInt8) (j : Nat) : occAt l [44] j = true ↔ l[j]? = some 44 := by
  unfold occAt
  have h : (l.drop j)[0]? = l[j]? := by rw [List.getElem?_drop, Nat.add_zero]
  cases hd : l.drop j with
  | nil =>
    rw [hd] at h; rw [← h]
    constructor
    · intro e; cases e
    · intro e; cases e
  | cons c r =>
    rw [hd] at h; rw [← h]
    show ((44 == c) && true) = true ↔ some c = some 44
    simp only [Bool.and_true, beq_iff_eq, Option.some.injEq]
    exact eq_comm

theorem not_mem_of {l : List UInt8} (h : ∀ j, j < l.length → l[j]? ≠ some 44) : 44 ∉ l := by
  intro hm
  obtain ⟨j, hj, e⟩ := List.getElem_of_mem hm
  exact h j hj (by rw [List.getElem?_eq_getElem hj, e])

theorem splitK_cutsL : ∀ (n : Nat) (l : List UInt8), l.length ≤ n → splitK [44] 0 (count l [44]) l = cutsL [] l := by
  intro n
  induction n with
  | zero =>
    intro l hl
    have : l = [] := List.length_eq_zero_iff.1 (by omega)
    subst this
    rfl
  | succ n ih =>
    intro l hl
    rcases index_spec l [44] with ⟨h1, h2⟩ | ⟨i, h1, h2, h3, h4⟩
    · rw [count_miss h1]
      have hm : 44 ∉ l := not_mem_of fun j hj e => by
        have := h2 j (by omega)
        rw [(occ44 l j).2 e] at this; cases this
      have := cutsL_app l [] [] hm
      rw [List.append_nil] at this
      rw [this]; rfl
    · have hc := (occ44 l i).1 h3
      obtain ⟨hi, he⟩ := List.getElem?_eq_some_iff.1 hc
      have hm : 44 ∉ l.take i := not_mem_of fun j hj e => by
        rw [List.length_take] at hj
        have h5 := h4 j (by omega)
        rw [List.getElem?_take, if_pos (by omega)] at e
        rw [(occ44 l j).2 e] at h5; cases h5
      rw [count_hit (by simp) h1]
      have hsp : l = l.take i ++ 44 :: l.drop (i + 1) := by
        conv => lhs; rw [← List.take_append_drop i l]
        rw [List.drop_eq_getElem_cons hi, he]
      have hne : ¬ (index l [44] == -1) = true := by rw [h1]; intro e; have := beq_iff_eq.1 e; omega
      have e1 : (index l [44]).toNat = i := by rw [h1]; rfl
      rw [Nat.add_comm]
      conv => lhs; unfold splitK
      rw [if_neg hne, e1, Nat.add_zero, show i + [(44 : UInt8)].length = i + 1 from rfl, ih _ (by rw [List.length_drop]; omega)]
      conv => rhs; rw [hsp]
      rw [cutsL_app _ _ _ hm]
      conv => rhs; unfold cutsL
      rw [if_pos rfl, List.nil_append]

theorem splitB_cutsL (s : ByteArray) : (splitB ⟨#[44]⟩ 0 (countB s ⟨#[44]⟩) s).map (·.data.toList) = cutsL [] s.data.toList := by
  rw [splitB_data]
  exact splitK_cutsL _ _ (Nat.le_refl _)

/-! ### The numbers of a text -/
def num (p : List UInt8) : Int := (spv p).getD 0
def okP (p : List UInt8) : Bool := (spv p).isSome
def nums (ps : List (List UInt8)) : List Int := ps.map num
def okK (ps : List (List UInt8)) (k : Nat) : Prop := (ps.take k).all okP = true
theorem okK_succ {ps : List (List UInt8)} {k : Nat} (h : okK ps k) (hk : k < ps.length) (hv : okP ps[k] = true) : okK ps (k + 1) := by
  unfold okK at *
  rw [List.take_succ_eq_append_getElem hk, List.all_append, h]; simp [hv]
theorem nums_succ {ps : List (List UInt8)} {k : Nat} (hk : k < ps.length) : nums (ps.take (k + 1)) = nums (ps.take k) ++ [num ps[k]] := by
  unfold nums; rw [List.take_succ_eq_append_getElem hk, List.map_append]; rfl
theorem nums_len (ps : List (List UInt8)) : (nums ps).length = ps.length := by simp [nums]

def n4 : List UInt8 := [110, 111, 110, 101]
/-- The list with a text, if there is one. -/
def rl (l : List UInt8) : Option (List Int) :=
  if l = n4 then some []
  else if decide ((cutsL [] l).length ≤ 64) && (cutsL [] l).all okP then some (nums (cutsL [] l)) else none
theorem rl_none : rl n4 = some [] := by unfold rl; rw [if_pos rfl]
theorem rl_long {l : List UInt8} (h : l ≠ n4) (h2 : ¬ (cutsL [] l).length ≤ 64) : rl l = none := by
  unfold rl; rw [if_neg h, decide_eq_false h2]; rfl
theorem rl_bad {l : List UInt8} (h : l ≠ n4) {k : Nat} (hk : k < (cutsL [] l).length) (hv : okP (cutsL [] l)[k] = false) : rl l = none := by
  have : (cutsL [] l).all okP = false := by
    rw [List.all_eq_false]
    exact ⟨_, List.getElem_mem hk, by rw [hv]; decide⟩
  unfold rl; rw [if_neg h, this, Bool.and_false]; rfl
theorem rl_ok {l : List UInt8} (h : l ≠ n4) (h2 : (cutsL [] l).length ≤ 64) (h3 : okK (cutsL [] l) (cutsL [] l).length) : rl l = some (nums (cutsL [] l)) := by
  unfold okK at h3
  rw [List.take_length] at h3
  unfold rl; rw [if_neg h, decide_eq_true h2, h3]; rfl
theorem rl_len {l : List UInt8} {vs : List Int} (h : rl l = some vs) : vs.length ≤ 64 := by
  unfold rl at h
  split at h
  · cases h; simp
  · split at h
    · rename_i h1
      cases h
      rw [nums_len]
      simp only [Bool.and_eq_true, decide_eq_true_eq] at h1
      exact h1.1
    · cases h

/-- The same, of any number of pieces. -/
def rl0 (l : List UInt8) : Option (List Int) :=
  if l = n4 then some []
  else if (cutsL [] l).all okP then some (nums (cutsL [] l)) else none
theorem rl0_none : rl0 n4 = some [] := by unfold rl0; rw [if_pos rfl]
theorem rl0_bad {l : List UInt8} (h : l ≠ n4) {k : Nat} (hk : k < (cutsL [] l).length) (hv : okP (cutsL [] l)[k] = false) : rl0 l = none := by
  have : (cutsL [] l).all okP = false := by
    rw [List.all_eq_false]
    exact ⟨_, List.getElem_mem hk, by rw [hv]; decide⟩
  unfold rl0; rw [if_neg h, this]; rfl
theorem rl0_ok {l : List UInt8} (h : l ≠ n4) (h3 : okK (cutsL [] l) (cutsL [] l).length) : rl0 l = some (nums (cutsL [] l)) := by
  unfold okK at h3
  rw [List.take_length] at h3
  unfold rl0; rw [if_neg h, h3]; rfl
theorem rl_of0 (l : List UInt8) : rl l = match rl0 l with
    | some vs => if vs.length ≤ 64 then some vs else none
    | none => none := by
  unfold rl rl0
  by_cases h : l = n4
  · rw [if_pos h, if_pos h]; simp
  · rw [if_neg h, if_neg h]
    cases hb : (cutsL [] l).all okP with
    | false => simp
    | true =>
      by_cases h2 : (cutsL [] l).length ≤ 64
      · rw [decide_eq_true h2]; simp [nums_len, h2]
      · rw [decide_eq_false h2]; simp [nums_len, h2]

/-! ### One step of the reference's cut -/
theorem cut_comma {l : List UInt8} {i f : Nat} (hi : i < l.length) (hc : l[i] = 44) (hf : f ≤ i) : cutsL ((l.take i).drop f) (l.drop i) = ((l.take i).drop f) :: cutsL ((l.take (i + 1)).drop (i + 1)) (l.drop (i + 1)) := by
  rw [List.drop_eq_getElem_cons hi, hc]
  conv => lhs; unfold cutsL
  rw [if_pos rfl, show (l.take (i + 1)).drop (i + 1) = [] from List.drop_eq_nil_of_le (by rw [List.length_take]; omega)]
theorem cut_other {l : List UInt8} {i f : Nat} (hi : i < l.length) (hc : l[i] ≠ 44) (hf : f ≤ i) : cutsL ((l.take i).drop f) (l.drop i) = cutsL ((l.take (i + 1)).drop f) (l.drop (i + 1)) := by
  rw [List.drop_eq_getElem_cons hi]
  conv => lhs; unfold cutsL
  rw [if_neg hc, List.take_succ_eq_append_getElem hi, List.drop_append_of_le_length (by rw [List.length_take]; omega)]
theorem cut_end {l : List UInt8} {f : Nat} : cutsL ((l.take l.length).drop f) (l.drop l.length) = [(l.take l.length).drop f] := by
  rw [List.drop_eq_nil_of_le (Nat.le_refl _)]; rfl

end Go.Proofs.YtjlbjlcficbdlaaDoor
