/-
  Plain mathematics: 64ths as 32-bit words: read, multiplied, widened. Conditions: none.
-/
import Derived.Test.YtbphigmpcjodkaaR21
set_option linter.unusedVariables false
set_option linter.unusedSimpArgs false
namespace Go.Proofs.Ytbphigmpcjodkaa
open Go Flo Fb Ff

theorem sglc : Ieee.single.leastPlace = -149 ∧ Ieee.single.fractionBits = 23 ∧ Ieee.single.binade = 8388608 ∧ Ieee.single.infRung = 2139095040 ∧ Ieee.single.signWeight = 2147483648 := ⟨by decide +kernel, rfl, rfl, by decide +kernel, by decide +kernel⟩

theorem near32 {K d L : Nat} {p : Int} (hK1 : 8388608 ≤ K) (hK2 : K < 16777216) (hp : p + d = (L : Int) - 149) (hL : L ≤ 250) :
    Ieee.single.nearest false (K * 2 ^ d) p = L * 8388608 + K := by
  obtain ⟨cL, cF, cB, cI, cS⟩ := sglc
  have h0 : K * 2 ^ d ≠ 0 := Nat.mul_ne_zero (by omega) (by have := pow_pos2 d; omega)
  have hlog : (K * 2 ^ d).log2 = 23 + d := log_mul (by omega) ((Nat.log2_eq_iff (by omega)).2 ⟨hK1, hK2⟩)
  unfold Ieee.Format.nearest
  rw [if_neg h0]
  dsimp only
  rw [hlog, cL, cF, cB, cI]
  have hlast : max (p + ((23 + d : Nat) : Int) - (23 : Nat)) (-149) = p + d := by omega
  rw [hlast, show (p - (p + d)).toNat = 0 by omega, Nat.shiftLeft_zero, show (p + d - p).toNat = d by omega, cut_exact _ _ _ (by omega), show (p + d - -149).toNat = L by omega]
  have hw : ∀ r, Ieee.single.word false r = r := fun _ => rfl
  rw [hw, Nat.min_eq_left (by omega)]

/-- The 32-bit word of k / 64. -/
def s32 (k : Nat) : Nat := (120 + k.log2) * 8388608 + k * 2 ^ (23 - k.log2)
theorem kd {k : Nat} (h0 : 1 ≤ k) (h : k ≤ 40000) : k.log2 ≤ 15 ∧ 8388608 ≤ k * 2 ^ (23 - k.log2) ∧ k * 2 ^ (23 - k.log2) < 16777216 := by
  have h1 := l15 (d := k) (s := 0) (by omega) rfl (by rw [Nat.pow_zero]; omega)
  rw [Nat.add_zero] at h1
  have hd := (Nat.log2_eq_iff (by omega)).1 (rfl : k.log2 = k.log2)
  generalize k.log2 = l at *
  refine ⟨h1, ?_, ?_⟩
  · have := Nat.mul_le_mul_right (2 ^ (23 - l)) hd.1
    rw [← Nat.pow_add, show l + (23 - l) = 23 by omega] at this
    exact this
  · have := (Nat.mul_lt_mul_right (pow_pos2 (23 - l))).2 hd.2
    rw [← Nat.pow_add, show l + 1 + (23 - l) = 24 by omega] at this
    exact this
theorem read_s32 {k : Nat} (h0 : 1 ≤ k) (h : k ≤ 40000) : Ieee.single.read (s32 k) = .number false (k * 2 ^ (23 - k.log2)) ((k.log2 : Int) - 29) := by
  obtain ⟨hl, h1, h2⟩ := kd h0 h
  obtain ⟨cL, cF, cB, cI, cS⟩ := sglc
  unfold s32
  generalize k * 2 ^ (23 - k.log2) = K at *
  generalize k.log2 = l at *
  have hr := read_word good_single false (r := (120 + l) * 8388608 + K) (by omega)
  have hw : ∀ r, Ieee.single.word false r = r := fun _ => rfl
  rw [hw, cB, if_neg (by omega), cL] at hr
  rw [hr]
  congr 1 <;> omega
theorem near_s32 {k a : Nat} {p : Int} (h0 : 1 ≤ k) (h : k ≤ 40000) (ha : 23 - k.log2 ≤ a) (hp : p + a = -6) : Ieee.single.nearest false (k * 2 ^ a) p = s32 k := by
  obtain ⟨hl, h1, h2⟩ := kd h0 h
  obtain ⟨d, hd⟩ : ∃ d, a = (23 - k.log2) + d := ⟨a - (23 - k.log2), by omega⟩
  have e : k * 2 ^ a = k * 2 ^ (23 - k.log2) * 2 ^ d := by rw [hd, Nat.pow_add, Nat.mul_assoc]
  rw [e, near32 h1 h2 (L := 120 + k.log2) (by omega) (by omega)]
  rfl
theorem wide_s32 {k : Nat} (h0 : 1 ≤ k) (h : k ≤ 40000) : cvo .f32 .f64 (s32 k) = some (wK k) := by
  have hr := read_s32 h0 h
  obtain ⟨hl, h1, h2⟩ := kd h0 h
  have hd : FloatKind.f32.decode (s32 k) = .number false (k * 2 ^ (23 - k.log2)) ((k.log2 : Int) - 29) := hr
  have hlog : (k * 2 ^ (23 - k.log2)).log2 = 23 := (Nat.log2_eq_iff (by omega)).2 ⟨h1, h2⟩
  have hn : FloatKind.f64.encode (.number false (k * 2 ^ (23 - k.log2)) ((k.log2 : Int) - 29)) = wK k := by
    show Ieee.double.nearest false _ _ = _
    rw [near_small false (l := 23) (L := 1016 + k.log2) (by omega) hlog (by decide) (by omega) (by omega), wK_eq rfl]
    unfold sw wk
    rw [Nat.mul_assoc k, ← Nat.pow_add, show 23 - k.log2 + (52 - 23) = 52 - k.log2 by omega]
    simp
  have hwd : 874 * 4503599627370496 ≤ wK k ∧ wK k < 1151 * 4503599627370496 := by
    rw [wK_eq rfl]
    have hd2 := (Nat.log2_eq_iff (by omega)).1 (rfl : k.log2 = k.log2)
    unfold wk
    refine wk_bd hl ?_ ?_
    · have := Nat.mul_le_mul_right (2 ^ (52 - k.log2)) hd2.1
      rw [← Nat.pow_add, show k.log2 + (52 - k.log2) = 52 by omega] at this
      exact this
    · have := (Nat.mul_lt_mul_right (pow_pos2 (52 - k.log2))).2 hd2.2
      rw [← Nat.pow_add, show k.log2 + 1 + (52 - k.log2) = 53 by omega] at this
      exact this
  have hg : tooGreat .f32 .f64 (s32 k) = false := by
    unfold tooGreat
    rw [if_neg (by decide), hd]
    dsimp only
    rw [hn]
    have : FloatKind.f64.decode (wK k) = Ieee.double.read (wK k) := rfl
    rw [this, read_pos (by omega) (by omega)]
    rfl
  have hnan : isNaN .f32 (s32 k) = false := by unfold isNaN; rw [hd]; rfl
  unfold cvo
  rw [hg, hnan, if_neg (by decide)]
  unfold fconv
  rw [if_neg (by decide), hd]
  dsimp only
  rw [hn]
theorem sub_s32 {k : Nat} (h0 : 1 ≤ k) (h : k ≤ 40000) : floatBits .sub .f32 (s32 k) (s32 k) = some 0 := sub_self32 (read_s32 h0 h)
theorem pos_s32 {k : Nat} (h0 : 1 ≤ k) (h : k ≤ 40000) : (FloatKind.f32.format.order (s32 k) 0 == some .lt || FloatKind.f32.format.order (s32 k) 0 == some .eq) = false := by
  have hr := read_s32 h0 h
  obtain ⟨hl, h1, h2⟩ := kd h0 h
  have r0 : Ieee.single.read 0 = .number false 0 (-149) := by decide +kernel
  have ho : FloatKind.f32.format.order (s32 k) 0 = some (compare (Ieee.signed false (k * 2 ^ (23 - k.log2)) (((k.log2 : Int) - 29) - min ((k.log2 : Int) - 29) (-149)).toNat) (Ieee.signed false 0 ((-149 : Int) - min ((k.log2 : Int) - 29) (-149)).toNat)) := by
    show (Ieee.single.read _).order (Ieee.single.read 0) = _
    rw [hr, r0]; rfl
  rw [ho, sgn_f, sgn_f, Nat.zero_mul]
  have hp : 0 < k * 2 ^ (23 - k.log2) * 2 ^ (((k.log2 : Int) - 29) - min ((k.log2 : Int) - 29) (-149)).toNat := Nat.mul_pos (by omega) (pow_pos2 _)
  rw [Int.compare_eq_gt.2 (by omega)]
  rfl

theorem mul_s32 {i j : Nat} (h1 : 1 ≤ i) (h2 : i ≤ 200) (h3 : 1 ≤ j) (h4 : j ≤ 200) : floatBits .mul .f32 (s32 (i * 8)) (s32 (j * 8)) = some (s32 (i * j)) := by
  have ri := read_s32 (k := i * 8) (by omega) (by omega)
  have rj := read_s32 (k := j * 8) (by omega) (by omega)
  have hij : i * j ≤ 200 * 200 := Nat.mul_le_mul h2 h4
  have hij1 : 1 * 1 ≤ i * j := Nat.mul_le_mul h1 h3
  have ei : (i * 8).log2 = i.log2 + 3 := log_mul (s := 3) (by omega) rfl
  have ej : (j * 8).log2 = j.log2 + 3 := log_mul (s := 3) (by omega) rfl
  have hli := (Nat.log2_eq_iff (show i ≠ 0 by omega)).1 rfl
  have hlj := (Nat.log2_eq_iff (show j ≠ 0 by omega)).1 rfl
  have hlij : i.log2 + j.log2 ≤ (i * j).log2 := by
    have : 2 ^ (i.log2 + j.log2) ≤ i * j := by rw [Nat.pow_add]; exact Nat.mul_le_mul hli.1 hlj.1
    exact (Nat.le_log2 (by omega)).2 this
  have hi7 : i.log2 ≤ 7 := by
    have : 2 ^ i.log2 < 2 ^ 8 := by omega
    have := (Nat.pow_lt_pow_iff_right (by decide : 1 < 2)).1 this
    omega
  have hj7 : j.log2 ≤ 7 := by
    have : 2 ^ j.log2 < 2 ^ 8 := by omega
    have := (Nat.pow_lt_pow_iff_right (by decide : 1 < 2)).1 this
    omega
  show Ieee.single.mul _ _ = _
  unfold Ieee.Format.mul
  rw [ri, rj, ei, ej]
  show some (Ieee.single.nearest (false ^^ false) (i * 8 * 2 ^ (23 - (i.log2 + 3)) * (j * 8 * 2 ^ (23 - (j.log2 + 3)))) (((i.log2 + 3 : Nat) : Int) - 29 + (((j.log2 + 3 : Nat) : Int) - 29))) = _
  have e : i * 8 * 2 ^ (23 - (i.log2 + 3)) * (j * 8 * 2 ^ (23 - (j.log2 + 3))) = i * j * 2 ^ (46 - i.log2 - j.log2) := by
    have e1 : i * 8 * 2 ^ (23 - (i.log2 + 3)) = i * 2 ^ (23 - i.log2) := by
      rw [Nat.mul_assoc, show (8 : Nat) = 2 ^ 3 from rfl, ← Nat.pow_add]; congr 2; omega
    have e2 : j * 8 * 2 ^ (23 - (j.log2 + 3)) = j * 2 ^ (23 - j.log2) := by
      rw [Nat.mul_assoc, show (8 : Nat) = 2 ^ 3 from rfl, ← Nat.pow_add]; congr 2; omega
    rw [e1, e2, Nat.mul_mul_mul_comm, ← Nat.pow_add]; congr 2; omega
  rw [e]
  show some (Ieee.single.nearest false _ _) = _
  rw [near_s32 (by omega) (by omega) (by omega) (by omega)]

/-- An eighth. -/
theorem x_eighth : ∀ i : Nat, i < 201 → 1 ≤ i → floatBits .quo .f32 (floatOfInt .f32 (i : Int)) W8f = some (s32 (i * 8)) := by
  have h : ((List.range 201).all fun i => Nat.beq i 0 || floatBits .quo .f32 (floatOfInt .f32 (i : Int)) W8f == some (s32 (i * 8))) = true := by kernel_rfl
  intro i hi h1
  have := List.all_eq_true.1 h i (List.mem_range.2 hi)
  rw [Bool.or_eq_true] at this
  rcases this with h2 | h2
  · have := Nat.eq_of_beq_eq_true h2; omega
  · simpa using h2

end Go.Proofs.Ytbphigmpcjodkaa
