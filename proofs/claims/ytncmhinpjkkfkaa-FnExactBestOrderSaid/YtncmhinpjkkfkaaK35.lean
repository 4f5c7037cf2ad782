/-
  Walks: the least round of changes: the reference's function. Conditions: none.
-/
import Derived.Test.YtncmhinpjkkfkaaK26
import Derived.Test.YtncmhinpjkkfkaaK16
import Derived.Test.YtncmhinpjkkfkaaSets
set_option linter.unusedSimpArgs false
namespace Go.Proofs.Ytncmhinpjkkfkaa
open Go Go.RowKit
set_option linter.unusedVariables false

/-- The costs as a search. -/
def chS (cs : List Int) (n : Nat) : Sets.Chg := ⟨n, fun l i => cs.getD (l * n + i) 0⟩

theorem lin_lt {l i n : Nat} (hl : l < n) (hi : i < n) : l * n + i < n * n := by
  have : (l + 1) * n ≤ n * n := Nat.mul_le_mul_right _ hl
  rw [Nat.add_mul, Nat.one_mul] at this; omega

theorem chB_nat {cs : List Int} {x : Int} (h : chB cs x = true) : ∃ n : Nat, x = n ∧ 1 ≤ n ∧ n ≤ 10 ∧ cs.length = n * n ∧ ∀ l i, l < n → i < n → 0 ≤ cs.getD (l * n + i) 0 ∧ cs.getD (l * n + i) 0 ≤ 10000 := by
  unfold chB at h
  simp only [Bool.and_eq_true, decide_eq_true_eq] at h
  obtain ⟨h1, h2, h3⟩ := h
  have hb := inB_lo h1
  have hx : x = (x.toNat : Int) := by omega
  have hl : cs.length = x.toNat * x.toNat := by
    have : ((cs.length : Nat) : Int) = ((x.toNat * x.toNat : Nat) : Int) := by rw [h2, Int.natCast_mul, ← hx]
    omega
  exact ⟨x.toNat, hx, by omega, by omega, hl, fun l i a b => allIn_mem h3 _ (getD_mem (by rw [hl]; exact lin_lt a b))⟩

/-- The table of the reference, as far as q. -/
def rstL (S : Sets.Chg) (A q : Nat) : List Int := (List.range (A * S.n)).map fun (p : Nat) => if p < q then S.R (p / S.n) (p % S.n) else 0
theorem rstL_len (S : Sets.Chg) (A q : Nat) : (rstL S A q).length = A * S.n := by simp [rstL]
theorem rstL_zero (S : Sets.Chg) (A : Nat) (hn : 0 < S.n) : rstL S A S.n = List.replicate (A * S.n) 0 := by
  refine List.ext_getElem (by simp [rstL]) fun p h1 h2 => ?_
  simp only [rstL, List.getElem_map, List.getElem_range, List.getElem_replicate]
  split
  · rename_i h
    rw [Nat.div_eq_of_lt h]; rfl
  · rfl
theorem rstL_set (S : Sets.Chg) (A q : Nat) (hq : q < A * S.n) : (rstL S A q).set q (S.R (q / S.n) (q % S.n)) = rstL S A (q + 1) := by
  refine List.ext_getElem (by simp [rstL]) fun p h1 h2 => ?_
  rw [List.getElem_set]
  simp only [rstL, List.getElem_map, List.getElem_range]
  by_cases h : q = p
  · subst h; rw [if_pos rfl, if_pos (by omega)]
  · rw [if_neg h]
    by_cases h3 : p < q
    · rw [if_pos h3, if_pos (by omega)]
    · rw [if_neg h3, if_neg (by omega)]
theorem rstL_get (S : Sets.Chg) (A q y j : Nat) (hj : j < S.n) (hq : y * S.n + j < q) (hA : y * S.n + j < A * S.n) : (rstL S A q).getD (y * S.n + j) 0 = S.R y j := by
  have e1 : (y * S.n + j) / S.n = y := by rw [Nat.mul_comm, Nat.mul_add_div (by omega), Nat.div_eq_of_lt hj, Nat.add_zero]
  have e2 : (y * S.n + j) % S.n = j := by rw [Nat.mul_comm, Nat.mul_add_mod, Nat.mod_eq_of_lt hj]
  rw [List.getD_eq_getElem?_getD, List.getElem?_eq_getElem (by rw [rstL_len]; exact hA)]
  simp only [rstL, List.getElem_map, List.getElem_range, Option.getD_some]
  rw [if_pos hq, e1, e2]

def lcL (cs : List Int) (x : Int) : List Int := ((chS cs x.toNat).st x.toNat).out
def lcV (cs : List Int) (x : Int) : Int := (chS cs x.toNat).firstK x.toNat

def LcP (cs : List Int) (x : Int) (w : World) (e : Ending) (w' : World) : Prop :=
  Res1 w (lcL cs x) (fun v => .tuple #[v, .int .i64 (lcV cs x), .bool true]) e w'

theorem pow_le10 {n : Nat} (h : n ≤ 10) : 2 ^ n ≤ 1024 := by
  have : 2 ^ n ≤ 2 ^ 10 := Nat.pow_le_pow_right (by decide) h
  have e : (2 : Nat) ^ 10 = 1024 := by decide
  omega

theorem powI {i B : Nat} (h : 2 ^ i = B) : (2 : Int) ^ i = (B : Int) := by rw [← h, Int.natCast_pow]; rfl
theorem wrapP {i B : Nat} (h : 2 ^ i = B) (hB : B ≤ 1024) : IntKind.i64.wrap ((2 : Int) ^ i) = (B : Int) := by rw [powI h]; exact IntWalk.i64_in _ (by omega)


theorem count_zero' {n s : Nat} (hs : s < 2 ^ n) (h : Sets.Srch.count s n = 0) : s = 0 := by
  by_cases e : s = 0
  · exact e
  · have := Sets.Srch.count_pos n (Sets.has_some hs e)
    omega

theorem Rd.dr' {w w' : World} {g o : Nat} {xs : List Int} (h : Rd w g o xs) (hd : Dr w w') : Rd w' g o xs := hd.rd h

def lenOf : Value → Nat
  | .slice _ n _ => n
  | _ => 0

/-- What each state of the choice gives. -/
structure LcSt (S : Sets.Chg) (L s : Nat) : Prop where
  len : (S.st s).out.length = s
  last : ∀ j, j < s → ∃ p : Nat, (S.st s).out.getD j 0 = (p : Int) ∧ p < S.n
  lt : (S.st s).left ≤ L
  rem0 : 0 ≤ (S.st s).rem ∧ (S.st s).rem ≤ 20000000
  zero : s = S.n → (S.st s).left = 0
  pos : s < S.n → (S.st s).left ≠ 0
  pick : s < S.n → S.pick (S.st s) S.n 0 < S.n ∧ S.good (S.st s) (S.pick (S.st s) S.n 0) = true ∧ ∀ l, l < S.pick (S.st s) S.n 0 → S.good (S.st s) l = false

theorem lcSt {S : Sets.Chg} {L s : Nat} (hL : 2 ^ S.n = L + 1) (n1 : 1 ≤ S.n) (n2 : S.n ≤ 10) (hw : ∀ l i, l < S.n → i < S.n → 0 ≤ S.w l i ∧ S.w l i ≤ 10000) (hs : s ≤ S.n) : LcSt S L s := by
  have ho := Sets.Chg.ok_st (S := S) (by omega) hw s hs
  have hL2 := pow_le10 n2
  refine ⟨ho.len, fun j hj => ?_, by have := ho.lt; omega, ?_, fun h => ?_, fun h h0 => ?_, fun h => ho.first hw h⟩
  · have := ho.mem j hj
    exact ⟨((S.st s).out.getD j 0).toNat, by omega, by omega⟩
  · have h := ho.inv
    split at h
    · have h1 := Sets.Chg.first_bd hw S.n (Nat.le_refl _)
      obtain ⟨i, a, b⟩ := Sets.Chg.first_has hw S.n (Nat.le_refl _) (by omega)
      have h3 := Sets.Chg.cand_bd hw S.all_lt (l := i) (i := i) (by omega) (by omega)
      have : S.all = 2 ^ S.n - 1 := rfl
      omega
    · rename_i hne
      have hpos : 0 < s := by
        have := ho.len
        cases hx : (S.st s).out with
        | nil => exact absurd hx hne
        | cons a b => rw [hx] at this; simp at this; omega
      rw [ho.len] at h
      have h6 := ho.mem (s - 1) (by omega)
      have := Sets.Chg.R_bd hw _ ho.lt ((S.st s).out.getD (s - 1) 0).toNat (by omega)
      have := ho.lt
      omega
  · have := ho.cnt
    rw [h, Nat.sub_self] at this
    rw [← h] at this
    exact count_zero' (n := S.n) ho.lt (by rw [h] at this ⊢; exact this)
  · have := ho.cnt
    rw [h0, Sets.Srch.count_zero] at this
    omega

set_option maxHeartbeats 16000000 in
set_option maxRecDepth 100000 in
theorem specLC_yes (w : World) (g n' c : Nat) (cs : List Int) (hn : cs.length = n') (hcap : n' ≤ c) (hm : n' ≤ 1048576) (hj : Rd w g 0 cs) (hg : g < w.heap.size) (x : Int) (xlo : -9223372036854775808 ≤ x) (xhi : x ≤ 9223372036854775807) (hc : chB cs x = true) :
    Calls Try.prog 43 #[.slice (some ⟨g, 0, none⟩) n' c, .int .i64 x] w (LcP cs x w) := by
  obtain ⟨n, rfl, n1, n2, hnn, hw0⟩ := chB_nat hc
  obtain ⟨S, hS⟩ : ∃ S, chS cs n = S := ⟨_, rfl⟩
  have hSn : S.n = n := by rw [← hS]; rfl
  have hSw : ∀ l i, S.w l i = cs.getD (l * n + i) 0 := fun l i => by rw [← hS]; rfl
  have hw : ∀ l i, l < S.n → i < S.n → 0 ≤ S.w l i ∧ S.w l i ≤ 10000 := fun l i a b => by rw [hSw]; exact hw0 l i (by omega) (by omega)
  obtain ⟨L, hL⟩ : ∃ L, 2 ^ n = L + 1 := ⟨2 ^ n - 1, by have : 0 < 2 ^ n := Nat.pow_pos (by decide); omega⟩
  have hL1 := pow_le10 n2
  rw [hL] at hL1
  have hp : (2 : Int) ^ n = (L : Int) + 1 := by rw [powI hL]; rfl
  have wp : IntKind.i64.wrap ((2 : Int) ^ n) = (L : Int) + 1 := by rw [hp]; exact IntWalk.i64_in _ (by omega)
  obtain ⟨AN, hAN⟩ : ∃ AN, (L + 1) * n = AN := ⟨_, rfl⟩
  have hAN1 : AN ≤ 10240 := by rw [← hAN]; exact Nat.mul_le_mul (by omega) n2
  have wAN : IntKind.i64.wrap (((L : Int) + 1) * (n : Int)) = (AN : Int) := by
    have : ((L : Int) + 1) * (n : Int) = (AN : Int) := by rw [← hAN, Int.natCast_mul]; rfl
    rw [this]; exact IntWalk.i64_in _ (by omega)
  have hall : S.all = L := by unfold Sets.Chg.all; rw [hSn, hL]; omega
  have hfin : ∀ w' G cap, Rw w' G cap (S.st n).out → w.heap.size ≤ G → Below w.heap.size w w' → LcP cs n w (.returned (.tuple #[.slice (some ⟨G, 0, none⟩) n cap, .int .i64 (S.firstK n), .bool true])) w' := by
    intro w' G cap h1 h2 h3
    have hl := Sets.Chg.st_out_len (S := S) n
    unfold LcP lcL lcV
    rw [Int.toNat_natCast, hS]
    exact ⟨G, cap, by rw [hl], h1, h2, h3⟩
  have h0 : rstL S (L + 1) (1 * n) = List.replicate AN 0 := by
    have := rstL_zero S (L + 1) (by omega)
    rw [hSn, hAN] at this
    rw [Nat.one_mul]; exact this
  have hlen : ∀ q, (rstL S (L + 1) q).length = AN := fun q => by rw [rstL_len, hSn]; exact hAN
  have hget : ∀ q y j, j < n → y * n + j < q → y * n + j < AN → (rstL S (L + 1) q).getD (y * n + j) 0 = S.R y j := fun q y j a b d => by
    have := rstL_get S (L + 1) q y j (by omega) (by rw [hSn]; exact b) (by rw [hSn, hAN]; exact d)
    rw [hSn] at this; exact this
  have hset : ∀ y j, j < n → y * n + j < AN → (rstL S (L + 1) (y * n + j)).set (y * n + j) (S.R y j) = rstL S (L + 1) (y * n + j + 1) := fun y j a b => by
    have := rstL_set S (L + 1) (y * n + j) (by rw [hSn, hAN]; exact b)
    have e1 : (y * n + j) / n = y := by rw [Nat.mul_comm, Nat.mul_add_div (by omega), Nat.div_eq_of_lt a, Nat.add_zero]
    have e2 : (y * n + j) % n = j := by rw [Nat.mul_comm, Nat.mul_add_mod, Nat.mod_eq_of_lt a]
    rw [hSn, e1, e2] at this; exact this
  have hRbd : ∀ y j, y ≤ L → j < n → 0 ≤ S.R y j ∧ S.R y j ≤ 10240000 := fun y j a b => by
    have := Sets.Chg.R_bd hw y (by rw [hSn, hL]; omega) j (by omega); omega
  have hFbd : ∀ y l k, y ≤ L → l < n → k ≤ n → -1 ≤ S.foldK S.R y l k ∧ S.foldK S.R y l k ≤ 11240000 := fun y l k a b d => by
    have := Sets.Chg.foldK_bd hw (x := y) (l := l) (by rw [hSn, hL]; omega) (by omega) k (by omega); omega
  have hReq : ∀ y l, y ≠ 0 → S.foldK S.R y l n = S.R y l := fun y l a => by rw [S.R_eq y l a, hSn]
  have hF1bd : ∀ k, k ≤ n → -1 ≤ S.firstK k ∧ S.firstK k ≤ 11240000 := fun k a => by
    have := Sets.Chg.first_bd hw k (by omega); rw [hall] at this; omega
  have hst : ∀ s, s ≤ n → LcSt S L s := fun s a => lcSt (by rw [hSn]; exact hL) (by omega) (by omega) hw (by omega)
  have hCell : ∀ w1, Rd w1 g 0 cs → ∀ l i, l < n → i < n → ∃ (p y : Nat) (v : Int), IntKind.i64.wrap ((l : Int) * (n : Int)) = (p : Int) ∧ p ≤ 100 ∧ p + i = y ∧ IntKind.i64.wrap ((p : Int) + (i : Int)) = (y : Int) ∧ y < n' ∧ w1.cell? ⟨g, y, none⟩ = some (.int .i64 v) ∧ S.w l i = v ∧ 0 ≤ v ∧ v ≤ 10000 := by
    intro w1 h1 l i a b
    have e := lin_lt a b
    have nn : n * n ≤ 10 * 10 := Nat.mul_le_mul n2 n2
    have hli : l * n + i < n' := by omega
    refine ⟨l * n, l * n + i, _, ?_, by omega, rfl, ?_, hli, h1.get _ (by omega), hSw l i, hw0 l i a b⟩
    · rw [← Int.natCast_mul]; exact IntWalk.i64_in _ (by omega)
    · rw [IntWalk.i64_in _ (by omega)]; omega
  have hLin : ∀ y j, y ≤ L → j < n → ∃ p q : Nat, y * n = p ∧ IntKind.i64.wrap ((y : Int) * (n : Int)) = (p : Int) ∧ p + j = q ∧ q < AN ∧ p ≤ 10240 ∧ IntKind.i64.wrap ((p : Int) + (j : Int)) = (q : Int) := by
    intro y j a b
    have e : (y + 1) * n ≤ (L + 1) * n := Nat.mul_le_mul_right _ (by omega)
    rw [Nat.add_mul, Nat.one_mul, hAN] at e
    refine ⟨y * n, y * n + j, rfl, ?_, rfl, by omega, by omega, ?_⟩
    · rw [← Int.natCast_mul]; exact IntWalk.i64_in _ (by omega)
    · rw [IntWalk.i64_in _ (by omega)]; omega
  have hBit : ∀ y i, y ≤ L → i < n → ∃ B : Nat, 2 ^ i = B ∧ 1 ≤ B ∧ B ≤ 1024 ∧ (2 : Int) ^ i = (B : Int) ∧ bits .and .i64 ((y : Int) / (B : Int)) 1 = (if Sets.has y i = true then 1 else 0) ∧ (Sets.has y i = true → B ≤ y ∧ bits .andNot .i64 (y : Int) (B : Int) = ((y - B : Nat) : Int)) ∧ (Sets.has y i = false → bits .andNot .i64 (y : Int) (B : Int) = (y : Int)) := by
    intro y i a b
    have e : 2 ^ i ≤ 1024 := pow_le10 (by omega)
    have y62 : y < 2 ^ 62 := Nat.lt_of_le_of_lt (show y ≤ 1023 by omega) (by decide)
    refine ⟨2 ^ i, rfl, Nat.pow_pos (by decide), e, powI rfl, ?_, fun h => ⟨Sets.has_le h, ?_⟩, fun h => ?_⟩
    · have := Sets.and_one y i y62; unfold Sets.bit at this; exact this
    · rw [Sets.bits_andNot _ _ y62 (Sets.pow_lt (by omega)), Sets.andNot_bit _ _ y62 (by omega) h]
    · rw [Sets.bits_andNot _ _ y62 (Sets.pow_lt (by omega)), Sets.andNot_no _ _ y62 (by omega) h]
  have HALL := Lib.hid hall; have HFIN := Lib.hid hfin; have H0 := Lib.hid h0; have HLEN := Lib.hid hlen; have HGET := Lib.hid hget; have HSET := Lib.hid hset; have HRB := Lib.hid hRbd; have HFB := Lib.hid hFbd; have HREQ := Lib.hid hReq; have HF1 := Lib.hid hF1bd; have HST := Lib.hid hst; have HCELL := Lib.hid hCell; have HLIN := Lib.hid hLin; have HBIT := Lib.hid hBit
  have HN := Lib.hid hn; have HC := Lib.hid hc; have HJ := Lib.hid hj; have HSN := Lib.hid hSn; have HAN := Lib.hid hAN; have HL := Lib.hid hL
  clear hall hfin h0 hlen hget hset hRbd hFbd hReq hF1bd hst hCell hLin hBit hn hc hj hSn hSw hw hw0 hS hnn hAN hL
  go_enter Try.func43, Try.ntmps43
  go_wp2_with (first
    | (go_at_call 87; refine (l02Changes_any _ g n' c cs HN.out hm HJ.out _).mono ?_; rintro e w' ⟨rfl, rfl⟩; rw [HC.out])
    | (at_make; refine wp_make rfl (.tmp 34) 22 rfl 2 (.int .i64 0) 8 Try.underlying22 Try.info2 rfl AN .i64 _ rfl rfl (by omega) (by unfold maxLen; omega) ?_; intro w1 hrow hbel))
  obtain ⟨GR, hGR⟩ : ∃ G, w.heap.size = G := ⟨_, rfl⟩
  have R0 : Hid (Rw w1 GR AN (rstL S (L + 1) (1 * n))) := Lib.hid (by rw [H0.out, ← hGR]; exact rw_zero hrow)
  have B0 : Hid (Below GR w w1) := Lib.hid (by rw [← hGR]; exact hbel)
  have hgR : g < GR := by omega
  have HGR := Lib.hid hGR
  rw [hGR]
  clear hrow hbel hGR wAN wp hp H0
  go_loopw [9, 10, 11, 12, 13] (fun i _ _ _ _ wr => ∃ x : Nat, 1 ≤ x ∧ x ≤ L + 1 ∧ i = .int .i64 x ∧ Rw wr GR AN (rstL S (L + 1) (x * n)) ∧ Below GR w wr) (fun i _ _ _ _ _ => L + 1 - (intOf i).toNat)
  case atStart => exact ⟨1, by omega, by omega, rfl, R0.out, B0.out⟩
  case round =>
    obtain ⟨x, x1, x2, rfl, hro, hbk⟩ := hrel
    have HO := Lib.hid hro; have HBk := Lib.hid hbk
    clear hro hbk R0 B0
    by_cases hlt : x ≤ L
    · go_wp2
      obtain ⟨wo, rfl⟩ : ∃ wo : World, wo = wr := ⟨_, rfl⟩
      go_loopw [10, 11, 12, 13] (fun i _ _ _ w3 => ∃ l : Nat, l ≤ n ∧ i = .int .i64 l ∧ Rw w3 GR AN (rstL S (L + 1) (x * n + l)) ∧ Below GR w w3) (fun i _ _ _ _ => n - (intOf i).toNat)
      case atStart => exact ⟨0, by omega, rfl, HO.out, HBk.out⟩
      case round =>
        obtain ⟨l, hl, rfl, hro, hbk⟩ := hrel
        have HO2 := Lib.hid hro; have HB2 := Lib.hid hbk
        clear hro hbk
        by_cases hll : l < n
        · go_wp2
          obtain ⟨wq, rfl⟩ : ∃ wq : World, wq = wr := ⟨_, rfl⟩
          have hwr1 : ∀ w3 : World, Dr wq w3 → Rd w3 g 0 cs := fun w3 h => (HJ.out.below HB2.out hgR).dr' h
          have HRD := Lib.hid hwr1
          clear hwr1
          go_loopw [11, 12, 13] (fun b i _ w3 => ∃ k : Nat, k ≤ n ∧ i = .int .i64 k ∧ b = .int .i64 (S.foldK S.R x l k) ∧ Dr wq w3) (fun _ i _ _ => n - (intOf i).toNat)
          case atStart => exact ⟨0, by omega, rfl, rfl, .refl _⟩
          case round =>
            obtain ⟨k, hk, rfl, rfl, hd⟩ := hrel
            have HD := Lib.hid hd
            clear hd
            by_cases hkl : k < n
            · obtain ⟨B, hB, B1, B2, hB2, hband, hyes, hno⟩ := HBIT.out x k hlt hkl
              have wB : IntKind.i64.wrap (B : Int) = (B : Int) := IntWalk.i64_in _ (by omega)
              have wB2 : IntKind.i64.wrap ((2 : Int) ^ k) = (B : Int) := by rw [hB2]; exact wB
              have HB0 := Lib.hid hB
              cases hh : Sets.has x k with
              | false =>
                rw [hh] at hband
                have hba : bits .and .i64 ((x : Int) / (B : Int)) 1 = 0 := by simpa using hband
                have hstep : S.foldK S.R x l (k + 1) = S.foldK S.R x l k := by simp only [Sets.Chg.foldK, hh]; rfl
                have HS := Lib.hid hstep
                clear hB hyes hno hband hstep hh
                go_wp2
                go_roundw
                case rel => exact ⟨k + 1, by omega, by go_num, by rw [HS.out], HD.out⟩
                case measure => simp [intOf]; omega
              | true =>
                rw [hh] at hband
                have hba : bits .and .i64 ((x : Int) / (B : Int)) 1 = 1 := by simpa using hband
                obtain ⟨hBx, hbn⟩ := hyes hh
                obtain ⟨xb, hxb⟩ : ∃ xb, x - B = xb := ⟨_, rfl⟩
                rw [hxb] at hbn
                obtain ⟨p1, y1, v1, wp1, p1b, hy1, wy1, yn1, c1, hw1, v10, v11⟩ := HCELL.out wr (HRD.out _ HD.out) l k hll hkl
                obtain ⟨p2, y2, hp2, wp2, hy2, y2n, p2b, wy2⟩ := HLIN.out xb k (by omega) hkl
                have hlt2 : xb * n + k < x * n + l := by
                  have : (xb + 1) * n ≤ x * n := Nat.mul_le_mul_right _ (by omega)
                  rw [Nat.add_mul, Nat.one_mul] at this; omega
                have c2 := (HO2.out.dr HD.out).cell (xb * n + k) (by rw [HLEN.out]; omega)
                rw [HGET.out _ _ _ hkl hlt2 (by omega), hp2, hy2] at c2
                obtain ⟨r0, r1⟩ := HRB.out xb k (by omega) hkl
                obtain ⟨f0, f1⟩ := HFB.out x l k hlt hll hk
                have hcand : S.cand S.R x l k = v1 + S.R xb k := by
                  unfold Sets.Chg.cand; rw [hw1, HB0.out, hxb]
                have hstep : S.foldK S.R x l (k + 1) = if S.foldK S.R x l k < 0 ∨ v1 + S.R xb k < S.foldK S.R x l k then v1 + S.R xb k else S.foldK S.R x l k := by
                  simp only [Sets.Chg.foldK, hh, if_true, hcand]
                have HS := Lib.hid hstep
                clear hB hyes hno hband hstep hh hcand hw1 hp2 hy2 hy1 hxb hlt2
                generalize S.R xb k = r at *
                generalize S.foldK S.R x l k = f at *
                have ws : IntKind.i64.wrap (v1 + r) = v1 + r := IntWalk.i64_in _ (by omega)
                by_cases hf : f < 0
                · go_wp2
                  go_quiet (fail)
                  go_wp2
                  go_roundw
                  case rel => exact ⟨k + 1, by omega, by go_num, by rw [HS.out, if_pos (.inl hf)], HD.out.drewN _⟩
                  case measure => simp [intOf]; omega
                · by_cases hf2 : v1 + r < f
                  · go_wp2
                    go_quiet (fail)
                    go_wp2
                    go_roundw
                    case rel => exact ⟨k + 1, by omega, by go_num, by rw [HS.out, if_pos (.inr hf2)], HD.out.drewN _⟩
                    case measure => simp [intOf]; omega
                  · go_wp2
                    go_quiet (fail)
                    go_wp2
                    go_roundw
                    case rel => exact ⟨k + 1, by omega, by go_num, by rw [HS.out, if_neg (by omega)], HD.out.drewN _⟩
                    case measure => simp [intOf]; omega
            · obtain rfl : k = n := by omega
              obtain ⟨p2, y2, hp2, wp2, hy2, y2n, p2b, wy2⟩ := HLIN.out x l hlt hll
              have hset := HSET.out x l hll (by omega)
              have hro3 := (HO2.out.dr HD.out)
              have c2 := hro3.cell y2 (by rw [HLEN.out]; exact y2n)
              have c3 := hro3.free y2
              have hnew := hro3.set (x * k + l) (S.R x l)
              obtain ⟨NL, hNL⟩ : ∃ N, rstL S (L + 1) (x * k + l + 1) = N := ⟨_, rfl⟩
              rw [hset, hNL, hp2, hy2] at hnew
              have HNEW := Lib.hid hnew; have HNL := Lib.hid hNL
              have HBW : Hid (Below GR w wr) := Lib.hid (HB2.out.trans HD.out.below)
              rw [HREQ.out x l (by omega)]
              clear hset hro3 hnew hp2 hy2 hNL
              generalize S.R x l = r at *
              go_wp2
              go_roundw
              case rel => exact ⟨l + 1, by omega, by go_num, (by show Rw _ _ _ (rstL S (L + 1) (x * k + l + 1)); rw [HNL.out]; exact HNEW.out), HBW.out.setCell (p := ⟨GR, y2, none⟩) (Nat.le_refl _) _⟩
              case measure => simp [intOf]; omega
        · obtain rfl : l = n := by omega
          have hx1 : Rw wr GR AN (rstL S (L + 1) ((x + 1) * l)) := by rw [Nat.add_mul, Nat.one_mul]; exact HO2.out
          have HX1 := Lib.hid hx1; clear hx1
          go_wp2
          go_roundw
          case rel => exact ⟨x + 1, by omega, by omega, by go_num, HX1.out, HB2.out⟩
          case measure => simp [intOf]; omega
    · have hxL : x = L + 1 := by omega
      have HO' : Hid (Rw wr GR AN (rstL S (L + 1) ((L + 1) * n))) := Lib.hid (by have := HO.out; rw [hxL] at this; exact this)
      clear hxL
      clear HO
      have HO := HO'
      clear HO'
      go_wp2
      obtain ⟨wq, rfl⟩ : ∃ wq : World, wq = wr := ⟨_, rfl⟩
      have hwr1 : ∀ w3 : World, Below GR w w3 → Rd w3 g 0 cs := fun w3 h => HJ.out.below h hgR
      have HRD := Lib.hid hwr1
      have hcl : ∀ w3 : World, Rw w3 GR AN (rstL S (L + 1) ((L + 1) * n)) → ∀ xb k, xb ≤ L → k < n → ∃ (p2 y2 : Nat), IntKind.i64.wrap ((xb : Int) * (n : Int)) = (p2 : Int) ∧ y2 < AN ∧ p2 ≤ 10240 ∧ IntKind.i64.wrap ((p2 : Int) + (k : Int)) = (y2 : Int) ∧ w3.cell? ⟨GR, y2, none⟩ = some (.int .i64 (S.R xb k)) ∧ 0 ≤ S.R xb k ∧ S.R xb k ≤ 10240000 := by
        intro w3 h3 xb k hxb hkl
        obtain ⟨p2, y2, hp2, wp2, hy2, y2n, p2b, wy2⟩ := HLIN.out xb k hxb hkl
        have hlt2 : xb * n + k < (L + 1) * n := by rw [HAN.out]; omega
        have c2 := h3.cell (xb * n + k) (by rw [HLEN.out]; omega)
        rw [HGET.out _ _ _ hkl hlt2 (by omega), hp2, hy2] at c2
        exact ⟨p2, y2, wp2, y2n, p2b, wy2, c2, HRB.out xb k hxb hkl⟩
      have HCL := Lib.hid hcl
      clear hwr1 hcl
      go_loopw [14, 15, 16] (fun b i _ w3 => ∃ k : Nat, k ≤ n ∧ i = .int .i64 k ∧ b = .int .i64 (S.firstK k) ∧ Dr wq w3) (fun _ i _ _ => n - (intOf i).toNat)
      case atStart => exact ⟨0, by omega, rfl, rfl, .refl _⟩
      case round =>
        obtain ⟨k, hk, rfl, rfl, hd⟩ := hrel
        have HD := Lib.hid hd
        clear hd
        have HB3 : Hid (Below GR w wr) := Lib.hid (HBk.out.trans HD.out.below)
        have HO3 := Lib.hid (HO.out.dr HD.out)
        by_cases hkl : k < n
        · obtain ⟨B, hB, B1, B2, hB2, hband, hyes, hno⟩ := HBIT.out L k (Nat.le_refl _) hkl
          have wB : IntKind.i64.wrap (B : Int) = (B : Int) := IntWalk.i64_in _ (by omega)
          have wB2 : IntKind.i64.wrap ((2 : Int) ^ k) = (B : Int) := by rw [hB2]; exact wB
          have hh : Sets.has L k = true := by rw [← HALL.out]; exact S.all_has (by rw [HSN.out]; exact hkl)
          obtain ⟨hBx, hbn⟩ := hyes hh
          obtain ⟨xb, hxb⟩ : ∃ xb, L - B = xb := ⟨_, rfl⟩
          rw [hxb] at hbn
          obtain ⟨p1, y1, v1, wp1, p1b, hy1, wy1, yn1, c1, hw1, v10, v11⟩ := HCELL.out wr (HRD.out _ HB3.out) k k hkl hkl
          obtain ⟨p2, y2, wp2, y2n, p2b, wy2, c2, r0, r1⟩ := HCL.out wr HO3.out xb k (by omega) hkl
          obtain ⟨f0, f1⟩ := HF1.out k hk
          have hcand : S.cand S.R S.all k k = v1 + S.R xb k := by
            unfold Sets.Chg.cand; rw [hw1, hB, HALL.out, hxb]
          have hstep : S.firstK (k + 1) = if S.firstK k < 0 ∨ v1 + S.R xb k < S.firstK k then v1 + S.R xb k else S.firstK k := by
            simp only [Sets.Chg.firstK, hcand]
          have HS := Lib.hid hstep
          clear hB hyes hno hband hstep hh hcand hw1 hy1 hxb
          generalize S.R xb k = r at *
          generalize S.firstK k = f at *
          have ws : IntKind.i64.wrap (v1 + r) = v1 + r := IntWalk.i64_in _ (by omega)
          by_cases hf : f < 0
          · go_wp2
            go_quiet (fail)
            go_wp2
            go_roundw
            case rel => exact ⟨k + 1, by omega, by go_num, by rw [HS.out, if_pos (.inl hf)], HD.out.drewN _⟩
            case measure => simp [intOf]; omega
          · by_cases hf2 : v1 + r < f
            · go_wp2
              go_quiet (fail)
              go_wp2
              go_roundw
              case rel => exact ⟨k + 1, by omega, by go_num, by rw [HS.out, if_pos (.inr hf2)], HD.out.drewN _⟩
              case measure => simp [intOf]; omega
            · go_wp2
              go_quiet (fail)
              go_wp2
              go_roundw
              case rel => exact ⟨k + 1, by omega, by go_num, by rw [HS.out, if_neg (by omega)], HD.out.drewN _⟩
              case measure => simp [intOf]; omega
        · obtain rfl : k = n := by omega
          have hF := HF1.out k (Nat.le_refl _)
          obtain ⟨F, hFF⟩ : ∃ F, S.firstK k = F := ⟨_, rfl⟩
          rw [hFF] at hF ⊢
          obtain ⟨hF0, hF1⟩ := hF
          have HFF := Lib.hid hFF
          clear hFF hlt hk hkl
          have hst0 : (S.st 0).out = [] ∧ ((S.st 0).left : Int) = L ∧ F - (S.st 0).rem = 0 := ⟨rfl, by rw [← HALL.out]; rfl, by rw [← HFF.out, ← HSN.out]; show S.firstK S.n - S.firstK S.n = 0; omega⟩
          have HST0 := Lib.hid hst0
          clear hst0
          have R00 := Lib.hid (rw_nil (row_fresh wr))
          have hR1 : Rw (wr.alloc (.cells #[] 2)) GR AN (rstL S (L + 1) ((L + 1) * k)) := HO3.out.alloc _
          have hB1 : Below GR w (wr.alloc (.cells #[] 2)) := HB3.out.alloc (by have := HO3.out.lt; omega) _
          have hGlt := HO3.out.lt
          have HR1 := Lib.hid hR1; have HB1 := Lib.hid hB1
          clear hR1 hB1
          go_wp2
          go_loopw [17, 18, 19, 20, 21, 22] (fun o cst lf _ _ _ w3 => ∃ s G cap : Nat, s ≤ k ∧ o = .slice (some ⟨G, 0, none⟩) s cap ∧ cst = .int .i64 (F - (S.st s).rem) ∧ lf = .int .i64 ((S.st s).left : Int) ∧ Rw w3 G cap (S.st s).out ∧ Rw w3 GR AN (rstL S (L + 1) ((L + 1) * k)) ∧ GR ≠ G ∧ GR ≤ G ∧ Below GR w w3) (fun o _ _ _ _ _ _ => k - lenOf o)
          case atStart => exact ⟨0, _, 0, by omega, rfl, by rw [HST0.out.2.2], by rw [HST0.out.2.1], by rw [HST0.out.1]; exact R00.out, HR1.out, by omega, by omega, HB1.out⟩
          case round =>
            obtain ⟨s, G, cap, hs, rfl, rfl, rfl, hos, hro, hne, hGG, hbk⟩ := hrel
            obtain ⟨q1, q2, q3, q4, q5, q6, q7⟩ := HST.out s hs
            have HOS := Lib.hid hos; have HO4 := Lib.hid hro; have HB4 := Lib.hid hbk
            have HLO := Lib.hid q1; have HLAST := Lib.hid q2
            clear hos hro hbk R00 HR1 HB1 q1 q2
            by_cases hsl : s < k
            · obtain ⟨a1, a2, a3⟩ := q7 (by rw [HSN.out]; exact hsl)
              have hlf := q6 (by rw [HSN.out]; exact hsl)
              have hs1 : (S.st (s + 1)).out = (S.st s).out ++ [((S.pick (S.st s) S.n 0 : Nat) : Int)] ∧ (S.st (s + 1)).left = (S.st s).left - 2 ^ (S.pick (S.st s) S.n 0) ∧ (S.st (s + 1)).rem = (S.st s).rem - S.toll (S.st s) (S.pick (S.st s) S.n 0) := ⟨rfl, rfl, rfl⟩
              have hgood : ∀ i, S.good (S.st s) i = (Sets.has (S.st s).left i && decide (S.toll (S.st s) i + S.R ((S.st s).left - 2 ^ i) i = (S.st s).rem)) := fun i => rfl
              have htoll : ∀ i, S.toll (S.st s) i = if (S.st s).out = [] then S.w i i else S.w ((S.st s).out.getD ((S.st s).out.length - 1) 0).toNat i := fun i => rfl
              have HS1 := Lib.hid hs1; have HGOOD := Lib.hid hgood; have HTOLL := Lib.hid htoll; have HA3 := Lib.hid a3; have HA2 := Lib.hid a2
              have HSNp : Hid (S.n = k) := HSN
              generalize (S.st s).left = lf at *
              generalize (S.st s).rem = rm at *
              generalize (S.st s).out = os at *
              generalize S.pick (S.st s) S.n 0 = pk at *
              have a1 : pk < k := by have := HSN.out; omega
              have HTE : Hid (∀ i, S.toll (S.st s) i = S.toll ⟨os, lf, rm⟩ i) := Lib.hid (fun i => by rw [HTOLL.out]; rfl)
              clear hs1 hgood htoll a2 a3 q5 q6 q7
              have lf0 : ((lf : Int) == 0) = false := by simp; exact hlf
              have lf1 : ((lf : Int) != 0) = true := by simp; exact hlf
              obtain ⟨q4a, q4b⟩ := q4
              go_wp2
              obtain ⟨wz, rfl⟩ : ∃ wz : World, wz = wr := ⟨_, rfl⟩
              go_loopw [17, 18, 19, 20, 21, 22] (fun o cst lfv i _ _ w3 => ∃ q : Nat, q ≤ pk ∧ o = .slice (some ⟨G, 0, none⟩) s cap ∧ cst = .int .i64 (F - rm) ∧ lfv = .int .i64 (lf : Int) ∧ i = .int .i64 q ∧ wz = w3) (fun _ _ _ i _ _ _ => k - (intOf i).toNat)
              case atStart => exact ⟨0, by omega, rfl, rfl, rfl, rfl, by first | exact trivial | rfl⟩
              case round =>
                obtain ⟨q, hq, rfl, rfl, rfl, rfl, rfl⟩ := hrel
                have hqk : q < k := by omega
                obtain ⟨B, hB, B1, B2, hB2, hband, hyes, hno⟩ := HBIT.out lf q q3 hqk
                have wB : IntKind.i64.wrap (B : Int) = (B : Int) := IntWalk.i64_in _ (by omega)
                have wB2 : IntKind.i64.wrap ((2 : Int) ^ q) = (B : Int) := by rw [hB2]; exact wB
                by_cases hs0 : s = 0
                · subst hs0
                  by_cases hqp : q = pk
                  · subst hqp
                    have hg2 := HA2.out
                    rw [HGOOD.out, Bool.and_eq_true, decide_eq_true_eq, hB] at hg2
                    obtain ⟨hh, hg2⟩ := hg2
                    obtain ⟨hBx, hbn⟩ := hyes hh
                    obtain ⟨xb, hxb⟩ : ∃ xb, lf - B = xb := ⟨_, rfl⟩
                    rw [hxb] at hbn hg2
                    have HB0 := Lib.hid hB; have HXB := Lib.hid hxb
                    obtain ⟨p2, y2, wp2, y2n, p2b, wy2, c2, r0, r1⟩ := HCL.out _ HO4.out xb q (by omega) hqk
                    have hne1 : ((xb : Int) == (lf : Int)) = false := by simp; omega
                    have hne2 : xb < lf := by omega
                    obtain ⟨p1, y1, v, wp1, p1b, hy1, wy1, yn1, c1, hw1, v10, v11⟩ := HCELL.out _ (HRD.out _ HB4.out) q q hqk hqk
                    have htl : S.toll ⟨os, lf, rm⟩ q = v := by
                      have : os = [] := List.length_eq_zero_iff.1 HLO.out
                      unfold Sets.Chg.toll; rw [if_pos this]; exact hw1
                    have HTL := Lib.hid htl
                    clear hw1 hy1 htl
                    rw [HTE.out, HTL.out] at hg2
                    generalize S.R xb q = r at *
                    have e1 : v + r ≤ rm := by omega
                    have e2 : rm ≤ v + r := by omega
                    have hq1 : ((F - rm + v + r) == F) = true := by simp; omega
                    clear hg2 hB hyes hno hband hh hxb
                    go_wp2_with (at_builtin; go_loud (refine push_int _ rfl _ _ rfl G cap os _ (q : Nat) (by rfl) HLO.out HOS.out (by rfl) (by omega) ?_); intro G' cap' w4 hO4 htc hat; obtain ⟨hb4, hG4, hrest⟩ := push_rest (by rw [HGR.out]; exact HB4.out) (by rw [HGR.out]; exact hGG) HOS.out.lt htc hat; obtain ⟨hF4, hne4⟩ := hrest _ _ _ HO4.out hne; have HO5 := Lib.hid hO4; have HF5 := Lib.hid hF4; have HB5 := Lib.hid hb4; clear hO4 htc hat hrest hF4 hb4)
                    go_roundw
                    case rel => exact ⟨0 + 1, G', cap', by omega, rfl, by rw [HS1.out.2.2, HTE.out, HTL.out]; go_num, by rw [HS1.out.2.1, HB0.out, HXB.out], by rw [HS1.out.1]; exact HO5.out, HF5.out, hne4, by rw [← HGR.out]; exact hG4, by rw [← HGR.out]; exact HB5.out⟩
                    case measure => simp [lenOf]; omega
                  · have hng := HA3.out q (by omega)
                    rw [HGOOD.out, hB] at hng
                    cases hh : Sets.has lf q with
                    | false =>
                      have hbn := hno hh
                      clear hng hB hyes hno hband hh
                      go_wp2
                      go_roundw
                      case rel => exact ⟨q + 1, by omega, rfl, rfl, rfl, by go_num, by first | exact trivial | rfl⟩
                      case measure => simp [intOf]; omega
                    | true =>
                      rw [hh, Bool.true_and, decide_eq_false_iff_not] at hng
                      obtain ⟨hBx, hbn⟩ := hyes hh
                      obtain ⟨xb, hxb⟩ : ∃ xb, lf - B = xb := ⟨_, rfl⟩
                      rw [hxb] at hbn hng
                      obtain ⟨p2, y2, wp2, y2n, p2b, wy2, c2, r0, r1⟩ := HCL.out _ HO4.out xb q (by omega) hqk
                      have hne1 : ((xb : Int) == (lf : Int)) = false := by simp; omega
                      have hne2 : xb < lf := by omega
                      obtain ⟨p1, y1, v, wp1, p1b, hy1, wy1, yn1, c1, hw1, v10, v11⟩ := HCELL.out _ (HRD.out _ HB4.out) q q hqk hqk
                      have htl : S.toll ⟨os, lf, rm⟩ q = v := by
                        have : os = [] := List.length_eq_zero_iff.1 HLO.out
                        unfold Sets.Chg.toll; rw [if_pos this]; exact hw1
                      have HTL := Lib.hid htl
                      clear hw1 hy1 htl
                      rw [HTE.out, HTL.out] at hng
                      generalize S.R xb q = r at *
                      have hq1 : ((F - rm + v + r) == F) = false := by simp; omega
                      have hq2 : (F - rm + v + r == F) = false := hq1
                      rcases (by omega : v + r < rm ∨ rm < v + r) with hlt' | hlt'
                      · clear hng hB hyes hno hband hh hxb
                        go_wp2
                        go_roundw
                        case rel => exact ⟨q + 1, by omega, rfl, rfl, rfl, by go_num, by first | exact trivial | rfl⟩
                        case measure => simp [intOf]; omega
                      · clear hng hB hyes hno hband hh hxb
                        go_wp2
                        go_roundw
                        case rel => exact ⟨q + 1, by omega, rfl, rfl, rfl, by go_num, by first | exact trivial | rfl⟩
                        case measure => simp [intOf]; omega
                · have hs00 : 0 < s := by omega
                  by_cases hqp : q = pk
                  · subst hqp
                    have hg2 := HA2.out
                    rw [HGOOD.out, Bool.and_eq_true, decide_eq_true_eq, hB] at hg2
                    obtain ⟨hh, hg2⟩ := hg2
                    obtain ⟨hBx, hbn⟩ := hyes hh
                    obtain ⟨xb, hxb⟩ : ∃ xb, lf - B = xb := ⟨_, rfl⟩
                    rw [hxb] at hbn hg2
                    have HB0 := Lib.hid hB; have HXB := Lib.hid hxb
                    obtain ⟨p2, y2, wp2, y2n, p2b, wy2, c2, r0, r1⟩ := HCL.out _ HO4.out xb q (by omega) hqk
                    have hne1 : ((xb : Int) == (lf : Int)) = false := by simp; omega
                    have hne2 : xb < lf := by omega
                    obtain ⟨p1, y1, v1, wp1, p1b, hy1, wy1, yn1, c1, hw1, v10, v11⟩ := HCELL.out _ (HRD.out _ HB4.out) q q hqk hqk
                    obtain ⟨p, hp, hpn⟩ := HLAST.out (s - 1) (by omega)
                    have co := HOS.out.cell (s - 1) (by rw [HLO.out]; omega)
                    rw [hp] at co
                    rw [HSN.out] at hpn
                    obtain ⟨p3, y3, v, wp3, p3b, hy3, wy3, yn3, c3, hw3, v30, v31⟩ := HCELL.out _ (HRD.out _ HB4.out) p q hpn hqk
                    have htl : S.toll ⟨os, lf, rm⟩ q = v := by
                      have : os ≠ [] := fun e => by have := HLO.out; rw [e] at this; simp at this; omega
                      unfold Sets.Chg.toll; rw [if_neg this]; show S.w (os.getD (os.length - 1) 0).toNat q = v
                      rw [HLO.out, hp, Int.toNat_natCast]; exact hw3
                    have HTL := Lib.hid htl
                    have hs1' : (s : Int) - 1 = ((s - 1 : Nat) : Int) := by omega
                    generalize s - 1 = sp at *
                    clear hw1 hy1 hw3 hy3 hp htl
                    rw [HTE.out, HTL.out] at hg2
                    generalize S.R xb q = r at *
                    have e1 : v + r ≤ rm := by omega
                    have e2 : rm ≤ v + r := by omega
                    have hq1 : ((F - rm + v + r) == F) = true := by simp; omega
                    clear hg2 hB hyes hno hband hh hxb
                    go_wp2_with (at_builtin; refine push_int _ rfl _ _ rfl G cap os s (q : Nat) (by rfl) HLO.out HOS.out (by rfl) (by omega) ?_; intro G' cap' w4 hO4 htc hat; obtain ⟨hb4, hG4, hrest⟩ := push_rest (by rw [HGR.out]; exact HB4.out) (by rw [HGR.out]; exact hGG) HOS.out.lt htc hat; obtain ⟨hF4, hne4⟩ := hrest _ _ _ HO4.out hne; have HO5 := Lib.hid hO4; have HF5 := Lib.hid hF4; have HB5 := Lib.hid hb4; clear hO4 htc hat hrest hF4 hb4)
                    go_roundw
                    case rel => exact ⟨s + 1, G', cap', by omega, rfl, by rw [HS1.out.2.2, HTE.out, HTL.out]; go_num, by rw [HS1.out.2.1, HB0.out, HXB.out], by rw [HS1.out.1]; exact HO5.out, HF5.out, hne4, by rw [← HGR.out]; exact hG4, by rw [← HGR.out]; exact HB5.out⟩
                    case measure => simp [lenOf]; omega
                  · have hng := HA3.out q (by omega)
                    rw [HGOOD.out, hB] at hng
                    cases hh : Sets.has lf q with
                    | false =>
                      have hbn := hno hh
                      clear hng hB hyes hno hband hh
                      go_wp2
                      go_roundw
                      case rel => exact ⟨q + 1, by omega, rfl, rfl, rfl, by go_num, by first | exact trivial | rfl⟩
                      case measure => simp [intOf]; omega
                    | true =>
                      rw [hh, Bool.true_and, decide_eq_false_iff_not] at hng
                      obtain ⟨hBx, hbn⟩ := hyes hh
                      obtain ⟨xb, hxb⟩ : ∃ xb, lf - B = xb := ⟨_, rfl⟩
                      rw [hxb] at hbn hng
                      obtain ⟨p2, y2, wp2, y2n, p2b, wy2, c2, r0, r1⟩ := HCL.out _ HO4.out xb q (by omega) hqk
                      have hne1 : ((xb : Int) == (lf : Int)) = false := by simp; omega
                      have hne2 : xb < lf := by omega
                      obtain ⟨p1, y1, v1, wp1, p1b, hy1, wy1, yn1, c1, hw1, v10, v11⟩ := HCELL.out _ (HRD.out _ HB4.out) q q hqk hqk
                      obtain ⟨p, hp, hpn⟩ := HLAST.out (s - 1) (by omega)
                      have co := HOS.out.cell (s - 1) (by rw [HLO.out]; omega)
                      rw [hp] at co
                      rw [HSN.out] at hpn
                      obtain ⟨p3, y3, v, wp3, p3b, hy3, wy3, yn3, c3, hw3, v30, v31⟩ := HCELL.out _ (HRD.out _ HB4.out) p q hpn hqk
                      have htl : S.toll ⟨os, lf, rm⟩ q = v := by
                        have : os ≠ [] := fun e => by have := HLO.out; rw [e] at this; simp at this; omega
                        unfold Sets.Chg.toll; rw [if_neg this]; show S.w (os.getD (os.length - 1) 0).toNat q = v
                        rw [HLO.out, hp, Int.toNat_natCast]; exact hw3
                      have HTL := Lib.hid htl
                      have hs1' : (s : Int) - 1 = ((s - 1 : Nat) : Int) := by omega
                      generalize s - 1 = sp at *
                      clear hw1 hy1 hw3 hy3 hp htl
                      rw [HTE.out, HTL.out] at hng
                      generalize S.R xb q = r at *
                      have hq1 : ((F - rm + v + r) == F) = false := by simp; omega
                      have hq2 : (F - rm + v + r == F) = false := hq1
                      rcases (by omega : v + r < rm ∨ rm < v + r) with hlt' | hlt'
                      · clear hng hB hyes hno hband hh hxb
                        go_wp2
                        go_roundw
                        case rel => exact ⟨q + 1, by omega, rfl, rfl, rfl, by go_num, by first | exact trivial | rfl⟩
                        case measure => simp [intOf]; omega
                      · clear hng hB hyes hno hband hh hxb
                        go_wp2
                        go_roundw
                        case rel => exact ⟨q + 1, by omega, rfl, rfl, rfl, by go_num, by first | exact trivial | rfl⟩
                        case measure => simp [intOf]; omega
            · obtain rfl : s = k := by omega
              have hz := q5 HSN.out.symm
              have HZ := Lib.hid hz
              rw [hz]
              clear q3 q4 q5 q6 q7 hz hs hsl
              go_wp2
              go_ret3
              have hend := HFIN.out _ _ _ HOS.out (by rw [HGR.out]; exact hGG) (by rw [HGR.out]; exact HB4.out)
              rw [HFF.out] at hend
              exact hend
end Go.Proofs.Ytncmhinpjkkfkaa
