/-
  Walks: the search for the best order: the reference's function. Conditions: none.
-/
import Derived.Test.YtncmhinpjkkfkaaK38
import Derived.Test.YtncmhinpjkkfkaaK35
namespace Go.Proofs.Ytncmhinpjkkfkaa
open Go Go.RowKit
set_option linter.unusedVariables false
set_option linter.unusedSimpArgs false

/-- The table below x, and v at x. -/
def boT (S : Sets.Srch) (L x : Nat) (v : Int) : List Int := (List.range (L + 1)).map fun (p : Nat) => if p < x then S.R p else if p = x then v else 0
theorem boT_len (S : Sets.Srch) (L x : Nat) (v : Int) : (boT S L x v).length = L + 1 := by simp [boT]
theorem boT_zero (S : Sets.Srch) (L : Nat) : boT S L 1 0 = List.replicate (L + 1) 0 := by
  refine List.ext_getElem (by simp [boT]) fun p h1 h2 => ?_
  simp only [boT, List.getElem_map, List.getElem_range, List.getElem_replicate]
  by_cases h : p < 1
  · have : p = 0 := by omega
    subst this; rw [if_pos h]; rfl
  · rw [if_neg h]; split <;> rfl
theorem boT_set (S : Sets.Srch) (L x : Nat) (v u : Int) (hx : x ≤ L) : (boT S L x v).set x u = boT S L x u := by
  refine List.ext_getElem (by simp [boT]) fun p h1 h2 => ?_
  rw [List.getElem_set]
  simp only [boT, List.getElem_map, List.getElem_range]
  by_cases h : x = p
  · subst h; rw [if_pos rfl, if_neg (by omega), if_pos rfl]
  · rw [if_neg h]
    by_cases h3 : p < x
    · rw [if_pos h3, if_pos h3]
    · rw [if_neg h3, if_neg h3, if_neg (by omega), if_neg (by omega)]
theorem boT_next (S : Sets.Srch) (L x : Nat) : boT S L x (S.R x) = boT S L (x + 1) 0 := by
  refine List.ext_getElem (by simp [boT]) fun p h1 h2 => ?_
  simp only [boT, List.getElem_map, List.getElem_range]
  by_cases h3 : p < x
  · rw [if_pos h3, if_pos (by omega)]
  · rw [if_neg h3]
    by_cases h4 : p = x
    · subst h4; rw [if_pos rfl, if_pos (by omega)]
    · rw [if_neg h4, if_neg (by omega)]; split <;> rfl
theorem boT_get (S : Sets.Srch) {L x p : Nat} (v : Int) (h : p < x) (hp : p ≤ L) : (boT S L x v).getD p 0 = S.R p := by
  rw [List.getD_eq_getElem?_getD, List.getElem?_eq_getElem (by rw [boT_len]; omega)]
  simp only [boT, List.getElem_map, List.getElem_range, Option.getD_some]
  rw [if_pos h]
theorem boT_at (S : Sets.Srch) {L x : Nat} (v : Int) (hx : x ≤ L) : (boT S L x v).getD x 0 = v := by
  rw [List.getD_eq_getElem?_getD, List.getElem?_eq_getElem (by rw [boT_len]; omega)]
  simp only [boT, List.getElem_map, List.getElem_range, Option.getD_some]
  rw [if_neg (by omega)]; simp

/-- What is found so far: nothing, or a number. -/
def FoP (o : Option Int) (b : Bool) (v : Int) : Prop := (b = true ∧ o = none ∧ v = 0) ∨ (b = false ∧ o = some v)
theorem FoP.get {o : Option Int} {b : Bool} {v : Int} (h : FoP o b v) : o.getD 0 = v := by
  rcases h with ⟨_, rfl, rfl⟩ | ⟨_, rfl⟩ <;> rfl

/-- What each state of the choice gives. -/
structure BoSt (S : Sets.Srch) (L s : Nat) : Prop where
  len : (S.st s).out.length = s
  lt : (S.st s).left ≤ L
  now0 : 0 ≤ (S.st s).now ∧ (S.st s).now ≤ 100000
  cost0 : -100000000000 ≤ (S.st s).cost ∧ (S.st s).cost ≤ 100000000000
  zero : s = S.n → (S.st s).left = 0
  pos : s < S.n → (S.st s).left ≠ 0
  pick : s < S.n → S.pick (S.st s) S.n 0 < S.n ∧ S.good (S.st s) (S.pick (S.st s) S.n 0) = true ∧ ∀ l, l < S.pick (S.st s) S.n 0 → S.good (S.st s) l = false

theorem boSt {S : Sets.Srch} {L s : Nat} (hL : 2 ^ S.n = L + 1) (hB : Sets.Srch.Bd S) (ha : ∀ a b c, S.B (S.B a b) c = S.B a (S.B b c)) (hs : s ≤ S.n) : BoSt S L s := by
  have n10 := hB.n10
  have ho := Sets.Srch.ok_st (S := S) (by omega) ha s hs
  have hc := Sets.Srch.st_cost hB ha s hs
  refine ⟨ho.len, by have := ho.lt; omega, by rw [ho.now]; exact Sets.Srch.now_bd hB _, by omega, fun h => ?_, fun h h0 => ?_, fun h => ho.first hB ha h⟩
  · have := ho.cnt
    rw [h, Nat.sub_self] at this
    rw [← h] at this
    exact count_zero' (n := S.n) ho.lt (by rw [h] at this ⊢; exact this)
  · have := ho.cnt
    rw [h0, Sets.Srch.count_zero] at this
    omega

theorem boAll (S : Sets.Srch) (s : Nat) : (S.st (s + 1)).out = (S.st s).out ++ [((S.pick (S.st s) S.n 0 : Nat) : Int)] ∧ (S.st (s + 1)).left = (S.st s).left - 2 ^ (S.pick (S.st s) S.n 0) ∧ (S.st (s + 1)).now = (S.st s).now + S.tm (S.pick (S.st s) S.n 0) ∧ (S.st (s + 1)).cost = S.next (S.st s) (S.pick (S.st s) S.n 0) := ⟨rfl, rfl, rfl, rfl⟩

set_option maxHeartbeats 16000000 in
set_option maxRecDepth 100000 in
theorem specBO_yes (w : World) (g n c : Nat) (js : List J) (hn : js.length = n) (hcap : n ≤ c) (hm : n ≤ 1048576) (hj : JRd w g 0 js) (hg : g < w.heap.size) (kind : Int) (xlo : -9223372036854775808 ≤ kind) (xhi : kind ≤ 9223372036854775807) (hc : boB js kind = true) :
    Calls Try.prog 67 #[.slice (some ⟨g, 0, none⟩) n c, .int .i64 kind] w (BoP js kind w) := by
  obtain ⟨hBd, n1, n2, k0, k1, hjb, hfr, hok⟩ := boS_bd hc
  have hfin0 : ∀ w' G cap, Rw w' G cap ((boS js kind).st n).out → w.heap.size ≤ G → Below w.heap.size w w' → BoP js kind w (.returned (.tuple #[.slice (some ⟨G, 0, none⟩) n cap, .int .i64 ((boS js kind).R (boS js kind).all), .bool true])) w' := by
    intro w' G cap h1 h2 h3
    have hl := boL_len' js kind n
    unfold BoP boL boV
    rw [hn]
    exact ⟨G, cap, by rw [hl], h1, h2, h3⟩
  obtain ⟨S, hS⟩ : ∃ S, boS js kind = S := ⟨_, rfl⟩
  have hSn : S.n = n := by rw [← hS]; exact hn
  have hSB : S.B = bothV kind := by rw [← hS]; rfl
  have hSc : ∀ i t, S.c i t = partV kind (jN js i) t := fun i t => by rw [← hS]; rfl
  have hSt : ∀ i, S.tm i = (jN js i).time := fun i => by rw [← hS]; rfl
  rw [hS] at hBd hfin0
  rw [hn] at n1 n2 hok
  have hass : ∀ a b c, S.B (S.B a b) c = S.B a (S.B b c) := by rw [hSB]; exact bothV_assoc kind
  obtain ⟨L, hL⟩ : ∃ L, 2 ^ n = L + 1 := ⟨2 ^ n - 1, by have : 0 < 2 ^ n := Nat.pow_pos (by decide); omega⟩
  have hL1 := pow_le10 n2
  rw [hL] at hL1
  have hp : (2 : Int) ^ n = (L : Int) + 1 := by rw [powI hL]; rfl
  have wp : IntKind.i64.wrap ((2 : Int) ^ n) = (L : Int) + 1 := by rw [hp]; exact IntWalk.i64_in _ (by omega)
  have hall : S.all = L := by unfold Sets.Srch.all; rw [hSn, hL]; omega
  rw [hall] at hfin0
  have hin : inB kind 0 4 = true := by unfold inB; simp; omega
  have hRbd : ∀ y, y ≤ L → -100000000000 ≤ S.R y ∧ S.R y ≤ 100000000000 := fun y a => Sets.Srch.R_bd' hBd (by rw [hSn, hL]; omega)
  have hReq : ∀ x fb fv, x ≠ 0 → FoP (S.foldK S.R (S.now x) x n) fb fv → S.R x = fv := fun x fb fv a h => by
    rw [S.R_eq x a, hSn]; exact h.get
  have hcbd : ∀ i t, i < n → 0 ≤ t → t ≤ 1000000 → -10000000000 ≤ S.c i t ∧ S.c i t ≤ 10000000000 := fun i t a b d => hBd.c i t (by omega) b d
  have hBbd : ∀ a b X : Int, -X ≤ a → a ≤ X → -X ≤ b → b ≤ X → -(2 * X) ≤ bothV kind a b ∧ bothV kind a b ≤ 2 * X := fun a b X p q r t => by
    have := hBd.B a b X X p q r t
    rw [hSB] at this; omega
  have hTbd : ∀ k, k ≤ n → 0 ≤ S.total k ∧ S.total k ≤ 100000 := fun k a => by
    have := Sets.Srch.total_bd hBd k (by omega); omega
  have hSbd : ∀ x k, k ≤ n → 0 ≤ S.sumK x k ∧ S.sumK x k ≤ 100000 ∧ S.sumK x k ≤ S.total k := fun x k a => by
    have := Sets.Srch.sumK_bd hBd x k (by omega)
    have := hTbd k a
    omega
  have hFbd : ∀ x k v, x ≤ L → k ≤ n → S.foldK S.R (S.now x) x k = some v → -100000000000 ≤ v ∧ v ≤ 100000000000 := fun x k v a b d => Sets.Srch.fold_bd hBd (by rw [hSn, hL]; omega) k (by omega) v d
  have hst : ∀ s, s ≤ n → BoSt S L s := fun s a => boSt (by rw [hSn]; exact hL) hBd hass (by omega)
  have hCell : ∀ w1, JRd w1 g 0 js → ∀ k, k < n → ∃ j : J, jN js k = j ∧ JOk j ∧ w1.cell? ⟨g, k * 4, none⟩ = some (.int .i64 j.time) ∧ w1.cell? ⟨g, k * 4 + 1, none⟩ = some (.int .i64 j.rel) ∧ w1.cell? ⟨g, k * 4 + 2, none⟩ = some (.int .i64 j.due) ∧ w1.cell? ⟨g, k * 4 + 3, none⟩ = some (.int .i64 j.wt) ∧ S.tm k = j.time ∧ ∀ t, S.c k t = partV kind j t := by
    intro w1 h1 k hk
    have hk' : k < js.length := by omega
    obtain ⟨c0, c1, c2, c3⟩ := h1 k hk'
    rw [Nat.zero_add] at c0 c1 c2 c3
    have e := jN_eq hk'
    exact ⟨js[k], e, by rw [← e]; exact hok k hk, c0, c1, c2, c3, by rw [hSt, e], fun t => by rw [hSc, e]⟩
  have hBit : ∀ y i, y ≤ L → i < n → ∃ B : Nat, 2 ^ i = B ∧ 1 ≤ B ∧ B ≤ 1024 ∧ (2 : Int) ^ i = (B : Int) ∧ bits .and .i64 ((y : Int) / (B : Int)) 1 = (if Sets.has y i = true then 1 else 0) ∧ (Sets.has y i = true → B ≤ y ∧ bits .andNot .i64 (y : Int) (B : Int) = ((y - B : Nat) : Int)) ∧ (Sets.has y i = false → bits .andNot .i64 (y : Int) (B : Int) = (y : Int)) := by
    intro y i a b
    have e : 2 ^ i ≤ 1024 := pow_le10 (by omega)
    have y62 : y < 2 ^ 62 := Nat.lt_of_le_of_lt (show y ≤ 1023 by omega) (by decide)
    refine ⟨2 ^ i, rfl, Nat.pow_pos (by decide), e, powI rfl, ?_, fun h => ⟨Sets.has_le h, ?_⟩, fun h => ?_⟩
    · have := Sets.and_one y i y62; unfold Sets.bit at this; exact this
    · rw [Sets.bits_andNot _ _ y62 (Sets.pow_lt (by omega)), Sets.andNot_bit _ _ y62 (by omega) h]
    · rw [Sets.bits_andNot _ _ y62 (Sets.pow_lt (by omega)), Sets.andNot_no _ _ y62 (by omega) h]
  have HALL := Lib.hid hall; have HFIN := Lib.hid hfin0; have HRB := Lib.hid hRbd; have HREQ := Lib.hid hReq; have HCB := Lib.hid hcbd; have HBB := Lib.hid hBbd; have HTB := Lib.hid hTbd; have HSBD := Lib.hid hSbd; have HFB := Lib.hid hFbd; have HST := Lib.hid hst; have HCELL := Lib.hid hCell; have HBIT := Lib.hid hBit
  have HN := Lib.hid hn; have HC := Lib.hid hc; have HJ := Lib.hid hj; have HSN := Lib.hid hSn; have HL := Lib.hid hL; have HSB := Lib.hid hSB; have HJB := Lib.hid hjb; have HFR := Lib.hid hfr; have HIN := Lib.hid hin
  clear hall hfin0 hRbd hReq hcbd hBbd hTbd hSbd hFbd hst hCell hBit hn hc hj hSn hL hSB hjb hfr hin hBd hok hSc hSt hass hS hp
  go_enter Try.func67, Try.ntmps67
  go_wp2_with (first
    | (go_at_call 77; refine (l02Jobs_any _ n c js _ HN.out hm (.inr ⟨g, 0, rfl, HJ.out⟩)).mono ?_; rintro e w' ⟨rfl, rfl⟩; rw [HJB.out])
    | (go_at_call 113; refine (l02Free_any g n c js _ HN.out hm HJ.out).mono ?_; rintro e w' ⟨rfl, rfl⟩; rw [HFR.out])
    | (go_at_call 69; refine (l00In_any _ _ _ _).mono ?_; rintro e w' ⟨rfl, rfl⟩; rw [HIN.out]))
  go_loop [9, 10] (fun s i => ∃ k : Nat, k ≤ n ∧ i = .int .i64 k ∧ s = .int .i64 (S.total k)) (fun _ i => n - (intOf i).toNat)
  case atStart => exact ⟨0, by omega, rfl, rfl⟩
  case round =>
    obtain ⟨k, hk, rfl, rfl⟩ := hrel
    obtain ⟨t0, t1⟩ := HTB.out k hk
    by_cases hlt : k < n
    · obtain ⟨⟨ja, jb, jc, jd⟩, hjN, hjo, c0, c1, c2, c3, htm, hcc⟩ := HCELL.out _ HJ.out k hlt
      obtain ⟨a1, a2, a3, a4, a5, a6, a7, a8⟩ := hjo
      simp only at c0 htm a1 a2
      have hs : S.total (k + 1) = S.total k + ja := by rw [← htm]; rfl
      have HS := Lib.hid hs
      clear hs hjN c1 c2 c3 htm hcc
      generalize S.total k = tk at *
      go_wp2
      go_round
      case rel => exact ⟨k + 1, by omega, by go_num, by rw [HS.out]⟩
      case measure => simp [intOf]; omega
    · obtain rfl : k = n := by omega
      have HTOT : Hid (S.total k = S.total S.n) := Lib.hid (by rw [HSN.out])
      obtain ⟨T, hT⟩ : ∃ T, S.total k = T := ⟨_, rfl⟩
      rw [hT] at t0 t1 ⊢
      have HT := Lib.hid hT
      have HSBT : Hid (∀ x i, i ≤ k → 0 ≤ S.sumK x i ∧ S.sumK x i ≤ 100000) := Lib.hid (fun x i a => by have := HSBD.out x i a; omega)
      have HSBN : Hid (∀ x, S.sumK x k ≤ T) := Lib.hid (fun x => by have := HSBD.out x k (Nat.le_refl _); rw [← hT]; omega)
      have HNOW : Hid (∀ x, S.now x = T - S.sumK x k) := Lib.hid (fun x => by unfold Sets.Srch.now; rw [HSN.out, hT])
      clear hT
      go_wp2_with (at_make; refine wp_make rfl (.tmp 63) 22 rfl 2 (.int .i64 0) 8 Try.underlying22 Try.info2 rfl (L + 1) .i64 _ rfl rfl (by omega) (by unfold maxLen; omega) ?_; intro w1 hrow hbel)
      obtain ⟨GR, hGR⟩ : ∃ G, w.heap.size = G := ⟨_, rfl⟩
      have R0 : Hid (Rw w1 GR (L + 1) (boT S L 1 0)) := Lib.hid (by rw [boT_zero, ← hGR]; exact rw_zero hrow)
      have B0 : Hid (Below GR w w1) := Lib.hid (by rw [← hGR]; exact hbel)
      have hgR : g < GR := by omega
      have HGR := Lib.hid hGR
      rw [hGR]
      clear hrow hbel hGR wp
      go_loopw [12, 13, 14, 15, 16, 17, 18] (fun i _ _ _ _ _ _ wr => ∃ x : Nat, 1 ≤ x ∧ x ≤ L + 1 ∧ i = .int .i64 x ∧ Rw wr GR (L + 1) (boT S L x 0) ∧ Below GR w wr) (fun i _ _ _ _ _ _ _ => L + 1 - (intOf i).toNat)
      case atStart => exact ⟨1, by omega, by omega, rfl, R0.out, B0.out⟩
      case round =>
        obtain ⟨x, x1, x2, rfl, hro, hbk⟩ := hrel
        have HO := Lib.hid hro; have HBk := Lib.hid hbk
        clear hro hbk R0 B0
        by_cases hltx : x ≤ L
        · go_wp2
          obtain ⟨wo, rfl⟩ : ∃ wo : World, wo = wr := ⟨_, rfl⟩
          have HJO : Hid (JRd wo g 0 js) := Lib.hid (HJ.out.below HBk.out hgR)
          go_loop [13, 14] (fun s i => ∃ q : Nat, q ≤ k ∧ i = .int .i64 q ∧ s = .int .i64 (S.sumK x q)) (fun _ i => k - (intOf i).toNat)
          case atStart => exact ⟨0, by omega, rfl, rfl⟩
          case round =>
            obtain ⟨q, hq, rfl, rfl⟩ := hrel
            obtain ⟨s0, s1⟩ := HSBT.out x q hq
            by_cases hqk : q < k
            · obtain ⟨⟨ja, jb, jc, jd⟩, hjN, hjo, c0, c1, c2, c3, htm, hcc⟩ := HCELL.out _ HJO.out q hqk
              obtain ⟨a1, a2, a3, a4, a5, a6, a7, a8⟩ := hjo
              simp only at c0 htm a1 a2
              obtain ⟨B, hB, B1, B2, hB2, hband, hyes, hno⟩ := HBIT.out x q hltx hqk
              have wB : IntKind.i64.wrap (B : Int) = (B : Int) := IntWalk.i64_in _ (by omega)
              have wB2 : IntKind.i64.wrap ((2 : Int) ^ q) = (B : Int) := by rw [hB2]; exact wB
              cases hh : Sets.has x q with
              | false =>
                rw [hh] at hband
                have hba : bits .and .i64 ((x : Int) / (B : Int)) 1 = 0 := by simpa using hband
                have hs : S.sumK x (q + 1) = S.sumK x q := by simp only [Sets.Srch.sumK, hh]; rfl
                have HS := Lib.hid hs
                clear hs hjN c0 c1 c2 c3 htm hcc hB hband hyes hno hh
                generalize S.sumK x q = sq at *
                go_wp2
                go_round
                case rel => exact ⟨q + 1, by omega, by go_num, by rw [HS.out]⟩
                case measure => simp [intOf]; omega
              | true =>
                rw [hh] at hband
                have hba : bits .and .i64 ((x : Int) / (B : Int)) 1 = 1 := by simpa using hband
                have hs : S.sumK x (q + 1) = S.sumK x q + ja := by simp only [Sets.Srch.sumK, hh, if_true, htm]
                have HS := Lib.hid hs
                clear hs hjN c1 c2 c3 htm hcc hB hband hyes hno hh
                generalize S.sumK x q = sq at *
                go_wp2
                go_round
                case rel => exact ⟨q + 1, by omega, by go_num, by rw [HS.out]⟩
                case measure => simp [intOf]; omega
            · obtain rfl : q = k := by omega
              have sT := HSBN.out x
              have hnow := HNOW.out x
              obtain ⟨sx, hsx⟩ : ∃ s, S.sumK x q = s := ⟨_, rfl⟩
              rw [hsx] at s0 s1 sT hnow ⊢
              have HNX := Lib.hid hnow
              clear hsx hnow hqk hq
              go_wp2
              go_loopw [15, 16, 17, 18] (fun f i _ _ w3 => ∃ (k : Nat) (fb : Bool) (fv : Int), k ≤ q ∧ i = .int .i64 k ∧ f = .bool fb ∧ FoP (S.foldK S.R (S.now x) x k) fb fv ∧ Rw w3 GR (L + 1) (boT S L x fv) ∧ Below GR w w3) (fun _ i _ _ _ => q - (intOf i).toNat)
              case atStart => exact ⟨0, true, 0, by omega, rfl, rfl, .inl ⟨rfl, rfl, rfl⟩, HO.out, HBk.out⟩
              case round =>
                obtain ⟨k, fb, fv, hk, rfl, rfl, hfo, hro, hbk⟩ := hrel
                have HF := Lib.hid hfo; have HO2 := Lib.hid hro; have HB2 := Lib.hid hbk
                clear hfo hro hbk
                by_cases hkl : k < q
                · obtain ⟨⟨ja, jb, jc, jd⟩, hjN, hjo, c0, c1, c2, c3, htm, hcc⟩ := HCELL.out _ (HJ.out.below HB2.out hgR) k hkl
                  have HJO1 := Lib.hid hjo
                  obtain ⟨a1, a2, a3, a4, a5, a6, a7, a8⟩ := hjo
                  simp only at c0 c1 c2 c3 htm a1 a2
                  obtain ⟨B, hB, B1, B2, hB2, hband, hyes, hno⟩ := HBIT.out x k hltx hkl
                  have wB : IntKind.i64.wrap (B : Int) = (B : Int) := IntWalk.i64_in _ (by omega)
                  have wB2 : IntKind.i64.wrap ((2 : Int) ^ k) = (B : Int) := by rw [hB2]; exact wB
                  cases hh : Sets.has x k with
                  | false =>
                    rw [hh] at hband
                    have hba : bits .and .i64 ((x : Int) / (B : Int)) 1 = 0 := by simpa using hband
                    have hs : FoP (S.foldK S.R (S.now x) x (k + 1)) fb fv := by simp only [Sets.Srch.foldK, hh]; exact HF.out
                    have HS := Lib.hid hs
                    clear hs hjN c0 c1 c2 c3 htm hcc hB hband hyes hno hh
                    go_wp2
                    go_roundw
                    case rel => exact ⟨k + 1, fb, fv, by omega, by go_num, rfl, HS.out, HO2.out, HB2.out⟩
                    case measure => simp [intOf]; omega
                  | true =>
                    rw [hh] at hband
                    have hba : bits .and .i64 ((x : Int) / (B : Int)) 1 = 1 := by simpa using hband
                    obtain ⟨hBx, hbn⟩ := hyes hh
                    obtain ⟨xb, hxb⟩ : ∃ xb, x - B = xb := ⟨_, rfl⟩
                    rw [hxb] at hbn
                    have hxl : xb < x := by omega
                    have hcand : S.cand S.R (S.now x) x k = if xb = 0 then S.c k (T - sx + ja) else bothV kind (S.c k (T - sx + ja)) (S.R xb) := by
                      unfold Sets.Srch.cand; rw [hB, hxb, HNX.out, htm, HSB.out]
                    obtain ⟨pv, hpv⟩ : ∃ v, S.c k (T - sx + ja) = v := ⟨_, rfl⟩
                    have hpb := HCB.out k (T - sx + ja) (by omega) (by omega) (by omega)
                    have hpe : partV kind ⟨ja, jb, jc, jd⟩ (T - sx + ja) = pv := by rw [← hcc]; exact hpv
                    have cr := HO2.out.cell xb (by rw [boT_len]; omega)
                    rw [boT_get S fv hxl (by omega)] at cr
                    have cx := HO2.out.cell x (by rw [boT_len]; omega)
                    rw [boT_at S fv hltx] at cx
                    have cf := HO2.out.free x
                    obtain ⟨r0, r1⟩ := HRB.out xb (by omega)
                    rw [hpv] at hcand hpb
                    obtain ⟨p0, p1⟩ := hpb
                    have hfn : S.foldK S.R (S.now x) x k = none → S.foldK S.R (S.now x) x (k + 1) = some (S.cand S.R (S.now x) x k) := fun h => by simp only [Sets.Srch.foldK, hh, if_true, h]
                    have hfs : ∀ v, S.foldK S.R (S.now x) x k = some v → S.foldK S.R (S.now x) x (k + 1) = if S.cand S.R (S.now x) x k < v then some (S.cand S.R (S.now x) x k) else some v := fun v h => by simp only [Sets.Srch.foldK, hh, if_true, h]
                    have HFN := Lib.hid hfn; have HFS := Lib.hid hfs; have HCAND := Lib.hid hcand
                    obtain ⟨r, hr⟩ : ∃ r, S.R xb = r := ⟨_, rfl⟩
                    rw [hr] at cr r0 r1
                    have HR := Lib.hid hr
                    have hq1 : ∀ d, Calls Try.prog 118 #[.pointer (some ⟨g, k * 4, none⟩), .int .i64 (T - sx + ja), .int .i64 kind] (wr.drewN d) fun e w'' => e = .returned (.int .i64 pv) ∧ ∃ m, w'' = wr.drewN m := fun d => by
                      rw [← hpe]
                      exact quiet_dr (l02Part_any kind k0 k1 g (k * 4) ⟨ja, jb, jc, jd⟩ (T - sx + ja) _ HJO1.out (by omega) (by omega) c2 c3)
                    have HQ := Lib.hid hq1
                    have ws1 : IntKind.i64.wrap (T - sx) = T - sx := IntWalk.i64_in _ (by omega)
                    have ws2 : IntKind.i64.wrap (T - sx + ja) = T - sx + ja := IntWalk.i64_in _ (by omega)
                    have hput : ∀ w4 (v u : Int), Rw w4 GR (L + 1) (boT S L x v) → Rw (w4.setCell ⟨GR, x, none⟩ (.int .i64 u)) GR (L + 1) (boT S L x u) := fun w4 v u h => by
                      have := h.set x u
                      rw [boT_set S L x v u hltx] at this; exact this
                    have HPUT := Lib.hid hput
                    obtain ⟨b0, b1⟩ := HBB.out pv r 100000000000 (by omega) (by omega) (by omega) (by omega)
                    have hfo := HF.out
                    clear hput hq1 hpe hpv hcc htm hjN c1 c2 c3 hB hband hyes hno hh hxb hcand hfn hfs hr
                    rcases Nat.eq_zero_or_pos xb with hx0 | hx0
                    · subst hx0
                      have hx1 : (((0 : Nat) : Int) != 0) = false := by decide
                      have hcv : S.cand S.R (S.now x) x k = pv := by rw [HCAND.out, if_pos rfl]
                      have HCV := Lib.hid hcv; clear hcv hx1
                      rcases hfo with ⟨rfl, hfo, rfl⟩ | ⟨rfl, hfo⟩
                      · have hs : FoP (S.foldK S.R (S.now x) x (k + 1)) false pv := .inr ⟨rfl, by rw [HFN.out hfo, HCV.out]⟩
                        have HS := Lib.hid hs
                        clear hs hfo
                        go_wp2
                        go_quiet ((go_at_call 118; exact HQ.out _))
                        go_wp2
                        go_roundw
                        case rel => exact ⟨k + 1, false, pv, by omega, by go_num, rfl, HS.out, HPUT.out _ _ _ (HO2.out.dr (.one _ _)), (HB2.out.trans (Dr.below (.one _ _))).setCell (p := ⟨GR, x, none⟩) (Nat.le_refl _) _⟩
                        case measure => simp [intOf]; omega
                      · obtain ⟨f0, f1⟩ := HFB.out x k fv hltx (by omega) hfo
                        by_cases hlt2 : pv < fv
                        · have hs : FoP (S.foldK S.R (S.now x) x (k + 1)) false pv := .inr ⟨rfl, by rw [HFS.out _ hfo, HCV.out]; exact if_pos hlt2⟩
                          have HS := Lib.hid hs
                          clear hs hfo
                          go_wp2
                          go_quiet ((go_at_call 118; exact HQ.out _))
                          go_wp2
                          go_roundw
                          case rel => exact ⟨k + 1, false, pv, by omega, by go_num, rfl, HS.out, HPUT.out _ _ _ (HO2.out.dr (.one _ _)), (HB2.out.trans (Dr.below (.one _ _))).setCell (p := ⟨GR, x, none⟩) (Nat.le_refl _) _⟩
                          case measure => simp [intOf]; omega
                        · have hs : FoP (S.foldK S.R (S.now x) x (k + 1)) false fv := .inr ⟨rfl, by rw [HFS.out _ hfo, HCV.out]; exact if_neg hlt2⟩
                          have HS := Lib.hid hs
                          clear hs hfo
                          go_wp2
                          go_quiet ((go_at_call 118; exact HQ.out _))
                          go_wp2
                          go_roundw
                          case rel => exact ⟨k + 1, false, fv, by omega, by go_num, rfl, HS.out, HO2.out.dr (.one _ _), (HB2.out.trans (Dr.below (.one _ _)))⟩
                          case measure => simp [intOf]; omega
                    · have hx1 : ((xb : Int) != 0) = true := by simp; omega
                      have hcv : S.cand S.R (S.now x) x k = bothV kind pv r := by rw [HCAND.out, if_neg (by omega), HR.out]
                      obtain ⟨cv, hcv'⟩ : ∃ v, bothV kind pv r = v := ⟨_, rfl⟩
                      rw [hcv'] at hcv b0 b1
                      have HCV := Lib.hid hcv; have HCV' := Lib.hid hcv'; clear hcv hcv'
                      rcases hfo with ⟨rfl, hfo, rfl⟩ | ⟨rfl, hfo⟩
                      · have hs : FoP (S.foldK S.R (S.now x) x (k + 1)) false cv := .inr ⟨rfl, by rw [HFN.out hfo, HCV.out]⟩
                        have HS := Lib.hid hs
                        clear hs hfo
                        go_wp2
                        go_quiet ((go_at_call 118; exact HQ.out _))
                        go_wp2_with ((go_at_call 119; refine (l02Both_any kind k0 k1 _ _ _ (by omega) (by omega) (by omega) (by omega)).mono ?_; rintro e w' ⟨rfl, rfl⟩; rw [HCV'.out]))
                        go_roundw
                        case rel => exact ⟨k + 1, false, cv, by omega, by go_num, rfl, HS.out, HPUT.out _ _ _ (HO2.out.dr (.one _ _)), (HB2.out.trans (Dr.below (.one _ _))).setCell (p := ⟨GR, x, none⟩) (Nat.le_refl _) _⟩
                        case measure => simp [intOf]; omega
                      · obtain ⟨f0, f1⟩ := HFB.out x k fv hltx (by omega) hfo
                        by_cases hlt2 : cv < fv
                        · have hs : FoP (S.foldK S.R (S.now x) x (k + 1)) false cv := .inr ⟨rfl, by rw [HFS.out _ hfo, HCV.out]; exact if_pos hlt2⟩
                          have HS := Lib.hid hs
                          clear hs hfo
                          go_wp2
                          go_quiet ((go_at_call 118; exact HQ.out _))
                          go_wp2_with ((go_at_call 119; refine (l02Both_any kind k0 k1 _ _ _ (by omega) (by omega) (by omega) (by omega)).mono ?_; rintro e w' ⟨rfl, rfl⟩; rw [HCV'.out]))
                          go_roundw
                          case rel => exact ⟨k + 1, false, cv, by omega, by go_num, rfl, HS.out, HPUT.out _ _ _ (HO2.out.dr (.one _ _)), (HB2.out.trans (Dr.below (.one _ _))).setCell (p := ⟨GR, x, none⟩) (Nat.le_refl _) _⟩
                          case measure => simp [intOf]; omega
                        · have hs : FoP (S.foldK S.R (S.now x) x (k + 1)) false fv := .inr ⟨rfl, by rw [HFS.out _ hfo, HCV.out]; exact if_neg hlt2⟩
                          have HS := Lib.hid hs
                          clear hs hfo
                          go_wp2
                          go_quiet ((go_at_call 118; exact HQ.out _))
                          go_wp2_with ((go_at_call 119; refine (l02Both_any kind k0 k1 _ _ _ (by omega) (by omega) (by omega) (by omega)).mono ?_; rintro e w' ⟨rfl, rfl⟩; rw [HCV'.out]))
                          go_roundw
                          case rel => exact ⟨k + 1, false, fv, by omega, by go_num, rfl, HS.out, HO2.out.dr (.one _ _), (HB2.out.trans (Dr.below (.one _ _)))⟩
                          case measure => simp [intOf]; omega
                · obtain rfl : k = q := by omega
                  have hR := HREQ.out x fb fv (by omega) HF.out
                  have hfin : Rw wr GR (L + 1) (boT S L (x + 1) 0) := by rw [← boT_next, hR]; exact HO2.out
                  have HFI := Lib.hid hfin
                  clear hR hfin hk
                  go_wp2
                  go_roundw
                  case rel => exact ⟨x + 1, by omega, by omega, by go_num, HFI.out, HB2.out⟩
                  case measure => simp [intOf]; omega
        · have hxL : x = L + 1 := by omega
          have HO' : Hid (Rw wr GR (L + 1) (boT S L (L + 1) 0)) := Lib.hid (by have := HO.out; rw [hxL] at this; exact this)
          clear hxL HO
          have HO := HO'
          clear HO'
          have R00 := Lib.hid (rw_nil (row_fresh wr))
          have HR1 := Lib.hid (HO.out.alloc (.cells #[] 2))
          have HB1 : Hid (Below GR w (wr.alloc (.cells #[] 2))) := Lib.hid (HBk.out.alloc (by have := HO.out.lt; omega) _)
          have hGlt := HO.out.lt
          have hst0 : (S.st 0).out = [] ∧ ((S.st 0).left : Int) = L ∧ (S.st 0).now = 0 ∧ (S.st 0).cost = 0 := ⟨rfl, by rw [← HALL.out]; rfl, rfl, rfl⟩
          have HST0 := Lib.hid hst0
          clear hst0
          go_wp2
          go_loopw [19, 20, 21, 22, 23, 24, 25, 26] (fun o cst nw lf _ _ _ _ w3 => ∃ s G cap : Nat, s ≤ k ∧ o = .slice (some ⟨G, 0, none⟩) s cap ∧ cst = .int .i64 (S.st s).cost ∧ nw = .int .i64 (S.st s).now ∧ lf = .int .i64 ((S.st s).left : Int) ∧ Rw w3 G cap (S.st s).out ∧ Rw w3 GR (L + 1) (boT S L (L + 1) 0) ∧ GR ≠ G ∧ GR ≤ G ∧ Below GR w w3) (fun o _ _ _ _ _ _ _ _ => k - lenOf o)
          case atStart => exact ⟨0, _, 0, by omega, rfl, by rw [HST0.out.2.2.2], by rw [HST0.out.2.2.1], by rw [HST0.out.2.1], by rw [HST0.out.1]; exact R00.out, HR1.out, by omega, by omega, HB1.out⟩
          case round =>
            obtain ⟨s, G, cap, hs, rfl, rfl, rfl, rfl, hos, hro, hne, hGG, hbk⟩ := hrel
            obtain ⟨q1, q3, q4, q5, qz, q6, q7⟩ := HST.out s hs
            have HOS := Lib.hid hos; have HO4 := Lib.hid hro; have HB4 := Lib.hid hbk
            have HLO := Lib.hid q1
            clear hos hro hbk R00 HR1 HB1 q1
            by_cases hsl : s < k
            · obtain ⟨a1, a2, a3⟩ := q7 (by rw [HSN.out]; exact hsl)
              have hlf := q6 (by rw [HSN.out]; exact hsl)
              have hs1 := boAll S s
              have hgood : ∀ i, S.good (S.st s) i = (Sets.has (S.st s).left i && decide (S.whole (S.st s) i = S.R S.all)) := fun i => rfl
              have hnext : ∀ i, S.next (S.st s) i = if s = 0 then S.c i ((S.st s).now + S.tm i) else bothV kind (S.st s).cost (S.c i ((S.st s).now + S.tm i)) := fun i => by
                unfold Sets.Srch.next
                by_cases e : s = 0
                · have : (S.st s).out = [] := List.length_eq_zero_iff.1 (by rw [HLO.out]; exact e)
                  rw [if_pos e, if_pos this]
                · have : (S.st s).out ≠ [] := fun h => by have := HLO.out; rw [h] at this; exact e this.symm
                  rw [if_neg e, if_neg this, HSB.out]
              have hwhole : ∀ i, S.whole (S.st s) i = if (S.st s).left - 2 ^ i = 0 then S.next (S.st s) i else bothV kind (S.next (S.st s) i) (S.R ((S.st s).left - 2 ^ i)) := fun i => by
                unfold Sets.Srch.whole; rw [HSB.out]
              obtain ⟨RL, hRL⟩ : ∃ v, S.R L = v := ⟨_, rfl⟩
              rw [HALL.out, hRL] at hgood
              have HS1 := Lib.hid hs1; have HGOOD := Lib.hid hgood; have HNEXT := Lib.hid hnext; have HWHOLE := Lib.hid hwhole; have HA3 := Lib.hid a3; have HA2 := Lib.hid a2
              obtain ⟨l0, l1⟩ := HRB.out L (Nat.le_refl _)
              rw [hRL] at l0 l1
              have HRL := Lib.hid hRL
              clear hRL
              generalize (S.st s).left = lf at *
              generalize (S.st s).now = nv at *
              generalize (S.st s).cost = cv at *
              generalize (S.st s).out = os at *
              generalize S.pick (S.st s) S.n 0 = pk at *
              generalize S.next (S.st s) = nxf at *
              generalize S.whole (S.st s) = whf at *
              generalize S.good (S.st s) = gdf at *
              have a1 : pk < k := by have := HSN.out; omega
              clear hs1 hgood hnext hwhole a2 a3 q6 q7 qz
              have lf0 : ((lf : Int) == 0) = false := by simp; exact hlf
              have lf1 : ((lf : Int) != 0) = true := by simp; exact hlf
              obtain ⟨q4a, q4b⟩ := q4
              obtain ⟨q5a, q5b⟩ := q5
              go_wp2
              obtain ⟨wz, rfl⟩ : ∃ wz : World, wz = wr := ⟨_, rfl⟩
              go_loopw [19, 20, 21, 22, 23, 24, 25, 26] (fun o cst nw lfv i _ _ _ w3 => ∃ q : Nat, q ≤ pk ∧ o = .slice (some ⟨G, 0, none⟩) s cap ∧ cst = .int .i64 cv ∧ nw = .int .i64 nv ∧ lfv = .int .i64 (lf : Int) ∧ i = .int .i64 q ∧ Dr wz w3) (fun _ _ _ _ i _ _ _ _ => k - (intOf i).toNat)
              case atStart => exact ⟨0, by omega, rfl, rfl, rfl, rfl, rfl, .refl _⟩
              case round =>
                obtain ⟨q, hq, rfl, rfl, rfl, rfl, rfl, hdz⟩ := hrel
                have HDZ := Lib.hid hdz
                clear hdz
                have HB5 : Hid (Below GR w wr) := Lib.hid (HB4.out.trans HDZ.out.below)
                have HO5 := Lib.hid (HO4.out.dr HDZ.out)
                have HOS5 := Lib.hid (HOS.out.dr HDZ.out)
                have hqk : q < k := by omega
                obtain ⟨B, hB, B1, B2, hB2, hband, hyes, hno⟩ := HBIT.out lf q q3 hqk
                have wB : IntKind.i64.wrap (B : Int) = (B : Int) := IntWalk.i64_in _ (by omega)
                have wB2 : IntKind.i64.wrap ((2 : Int) ^ q) = (B : Int) := by rw [hB2]; exact wB
                cases hh : Sets.has lf q with
                | false =>
                  have hbn := hno hh
                  have hqp : q ≠ pk := fun e => by
                    have := HA2.out
                    rw [← e, HGOOD.out, hh] at this; exact absurd this (by simp)
                  clear hB hyes hno hband hh
                  go_wp2
                  go_roundw
                  case rel => exact ⟨q + 1, by omega, rfl, rfl, rfl, rfl, by go_num, HDZ.out⟩
                  case measure => simp [intOf]; omega
                | true =>
                  obtain ⟨hBx, hbn⟩ := hyes hh
                  obtain ⟨xb, hxb⟩ : ∃ xb, lf - B = xb := ⟨_, rfl⟩
                  rw [hxb] at hbn
                  have hxl : xb < lf := by omega
                  have hne1 : ((xb : Int) == (lf : Int)) = false := by simp; omega
                  obtain ⟨⟨ja, jb, jc, jd⟩, hjN, hjo, c0, c1, c2, c3, htm, hcc⟩ := HCELL.out _ (HJ.out.below HB5.out hgR) q hqk
                  have HJO1 := Lib.hid hjo
                  obtain ⟨d1, d2, _, _, _, _, _, _⟩ := hjo
                  simp only at c0 c1 c2 c3 htm d1 d2
                  have hnx := HNEXT.out q
                  have hwh := HWHOLE.out q
                  have hgd := HGOOD.out q
                  rw [htm] at hnx
                  rw [hB, hxb] at hwh
                  rw [hh, Bool.true_and] at hgd
                  have hpb := HCB.out q (nv + ja) hqk (by omega) (by omega)
                  obtain ⟨pv, hpv⟩ : ∃ v, S.c q (nv + ja) = v := ⟨_, rfl⟩
                  have hpe : partV kind ⟨ja, jb, jc, jd⟩ (nv + ja) = pv := by rw [← hcc]; exact hpv
                  rw [hpv] at hnx hpb
                  obtain ⟨p0, p1⟩ := hpb
                  have hq1 : ∀ d, Calls Try.prog 118 #[.pointer (some ⟨g, q * 4, none⟩), .int .i64 (nv + ja), .int .i64 kind] (wr.drewN d) fun e w'' => e = .returned (.int .i64 pv) ∧ ∃ m, w'' = wr.drewN m := fun d => by
                    rw [← hpe]
                    exact quiet_dr (l02Part_any kind k0 k1 g (q * 4) ⟨ja, jb, jc, jd⟩ (nv + ja) _ HJO1.out (by omega) (by omega) c2 c3)
                  have HQ := Lib.hid hq1
                  have ws1 : IntKind.i64.wrap (nv + ja) = nv + ja := IntWalk.i64_in _ (by omega)
                  have cr := HO5.out.cell xb (by rw [boT_len]; omega)
                  rw [boT_get S 0 (by omega) (by omega)] at cr
                  have cL := HO5.out.cell L (by rw [boT_len]; omega)
                  have eL : (boT S L (L + 1) 0).getD L 0 = S.R L := boT_get S 0 (by omega) (Nat.le_refl _)
                  rw [eL, HRL.out] at cL
                  obtain ⟨r0, r1⟩ := HRB.out xb (by omega)
                  obtain ⟨r, hr⟩ : ∃ r, S.R xb = r := ⟨_, rfl⟩
                  rw [hr] at cr r0 r1 hwh
                  obtain ⟨b0, b1⟩ := HBB.out cv pv 100000000000 (by omega) (by omega) (by omega) (by omega)
                  obtain ⟨bw0, bw1⟩ := HBB.out (nxf q) r 200000000000 (by rw [hnx]; split <;> omega) (by rw [hnx]; split <;> omega) (by omega) (by omega)
                  have hxB : lf - B = xb := hxb
                  have HJN := Lib.hid hjN; have HXB := Lib.hid hxB; have HB0 := Lib.hid hB; have HTM := Lib.hid htm
                  clear hq1 hpe hpv hcc htm hjN c1 c2 c3 hB hband hyes hno hh hxb hr eL hxB
                  have hqn : q ≠ pk ↔ gdf q = false := ⟨fun h => HA3.out q (by omega), fun h e => by rw [e, HA2.out] at h; cases h⟩
                  obtain ⟨nx, hnx'⟩ : ∃ v, nxf q = v := ⟨_, rfl⟩
                  obtain ⟨wh, hwh'⟩ : ∃ v, whf q = v := ⟨_, rfl⟩
                  rw [hnx'] at hnx hwh bw0 bw1
                  rw [hwh'] at hwh hgd
                  have HNX := Lib.hid hnx'; have HWH := Lib.hid hwh'
                  clear hnx' hwh'
                  by_cases hs0 : s = 0
                  · rcases Nat.eq_zero_or_pos xb with hx0 | hx0
                    · subst hs0
                      rw [if_pos rfl] at hnx
                      subst hnx
                      rw [if_pos hx0] at hwh
                      subst hx0
                      subst hwh
                      by_cases hqp : q = pk
                      · subst hqp
                        have hwr : wh = RL := by rw [HA2.out] at hgd; simpa using hgd.symm
                        have e1 : wh ≤ RL := by omega
                        have e2 : RL ≤ wh := by omega
                        have hq1 : (wh == RL) = true := by simp; omega
                        clear hgd hwr hqn
                        go_wp2
                        go_quiet ((go_at_call 118; exact HQ.out _))
                        go_wp2_with (first | (go_at_call 119; refine (l02Both_any kind k0 k1 _ _ _ (by omega) (by omega) (by omega) (by omega)).mono ?_; rintro e w' ⟨rfl, rfl⟩; first | rw [← HNE.out] | rw [← HWE.out]) | (at_builtin; refine push_int _ rfl _ _ rfl G cap os 0 (q : Nat) (by rfl) HLO.out (HOS5.out.dr (.one _ _)) (by rfl) (by omega) ?_; intro G' cap' w4 hO4 htc hat; obtain ⟨hb4, hG4, hrest⟩ := push_rest (by rw [HGR.out]; exact HB5.out.trans (Dr.below (.one _ _))) (by rw [HGR.out]; exact hGG) (HOS5.out.dr (.one _ _)).lt htc hat; obtain ⟨hF4, hne4⟩ := hrest _ _ _ (HO5.out.dr (.one _ _)) hne; have HO6 := Lib.hid hO4; have HF6 := Lib.hid hF4; have HB6 := Lib.hid hb4; have hcT := HJ.out.below (by rw [← HGR.out]; exact hb4) hgR; obtain ⟨j', hj', _, c0', _⟩ := HCELL.out _ hcT q hqk; rw [HJN.out] at hj'; subst hj'; simp only at c0'; clear hO4 htc hat hb4 hrest hF4 hcT))
                        go_roundw
                        case rel => exact ⟨0 + 1, G', cap', by omega, rfl, by rw [HS1.out.2.2.2, HNX.out], by rw [HS1.out.2.2.1, HTM.out], by rw [HS1.out.2.1, HB0.out, HXB.out]; rfl, by rw [HS1.out.1]; exact HO6.out, HF6.out, hne4, by rw [← HGR.out]; exact hG4, by rw [← HGR.out]; exact HB6.out⟩
                        case measure => simp [lenOf]; omega
                      · have hwr : wh ≠ RL := by have := hqn.1 hqp; rw [this] at hgd; simpa using hgd.symm
                        have hq1 : (wh == RL) = false := by simp; omega
                        rcases (by omega : wh < RL ∨ RL < wh) with hlt' | hlt'
                        · clear hgd hqn hwr
                          go_wp2
                          go_quiet ((go_at_call 118; exact HQ.out _))
                          go_wp2
                          go_roundw
                          case rel => exact ⟨q + 1, by omega, rfl, rfl, rfl, rfl, by go_num, HDZ.out.drewN _⟩
                          case measure => simp [intOf]; omega
                        · clear hgd hqn hwr
                          go_wp2
                          go_quiet ((go_at_call 118; exact HQ.out _))
                          go_wp2
                          go_roundw
                          case rel => exact ⟨q + 1, by omega, rfl, rfl, rfl, rfl, by go_num, HDZ.out.drewN _⟩
                          case measure => simp [intOf]; omega
                    · subst hs0
                      rw [if_pos rfl] at hnx
                      subst hnx
                      rw [if_neg (by omega)] at hwh
                      rw [← hwh] at bw0 bw1
                      have hx1 : ((xb : Int) != 0) = true := by simp; omega
                      have HWE := Lib.hid hwh; clear hwh
                      by_cases hqp : q = pk
                      · subst hqp
                        have hwr : wh = RL := by rw [HA2.out] at hgd; simpa using hgd.symm
                        have e1 : wh ≤ RL := by omega
                        have e2 : RL ≤ wh := by omega
                        have hq1 : (wh == RL) = true := by simp; omega
                        clear hgd hwr hqn
                        go_wp2
                        go_quiet ((go_at_call 118; exact HQ.out _))
                        go_wp2_with (first | (go_at_call 119; refine (l02Both_any kind k0 k1 _ _ _ (by omega) (by omega) (by omega) (by omega)).mono ?_; rintro e w' ⟨rfl, rfl⟩; first | rw [← HNE.out] | rw [← HWE.out]) | (at_builtin; refine push_int _ rfl _ _ rfl G cap os 0 (q : Nat) (by rfl) HLO.out (HOS5.out.dr (.one _ _)) (by rfl) (by omega) ?_; intro G' cap' w4 hO4 htc hat; obtain ⟨hb4, hG4, hrest⟩ := push_rest (by rw [HGR.out]; exact HB5.out.trans (Dr.below (.one _ _))) (by rw [HGR.out]; exact hGG) (HOS5.out.dr (.one _ _)).lt htc hat; obtain ⟨hF4, hne4⟩ := hrest _ _ _ (HO5.out.dr (.one _ _)) hne; have HO6 := Lib.hid hO4; have HF6 := Lib.hid hF4; have HB6 := Lib.hid hb4; have hcT := HJ.out.below (by rw [← HGR.out]; exact hb4) hgR; obtain ⟨j', hj', _, c0', _⟩ := HCELL.out _ hcT q hqk; rw [HJN.out] at hj'; subst hj'; simp only at c0'; clear hO4 htc hat hb4 hrest hF4 hcT))
                        go_roundw
                        case rel => exact ⟨0 + 1, G', cap', by omega, rfl, by rw [HS1.out.2.2.2, HNX.out], by rw [HS1.out.2.2.1, HTM.out], by rw [HS1.out.2.1, HB0.out, HXB.out], by rw [HS1.out.1]; exact HO6.out, HF6.out, hne4, by rw [← HGR.out]; exact hG4, by rw [← HGR.out]; exact HB6.out⟩
                        case measure => simp [lenOf]; omega
                      · have hwr : wh ≠ RL := by have := hqn.1 hqp; rw [this] at hgd; simpa using hgd.symm
                        have hq1 : (wh == RL) = false := by simp; omega
                        rcases (by omega : wh < RL ∨ RL < wh) with hlt' | hlt'
                        · clear hgd hqn hwr
                          go_wp2
                          go_quiet ((go_at_call 118; exact HQ.out _))
                          go_wp2_with (go_at_call 119; refine (l02Both_any kind k0 k1 _ _ _ (by omega) (by omega) (by omega) (by omega)).mono ?_; rintro e w' ⟨rfl, rfl⟩; first | rw [← HNE.out] | rw [← HWE.out])
                          go_roundw
                          case rel => exact ⟨q + 1, by omega, rfl, rfl, rfl, rfl, by go_num, HDZ.out.drewN _⟩
                          case measure => simp [intOf]; omega
                        · clear hgd hqn hwr
                          go_wp2
                          go_quiet ((go_at_call 118; exact HQ.out _))
                          go_wp2_with (go_at_call 119; refine (l02Both_any kind k0 k1 _ _ _ (by omega) (by omega) (by omega) (by omega)).mono ?_; rintro e w' ⟨rfl, rfl⟩; first | rw [← HNE.out] | rw [← HWE.out])
                          go_roundw
                          case rel => exact ⟨q + 1, by omega, rfl, rfl, rfl, rfl, by go_num, HDZ.out.drewN _⟩
                          case measure => simp [intOf]; omega
                  · rcases Nat.eq_zero_or_pos xb with hx0 | hx0
                    · rw [if_neg (by omega)] at hnx
                      rw [← hnx] at b0 b1
                      have hs00 : 0 < s := by omega
                      have HNE := Lib.hid hnx; clear hnx
                      rw [if_pos hx0] at hwh
                      subst hx0
                      subst hwh
                      by_cases hqp : q = pk
                      · subst hqp
                        have hwr : wh = RL := by rw [HA2.out] at hgd; simpa using hgd.symm
                        have e1 : wh ≤ RL := by omega
                        have e2 : RL ≤ wh := by omega
                        have hq1 : (wh == RL) = true := by simp; omega
                        clear hgd hwr hqn
                        go_wp2
                        go_quiet ((go_at_call 118; exact HQ.out _))
                        go_wp2_with (first | (go_at_call 119; refine (l02Both_any kind k0 k1 _ _ _ (by omega) (by omega) (by omega) (by omega)).mono ?_; rintro e w' ⟨rfl, rfl⟩; first | rw [← HNE.out] | rw [← HWE.out]) | (at_builtin; refine push_int _ rfl _ _ rfl G cap os s (q : Nat) (by rfl) HLO.out (HOS5.out.dr (.one _ _)) (by rfl) (by omega) ?_; intro G' cap' w4 hO4 htc hat; obtain ⟨hb4, hG4, hrest⟩ := push_rest (by rw [HGR.out]; exact HB5.out.trans (Dr.below (.one _ _))) (by rw [HGR.out]; exact hGG) (HOS5.out.dr (.one _ _)).lt htc hat; obtain ⟨hF4, hne4⟩ := hrest _ _ _ (HO5.out.dr (.one _ _)) hne; have HO6 := Lib.hid hO4; have HF6 := Lib.hid hF4; have HB6 := Lib.hid hb4; have hcT := HJ.out.below (by rw [← HGR.out]; exact hb4) hgR; obtain ⟨j', hj', _, c0', _⟩ := HCELL.out _ hcT q hqk; rw [HJN.out] at hj'; subst hj'; simp only at c0'; clear hO4 htc hat hb4 hrest hF4 hcT))
                        go_roundw
                        case rel => exact ⟨s + 1, G', cap', by omega, rfl, by rw [HS1.out.2.2.2, HNX.out], by rw [HS1.out.2.2.1, HTM.out], by rw [HS1.out.2.1, HB0.out, HXB.out]; rfl, by rw [HS1.out.1]; exact HO6.out, HF6.out, hne4, by rw [← HGR.out]; exact hG4, by rw [← HGR.out]; exact HB6.out⟩
                        case measure => simp [lenOf]; omega
                      · have hwr : wh ≠ RL := by have := hqn.1 hqp; rw [this] at hgd; simpa using hgd.symm
                        have hq1 : (wh == RL) = false := by simp; omega
                        rcases (by omega : wh < RL ∨ RL < wh) with hlt' | hlt'
                        · clear hgd hqn hwr
                          go_wp2
                          go_quiet ((go_at_call 118; exact HQ.out _))
                          go_wp2_with (go_at_call 119; refine (l02Both_any kind k0 k1 _ _ _ (by omega) (by omega) (by omega) (by omega)).mono ?_; rintro e w' ⟨rfl, rfl⟩; first | rw [← HNE.out] | rw [← HWE.out])
                          go_roundw
                          case rel => exact ⟨q + 1, by omega, rfl, rfl, rfl, rfl, by go_num, HDZ.out.drewN _⟩
                          case measure => simp [intOf]; omega
                        · clear hgd hqn hwr
                          go_wp2
                          go_quiet ((go_at_call 118; exact HQ.out _))
                          go_wp2_with (go_at_call 119; refine (l02Both_any kind k0 k1 _ _ _ (by omega) (by omega) (by omega) (by omega)).mono ?_; rintro e w' ⟨rfl, rfl⟩; first | rw [← HNE.out] | rw [← HWE.out])
                          go_roundw
                          case rel => exact ⟨q + 1, by omega, rfl, rfl, rfl, rfl, by go_num, HDZ.out.drewN _⟩
                          case measure => simp [intOf]; omega
                    · rw [if_neg (by omega)] at hnx
                      rw [← hnx] at b0 b1
                      have hs00 : 0 < s := by omega
                      have HNE := Lib.hid hnx; clear hnx
                      rw [if_neg (by omega)] at hwh
                      rw [← hwh] at bw0 bw1
                      have hx1 : ((xb : Int) != 0) = true := by simp; omega
                      have HWE := Lib.hid hwh; clear hwh
                      by_cases hqp : q = pk
                      · subst hqp
                        have hwr : wh = RL := by rw [HA2.out] at hgd; simpa using hgd.symm
                        have e1 : wh ≤ RL := by omega
                        have e2 : RL ≤ wh := by omega
                        have hq1 : (wh == RL) = true := by simp; omega
                        clear hgd hwr hqn
                        go_wp2
                        go_quiet ((go_at_call 118; exact HQ.out _))
                        go_wp2_with (first | (go_at_call 119; refine (l02Both_any kind k0 k1 _ _ _ (by omega) (by omega) (by omega) (by omega)).mono ?_; rintro e w' ⟨rfl, rfl⟩; first | rw [← HNE.out] | rw [← HWE.out]) | (at_builtin; refine push_int _ rfl _ _ rfl G cap os s (q : Nat) (by rfl) HLO.out (HOS5.out.dr (.one _ _)) (by rfl) (by omega) ?_; intro G' cap' w4 hO4 htc hat; obtain ⟨hb4, hG4, hrest⟩ := push_rest (by rw [HGR.out]; exact HB5.out.trans (Dr.below (.one _ _))) (by rw [HGR.out]; exact hGG) (HOS5.out.dr (.one _ _)).lt htc hat; obtain ⟨hF4, hne4⟩ := hrest _ _ _ (HO5.out.dr (.one _ _)) hne; have HO6 := Lib.hid hO4; have HF6 := Lib.hid hF4; have HB6 := Lib.hid hb4; have hcT := HJ.out.below (by rw [← HGR.out]; exact hb4) hgR; obtain ⟨j', hj', _, c0', _⟩ := HCELL.out _ hcT q hqk; rw [HJN.out] at hj'; subst hj'; simp only at c0'; clear hO4 htc hat hb4 hrest hF4 hcT))
                        go_roundw
                        case rel => exact ⟨s + 1, G', cap', by omega, rfl, by rw [HS1.out.2.2.2, HNX.out], by rw [HS1.out.2.2.1, HTM.out], by rw [HS1.out.2.1, HB0.out, HXB.out], by rw [HS1.out.1]; exact HO6.out, HF6.out, hne4, by rw [← HGR.out]; exact hG4, by rw [← HGR.out]; exact HB6.out⟩
                        case measure => simp [lenOf]; omega
                      · have hwr : wh ≠ RL := by have := hqn.1 hqp; rw [this] at hgd; simpa using hgd.symm
                        have hq1 : (wh == RL) = false := by simp; omega
                        rcases (by omega : wh < RL ∨ RL < wh) with hlt' | hlt'
                        · clear hgd hqn hwr
                          go_wp2
                          go_quiet ((go_at_call 118; exact HQ.out _))
                          go_wp2_with (go_at_call 119; refine (l02Both_any kind k0 k1 _ _ _ (by omega) (by omega) (by omega) (by omega)).mono ?_; rintro e w' ⟨rfl, rfl⟩; first | rw [← HNE.out] | rw [← HWE.out])
                          go_roundw
                          case rel => exact ⟨q + 1, by omega, rfl, rfl, rfl, rfl, by go_num, HDZ.out.drewN _⟩
                          case measure => simp [intOf]; omega
                        · clear hgd hqn hwr
                          go_wp2
                          go_quiet ((go_at_call 118; exact HQ.out _))
                          go_wp2_with (go_at_call 119; refine (l02Both_any kind k0 k1 _ _ _ (by omega) (by omega) (by omega) (by omega)).mono ?_; rintro e w' ⟨rfl, rfl⟩; first | rw [← HNE.out] | rw [← HWE.out])
                          go_roundw
                          case rel => exact ⟨q + 1, by omega, rfl, rfl, rfl, rfl, by go_num, HDZ.out.drewN _⟩
                          case measure => simp [intOf]; omega
            · obtain rfl : s = k := by omega
              have hlz : (S.st s).left = 0 := qz (by rw [HSN.out])
              have cL := HO4.out.cell L (by rw [boT_len]; omega)
              rw [boT_get S 0 (by omega) (Nat.le_refl _)] at cL
              have HEND : Hid (∀ a, BoP js kind w (.returned (.tuple #[.slice (some ⟨G, 0, none⟩) s cap, .int .i64 (S.R L), .bool true])) (wr.drewN a)) := Lib.hid (fun a => HFIN.out _ _ _ (HOS.out.dr (.one _ _)) (by rw [HGR.out]; exact hGG) (by rw [HGR.out]; exact HB4.out.trans (Dr.below (.one _ _))))
              rw [hlz]
              clear q3 q4 q5 q6 q7 qz hs hsl hlz
              go_wp2
              go_quiet (fail)
              go_wp2
              go_ret3
              exact HEND.out _
end Go.Proofs.Ytncmhinpjkkfkaa
