/-
  Walks: the search for the best order: the program's table. Conditions: none.
-/
import Derived.Test.YtncmhinpjkkfkaaK39
namespace Go.Proofs.Ytncmhinpjkkfkaa
open Go Go.RowKit
set_option linter.unusedVariables false
set_option linter.unusedSimpArgs false

/-- The program's table: the reference's, turned round. -/
def boU (S : Sets.Srch) (L x : Nat) (v : Int) : List Int := (List.range (L + 1)).map fun (p : Nat) => if L - p < x then S.R (L - p) else if L - p = x then v else 0
theorem boU_len (S : Sets.Srch) (L x : Nat) (v : Int) : (boU S L x v).length = L + 1 := by simp [boU]
theorem boU_zero (S : Sets.Srch) (L : Nat) : boU S L 1 0 = List.replicate (L + 1) 0 := by
  refine List.ext_getElem (by simp [boU]) fun p h1 h2 => ?_
  simp only [boU, List.getElem_map, List.getElem_range, List.getElem_replicate]
  by_cases h : L - p < 1
  · have : L - p = 0 := by omega
    rw [if_pos h, this]; rfl
  · rw [if_neg h]; split <;> rfl
theorem boU_set (S : Sets.Srch) (L x : Nat) (v u : Int) (hx : x ≤ L) : (boU S L x v).set (L - x) u = boU S L x u := by
  refine List.ext_getElem (by simp [boU]) fun p h1 h2 => ?_
  have hp : p < L + 1 := by simpa [boU] using h2
  rw [List.getElem_set]
  simp only [boU, List.getElem_map, List.getElem_range]
  by_cases h : L - x = p
  · rw [if_pos h, if_neg (by omega), if_pos (by omega)]
  · rw [if_neg h]
    by_cases h3 : L - p < x
    · rw [if_pos h3, if_pos h3]
    · rw [if_neg h3, if_neg h3, if_neg (by omega), if_neg (by omega)]
theorem boU_next (S : Sets.Srch) (L x : Nat) : boU S L x (S.R x) = boU S L (x + 1) 0 := by
  refine List.ext_getElem (by simp [boU]) fun p h1 h2 => ?_
  simp only [boU, List.getElem_map, List.getElem_range]
  by_cases h3 : L - p < x
  · rw [if_pos h3, if_pos (by omega)]
  · rw [if_neg h3]
    by_cases h4 : L - p = x
    · rw [if_pos h4, if_pos (by omega), h4]
    · rw [if_neg h4, if_neg (by omega)]; split <;> rfl
theorem boU_get (S : Sets.Srch) {L x p : Nat} (v : Int) (h : L - p < x) (hp : p ≤ L) : (boU S L x v).getD p 0 = S.R (L - p) := by
  rw [List.getD_eq_getElem?_getD, List.getElem?_eq_getElem (by rw [boU_len]; omega)]
  simp only [boU, List.getElem_map, List.getElem_range, Option.getD_some]
  rw [if_pos h]
theorem boU_at (S : Sets.Srch) {L x p : Nat} (v : Int) (hx : p ≤ L) (hp : L - p = x) : (boU S L x v).getD p 0 = v := by
  rw [List.getD_eq_getElem?_getD, List.getElem?_eq_getElem (by rw [boU_len]; omega)]
  simp only [boU, List.getElem_map, List.getElem_range, Option.getD_some]
  rw [if_neg (by omega), if_pos hp]

/-- The same, the flag turned round. -/
def FoG (o : Option Int) (b : Bool) (v : Int) : Prop := (b = false ∧ o = none ∧ v = 0) ∨ (b = true ∧ o = some v)
theorem FoG.fo {o : Option Int} {b : Bool} {v : Int} (h : FoG o b v) : FoP o (!b) v := by
  rcases h with ⟨rfl, h⟩ | ⟨rfl, h⟩
  · exact .inl ⟨rfl, h⟩
  · exact .inr ⟨rfl, h⟩

def CostsP (w : World) (S : Sets.Srch) (L : Nat) (e : Ending) (w' : World) : Prop :=
  ∃ G, e = .returned (.slice (some ⟨G, 0, none⟩) (L + 1) (L + 1)) ∧ Rw w' G (L + 1) (boU S L (L + 1) 0) ∧ w.heap.size ≤ G ∧ Below w.heap.size w w'

set_option maxHeartbeats 16000000 in
set_option maxRecDepth 100000 in
theorem leastCosts_any (w : World) (g n c : Nat) (js : List J) (hn : js.length = n) (hcap : n ≤ c) (hm : n ≤ 1048576) (hj : JRd w g 0 js) (hg : g < w.heap.size) (kind : Int) (hc : boB js kind = true) (S : Sets.Srch) (hS : boS js kind = S) (L : Nat) (hL : 2 ^ n = L + 1) :
    Calls Try.prog 120 #[.slice (some ⟨g, 0, none⟩) n c, .int .i64 kind] w (CostsP w S L) := by
  obtain ⟨hBd, n1, n2, k0, k1, hjb, hfr, hok⟩ := boS_bd hc
  have hSn : S.n = n := by rw [← hS]; exact hn
  have hSB : S.B = bothV kind := by rw [← hS]; rfl
  have hSc : ∀ i t, S.c i t = partV kind (jN js i) t := fun i t => by rw [← hS]; rfl
  have hSt : ∀ i, S.tm i = (jN js i).time := fun i => by rw [← hS]; rfl
  rw [hS] at hBd
  rw [hn] at n1 n2 hok
  have hass : ∀ a b c, S.B (S.B a b) c = S.B a (S.B b c) := by rw [hSB]; exact bothV_assoc kind
  have hL1 := pow_le10 n2
  rw [hL] at hL1
  have hp : (2 : Int) ^ n = (L : Int) + 1 := by rw [powI hL]; rfl
  have wp : IntKind.i64.wrap ((2 : Int) ^ n) = (L : Int) + 1 := by rw [hp]; exact IntWalk.i64_in _ (by omega)
  have hall : S.all = L := by unfold Sets.Srch.all; rw [hSn, hL]; omega
  have hin : inB kind 0 4 = true := by unfold inB; simp; omega
  have hRbd : ∀ y, y ≤ L → -100000000000 ≤ S.R y ∧ S.R y ≤ 100000000000 := fun y a => Sets.Srch.R_bd' hBd (by rw [hSn, hL]; omega)
  have hReq : ∀ x fb fv, x ≠ 0 → FoP (S.foldK S.R (S.now x) x n) fb fv → S.R x = fv := fun x fb fv a h => by
    rw [S.R_eq x a, hSn]; exact h.get
  have hcbd : ∀ i t, i < n → 0 ≤ t → t ≤ 1000000 → -10000000000 ≤ S.c i t ∧ S.c i t ≤ 10000000000 := fun i t a b d => hBd.c i t (by omega) b d
  have hBbd : ∀ a b X : Int, -X ≤ a → a ≤ X → -X ≤ b → b ≤ X → -(2 * X) ≤ bothV kind a b ∧ bothV kind a b ≤ 2 * X := fun a b X p q r t => by
    have := hBd.B a b X X p q r t
    rw [hSB] at this; omega
  have hTbd : ∀ k, k ≤ n → 0 ≤ S.total k ∧ S.total k ≤ 100000 := fun k a => by
    have := Sets.Srch.total_bd hBd k (by omega); omega
  have hSbd : ∀ x k, k ≤ n → 0 ≤ S.sumK x k ∧ S.sumK x k ≤ 100000 ∧ S.sumK x k ≤ S.total k := fun x k a => by
    have := Sets.Srch.sumK_bd hBd x k (by omega)
    have := hTbd k a
    omega
  have hFbd : ∀ x k v, x ≤ L → k ≤ n → S.foldK S.R (S.now x) x k = some v → -100000000000 ≤ v ∧ v ≤ 100000000000 := fun x k v a b d => Sets.Srch.fold_bd hBd (by rw [hSn, hL]; omega) k (by omega) v d
  have hst : ∀ s, s ≤ n → BoSt S L s := fun s a => boSt (by rw [hSn]; exact hL) hBd hass (by omega)
  have hCell : ∀ w1, JRd w1 g 0 js → ∀ k, k < n → ∃ j : J, jN js k = j ∧ JOk j ∧ w1.cell? ⟨g, k * 4, none⟩ = some (.int .i64 j.time) ∧ w1.cell? ⟨g, k * 4 + 1, none⟩ = some (.int .i64 j.rel) ∧ w1.cell? ⟨g, k * 4 + 2, none⟩ = some (.int .i64 j.due) ∧ w1.cell? ⟨g, k * 4 + 3, none⟩ = some (.int .i64 j.wt) ∧ S.tm k = j.time ∧ ∀ t, S.c k t = partV kind j t := by
    intro w1 h1 k hk
    have hk' : k < js.length := by omega
    obtain ⟨c0, c1, c2, c3⟩ := h1 k hk'
    rw [Nat.zero_add] at c0 c1 c2 c3
    have e := jN_eq hk'
    exact ⟨js[k], e, by rw [← e]; exact hok k hk, c0, c1, c2, c3, by rw [hSt, e], fun t => by rw [hSc, e]⟩
  have hBit : ∀ y i, y ≤ L → i < n → ∃ B : Nat, 2 ^ i = B ∧ 1 ≤ B ∧ B ≤ 1024 ∧ (2 : Int) ^ i = (B : Int) ∧ bits .and .i64 ((y : Int) / (B : Int)) 1 = (if Sets.has y i = true then 1 else 0) ∧ Sets.has (L - y) i = (!Sets.has y i) ∧ (Sets.has y i = false → y + B ≤ L ∧ bits .or .i64 (y : Int) (B : Int) = ((y + B : Nat) : Int)) := by
    intro y i a b
    have e : 2 ^ i ≤ 1024 := pow_le10 (by omega)
    have y62 : y < 2 ^ 62 := Nat.lt_of_le_of_lt (show y ≤ 1023 by omega) (by decide)
    have hcm : Sets.has (L - y) i = !Sets.has y i := by
      have := Sets.has_compl (n := n) (s := y) (i := i) (by omega) b
      rw [hL] at this
      have e2 : L + 1 - 1 - y = L - y := by omega
      rw [e2] at this; exact this
    refine ⟨2 ^ i, rfl, Nat.pow_pos (by decide), e, powI rfl, ?_, hcm, fun h => ⟨?_, ?_⟩⟩
    · have := Sets.and_one y i y62; unfold Sets.bit at this; exact this
    · rw [h] at hcm
      have := Sets.has_le hcm; omega
    · rw [Sets.bits_or _ _ y62 (Sets.pow_lt (by omega)), Sets.or_bit _ _ y62 (by omega) h]
  have hSum : ∀ x, x ≤ L → S.sumK (L - x) n = S.now x := fun x a => by
    have := Sets.Srch.sumK_compl S (s := x) (by rw [hSn, hL]; omega) n (by omega)
    rw [hSn, hL] at this
    have e2 : L + 1 - 1 - x = L - x := by omega
    rw [e2] at this
    rw [this]; unfold Sets.Srch.now; rw [hSn]
  have HSUM := Lib.hid hSum; clear hSum
  have HALL := Lib.hid hall; have HRB := Lib.hid hRbd; have HREQ := Lib.hid hReq; have HCB := Lib.hid hcbd; have HBB := Lib.hid hBbd; have HTB := Lib.hid hTbd; have HSBD := Lib.hid hSbd; have HFB := Lib.hid hFbd; have HST := Lib.hid hst; have HCELL := Lib.hid hCell; have HBIT := Lib.hid hBit
  have HN := Lib.hid hn; have HC := Lib.hid hc; have HJ := Lib.hid hj; have HSN := Lib.hid hSn; have HL := Lib.hid hL; have HSB := Lib.hid hSB; have HJB := Lib.hid hjb; have HFR := Lib.hid hfr; have HIN := Lib.hid hin
  clear hall hRbd hReq hcbd hBbd hTbd hSbd hFbd hst hCell hBit hn hc hj hSn hL hSB hjb hfr hin hBd hok hSc hSt hass hS hp
  go_enter Try.func120, Try.ntmps120
  go_wp2_with (at_make; refine wp_make rfl (.tmp 19) 22 rfl 2 (.int .i64 0) 8 Try.underlying22 Try.info2 rfl (L + 1) .i64 _ rfl rfl (by omega) (by unfold maxLen; omega) ?_; intro w1 hrow hbel)
  obtain ⟨GR, hGR⟩ : ∃ G, w.heap.size = G := ⟨_, rfl⟩
  have R0 : Hid (Rw w1 GR (L + 1) (boU S L 1 0)) := Lib.hid (by rw [boU_zero, ← hGR]; exact rw_zero hrow)
  have B0 : Hid (Below GR w w1) := Lib.hid (by rw [← hGR]; exact hbel)
  have hgR : g < GR := by omega
  have HGR := Lib.hid hGR
  rw [hGR]
  clear hrow hbel hGR
  go_loopw [7, 8, 9, 10, 11, 12, 13, 14, 15, 28, 29, 30, 45, 46, 47] (fun i _ _ _ _ _ _ _ _ _ _ _ _ _ _ wr => ∃ x : Nat, 1 ≤ x ∧ x ≤ L + 1 ∧ i = .int .i64 ((L : Int) - (x : Int)) ∧ Rw wr GR (L + 1) (boU S L x 0) ∧ Below GR w wr) (fun i _ _ _ _ _ _ _ _ _ _ _ _ _ _ _ => (intOf i + 1).toNat)
  case atStart => exact ⟨1, by omega, by omega, by go_num, R0.out, B0.out⟩
  case round =>
    obtain ⟨x, x1, x2, rfl, hro, hbk⟩ := hrel
    have HO := Lib.hid hro; have HBk := Lib.hid hbk
    have hGRlt := hro.lt
    clear hro hbk R0 B0
    by_cases hltx : x ≤ L
    · obtain ⟨dn, hdn⟩ : ∃ dn, L - x = dn := ⟨_, rfl⟩
      have hdI : (L : Int) - (x : Int) = (dn : Int) := by omega
      have hdL : dn + x = L := by omega
      rw [hdI]
      have HDN := Lib.hid hdn
      have HDI := Lib.hid hdI
      clear hdn hdI
      go_wp2
      obtain ⟨wo, rfl⟩ : ∃ wo : World, wo = wr := ⟨_, rfl⟩
      go_loopw [8, 10, 11, 30] (fun s _ _ i w3 => ∃ q : Nat, q ≤ n ∧ i = .int .i64 q ∧ s = .int .i64 (S.sumK dn q) ∧ Below wo.heap.size wo w3) (fun _ _ _ i _ => n - (intOf i).toNat)
      case atStart => exact ⟨0, by omega, rfl, rfl, .refl _ _⟩
      case round =>
        obtain ⟨q, hq, rfl, rfl, hb3⟩ := hrel
        have HB3 := Lib.hid hb3
        clear hb3
        obtain ⟨s0, s1, _⟩ := HSBD.out dn q hq
        by_cases hqk : q < n
        · obtain ⟨⟨ja, jb, jc, jd⟩, hjN, hjo, c0, c1, c2, c3, htm, hcc⟩ := HCELL.out _ ((HJ.out.below HBk.out hgR).below HB3.out (by omega)) q hqk
          obtain ⟨a1, a2, a3, a4, a5, a6, a7, a8⟩ := hjo
          simp only at c0 c1 c2 c3 htm a1 a2
          obtain ⟨B, hB, B1, B2, hB2, hband, hcm, hyes⟩ := HBIT.out dn q (by omega) hqk
          have wB : IntKind.i64.wrap (B : Int) = (B : Int) := IntWalk.i64_in _ (by omega)
          have wB2 : IntKind.i64.wrap ((2 : Int) ^ q) = (B : Int) := by rw [hB2]; exact wB
          have hb4 : Below wo.heap.size wo (wr.alloc (.cells #[.int .i64 ja, .int .i64 jb, .int .i64 jc, .int .i64 jd] 67)) := HB3.out.alloc HB3.out.size _
          have HB4 := Lib.hid hb4
          clear hb4
          cases hh : Sets.has dn q with
          | false =>
            rw [hh] at hband
            have hba : bits .and .i64 ((dn : Int) / (B : Int)) 1 = 0 := by simpa using hband
            have hs : S.sumK dn (q + 1) = S.sumK dn q := by simp only [Sets.Srch.sumK, hh]; rfl
            have HS := Lib.hid hs
            clear hs hjN htm hcc hB hband hyes hcm hh
            generalize S.sumK dn q = sq at *
            go_wp2
            go_roundw
            case rel => exact ⟨q + 1, by omega, by go_num, by rw [HS.out], HB4.out⟩
            case measure => simp [intOf]; omega
          | true =>
            rw [hh] at hband
            have hba : bits .and .i64 ((dn : Int) / (B : Int)) 1 = 1 := by simpa using hband
            have hs : S.sumK dn (q + 1) = S.sumK dn q + ja := by simp only [Sets.Srch.sumK, hh, if_true, htm]
            have HS := Lib.hid hs
            clear hs hjN htm hcc hB hband hyes hcm hh
            generalize S.sumK dn q = sq at *
            go_wp2
            go_roundw
            case rel => exact ⟨q + 1, by omega, by go_num, by rw [HS.out], HB4.out⟩
            case measure => simp [intOf]; omega
        · obtain rfl : q = n := by omega
          have hnow := HSUM.out x hltx
          rw [HDN.out] at hnow
          rw [hnow] at s0 s1 ⊢
          obtain ⟨T, hT⟩ : ∃ T, S.now x = T := ⟨_, rfl⟩
          rw [hT] at s0 s1 ⊢
          have HNX := Lib.hid hT
          have HOO : Hid (Rw wr GR (L + 1) (boU S L x 0)) := Lib.hid (HO.out.below HB3.out hGRlt)
          have HBO : Hid (Below GR w wr) := Lib.hid (HBk.out.trans (HB3.out.mono (by omega)))
          clear hnow hT hqk hq
          go_wp2
          go_loopw [9, 12, 13, 14, 15, 47] (fun f _ _ _ _ i w3 => ∃ (k : Nat) (fb : Bool) (fv : Int), k ≤ q ∧ i = .int .i64 k ∧ f = .bool fb ∧ FoG (S.foldK S.R (S.now x) x k) fb fv ∧ Rw w3 GR (L + 1) (boU S L x fv) ∧ Below GR w w3) (fun _ _ _ _ _ i _ => q - (intOf i).toNat)
          case atStart => exact ⟨0, false, 0, by omega, rfl, rfl, .inl ⟨rfl, rfl, rfl⟩, HOO.out, HBO.out⟩
          case round =>
            obtain ⟨k, fb, fv, hk, rfl, rfl, hfo, hro, hbk⟩ := hrel
            have HF := Lib.hid hfo; have HO2 := Lib.hid hro; have HB2 := Lib.hid hbk
            have hlt3 := hro.lt
            clear hfo hro hbk
            by_cases hkl : k < q
            · obtain ⟨⟨ja, jb, jc, jd⟩, hjN, hjo, c0, c1, c2, c3, htm, hcc⟩ := HCELL.out _ (HJ.out.below HB2.out hgR) k hkl
              have HJO1 := Lib.hid hjo
              obtain ⟨a1, a2, a3, a4, a5, a6, a7, a8⟩ := hjo
              simp only at c0 c1 c2 c3 htm a1 a2
              obtain ⟨B, hB, B1, B2, hB2, hband, hcm, hyes⟩ := HBIT.out dn k (by omega) hkl
              have hLx : L - dn = x := by omega
              rw [hLx] at hcm
              have wB : IntKind.i64.wrap (B : Int) = (B : Int) := IntWalk.i64_in _ (by omega)
              have wB2 : IntKind.i64.wrap ((2 : Int) ^ k) = (B : Int) := by rw [hB2]; exact wB
              have hb4 : Below GR w (wr.alloc (.cells #[.int .i64 ja, .int .i64 jb, .int .i64 jc, .int .i64 jd] 67)) := HB2.out.alloc (by omega) _
              have hr4 : Rw (wr.alloc (.cells #[.int .i64 ja, .int .i64 jb, .int .i64 jc, .int .i64 jd] 67)) GR (L + 1) (boU S L x fv) := HO2.out.alloc _
              have HB4 := Lib.hid hb4; have HR4 := Lib.hid hr4
              clear hb4 hr4
              cases hh : Sets.has dn k with
              | true =>
                rw [hh] at hband hcm
                have hba : bits .and .i64 ((dn : Int) / (B : Int)) 1 = 1 := by simpa using hband
                have hcm' : Sets.has x k = false := hcm
                have hs : FoG (S.foldK S.R (S.now x) x (k + 1)) fb fv := by simp only [Sets.Srch.foldK, hcm']; exact HF.out
                have HS := Lib.hid hs
                clear hs hjN htm hcc hB hband hyes hcm hcm' hh hLx
                go_wp2
                go_roundw
                case rel => exact ⟨k + 1, fb, fv, by omega, by go_num, rfl, HS.out, HR4.out, HB4.out⟩
                case measure => simp [intOf]; omega
              | false =>
                rw [hh] at hband hcm
                have hba : bits .and .i64 ((dn : Int) / (B : Int)) 1 = 0 := by simpa using hband
                have hcm' : Sets.has x k = true := hcm
                obtain ⟨hdx, hbo⟩ := hyes hh
                obtain ⟨d, hd⟩ : ∃ d, dn + B = d := ⟨_, rfl⟩
                rw [hd] at hbo hdx
                have hBx : B ≤ x := by omega
                obtain ⟨xb, hxb⟩ : ∃ xb, x - B = xb := ⟨_, rfl⟩
                have hxl : xb < x := by omega
                have hdxb : L - d = xb := by omega
                have hcand : S.cand S.R (S.now x) x k = if xb = 0 then S.c k (T + ja) else bothV kind (S.c k (T + ja)) (S.R xb) := by
                  unfold Sets.Srch.cand; rw [hB, hxb, HNX.out, htm, HSB.out]
                obtain ⟨pv, hpv⟩ : ∃ v, S.c k (T + ja) = v := ⟨_, rfl⟩
                have hpb := HCB.out k (T + ja) (by omega) (by omega) (by omega)
                have hpe : partV kind ⟨ja, jb, jc, jd⟩ (T + ja) = pv := by rw [← hcc]; exact hpv
                have hcr : ∀ w4, Rw w4 GR (L + 1) (boU S L x fv) → w4.cell? ⟨GR, d, none⟩ = some (.int .i64 (S.R xb)) ∧ w4.cell? ⟨GR, dn, none⟩ = some (.int .i64 fv) ∧ w4.frozen? ⟨GR, dn, none⟩ = false := fun w4 h4 => by
                  have cr := h4.cell d (by rw [boU_len]; omega)
                  rw [boU_get S fv (by omega) hdx, hdxb] at cr
                  have cx := h4.cell dn (by rw [boU_len]; omega)
                  rw [boU_at S fv (by omega) (by omega)] at cx
                  exact ⟨cr, cx, h4.free dn⟩
                obtain ⟨r0, r1⟩ := HRB.out xb (by omega)
                rw [hpv] at hcand hpb
                obtain ⟨p0, p1⟩ := hpb
                have hfn : S.foldK S.R (S.now x) x k = none → S.foldK S.R (S.now x) x (k + 1) = some (S.cand S.R (S.now x) x k) := fun h => by simp only [Sets.Srch.foldK, hcm', if_true, h]
                have hfs : ∀ v, S.foldK S.R (S.now x) x k = some v → S.foldK S.R (S.now x) x (k + 1) = if S.cand S.R (S.now x) x k < v then some (S.cand S.R (S.now x) x k) else some v := fun v h => by simp only [Sets.Srch.foldK, hcm', if_true, h]
                have HFN := Lib.hid hfn; have HFS := Lib.hid hfs; have HCAND := Lib.hid hcand; have HCR := Lib.hid hcr
                obtain ⟨r, hr⟩ : ∃ r, S.R xb = r := ⟨_, rfl⟩
                rw [hr] at r0 r1
                have HR := Lib.hid hr; have HPE := Lib.hid hpe
                have hput : ∀ w4 (v u : Int), Rw w4 GR (L + 1) (boU S L x v) → Rw (w4.setCell ⟨GR, dn, none⟩ (.int .i64 u)) GR (L + 1) (boU S L x u) := fun w4 v u h => by
                  have := h.set (L - x) u
                  rw [boU_set S L x v u hltx, HDN.out] at this; exact this
                have HPUT := Lib.hid hput
                obtain ⟨b0, b1⟩ := HBB.out pv r 100000000000 (by omega) (by omega) (by omega) (by omega)
                have hfo := HF.out
                have hdL2 : d < L + 1 := by omega
                have hdn2 : dn < L + 1 := by omega
                clear hput hpe hpv hcc htm hjN hB hband hyes hcm hcm' hh hcand hfn hfs hr hcr
                rcases Nat.eq_zero_or_pos xb with hx0 | hx0
                · have hdl : d = L := by omega
                  have hx1 : (((L : Nat) : Int) != (L : Int)) = false := by simp
                  have hcv : S.cand S.R (S.now x) x k = pv := by rw [HCAND.out, if_pos hx0]
                  have HCV := Lib.hid hcv; clear hcv
                  subst hdl
                  have hx3 : ((d : Int) != (d : Int) + 1 - 1) = false := by simp
                  have hx4 : ((d : Int) == (d : Int) + 1 - 1) = true := by simp
                  rcases hfo with ⟨rfl, hfo, rfl⟩ | ⟨rfl, hfo⟩
                  · have hs : FoG (S.foldK S.R (S.now x) x (k + 1)) true pv := .inr ⟨rfl, by rw [HFN.out hfo, HCV.out]⟩
                    have HS := Lib.hid hs
                    clear hs hfo
                    go_wp2_with (go_at_call 121; refine (share_any kind k0 k1 _ _ _ _ _ _ HJO1.out (by omega) (by omega)).mono ?_; rintro e w5 ⟨rfl, hb5⟩; rw [HPE.out]; obtain ⟨cr, cx, cf⟩ := HCR.out _ (HR4.out.below hb5 (by simp; omega)); rw [HR.out] at cr; have HR5 := Lib.hid (HR4.out.below hb5 (by simp; omega)); have HB5 := Lib.hid (HB4.out.trans (hb5.mono (by simp; omega))); clear hb5)
                    go_roundw
                    case rel => exact ⟨k + 1, true, pv, by omega, by go_num, rfl, HS.out, HPUT.out _ _ _ HR5.out, HB5.out.setCell (p := ⟨GR, dn, none⟩) (Nat.le_refl _) _⟩
                    case measure => simp [intOf]; omega
                  · obtain ⟨f0, f1⟩ := HFB.out x k fv hltx (by omega) hfo
                    by_cases hlt2 : pv < fv
                    · have hs : FoG (S.foldK S.R (S.now x) x (k + 1)) true pv := .inr ⟨rfl, by rw [HFS.out _ hfo, HCV.out]; exact if_pos hlt2⟩
                      have HS := Lib.hid hs
                      clear hs hfo
                      go_wp2_with (go_at_call 121; refine (share_any kind k0 k1 _ _ _ _ _ _ HJO1.out (by omega) (by omega)).mono ?_; rintro e w5 ⟨rfl, hb5⟩; rw [HPE.out]; obtain ⟨cr, cx, cf⟩ := HCR.out _ (HR4.out.below hb5 (by simp; omega)); rw [HR.out] at cr; have HR5 := Lib.hid (HR4.out.below hb5 (by simp; omega)); have HB5 := Lib.hid (HB4.out.trans (hb5.mono (by simp; omega))); clear hb5)
                      go_roundw
                      case rel => exact ⟨k + 1, true, pv, by omega, by go_num, rfl, HS.out, HPUT.out _ _ _ HR5.out, HB5.out.setCell (p := ⟨GR, dn, none⟩) (Nat.le_refl _) _⟩
                      case measure => simp [intOf]; omega
                    · have hs : FoG (S.foldK S.R (S.now x) x (k + 1)) true fv := .inr ⟨rfl, by rw [HFS.out _ hfo, HCV.out]; exact if_neg hlt2⟩
                      have HS := Lib.hid hs
                      clear hs hfo
                      go_wp2_with (go_at_call 121; refine (share_any kind k0 k1 _ _ _ _ _ _ HJO1.out (by omega) (by omega)).mono ?_; rintro e w5 ⟨rfl, hb5⟩; rw [HPE.out]; obtain ⟨cr, cx, cf⟩ := HCR.out _ (HR4.out.below hb5 (by simp; omega)); rw [HR.out] at cr; have HR5 := Lib.hid (HR4.out.below hb5 (by simp; omega)); have HB5 := Lib.hid (HB4.out.trans (hb5.mono (by simp; omega))); clear hb5)
                      go_roundw
                      case rel => exact ⟨k + 1, true, fv, by omega, by go_num, rfl, HS.out, HR5.out, HB5.out⟩
                      case measure => simp [intOf]; omega
                · have hx1 : ((d : Int) != (L : Int)) = true := by simp; omega
                  have hx2 : ((d : Int) == (L : Int)) = false := by simp; omega
                  have hx3 : ((d : Int) != (L : Int) + 1 - 1) = true := by simp; omega
                  have hx4 : ((d : Int) == (L : Int) + 1 - 1) = false := by simp; omega
                  have hcv : S.cand S.R (S.now x) x k = bothV kind pv r := by rw [HCAND.out, if_neg (by omega), HR.out]
                  obtain ⟨cv, hcv'⟩ : ∃ v, bothV kind pv r = v := ⟨_, rfl⟩
                  rw [hcv'] at hcv b0 b1
                  have HCV := Lib.hid hcv; have HCV' := Lib.hid hcv'; clear hcv hcv'
                  rcases hfo with ⟨rfl, hfo, rfl⟩ | ⟨rfl, hfo⟩
                  · have hs : FoG (S.foldK S.R (S.now x) x (k + 1)) true cv := .inr ⟨rfl, by rw [HFN.out hfo, HCV.out]⟩
                    have HS := Lib.hid hs
                    clear hs hfo
                    go_wp2_with (first | (go_at_call 121; refine (share_any kind k0 k1 _ _ _ _ _ _ HJO1.out (by omega) (by omega)).mono ?_; rintro e w5 ⟨rfl, hb5⟩; rw [HPE.out]; obtain ⟨cr, cx, cf⟩ := HCR.out _ (HR4.out.below hb5 (by simp; omega)); rw [HR.out] at cr; have HR5 := Lib.hid (HR4.out.below hb5 (by simp; omega)); have HB5 := Lib.hid (HB4.out.trans (hb5.mono (by simp; omega))); clear hb5) | (go_at_call 122; refine (implBoth_any kind k0 k1 _ _ _ (by omega) (by omega) (by omega) (by omega)).mono ?_; rintro e w6 ⟨rfl, rfl⟩; rw [HCV'.out]))
                    go_roundw
                    case rel => exact ⟨k + 1, true, cv, by omega, by go_num, rfl, HS.out, HPUT.out _ _ _ HR5.out, HB5.out.setCell (p := ⟨GR, dn, none⟩) (Nat.le_refl _) _⟩
                    case measure => simp [intOf]; omega
                  · obtain ⟨f0, f1⟩ := HFB.out x k fv hltx (by omega) hfo
                    by_cases hlt2 : cv < fv
                    · have hs : FoG (S.foldK S.R (S.now x) x (k + 1)) true cv := .inr ⟨rfl, by rw [HFS.out _ hfo, HCV.out]; exact if_pos hlt2⟩
                      have HS := Lib.hid hs
                      clear hs hfo
                      go_wp2_with (first | (go_at_call 121; refine (share_any kind k0 k1 _ _ _ _ _ _ HJO1.out (by omega) (by omega)).mono ?_; rintro e w5 ⟨rfl, hb5⟩; rw [HPE.out]; obtain ⟨cr, cx, cf⟩ := HCR.out _ (HR4.out.below hb5 (by simp; omega)); rw [HR.out] at cr; have HR5 := Lib.hid (HR4.out.below hb5 (by simp; omega)); have HB5 := Lib.hid (HB4.out.trans (hb5.mono (by simp; omega))); clear hb5) | (go_at_call 122; refine (implBoth_any kind k0 k1 _ _ _ (by omega) (by omega) (by omega) (by omega)).mono ?_; rintro e w6 ⟨rfl, rfl⟩; rw [HCV'.out]))
                      go_roundw
                      case rel => exact ⟨k + 1, true, cv, by omega, by go_num, rfl, HS.out, HPUT.out _ _ _ HR5.out, HB5.out.setCell (p := ⟨GR, dn, none⟩) (Nat.le_refl _) _⟩
                      case measure => simp [intOf]; omega
                    · have hs : FoG (S.foldK S.R (S.now x) x (k + 1)) true fv := .inr ⟨rfl, by rw [HFS.out _ hfo, HCV.out]; exact if_neg hlt2⟩
                      have HS := Lib.hid hs
                      clear hs hfo
                      go_wp2_with (first | (go_at_call 121; refine (share_any kind k0 k1 _ _ _ _ _ _ HJO1.out (by omega) (by omega)).mono ?_; rintro e w5 ⟨rfl, hb5⟩; rw [HPE.out]; obtain ⟨cr, cx, cf⟩ := HCR.out _ (HR4.out.below hb5 (by simp; omega)); rw [HR.out] at cr; have HR5 := Lib.hid (HR4.out.below hb5 (by simp; omega)); have HB5 := Lib.hid (HB4.out.trans (hb5.mono (by simp; omega))); clear hb5) | (go_at_call 122; refine (implBoth_any kind k0 k1 _ _ _ (by omega) (by omega) (by omega) (by omega)).mono ?_; rintro e w6 ⟨rfl, rfl⟩; rw [HCV'.out]))
                      go_roundw
                      case rel => exact ⟨k + 1, true, fv, by omega, by go_num, rfl, HS.out, HR5.out, HB5.out⟩
                      case measure => simp [intOf]; omega
            · obtain rfl : k = q := by omega
              have hR := HREQ.out x (!fb) fv (by omega) HF.out.fo
              have hfin : Rw wr GR (L + 1) (boU S L (x + 1) 0) := by rw [← boU_next, hR]; exact HO2.out
              have HFI := Lib.hid hfin
              have hd1 : (dn : Int) - 1 = (L : Int) - ((x + 1 : Nat) : Int) := by omega
              have HD1 := Lib.hid hd1
              clear hR hfin hk hd1
              go_wp2
              go_roundw
              case rel => exact ⟨x + 1, by omega, by omega, by rw [HD1.out], HFI.out, HB2.out⟩
              case measure => simp [intOf] <;> omega
    · have hxL : x = L + 1 := by omega
      have hfin : CostsP w S L (.returned (.slice (some ⟨GR, 0, none⟩) (L + 1) (L + 1))) wr := ⟨GR, rfl, by have := HO.out; rw [hxL] at this; exact this, by rw [HGR.out]; exact Nat.le_refl _, by rw [HGR.out]; exact HBk.out⟩
      have HFIN := Lib.hid hfin
      have hneg : (L : Int) - (x : Int) = -1 := by omega
      rw [hneg]
      clear hxL hfin hneg
      go_wp2
      go_ret
      exact HFIN.out
end Go.Proofs.Ytncmhinpjkkfkaa
