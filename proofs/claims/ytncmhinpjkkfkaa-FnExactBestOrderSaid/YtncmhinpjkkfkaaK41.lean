/-
  Walks: the search for the best order: the program's function. Conditions: none.
-/
import Derived.Test.YtncmhinpjkkfkaaK40
set_option linter.unusedVariables false
set_option linter.unusedSimpArgs false
namespace Go.Proofs.Ytncmhinpjkkfkaa
open Go Go.RowKit

theorem row_box (w : World) (a b c d : Int) : Row (w.alloc (.cells #[.int .i64 a, .int .i64 b, .int .i64 c, .int .i64 d] 67)) w.heap.size 67 4 [.int .i64 a, .int .i64 b, .int .i64 c, .int .i64 d] := ⟨#[.int .i64 a, .int .i64 b, .int .i64 c, .int .i64 d], heap_alloc_new w _, rfl, by simp, by simp [maxLen], rfl⟩

/-- Of a box, its first cell. -/
def Box (w : World) (B : Nat) (a b c d : Int) : Prop := Row w B 67 4 [.int .i64 a, .int .i64 b, .int .i64 c, .int .i64 d]
theorem Box.cell {w : World} {B : Nat} {a b c d : Int} (h : Box w B a b c d) : w.cell? ⟨B, 0, none⟩ = some (.int .i64 a) := Row.cell h 0 (by simp)

set_option maxHeartbeats 16000000 in
set_option maxRecDepth 100000 in
theorem implBO_yes (w : World) (g n c : Nat) (js : List J) (hn : js.length = n) (hcap : n ≤ c) (hm : n ≤ 1048576) (hj : JRd w g 0 js) (hg : g < w.heap.size) (kind : Int) (xlo : -9223372036854775808 ≤ kind) (xhi : kind ≤ 9223372036854775807) (hc : boB js kind = true) :
    Calls Try.prog 68 #[.slice (some ⟨g, 0, none⟩) n c, .int .i64 kind] w (BoP js kind w) := by
  obtain ⟨hBd, n1, n2, k0, k1, hjb, hfr, hok⟩ := boS_bd hc
  have hfin0 : ∀ w' G cap, Rw w' G cap ((boS js kind).st n).out → w.heap.size ≤ G → Below w.heap.size w w' → BoP js kind w (.returned (.tuple #[.slice (some ⟨G, 0, none⟩) n cap, .int .i64 ((boS js kind).R (boS js kind).all), .bool true])) w' := by
    intro w' G cap h1 h2 h3
    have hl := boL_len' js kind n
    unfold BoP boL boV
    rw [hn]
    exact ⟨G, cap, by rw [hl], h1, h2, h3⟩
  obtain ⟨S, hS⟩ : ∃ S, boS js kind = S := ⟨_, rfl⟩
  have hSn : S.n = n := by rw [← hS]; exact hn
  have hSB : S.B = bothV kind := by rw [← hS]; rfl
  have hSc : ∀ i t, S.c i t = partV kind (jN js i) t := fun i t => by rw [← hS]; rfl
  have hSt : ∀ i, S.tm i = (jN js i).time := fun i => by rw [← hS]; rfl
  rw [hS] at hBd hfin0
  rw [hn] at n1 n2 hok
  have hass : ∀ a b c, S.B (S.B a b) c = S.B a (S.B b c) := by rw [hSB]; exact bothV_assoc kind
  obtain ⟨L, hL⟩ : ∃ L, 2 ^ n = L + 1 := ⟨2 ^ n - 1, by have : 0 < 2 ^ n := Nat.pow_pos (by decide); omega⟩
  have hL1 := pow_le10 n2
  rw [hL] at hL1
  have hp : (2 : Int) ^ n = (L : Int) + 1 := by rw [powI hL]; rfl
  have wp : IntKind.i64.wrap ((2 : Int) ^ n) = (L : Int) + 1 := by rw [hp]; exact IntWalk.i64_in _ (by omega)
  have hall : S.all = L := by unfold Sets.Srch.all; rw [hSn, hL]; omega
  rw [hall] at hfin0
  have hao : aoB js = true := by unfold aoB; rw [hjb, hfr]; rfl
  have hin : inB kind 0 4 = true := by unfold inB; simp; omega
  have hRbd : ∀ y, y ≤ L → -100000000000 ≤ S.R y ∧ S.R y ≤ 100000000000 := fun y a => Sets.Srch.R_bd' hBd (by rw [hSn, hL]; omega)
  have hReq : ∀ x fb fv, x ≠ 0 → FoP (S.foldK S.R (S.now x) x n) fb fv → S.R x = fv := fun x fb fv a h => by
    rw [S.R_eq x a, hSn]; exact h.get
  have hcbd : ∀ i t, i < n → 0 ≤ t → t ≤ 1000000 → -10000000000 ≤ S.c i t ∧ S.c i t ≤ 10000000000 := fun i t a b d => hBd.c i t (by omega) b d
  have hBbd : ∀ a b X : Int, -X ≤ a → a ≤ X → -X ≤ b → b ≤ X → -(2 * X) ≤ bothV kind a b ∧ bothV kind a b ≤ 2 * X := fun a b X p q r t => by
    have := hBd.B a b X X p q r t
    rw [hSB] at this; omega
  have hTbd : ∀ k, k ≤ n → 0 ≤ S.total k ∧ S.total k ≤ 100000 := fun k a => by
    have := Sets.Srch.total_bd hBd k (by omega); omega
  have hSbd : ∀ x k, k ≤ n → 0 ≤ S.sumK x k ∧ S.sumK x k ≤ 100000 ∧ S.sumK x k ≤ S.total k := fun x k a => by
    have := Sets.Srch.sumK_bd hBd x k (by omega)
    have := hTbd k a
    omega
  have hFbd : ∀ x k v, x ≤ L → k ≤ n → S.foldK S.R (S.now x) x k = some v → -100000000000 ≤ v ∧ v ≤ 100000000000 := fun x k v a b d => Sets.Srch.fold_bd hBd (by rw [hSn, hL]; omega) k (by omega) v d
  have hst : ∀ s, s ≤ n → BoSt S L s := fun s a => boSt (by rw [hSn]; exact hL) hBd hass (by omega)
  have hCell : ∀ w1, JRd w1 g 0 js → ∀ k, k < n → ∃ j : J, jN js k = j ∧ JOk j ∧ w1.cell? ⟨g, k * 4, none⟩ = some (.int .i64 j.time) ∧ w1.cell? ⟨g, k * 4 + 1, none⟩ = some (.int .i64 j.rel) ∧ w1.cell? ⟨g, k * 4 + 2, none⟩ = some (.int .i64 j.due) ∧ w1.cell? ⟨g, k * 4 + 3, none⟩ = some (.int .i64 j.wt) ∧ S.tm k = j.time ∧ ∀ t, S.c k t = partV kind j t := by
    intro w1 h1 k hk
    have hk' : k < js.length := by omega
    obtain ⟨c0, c1, c2, c3⟩ := h1 k hk'
    rw [Nat.zero_add] at c0 c1 c2 c3
    have e := jN_eq hk'
    exact ⟨js[k], e, by rw [← e]; exact hok k hk, c0, c1, c2, c3, by rw [hSt, e], fun t => by rw [hSc, e]⟩
  have hBit : ∀ y i, y ≤ L → i < n → ∃ B : Nat, 2 ^ i = B ∧ 1 ≤ B ∧ B ≤ 1024 ∧ (2 : Int) ^ i = (B : Int) ∧ bits .and .i64 ((y : Int) / (B : Int)) 1 = (if Sets.has y i = true then 1 else 0) ∧ Sets.has (L - y) i = (!Sets.has y i) ∧ (Sets.has y i = false → y + B ≤ L ∧ bits .or .i64 (y : Int) (B : Int) = ((y + B : Nat) : Int)) := by
    intro y i a b
    have e : 2 ^ i ≤ 1024 := pow_le10 (by omega)
    have y62 : y < 2 ^ 62 := Nat.lt_of_le_of_lt (show y ≤ 1023 by omega) (by decide)
    have hcm : Sets.has (L - y) i = !Sets.has y i := by
      have := Sets.has_compl (n := n) (s := y) (i := i) (by omega) b
      rw [hL] at this
      have e2 : L + 1 - 1 - y = L - y := by omega
      rw [e2] at this; exact this
    refine ⟨2 ^ i, rfl, Nat.pow_pos (by decide), e, powI rfl, ?_, hcm, fun h => ⟨?_, ?_⟩⟩
    · have := Sets.and_one y i y62; unfold Sets.bit at this; exact this
    · rw [h] at hcm
      have := Sets.has_le hcm; omega
    · rw [Sets.bits_or _ _ y62 (Sets.pow_lt (by omega)), Sets.or_bit _ _ y62 (by omega) h]
  have HALL := Lib.hid hall; have HFIN := Lib.hid hfin0; have HRB := Lib.hid hRbd; have HREQ := Lib.hid hReq; have HCB := Lib.hid hcbd; have HBB := Lib.hid hBbd; have HTB := Lib.hid hTbd; have HSBD := Lib.hid hSbd; have HFB := Lib.hid hFbd; have HST := Lib.hid hst; have HCELL := Lib.hid hCell; have HBIT := Lib.hid hBit
  have HN := Lib.hid hn; have HC := Lib.hid hc; have HJ := Lib.hid hj; have HSN := Lib.hid hSn; have HL := Lib.hid hL; have HSB := Lib.hid hSB; have HAO := Lib.hid hao; have HS0 := Lib.hid hS; have HIN := Lib.hid hin
  clear hall hfin0 hRbd hReq hcbd hBbd hTbd hSbd hFbd hst hCell hBit hn hc hj hSn hL hSB hjb hfr hao hin hBd hok hSc hSt hass hS hp
  go_enter Try.func68, Try.ntmps68
  go_wp2_with (first
    | (go_at_call 115; refine (areAtOnce_any g n c js _ HN.out hm HJ.out hg).mono ?_; rintro e w1 ⟨rfl, hb1⟩; rw [HAO.out]; have HB1 := Lib.hid hb1; have hs1 := hb1.size; clear hb1)
    | (go_at_call 71; refine (within_any _ _ _ _).mono ?_; rintro e w' ⟨rfl, rfl⟩; rw [HIN.out])
    | (go_at_call 120; refine (leastCosts_any _ g n c js HN.out hcap hm (HJ.out.below HB1.out hg) (by omega) kind HC.out S HS0.out L HL.out).mono ?_; rintro e w2 ⟨GR, rfl, hr, hgr, hb⟩; have HR2 := Lib.hid hr; have HB2 := Lib.hid (HB1.out.trans (hb.mono HB1.out.size)); have hGR := hr.lt; have hGR0 : w.heap.size ≤ GR := (by omega); clear hr hb hgr))
  obtain ⟨U, hU⟩ : ∃ U, w.heap.size = U := ⟨_, rfl⟩
  have HU := Lib.hid hU
  have R00 := Lib.hid (rw_nil (row_fresh w2))
  have hB1 : Below w.heap.size w (w2.alloc (.cells #[] 2)) := HB2.out.alloc (by omega) _
  rw [hU] at hB1 hg hGR0
  have HR1 := Lib.hid (HR2.out.alloc (.cells #[] 2))
  have HBB1 := Lib.hid hB1
  have hst0 : (S.st 0).out = [] ∧ ((L - (S.st 0).left : Nat) : Int) = 0 ∧ (S.st 0).now = 0 ∧ (S.st 0).cost = 0 := ⟨rfl, by show ((L - S.all : Nat) : Int) = 0; rw [HALL.out]; omega, rfl, rfl⟩
  have HST0 := Lib.hid hst0
  have hG0 : U ≤ w2.heap.size := by omega
  obtain ⟨G0, hG0e⟩ : ∃ G, w2.heap.size = G := ⟨_, rfl⟩
  rw [hG0e] at R00 hGR hG0 ⊢
  obtain ⟨wq, hwq⟩ : ∃ wq : World, w2.alloc (.cells #[] 2) = wq := ⟨_, rfl⟩
  rw [hwq] at R00 HR1 HBB1 ⊢
  clear hst0 hU hB1 HR2 HB1 HB2 hwq hG0e
  go_loopw [9, 10, 11, 12, 13, 14, 15, 16, 17, 40, 41, 42] (fun o dnv nw cst _ _ _ _ _ _ _ _ w3 => ∃ s G cap : Nat, s ≤ n ∧ o = .slice (some ⟨G, 0, none⟩) s cap ∧ cst = .int .i64 (S.st s).cost ∧ nw = .int .i64 (S.st s).now ∧ dnv = .int .i64 ((L - (S.st s).left : Nat) : Int) ∧ Rw w3 G cap (S.st s).out ∧ Rw w3 GR (L + 1) (boU S L (L + 1) 0) ∧ GR ≠ G ∧ U ≤ G ∧ Below U w w3) (fun o _ _ _ _ _ _ _ _ _ _ _ _ => n - lenOf o)
  case atStart => exact ⟨0, G0, 0, by omega, rfl, by rw [HST0.out.2.2.2], by rw [HST0.out.2.2.1], by rw [HST0.out.2.1], by rw [HST0.out.1]; exact R00.out, HR1.out, by omega, by omega, HBB1.out⟩
  case round =>
    obtain ⟨s, G, cap, hs, rfl, rfl, rfl, rfl, hos, hro, hne, hGG, hbk⟩ := hrel
    obtain ⟨q1, q3, q4, q5, qz, q6, q7⟩ := HST.out s hs
    have HOS := Lib.hid hos; have HO4 := Lib.hid hro; have HB4 := Lib.hid hbk
    have HLO := Lib.hid q1
    have hGlt := hos.lt; have hGRlt := hro.lt
    clear hos hro hbk R00 HR1 HBB1 q1
    by_cases hsl : s < n
    · obtain ⟨a1, a2, a3⟩ := q7 (by rw [HSN.out]; exact hsl)
      have hlf := q6 (by rw [HSN.out]; exact hsl)
      have hs1 := boAll S s
      have hgood : ∀ i, S.good (S.st s) i = (Sets.has (S.st s).left i && decide (S.whole (S.st s) i = S.R S.all)) := fun i => rfl
      have hnext : ∀ i, S.next (S.st s) i = if s = 0 then S.c i ((S.st s).now + S.tm i) else bothV kind (S.st s).cost (S.c i ((S.st s).now + S.tm i)) := fun i => by
        unfold Sets.Srch.next
        by_cases e : s = 0
        · have : (S.st s).out = [] := List.length_eq_zero_iff.1 (by rw [HLO.out]; exact e)
          rw [if_pos e, if_pos this]
        · have : (S.st s).out ≠ [] := fun h => by have := HLO.out; rw [h] at this; exact e this.symm
          rw [if_neg e, if_neg this, HSB.out]
      have hwhole : ∀ i, S.whole (S.st s) i = if (S.st s).left - 2 ^ i = 0 then S.next (S.st s) i else bothV kind (S.next (S.st s) i) (S.R ((S.st s).left - 2 ^ i)) := fun i => by
        unfold Sets.Srch.whole; rw [HSB.out]
      obtain ⟨RL, hRL⟩ : ∃ v, S.R L = v := ⟨_, rfl⟩
      rw [HALL.out, hRL] at hgood
      have HS1 := Lib.hid hs1; have HGOOD := Lib.hid hgood; have HNEXT := Lib.hid hnext; have HWHOLE := Lib.hid hwhole; have HA3 := Lib.hid a3; have HA2 := Lib.hid a2
      obtain ⟨l0, l1⟩ := HRB.out L (Nat.le_refl _)
      rw [hRL] at l0 l1
      have HRL := Lib.hid hRL
      clear hRL
      generalize (S.st s).left = lf at *
      generalize (S.st s).now = nv at *
      generalize (S.st s).cost = cv at *
      generalize (S.st s).out = os at *
      generalize S.pick (S.st s) S.n 0 = pk at *
      generalize S.next (S.st s) = nxf at *
      generalize S.whole (S.st s) = whf at *
      generalize S.good (S.st s) = gdf at *
      have a1 : pk < n := by have := HSN.out; omega
      clear hs1 hgood hnext hwhole a2 a3 q6 q7 qz
      obtain ⟨q4a, q4b⟩ := q4
      obtain ⟨q5a, q5b⟩ := q5
      obtain ⟨dn, hdn⟩ : ∃ dn, L - lf = dn := ⟨_, rfl⟩
      have hdl : dn + lf = L := by omega
      rw [hdn]
      have HDN := Lib.hid hdn
      clear hdn
      go_wp2
      obtain ⟨wz, rfl⟩ : ∃ wz : World, wz = wr := ⟨_, rfl⟩
      go_loopw [9, 10, 11, 12, 13, 14, 15, 16, 17, 42] (fun o dnv nw cst _ _ _ _ _ i w3 => ∃ q : Nat, q ≤ pk ∧ o = .slice (some ⟨G, 0, none⟩) s cap ∧ cst = .int .i64 cv ∧ nw = .int .i64 nv ∧ dnv = .int .i64 (dn : Int) ∧ i = .int .i64 q ∧ Below wz.heap.size wz w3) (fun _ _ _ _ _ _ _ _ _ i _ => n - (intOf i).toNat)
      case atStart => exact ⟨0, by omega, rfl, rfl, rfl, rfl, rfl, .refl _ _⟩
      case round =>
        obtain ⟨q, hq, rfl, rfl, rfl, rfl, rfl, hdz⟩ := hrel
        have HDZ := Lib.hid hdz
        have hzs := hdz.size
        clear hdz
        have HB5 : Hid (Below U w wr) := Lib.hid (HB4.out.trans (HDZ.out.mono (by omega)))
        have hqk : q < n := by omega
        obtain ⟨⟨ja, jb, jc, jd⟩, hjN, hjo, c0, c1, c2, c3, htm, hcc⟩ := HCELL.out _ (HJ.out.below HB5.out hg) q hqk
        have HJO1 := Lib.hid hjo
        obtain ⟨d1, d2, _, _, _, _, _, _⟩ := hjo
        simp only at c0 c1 c2 c3 htm d1 d2
        have hdz4 : Below wz.heap.size wz (wr.alloc (.cells #[.int .i64 ja, .int .i64 jb, .int .i64 jc, .int .i64 jd] 67)) := HDZ.out.alloc (by omega) _
        have hbx4 : Box (wr.alloc (.cells #[.int .i64 ja, .int .i64 jb, .int .i64 jc, .int .i64 jd] 67)) wr.heap.size ja jb jc jd := row_box wr ja jb jc jd
        have HDZ4 := Lib.hid hdz4; have HBX4 := Lib.hid hbx4
        clear hdz4 hbx4
        obtain ⟨B, hB, B1, B2, hB2, hband, hcm, hyes⟩ := HBIT.out dn q (by omega) hqk
        have hLdn : L - dn = lf := by omega
        rw [hLdn] at hcm
        have wB : IntKind.i64.wrap (B : Int) = (B : Int) := IntWalk.i64_in _ (by omega)
        have wB2 : IntKind.i64.wrap ((2 : Int) ^ q) = (B : Int) := by rw [hB2]; exact wB
        cases hh : Sets.has dn q with
        | true =>
          rw [hh] at hband hcm
          have hba : bits .and .i64 ((dn : Int) / (B : Int)) 1 = 1 := by simpa using hband
          have hcm' : Sets.has lf q = false := hcm
          have hqp : q ≠ pk := fun e => by
            have := HA2.out
            rw [← e, HGOOD.out, hcm'] at this; exact absurd this (by simp)
          clear hB hyes hband hh hcm hcm' hLdn hjN htm hcc
          go_wp2
          go_roundw
          case rel => exact ⟨q + 1, by omega, rfl, rfl, rfl, rfl, by go_num, HDZ4.out⟩
          case measure => simp [intOf]; omega
        | false =>
          rw [hh] at hband hcm
          have hba : bits .and .i64 ((dn : Int) / (B : Int)) 1 = 0 := by simpa using hband
          have hcm' : Sets.has lf q = true := hcm
          obtain ⟨hdx, hbo⟩ := hyes hh
          obtain ⟨d, hd⟩ : ∃ d, dn + B = d := ⟨_, rfl⟩
          rw [hd] at hbo hdx
          have hBx : B ≤ lf := by omega
          obtain ⟨xb, hxb⟩ : ∃ xb, lf - B = xb := ⟨_, rfl⟩
          have hdxb : L - d = xb := by omega
          have hLxd : L - (lf - B) = d := by omega
          have hnx := HNEXT.out q
          have hwh := HWHOLE.out q
          have hgd := HGOOD.out q
          rw [htm] at hnx
          rw [hB, hxb] at hwh
          rw [hcm', Bool.true_and] at hgd
          have hpb := HCB.out q (nv + ja) hqk (by omega) (by omega)
          obtain ⟨pv, hpv⟩ : ∃ v, S.c q (nv + ja) = v := ⟨_, rfl⟩
          have hpe : partV kind ⟨ja, jb, jc, jd⟩ (nv + ja) = pv := by rw [← hcc]; exact hpv
          rw [hpv] at hnx hpb
          obtain ⟨p0, p1⟩ := hpb
          have hcr : ∀ w4, Rw w4 GR (L + 1) (boU S L (L + 1) 0) → w4.cell? ⟨GR, d, none⟩ = some (.int .i64 (S.R xb)) ∧ w4.cell? ⟨GR, 0, none⟩ = some (.int .i64 RL) := fun w4 h4 => by
            have cr := h4.cell d (by rw [boU_len]; omega)
            rw [boU_get S 0 (by omega) hdx, hdxb] at cr
            have cx := h4.cell 0 (by rw [boU_len]; omega)
            rw [boU_get S 0 (by omega) (by omega), Nat.sub_zero, HRL.out] at cx
            exact ⟨cr, cx⟩
          obtain ⟨r0, r1⟩ := HRB.out xb (by omega)
          obtain ⟨r, hr⟩ : ∃ r, S.R xb = r := ⟨_, rfl⟩
          rw [hr] at r0 r1 hwh hcr
          obtain ⟨b0, b1⟩ := HBB.out cv pv 100000000000 (by omega) (by omega) (by omega) (by omega)
          obtain ⟨bw0, bw1⟩ := HBB.out (nxf q) r 200000000000 (by rw [hnx]; split <;> omega) (by rw [hnx]; split <;> omega) (by omega) (by omega)
          have HXB := Lib.hid hLxd; have HB0 := Lib.hid hB; have HTM := Lib.hid htm; have HCR := Lib.hid hcr; have HPE := Lib.hid hpe
          have hqn : q ≠ pk ↔ gdf q = false := ⟨fun h => HA3.out q (by omega), fun h e => by rw [e, HA2.out] at h; cases h⟩
          obtain ⟨nx, hnx'⟩ : ∃ v, nxf q = v := ⟨_, rfl⟩
          obtain ⟨wh, hwh'⟩ : ∃ v, whf q = v := ⟨_, rfl⟩
          rw [hnx'] at hnx hwh bw0 bw1
          rw [hwh'] at hwh hgd
          have HNX := Lib.hid hnx'; have HWH := Lib.hid hwh'
          have hd0 : d < L + 1 := by omega
          have hL0 : 0 < L + 1 := by omega
          have hL0' : (0 : Int) < (L : Int) + 1 := by omega
          have hdd : dn + B = d := hd
          have HDD := Lib.hid hdd
          clear hnx' hwh' hpe hpv hcc htm hjN hB hband hyes hh hcm hcm' hxb hr hcr hLxd hLdn hd hdd
          by_cases hs0 : s = 0
          · rcases Nat.eq_zero_or_pos xb with hx0 | hx0
            · have hsd1 : decide (0 < s) = false := decide_eq_false (by omega)
              have hsd2 : decide ((0 : Int) < (s : Int)) = false := decide_eq_false (by omega)
              rw [if_pos hs0] at hnx
              subst hnx
              have HS00 := Lib.hid hs0; clear hs0
              rw [if_pos hx0] at hwh
              have hdL : d = L := by omega
              have hx1 : (((L : Nat) : Int) != (L : Int)) = false := by simp
              subst hwh
              subst hdL
              have hx3 : ((d : Int) != (d : Int) + 1 - 1) = false := by simp
              have hx4 : ((d : Int) == (d : Int) + 1 - 1) = true := by simp
              by_cases hqp : q = pk
              · subst hqp
                have hwr : wh = RL := by rw [HA2.out] at hgd; simpa using hgd.symm
                have e1 : wh ≤ RL := by omega
                have e2 : RL ≤ wh := by omega
                have hq1 : (wh == RL) = true := by simp; omega
                clear hgd hwr hqn
                go_wp2_with (first | (go_at_call 121; refine (share_any kind k0 k1 _ _ _ _ _ _ HJO1.out (by omega) (by omega)).mono ?_; rintro e w5 ⟨rfl, hb5⟩; rw [HPE.out]; have hz5 := hb5.size; have HDZ5 := Lib.hid (HDZ4.out.trans (hb5.mono (by simp; omega))); obtain ⟨cr, cx⟩ := HCR.out _ (HO4.out.below HDZ5.out hGRlt); have HBX5 : Hid (Box w5 wr.heap.size ja jb jc jd) := Lib.hid (Row.below HBX4.out hb5 (by simp)); have cb := HBX5.out.cell; have HOS5 := Lib.hid (HOS.out.below HDZ5.out hGlt); have HO5 := Lib.hid (HO4.out.below HDZ5.out hGRlt); have HB6 := Lib.hid (HB4.out.trans (HDZ5.out.mono (by omega))); clear hb5) | (go_at_call 122; refine (implBoth_any kind k0 k1 _ _ _ (by omega) (by omega) (by omega) (by omega)).mono ?_; rintro e w6 ⟨rfl, rfl⟩; first | rw [← HNE.out] | rw [← HWE.out]) | (at_builtin; refine push_int _ rfl _ _ rfl G cap os s (q : Nat) (by rfl) HLO.out HOS5.out (by rfl) (by omega) ?_; intro G' cap' w4 hO4 htc hat; obtain ⟨hb4, hG4, hrest⟩ := push_rest (by rw [HU.out]; exact HB6.out) (by rw [HU.out]; exact hGG) HOS5.out.lt htc hat; obtain ⟨hF4, hne4⟩ := hrest _ _ _ HO5.out hne; have cb4 := Box.cell (Row.touch (Row.alloc HBX5.out _) htc (by omega)); have HO6 := Lib.hid hO4; have HF6 := Lib.hid hF4; have HB7 := Lib.hid hb4; clear hO4 htc hat hb4 hrest hF4))
                go_roundw
                case rel => exact ⟨s + 1, G', cap', by omega, rfl, by rw [HS1.out.2.2.2, HNX.out], by rw [HS1.out.2.2.1, HTM.out], by rw [HS1.out.2.1, HB0.out, HXB.out], by rw [HS1.out.1]; exact HO6.out, HF6.out, hne4, by rw [← HU.out]; exact hG4, by rw [← HU.out]; exact HB7.out⟩
                case measure => simp [lenOf]; omega
              · have hwr : wh ≠ RL := by have := hqn.1 hqp; rw [this] at hgd; simpa using hgd.symm
                have hq1 : (wh == RL) = false := by simp; omega
                rcases (by omega : wh < RL ∨ RL < wh) with hlt' | hlt'
                · clear hgd hqn hwr
                  go_wp2_with (first | (go_at_call 121; refine (share_any kind k0 k1 _ _ _ _ _ _ HJO1.out (by omega) (by omega)).mono ?_; rintro e w5 ⟨rfl, hb5⟩; rw [HPE.out]; have hz5 := hb5.size; have HDZ5 := Lib.hid (HDZ4.out.trans (hb5.mono (by simp; omega))); obtain ⟨cr, cx⟩ := HCR.out _ (HO4.out.below HDZ5.out hGRlt); have HBX5 : Hid (Box w5 wr.heap.size ja jb jc jd) := Lib.hid (Row.below HBX4.out hb5 (by simp)); have cb := HBX5.out.cell; have HOS5 := Lib.hid (HOS.out.below HDZ5.out hGlt); have HO5 := Lib.hid (HO4.out.below HDZ5.out hGRlt); have HB6 := Lib.hid (HB4.out.trans (HDZ5.out.mono (by omega))); clear hb5) | (go_at_call 122; refine (implBoth_any kind k0 k1 _ _ _ (by omega) (by omega) (by omega) (by omega)).mono ?_; rintro e w6 ⟨rfl, rfl⟩; first | rw [← HNE.out] | rw [← HWE.out]))
                  go_roundw
                  case rel => exact ⟨q + 1, by omega, rfl, rfl, rfl, rfl, by go_num, HDZ5.out⟩
                  case measure => simp [intOf]; omega
                · clear hgd hqn hwr
                  go_wp2_with (first | (go_at_call 121; refine (share_any kind k0 k1 _ _ _ _ _ _ HJO1.out (by omega) (by omega)).mono ?_; rintro e w5 ⟨rfl, hb5⟩; rw [HPE.out]; have hz5 := hb5.size; have HDZ5 := Lib.hid (HDZ4.out.trans (hb5.mono (by simp; omega))); obtain ⟨cr, cx⟩ := HCR.out _ (HO4.out.below HDZ5.out hGRlt); have HBX5 : Hid (Box w5 wr.heap.size ja jb jc jd) := Lib.hid (Row.below HBX4.out hb5 (by simp)); have cb := HBX5.out.cell; have HOS5 := Lib.hid (HOS.out.below HDZ5.out hGlt); have HO5 := Lib.hid (HO4.out.below HDZ5.out hGRlt); have HB6 := Lib.hid (HB4.out.trans (HDZ5.out.mono (by omega))); clear hb5) | (go_at_call 122; refine (implBoth_any kind k0 k1 _ _ _ (by omega) (by omega) (by omega) (by omega)).mono ?_; rintro e w6 ⟨rfl, rfl⟩; first | rw [← HNE.out] | rw [← HWE.out]))
                  go_roundw
                  case rel => exact ⟨q + 1, by omega, rfl, rfl, rfl, rfl, by go_num, HDZ5.out⟩
                  case measure => simp [intOf]; omega
            · have hsd1 : decide (0 < s) = false := decide_eq_false (by omega)
              have hsd2 : decide ((0 : Int) < (s : Int)) = false := decide_eq_false (by omega)
              rw [if_pos hs0] at hnx
              subst hnx
              have HS00 := Lib.hid hs0; clear hs0
              rw [if_neg (by omega)] at hwh
              rw [← hwh] at bw0 bw1
              have hx1 : ((d : Int) != (L : Int)) = true := by simp; omega
              have hx2 : ((d : Int) == (L : Int)) = false := by simp; omega
              have hx3 : ((d : Int) != (L : Int) + 1 - 1) = true := by simp; omega
              have hx4 : ((d : Int) == (L : Int) + 1 - 1) = false := by simp; omega
              have HWE := Lib.hid hwh; clear hwh
              by_cases hqp : q = pk
              · subst hqp
                have hwr : wh = RL := by rw [HA2.out] at hgd; simpa using hgd.symm
                have e1 : wh ≤ RL := by omega
                have e2 : RL ≤ wh := by omega
                have hq1 : (wh == RL) = true := by simp; omega
                clear hgd hwr hqn
                go_wp2_with (first | (go_at_call 121; refine (share_any kind k0 k1 _ _ _ _ _ _ HJO1.out (by omega) (by omega)).mono ?_; rintro e w5 ⟨rfl, hb5⟩; rw [HPE.out]; have hz5 := hb5.size; have HDZ5 := Lib.hid (HDZ4.out.trans (hb5.mono (by simp; omega))); obtain ⟨cr, cx⟩ := HCR.out _ (HO4.out.below HDZ5.out hGRlt); have HBX5 : Hid (Box w5 wr.heap.size ja jb jc jd) := Lib.hid (Row.below HBX4.out hb5 (by simp)); have cb := HBX5.out.cell; have HOS5 := Lib.hid (HOS.out.below HDZ5.out hGlt); have HO5 := Lib.hid (HO4.out.below HDZ5.out hGRlt); have HB6 := Lib.hid (HB4.out.trans (HDZ5.out.mono (by omega))); clear hb5) | (go_at_call 122; refine (implBoth_any kind k0 k1 _ _ _ (by omega) (by omega) (by omega) (by omega)).mono ?_; rintro e w6 ⟨rfl, rfl⟩; first | rw [← HNE.out] | rw [← HWE.out]) | (at_builtin; refine push_int _ rfl _ _ rfl G cap os s (q : Nat) (by rfl) HLO.out HOS5.out (by rfl) (by omega) ?_; intro G' cap' w4 hO4 htc hat; obtain ⟨hb4, hG4, hrest⟩ := push_rest (by rw [HU.out]; exact HB6.out) (by rw [HU.out]; exact hGG) HOS5.out.lt htc hat; obtain ⟨hF4, hne4⟩ := hrest _ _ _ HO5.out hne; have cb4 := Box.cell (Row.touch (Row.alloc HBX5.out _) htc (by omega)); have HO6 := Lib.hid hO4; have HF6 := Lib.hid hF4; have HB7 := Lib.hid hb4; clear hO4 htc hat hb4 hrest hF4))
                go_roundw
                case rel => exact ⟨s + 1, G', cap', by omega, rfl, by rw [HS1.out.2.2.2, HNX.out], by rw [HS1.out.2.2.1, HTM.out], by rw [HS1.out.2.1, HB0.out, HXB.out], by rw [HS1.out.1]; exact HO6.out, HF6.out, hne4, by rw [← HU.out]; exact hG4, by rw [← HU.out]; exact HB7.out⟩
                case measure => simp [lenOf]; omega
              · have hwr : wh ≠ RL := by have := hqn.1 hqp; rw [this] at hgd; simpa using hgd.symm
                have hq1 : (wh == RL) = false := by simp; omega
                rcases (by omega : wh < RL ∨ RL < wh) with hlt' | hlt'
                · clear hgd hqn hwr
                  go_wp2_with (first | (go_at_call 121; refine (share_any kind k0 k1 _ _ _ _ _ _ HJO1.out (by omega) (by omega)).mono ?_; rintro e w5 ⟨rfl, hb5⟩; rw [HPE.out]; have hz5 := hb5.size; have HDZ5 := Lib.hid (HDZ4.out.trans (hb5.mono (by simp; omega))); obtain ⟨cr, cx⟩ := HCR.out _ (HO4.out.below HDZ5.out hGRlt); have HBX5 : Hid (Box w5 wr.heap.size ja jb jc jd) := Lib.hid (Row.below HBX4.out hb5 (by simp)); have cb := HBX5.out.cell; have HOS5 := Lib.hid (HOS.out.below HDZ5.out hGlt); have HO5 := Lib.hid (HO4.out.below HDZ5.out hGRlt); have HB6 := Lib.hid (HB4.out.trans (HDZ5.out.mono (by omega))); clear hb5) | (go_at_call 122; refine (implBoth_any kind k0 k1 _ _ _ (by omega) (by omega) (by omega) (by omega)).mono ?_; rintro e w6 ⟨rfl, rfl⟩; first | rw [← HNE.out] | rw [← HWE.out]))
                  go_roundw
                  case rel => exact ⟨q + 1, by omega, rfl, rfl, rfl, rfl, by go_num, HDZ5.out⟩
                  case measure => simp [intOf]; omega
                · clear hgd hqn hwr
                  go_wp2_with (first | (go_at_call 121; refine (share_any kind k0 k1 _ _ _ _ _ _ HJO1.out (by omega) (by omega)).mono ?_; rintro e w5 ⟨rfl, hb5⟩; rw [HPE.out]; have hz5 := hb5.size; have HDZ5 := Lib.hid (HDZ4.out.trans (hb5.mono (by simp; omega))); obtain ⟨cr, cx⟩ := HCR.out _ (HO4.out.below HDZ5.out hGRlt); have HBX5 : Hid (Box w5 wr.heap.size ja jb jc jd) := Lib.hid (Row.below HBX4.out hb5 (by simp)); have cb := HBX5.out.cell; have HOS5 := Lib.hid (HOS.out.below HDZ5.out hGlt); have HO5 := Lib.hid (HO4.out.below HDZ5.out hGRlt); have HB6 := Lib.hid (HB4.out.trans (HDZ5.out.mono (by omega))); clear hb5) | (go_at_call 122; refine (implBoth_any kind k0 k1 _ _ _ (by omega) (by omega) (by omega) (by omega)).mono ?_; rintro e w6 ⟨rfl, rfl⟩; first | rw [← HNE.out] | rw [← HWE.out]))
                  go_roundw
                  case rel => exact ⟨q + 1, by omega, rfl, rfl, rfl, rfl, by go_num, HDZ5.out⟩
                  case measure => simp [intOf]; omega
          · rcases Nat.eq_zero_or_pos xb with hx0 | hx0
            · rw [if_neg (by omega)] at hnx
              rw [← hnx] at b0 b1
              have hs00 : 0 < s := by omega
              have HNE := Lib.hid hnx; clear hnx
              rw [if_pos hx0] at hwh
              have hdL : d = L := by omega
              have hx1 : (((L : Nat) : Int) != (L : Int)) = false := by simp
              subst hwh
              subst hdL
              have hx3 : ((d : Int) != (d : Int) + 1 - 1) = false := by simp
              have hx4 : ((d : Int) == (d : Int) + 1 - 1) = true := by simp
              by_cases hqp : q = pk
              · subst hqp
                have hwr : wh = RL := by rw [HA2.out] at hgd; simpa using hgd.symm
                have e1 : wh ≤ RL := by omega
                have e2 : RL ≤ wh := by omega
                have hq1 : (wh == RL) = true := by simp; omega
                clear hgd hwr hqn
                go_wp2_with (first | (go_at_call 121; refine (share_any kind k0 k1 _ _ _ _ _ _ HJO1.out (by omega) (by omega)).mono ?_; rintro e w5 ⟨rfl, hb5⟩; rw [HPE.out]; have hz5 := hb5.size; have HDZ5 := Lib.hid (HDZ4.out.trans (hb5.mono (by simp; omega))); obtain ⟨cr, cx⟩ := HCR.out _ (HO4.out.below HDZ5.out hGRlt); have HBX5 : Hid (Box w5 wr.heap.size ja jb jc jd) := Lib.hid (Row.below HBX4.out hb5 (by simp)); have cb := HBX5.out.cell; have HOS5 := Lib.hid (HOS.out.below HDZ5.out hGlt); have HO5 := Lib.hid (HO4.out.below HDZ5.out hGRlt); have HB6 := Lib.hid (HB4.out.trans (HDZ5.out.mono (by omega))); clear hb5) | (go_at_call 122; refine (implBoth_any kind k0 k1 _ _ _ (by omega) (by omega) (by omega) (by omega)).mono ?_; rintro e w6 ⟨rfl, rfl⟩; first | rw [← HNE.out] | rw [← HWE.out]) | (at_builtin; refine push_int _ rfl _ _ rfl G cap os s (q : Nat) (by rfl) HLO.out HOS5.out (by rfl) (by omega) ?_; intro G' cap' w4 hO4 htc hat; obtain ⟨hb4, hG4, hrest⟩ := push_rest (by rw [HU.out]; exact HB6.out) (by rw [HU.out]; exact hGG) HOS5.out.lt htc hat; obtain ⟨hF4, hne4⟩ := hrest _ _ _ HO5.out hne; have cb4 := Box.cell (Row.touch (Row.alloc HBX5.out _) htc (by omega)); have HO6 := Lib.hid hO4; have HF6 := Lib.hid hF4; have HB7 := Lib.hid hb4; clear hO4 htc hat hb4 hrest hF4))
                go_roundw
                case rel => exact ⟨s + 1, G', cap', by omega, rfl, by rw [HS1.out.2.2.2, HNX.out], by rw [HS1.out.2.2.1, HTM.out], by rw [HS1.out.2.1, HB0.out, HXB.out], by rw [HS1.out.1]; exact HO6.out, HF6.out, hne4, by rw [← HU.out]; exact hG4, by rw [← HU.out]; exact HB7.out⟩
                case measure => simp [lenOf]; omega
              · have hwr : wh ≠ RL := by have := hqn.1 hqp; rw [this] at hgd; simpa using hgd.symm
                have hq1 : (wh == RL) = false := by simp; omega
                rcases (by omega : wh < RL ∨ RL < wh) with hlt' | hlt'
                · clear hgd hqn hwr
                  go_wp2_with (first | (go_at_call 121; refine (share_any kind k0 k1 _ _ _ _ _ _ HJO1.out (by omega) (by omega)).mono ?_; rintro e w5 ⟨rfl, hb5⟩; rw [HPE.out]; have hz5 := hb5.size; have HDZ5 := Lib.hid (HDZ4.out.trans (hb5.mono (by simp; omega))); obtain ⟨cr, cx⟩ := HCR.out _ (HO4.out.below HDZ5.out hGRlt); have HBX5 : Hid (Box w5 wr.heap.size ja jb jc jd) := Lib.hid (Row.below HBX4.out hb5 (by simp)); have cb := HBX5.out.cell; have HOS5 := Lib.hid (HOS.out.below HDZ5.out hGlt); have HO5 := Lib.hid (HO4.out.below HDZ5.out hGRlt); have HB6 := Lib.hid (HB4.out.trans (HDZ5.out.mono (by omega))); clear hb5) | (go_at_call 122; refine (implBoth_any kind k0 k1 _ _ _ (by omega) (by omega) (by omega) (by omega)).mono ?_; rintro e w6 ⟨rfl, rfl⟩; first | rw [← HNE.out] | rw [← HWE.out]))
                  go_roundw
                  case rel => exact ⟨q + 1, by omega, rfl, rfl, rfl, rfl, by go_num, HDZ5.out⟩
                  case measure => simp [intOf]; omega
                · clear hgd hqn hwr
                  go_wp2_with (first | (go_at_call 121; refine (share_any kind k0 k1 _ _ _ _ _ _ HJO1.out (by omega) (by omega)).mono ?_; rintro e w5 ⟨rfl, hb5⟩; rw [HPE.out]; have hz5 := hb5.size; have HDZ5 := Lib.hid (HDZ4.out.trans (hb5.mono (by simp; omega))); obtain ⟨cr, cx⟩ := HCR.out _ (HO4.out.below HDZ5.out hGRlt); have HBX5 : Hid (Box w5 wr.heap.size ja jb jc jd) := Lib.hid (Row.below HBX4.out hb5 (by simp)); have cb := HBX5.out.cell; have HOS5 := Lib.hid (HOS.out.below HDZ5.out hGlt); have HO5 := Lib.hid (HO4.out.below HDZ5.out hGRlt); have HB6 := Lib.hid (HB4.out.trans (HDZ5.out.mono (by omega))); clear hb5) | (go_at_call 122; refine (implBoth_any kind k0 k1 _ _ _ (by omega) (by omega) (by omega) (by omega)).mono ?_; rintro e w6 ⟨rfl, rfl⟩; first | rw [← HNE.out] | rw [← HWE.out]))
                  go_roundw
                  case rel => exact ⟨q + 1, by omega, rfl, rfl, rfl, rfl, by go_num, HDZ5.out⟩
                  case measure => simp [intOf]; omega
            · rw [if_neg (by omega)] at hnx
              rw [← hnx] at b0 b1
              have hs00 : 0 < s := by omega
              have HNE := Lib.hid hnx; clear hnx
              rw [if_neg (by omega)] at hwh
              rw [← hwh] at bw0 bw1
              have hx1 : ((d : Int) != (L : Int)) = true := by simp; omega
              have hx2 : ((d : Int) == (L : Int)) = false := by simp; omega
              have hx3 : ((d : Int) != (L : Int) + 1 - 1) = true := by simp; omega
              have hx4 : ((d : Int) == (L : Int) + 1 - 1) = false := by simp; omega
              have HWE := Lib.hid hwh; clear hwh
              by_cases hqp : q = pk
              · subst hqp
                have hwr : wh = RL := by rw [HA2.out] at hgd; simpa using hgd.symm
                have e1 : wh ≤ RL := by omega
                have e2 : RL ≤ wh := by omega
                have hq1 : (wh == RL) = true := by simp; omega
                clear hgd hwr hqn
                go_wp2_with (first | (go_at_call 121; refine (share_any kind k0 k1 _ _ _ _ _ _ HJO1.out (by omega) (by omega)).mono ?_; rintro e w5 ⟨rfl, hb5⟩; rw [HPE.out]; have hz5 := hb5.size; have HDZ5 := Lib.hid (HDZ4.out.trans (hb5.mono (by simp; omega))); obtain ⟨cr, cx⟩ := HCR.out _ (HO4.out.below HDZ5.out hGRlt); have HBX5 : Hid (Box w5 wr.heap.size ja jb jc jd) := Lib.hid (Row.below HBX4.out hb5 (by simp)); have cb := HBX5.out.cell; have HOS5 := Lib.hid (HOS.out.below HDZ5.out hGlt); have HO5 := Lib.hid (HO4.out.below HDZ5.out hGRlt); have HB6 := Lib.hid (HB4.out.trans (HDZ5.out.mono (by omega))); clear hb5) | (go_at_call 122; refine (implBoth_any kind k0 k1 _ _ _ (by omega) (by omega) (by omega) (by omega)).mono ?_; rintro e w6 ⟨rfl, rfl⟩; first | rw [← HNE.out] | rw [← HWE.out]) | (at_builtin; refine push_int _ rfl _ _ rfl G cap os s (q : Nat) (by rfl) HLO.out HOS5.out (by rfl) (by omega) ?_; intro G' cap' w4 hO4 htc hat; obtain ⟨hb4, hG4, hrest⟩ := push_rest (by rw [HU.out]; exact HB6.out) (by rw [HU.out]; exact hGG) HOS5.out.lt htc hat; obtain ⟨hF4, hne4⟩ := hrest _ _ _ HO5.out hne; have cb4 := Box.cell (Row.touch (Row.alloc HBX5.out _) htc (by omega)); have HO6 := Lib.hid hO4; have HF6 := Lib.hid hF4; have HB7 := Lib.hid hb4; clear hO4 htc hat hb4 hrest hF4))
                go_roundw
                case rel => exact ⟨s + 1, G', cap', by omega, rfl, by rw [HS1.out.2.2.2, HNX.out], by rw [HS1.out.2.2.1, HTM.out], by rw [HS1.out.2.1, HB0.out, HXB.out], by rw [HS1.out.1]; exact HO6.out, HF6.out, hne4, by rw [← HU.out]; exact hG4, by rw [← HU.out]; exact HB7.out⟩
                case measure => simp [lenOf]; omega
              · have hwr : wh ≠ RL := by have := hqn.1 hqp; rw [this] at hgd; simpa using hgd.symm
                have hq1 : (wh == RL) = false := by simp; omega
                rcases (by omega : wh < RL ∨ RL < wh) with hlt' | hlt'
                · clear hgd hqn hwr
                  go_wp2_with (first | (go_at_call 121; refine (share_any kind k0 k1 _ _ _ _ _ _ HJO1.out (by omega) (by omega)).mono ?_; rintro e w5 ⟨rfl, hb5⟩; rw [HPE.out]; have hz5 := hb5.size; have HDZ5 := Lib.hid (HDZ4.out.trans (hb5.mono (by simp; omega))); obtain ⟨cr, cx⟩ := HCR.out _ (HO4.out.below HDZ5.out hGRlt); have HBX5 : Hid (Box w5 wr.heap.size ja jb jc jd) := Lib.hid (Row.below HBX4.out hb5 (by simp)); have cb := HBX5.out.cell; have HOS5 := Lib.hid (HOS.out.below HDZ5.out hGlt); have HO5 := Lib.hid (HO4.out.below HDZ5.out hGRlt); have HB6 := Lib.hid (HB4.out.trans (HDZ5.out.mono (by omega))); clear hb5) | (go_at_call 122; refine (implBoth_any kind k0 k1 _ _ _ (by omega) (by omega) (by omega) (by omega)).mono ?_; rintro e w6 ⟨rfl, rfl⟩; first | rw [← HNE.out] | rw [← HWE.out]))
                  go_roundw
                  case rel => exact ⟨q + 1, by omega, rfl, rfl, rfl, rfl, by go_num, HDZ5.out⟩
                  case measure => simp [intOf]; omega
                · clear hgd hqn hwr
                  go_wp2_with (first | (go_at_call 121; refine (share_any kind k0 k1 _ _ _ _ _ _ HJO1.out (by omega) (by omega)).mono ?_; rintro e w5 ⟨rfl, hb5⟩; rw [HPE.out]; have hz5 := hb5.size; have HDZ5 := Lib.hid (HDZ4.out.trans (hb5.mono (by simp; omega))); obtain ⟨cr, cx⟩ := HCR.out _ (HO4.out.below HDZ5.out hGRlt); have HBX5 : Hid (Box w5 wr.heap.size ja jb jc jd) := Lib.hid (Row.below HBX4.out hb5 (by simp)); have cb := HBX5.out.cell; have HOS5 := Lib.hid (HOS.out.below HDZ5.out hGlt); have HO5 := Lib.hid (HO4.out.below HDZ5.out hGRlt); have HB6 := Lib.hid (HB4.out.trans (HDZ5.out.mono (by omega))); clear hb5) | (go_at_call 122; refine (implBoth_any kind k0 k1 _ _ _ (by omega) (by omega) (by omega) (by omega)).mono ?_; rintro e w6 ⟨rfl, rfl⟩; first | rw [← HNE.out] | rw [← HWE.out]))
                  go_roundw
                  case rel => exact ⟨q + 1, by omega, rfl, rfl, rfl, rfl, by go_num, HDZ5.out⟩
                  case measure => simp [intOf]; omega
    · obtain rfl : s = n := by omega
      have hL0 : 0 < L + 1 := by omega
      have hL0' : (0 : Int) < (L : Int) + 1 := by omega
      have cL := HO4.out.cell 0 (by rw [boU_len]; omega)
      rw [boU_get S 0 (by omega) (by omega), Nat.sub_zero] at cL
      have HEND : Hid (∀ a, BoP js kind w (.returned (.tuple #[.slice (some ⟨G, 0, none⟩) s cap, .int .i64 (S.R L), .bool true])) (wr.drewN a)) := Lib.hid (fun a => HFIN.out _ _ _ (HOS.out.dr (.one _ _)) (by rw [HU.out]; exact hGG) (by rw [HU.out]; exact HB4.out.trans (Dr.below (.one _ _))))
      generalize S.R L = RL at *
      clear q3 q4 q5 q6 q7 qz hs hsl
      go_wp2
      go_quiet (fail)
      go_wp2
      go_ret3
      exact HEND.out _
end Go.Proofs.Ytncmhinpjkkfkaa
