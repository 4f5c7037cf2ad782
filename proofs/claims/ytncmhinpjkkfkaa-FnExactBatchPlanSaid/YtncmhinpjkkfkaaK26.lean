/-
  Walks: the law UnlikeList: the reference's function. Conditions: none.
-/
import Derived.Test.YtncmhinpjkkfkaaK25
set_option linter.unusedVariables false
set_option linter.unusedSimpArgs false
namespace Go.Proofs.Ytncmhinpjkkfkaa
open Go Go.RowKit

theorem Rw.touch {w w' : World} {g g' c : Nat} {xs : List Int} (h : Rw w g' c xs) (ht : Touch g w w') (hne : g' ≠ g) : Rw w' g' c xs := Row.touch h ht hne

set_option maxRecDepth 100000 in
/-- append(out, a). -/
theorem push_int {ops : Array Oper} {rest : List Oper} {o : Oper} {ac : Act} {Q : Exit → Act → World → Prop} (w : World) (hgd : o.guard = none) (s x : Operand)
    (ho : o.op = .call { callee := .builtin .append, args := #[s, x], argTypes := #[22, 22] })
    (G cap : Nat) (xs : List Int) (n : Nat) (a : Int) (hs : ac.eval s = .slice (some ⟨G, 0, none⟩) n cap) (hn : xs.length = n) (hrow : Rw w G cap xs)
    (hx : ac.eval x = .slice (some ⟨w.heap.size, 0, none⟩) 1 1) (hsm : n + 1 ≤ 1048576)
    (h : ∀ G' cap' w', Rw w' G' cap' (xs ++ [a]) → Touch G (w.alloc (.cells #[.int .i64 a] 2)) w' → (G' = G ∨ G' = w.heap.size + 1) → wpList Try.prog ops Q rest (ac.put o.dst (.slice (some ⟨G', 0, none⟩) (n + 1) cap')) w') :
    wpList Try.prog ops Q (o :: rest) ac (w.alloc (.cells #[.int .i64 a] 2)) := by
  refine append_int _ hgd s x ho G cap (xs.map (Value.int .i64)) n hs (by simpa using hn) (Row.alloc hrow _) ⟨w.heap.size, 0, none⟩ 1 1 [a] hx rfl (fun j hj => ?_) (by omega) hsm fun G' cap' w' h1 h2 h3 => h G' cap' w' ?_ h2 ?_
  · have : j = 0 := by simpa using hj
    subst this
    show (w.alloc _).cell? ((⟨w.heap.size, 0, none⟩ : Addr).add 0) = _
    have hadd : (⟨w.heap.size, 0, none⟩ : Addr).add 0 = ⟨w.heap.size, 0, none⟩ := rfl
    rw [hadd, cell_of_row _ _ 0 _ 2 (0, 0) (heap_alloc_new w _)]; rfl
  · unfold Rw; rw [List.map_append]; exact h1
  · rcases h3 with h3 | h3
    · exact .inl h3
    · exact .inr (by rw [h3]; simp)

theorem below_alloc {w w1 : World} (h : Below w.heap.size w w1) (o : Obj) : Below w.heap.size w (w1.alloc o) := h.alloc h.size o

/-- What an append leaves of the worlds and rows. -/
theorem push_rest {G G' : Nat} {w wr w' : World} {a : Int} (hb : Below w.heap.size w wr) (hG : w.heap.size ≤ G) (hlt : G < wr.heap.size) (ht : Touch G (wr.alloc (.cells #[.int .i64 a] 2)) w') (hat : G' = G ∨ G' = wr.heap.size + 1) :
    Below w.heap.size w w' ∧ w.heap.size ≤ G' ∧ (∀ g c ys, Rw wr g c ys → g ≠ G → Rw w' g c ys ∧ g ≠ G') := by
  have h1 := below_alloc hb (.cells #[.int .i64 a] 2)
  refine ⟨h1.trans (ht.below hG h1.size), by rcases hat with rfl | rfl; exact hG; (have := hb.size; omega), fun g c ys h2 h3 => ⟨(h2.alloc _).touch ht h3, ?_⟩⟩
  have := h2.lt
  rcases hat with rfl | rfl
  · exact h3
  · omega

/-- A plan's two results, the first in memory of its own. -/
def UnP (ts : List Int) (x : Int) (w : World) (e : Ending) (w' : World) : Prop :=
  Res1 w (unS ts x.toNat (ts.length / x.toNat)).1 (fun v => .tuple #[v, .int .i64 (mxK (unS ts x.toNat (ts.length / x.toNat)).2 x.toNat), .bool true]) e w'

set_option maxHeartbeats 8000000 in
set_option maxRecDepth 100000 in
theorem specUn_yes (w : World) (g n c : Nat) (ts : List Int) (hn : ts.length = n) (hcap : n ≤ c) (hm : n ≤ 1048576) (hj : Rd w g 0 ts) (hg : g < w.heap.size) (x : Int) (xlo : -9223372036854775808 ≤ x) (xhi : x ≤ 9223372036854775807) (hc : unB ts x = true) :
    Calls Try.prog 37 #[.slice (some ⟨g, 0, none⟩) n c, .int .i64 x] w (UnP ts x w) := by
  obtain ⟨m, rfl, m1, m2, hmb, q1, q0, q24, hnq, hall⟩ := unB_of hc
  rw [hn] at q1 q24 hnq
  have hqq : ∃ q, n / m = q := ⟨_, rfl⟩
  obtain ⟨q, hq⟩ := hqq
  rw [hq] at q1 q24 hnq
  have hcd : (n : Int) / (m : Int) = (q : Int) := by rw [(castDM n m).2, hq]
  have mz : ((m : Int) == 0) = false := by simp; omega
  have hle1 : 0 ≤ (n : Int) / (m : Int) := by rw [hcd]; omega
  have hle2 : (n : Int) / (m : Int) ≤ 24 := by rw [hcd]; omega
  have ht : ∀ i, i < q * m → 1 ≤ ts.getD i 0 ∧ ts.getD i 0 ≤ 10000 := fun i hi => hall _ (getD_mem (by omega))
  have hbd := unS_bd ht m1
  have hlen := unS_len ts m
  have hfin : ∀ w' G cap, Rw w' G cap (unS ts m q).1 → w.heap.size ≤ G → Below w.heap.size w w' → UnP ts m w (.returned (.tuple #[.slice (some ⟨G, 0, none⟩) q cap, .int .i64 (mxK (unS ts m q).2 m), .bool true])) w' := by
    intro w' G cap h1 h2 h3
    unfold UnP
    rw [Int.toNat_natCast, hn, hq]
    exact ⟨G, cap, by rw [(hlen q).1], h1, h2, h3⟩
  have HF' := Lib.hid hfin; have HN := Lib.hid hn; have HT := Lib.hid hj; have HC := Lib.hid hc; have HTR := Lib.hid ht; have HB := Lib.hid hbd; have HL := Lib.hid hlen; have HNQ := Lib.hid hnq
  have hz : (unS ts m 0).1 = [] ∧ (unS ts m 0).2 = List.replicate m 0 := ⟨rfl, rfl⟩
  have HZ := Lib.hid hz
  clear hfin hn hj hc ht hbd hlen hz hq hall hmb q0 hnq
  go_enter Try.func37, Try.ntmps37
  go_wp2_with (first
    | (go_at_call 89; refine (l02Unlike_any g c n ts _ _ HN.out hm HT.out).mono ?_; rintro e w' ⟨rfl, rfl⟩; rw [HC.out])
    | (at_make; refine wp_make rfl (.tmp 17) 22 rfl 2 (.int .i64 0) 8 Try.underlying22 Try.info2 rfl m .i64 _ rfl rfl (by omega) (by unfold maxLen; omega) ?_; intro w1 hrow hbel))
  have R0 := Lib.hid (rw_nil (row_fresh w))
  have b0 : Below w.heap.size w (w.alloc (.cells #[] 2)) := below_alloc (Below.refl _ _) _
  have hsz : (w.alloc (.cells #[] 2)).heap.size = w.heap.size + 1 := by simp
  rw [hsz] at hrow
  obtain ⟨GF, hGF⟩ : ∃ G, w.heap.size + 1 = G := ⟨_, rfl⟩
  rw [hGF] at hrow ⊢
  have RF0 : Hid (Rw w1 GF m (unS ts m 0).2) := Lib.hid (rw_zero hrow)
  have RO0 : Hid (Rw w1 w.heap.size 0 []) := Lib.hid (R0.out.below hbel (by omega))
  have B1 : Hid (Below w.heap.size w w1) := Lib.hid (b0.trans (hbel.mono b0.size))
  have hGFB : w.heap.size < GF := by omega
  clear hrow hbel b0 R0 hsz hGF
  go_loopw [7, 9, 10, 11] (fun o i _ _ wr => ∃ k G cap : Nat, k ≤ q ∧ i = .int .i64 k ∧ o = .slice (some ⟨G, 0, none⟩) k cap ∧ Rw wr G cap (unS ts m k).1 ∧ Rw wr GF m (unS ts m k).2 ∧ Below w.heap.size w wr ∧ w.heap.size ≤ G ∧ GF ≠ G) (fun _ i _ _ _ => q - (intOf i).toNat)
  case atStart => exact ⟨0, w.heap.size, 0, by omega, rfl, rfl, RO0.out, RF0.out, B1.out, Nat.le_refl _, by omega⟩
  case round =>
    obtain ⟨k, G, cap, hk, rfl, rfl, hro, hrf, hbk, hBG, hFG⟩ := hrel
    have HO := Lib.hid hro; have HF := Lib.hid hrf; have HBk := Lib.hid hbk
    have HLO := Lib.hid (HL.out k).1; have HLF := Lib.hid (HL.out k).2
    clear hro hrf hbk RO0 RF0 B1
    by_cases hlt : k < q
    · have hkm : k * m + m ≤ n := by
        have h1 : (k + 1) * m ≤ q * m := Nat.mul_le_mul_right _ hlt
        rw [Nat.add_mul, Nat.one_mul] at h1; have := HNQ.out; omega
      obtain ⟨p, hp⟩ : ∃ p, k * m = p := ⟨_, rfl⟩
      rw [hp] at hkm
      have hpI : (k : Int) * (m : Int) = (p : Int) := by rw [← hp, Int.natCast_mul]
      have wm : IntKind.i64.wrap ((k : Int) * (m : Int)) = (p : Int) := by rw [hpI]; exact IntWalk.i64_in _ (by omega)
      have hs1 : (unS ts m (k + 1)).1 = (unS ts m k).1 ++ [((amK (thenL ts m (unS ts m k).2 k m) m : Nat) : Int)] := rfl
      have hs2 : (unS ts m (k + 1)).2 = (unS ts m k).2.set (amK (thenL ts m (unS ts m k).2 k m) m) ((thenL ts m (unS ts m k).2 k m).getD (amK (thenL ts m (unS ts m k).2 k m) m) 0) := rfl
      have HS1 := Lib.hid hs1; have HS2 := Lib.hid hs2
      have HBB := Lib.hid (HB.out k (by omega))
      have HTL : Hid (∀ j, j < m → (thenL ts m (unS ts m k).2 k m).getD j 0 = (unS ts m k).2.getD j 0 + ts.getD (p + j) 0) := Lib.hid (fun j hj => by rw [thenL_get hj, hp])
      have HTT : Hid (∀ j, j < m → 1 ≤ ts.getD (p + j) 0 ∧ ts.getD (p + j) 0 ≤ 10000) := Lib.hid (fun j hj => HTR.out _ (by have := HNQ.out; omega))
      clear hs1 hs2 hp hpI
      generalize (unS ts m k).1 = os at *
      generalize (unS ts m k).2 = fs at *
      generalize thenL ts m fs k m = tl at *
      have ham := amK_lt tl m m1
      go_wp2
      obtain ⟨wo, rfl⟩ : ∃ wo : World, wo = wr := ⟨_, rfl⟩
      go_loopw [10, 11] (fun a i w3 => ∃ r : Nat, 1 ≤ r ∧ r ≤ m ∧ i = .int .i64 r ∧ a = .int .i64 (amK tl r) ∧ Dr wo w3) (fun _ i _ => m - (intOf i).toNat)
      case atStart => exact ⟨1, by omega, m1, rfl, by rw [amK_one]; rfl, .refl _⟩
      case round =>
        obtain ⟨r, hr1, hr, rfl, rfl, hd⟩ := hrel
        have HD := Lib.hid hd
        clear hd
        have hst := @amK_step tl r hr1
        have haq := amK_lt tl r hr1
        have HST := Lib.hid hst
        clear hst
        by_cases hql : r < m
        · have hbT : Below w.heap.size w wr := HBk.out.trans HD.out.below
          have d1 := (HF.out.dr HD.out).cell r (by have := HLF.out; omega)
          have d2 := (HF.out.dr HD.out).cell (amK tl r) (by have := HLF.out; omega)
          have d3 := (HT.out.below hbT hg).get (p + r) (by have := HN.out; omega)
          have d4 := (HT.out.below hbT hg).get (p + amK tl r) (by have := HN.out; omega)
          have e1 := HTL.out r hql
          have e2 := HTL.out (amK tl r) (by omega)
          obtain ⟨b1, b2⟩ := HBB.out r hql
          obtain ⟨b3, b4⟩ := HBB.out (amK tl r) (by omega)
          obtain ⟨b5, b6⟩ := HTT.out r hql
          obtain ⟨b7, b8⟩ := HTT.out (amK tl r) (by omega)
          have HE1 := Lib.hid e1; have HE2 := Lib.hid e2
          clear hbT e1 e2
          generalize amK tl r = aq at *
          obtain ⟨y1, hy1⟩ : ∃ y, p + r = y := ⟨_, rfl⟩
          obtain ⟨y2, hy2⟩ : ∃ y, p + aq = y := ⟨_, rfl⟩
          rw [hy1] at d3 b5 b6 HE1; rw [hy2] at d4 b7 b8 HE2
          have wy1 : IntKind.i64.wrap ((p : Int) + (r : Int)) = (y1 : Int) := by rw [IntWalk.i64_in _ (by omega)]; omega
          have wy2 : IntKind.i64.wrap ((p : Int) + (aq : Int)) = (y2 : Int) := by rw [IntWalk.i64_in _ (by omega)]; omega
          have yn1 : y1 < n := by omega
          have yn2 : y2 < n := by omega
          clear hy1 hy2
          generalize fs.getD r 0 = v1 at *
          generalize fs.getD aq 0 = v2 at *
          generalize ts.getD y1 0 = t1 at *
          generalize ts.getD y2 0 = t2 at *
          have ws1 : IntKind.i64.wrap (v1 + t1) = v1 + t1 := IntWalk.i64_in _ (by omega)
          have ws2 : IntKind.i64.wrap (v2 + t2) = v2 + t2 := IntWalk.i64_in _ (by omega)
          by_cases hpr : v1 + t1 < v2 + t2
          · go_wp2
            go_quiet (fail)
            go_wp2
            go_roundw
            case rel => exact ⟨r + 1, by omega, by omega, by go_num, by rw [HST.out, HE1.out, HE2.out, if_pos (by omega)], HD.out.drewN _⟩
            case measure => simp [intOf]; omega
          · go_wp2
            go_quiet (fail)
            go_wp2
            go_roundw
            case rel => exact ⟨r + 1, by omega, by omega, by go_num, by rw [HST.out, HE1.out, HE2.out, if_neg (by omega)], HD.out.drewN _⟩
            case measure => simp [intOf]; omega
        · obtain rfl : r = m := by omega
          clear HST haq hql
          obtain ⟨v0, v1⟩ := HBB.out (amK tl r) ham
          obtain ⟨t0, t1⟩ := HTT.out (amK tl r) ham
          have e1 := HTL.out (amK tl r) ham
          have HO3 := Lib.hid (HO.out.dr HD.out)
          have HF3 := Lib.hid (HF.out.dr HD.out)
          have HB3 : Hid (Below w.heap.size w wr) := Lib.hid (HBk.out.trans HD.out.below)
          have HE1 := Lib.hid e1
          clear e1
          generalize amK tl r = a at *
          obtain ⟨y, hy⟩ : ∃ y, p + a = y := ⟨_, rfl⟩
          rw [hy] at t0 t1 HE1
          have wy : IntKind.i64.wrap ((p : Int) + (a : Int)) = (y : Int) := by rw [IntWalk.i64_in _ (by omega)]; omega
          have yn : y < n := by omega
          clear hy
          obtain ⟨v, hv⟩ : ∃ v, fs.getD a 0 = v := ⟨_, rfl⟩
          obtain ⟨tt, htt⟩ : ∃ v, ts.getD y 0 = v := ⟨_, rfl⟩
          rw [hv] at v0 v1; rw [htt] at t0 t1; rw [hv, htt] at HE1
          have ws : IntKind.i64.wrap (v + tt) = v + tt := IntWalk.i64_in _ (by omega)
          have HV := Lib.hid hv; have HTT' := Lib.hid htt
          clear hv htt
          go_wp2_with (at_builtin; refine push_int _ rfl _ _ rfl G cap os k (a : Nat) (by rfl) HLO.out HO3.out (by rfl) (by omega) ?_; intro G' cap' w4 hO4 htc hat; obtain ⟨hb4, hG4, hrest⟩ := push_rest HB3.out hBG HO3.out.lt htc hat; obtain ⟨hF4, hne4⟩ := hrest _ _ _ HF3.out hFG; have f1 := hF4.cell a (by have := HLF.out; omega); rw [HV.out] at f1; have f2 := hF4.free a; have f3 := (HT.out.below hb4 hg).get y (by have := HN.out; omega); rw [HTT'.out] at f3; have HO4 := Lib.hid hO4; have HF4 := Lib.hid hF4; have HB4 := Lib.hid hb4; clear hO4 htc hat hrest hF4 hb4)
          go_still_tail 14, (by kernel_rfl)
          change wpList _ _ _ _ _ w4.drew
          go_wp2
          go_roundw
          case rel => exact ⟨k + 1, G', cap', by omega, by go_num, rfl, by rw [HS1.out]; exact (HO4.out.dr (.one _ 1)).past hne4.symm a _, by rw [HS2.out, HE1.out]; exact (HF4.out.dr (.one _ 1)).set a _, (HB4.out.drew).setCell (p := ⟨GF, a, none⟩) (by show w.heap.size ≤ GF; omega) _, hG4, hne4⟩
          case measure => simp [intOf]; omega
    · obtain rfl : k = q := by omega
      go_wp2_with (go_at_call 90; refine (l02Greatest_any _ 0 _ m _ _ HLF.out (by omega) m1 HF.out.rd).mono ?_; rintro e w' ⟨rfl, rfl⟩)
      go_ret3
      exact HF'.out _ _ _ HO.out hBG HBk.out
end Go.Proofs.Ytncmhinpjkkfkaa
