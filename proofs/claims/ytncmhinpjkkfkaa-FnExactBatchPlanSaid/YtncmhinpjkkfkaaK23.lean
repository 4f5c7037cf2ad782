/-
  Walks: a plan of jobs on the machines that are free first: the reference's and the program's. Conditions: none.
-/
import Derived.Test.YtncmhinpjkkfkaaK22
set_option linter.unusedVariables false
set_option linter.unusedSimpArgs false
namespace Go.Proofs.Ytncmhinpjkkfkaa
open Go Go.RowKit

theorem Rw.past {w : World} {g g' c : Nat} {xs : List Int} (h : Rw w g c xs) (hne : g ≠ g') (i : Nat) (u : Value) : Rw (w.setCell ⟨g', i, none⟩ u) g c xs := Row.other h hne u

/-- The machines so far, and the times at which they are free. -/
def planS (ts : List Int) (m : Nat) (xs : List Int) : Nat → List Int × List Int
  | 0 => (List.replicate ts.length 0, List.replicate m 0)
  | k + 1 => ((planS ts m xs k).1.set (xs.getD k 0).toNat ((amK (planS ts m xs k).2 m : Nat) : Int),
      (planS ts m xs k).2.set (amK (planS ts m xs k).2 m) ((planS ts m xs k).2.getD (amK (planS ts m xs k).2 m) 0 + ts.getD (xs.getD k 0).toNat 0))

theorem planS_len (ts : List Int) (m : Nat) (xs : List Int) : ∀ k, (planS ts m xs k).1.length = ts.length ∧ (planS ts m xs k).2.length = m
  | 0 => by simp [planS]
  | k + 1 => by have := planS_len ts m xs k; simp [planS, this]

theorem getD_mem {xs : List Int} {i : Nat} (h : i < xs.length) : xs.getD i 0 ∈ xs := by
  rw [List.getD_eq_getElem?_getD, List.getElem?_eq_getElem h]; exact List.getElem_mem h

theorem planS_bd {ts : List Int} {m : Nat} {xs : List Int} {n : Nat} (ht : ∀ i, i < n → 1 ≤ ts.getD i 0 ∧ ts.getD i 0 ≤ 10000) (hx : ∀ i, i < n → 0 ≤ xs.getD i 0 ∧ xs.getD i 0 < n) (hm : 1 ≤ m) :
    ∀ k, k ≤ n → ∀ i, i < m → 0 ≤ (planS ts m xs k).2.getD i 0 ∧ (planS ts m xs k).2.getD i 0 ≤ 10000 * k
  | 0, _, i, hi => by simp [planS, hi]
  | k + 1, hk, i, hi => by
    have ih := planS_bd ht hx hm k (by omega)
    have hl := (planS_len ts m xs k).2
    have ha := amK_lt (planS ts m xs k).2 m hm
    have h1 := ih (amK (planS ts m xs k).2 m) ha
    have h2 := hx k (by omega)
    have h3 := ht (xs.getD k 0).toNat (by omega)
    simp only [planS]
    rw [getD_set _ _ _ _ (by omega)]
    split
    · omega
    · have := ih i hi; omega

def planOut (ts xs : List Int) (m n : Nat) : List Int := (planS ts m xs n).1
def planLast (ts xs : List Int) (m n : Nat) : Int := mxK (planS ts m xs n).2 m

/-- A plan's two results. -/
def PlanP (ts xs : List Int) (m n : Nat) (w : World) (e : Ending) (w' : World) : Prop :=
  ∃ G, e = .returned (.tuple #[.slice (some ⟨G, 0, none⟩) n n, .int .i64 (planLast ts xs m n)]) ∧ Rw w' G n (planOut ts xs m n) ∧ w.heap.size ≤ G ∧ Below w.heap.size w w'

set_option maxHeartbeats 4000000 in
set_option maxRecDepth 100000 in
theorem l02Plan_any (w : World) (g n c : Nat) (ts : List Int) (hn : ts.length = n) (hj : Rd w g 0 ts) (hg : g < w.heap.size) (g' c' : Nat) (xs : List Int) (hn' : xs.length = n) (hx : Rd w g' 0 xs) (hg' : g' < w.heap.size) (n1 : 1 ≤ n) (n2 : n ≤ 24) (ht : ∀ i, i < n → 1 ≤ ts.getD i 0 ∧ ts.getD i 0 ≤ 10000) (hxr : ∀ i, i < n → 0 ≤ xs.getD i 0 ∧ xs.getD i 0 < n) (m : Nat) (m1 : 1 ≤ m) (m2 : m ≤ 8) :
    Calls Try.prog 98 #[.slice (some ⟨g, 0, none⟩) n c, .slice (some ⟨g', 0, none⟩) n c', .int .i64 m] w (PlanP ts xs m n w) := by
  have hbd := planS_bd ht hxr m1
  have hlen := planS_len ts m xs
  have hz1 : (planS ts m xs 0).1 = List.replicate n 0 := by simp [planS, hn]
  have hz2 : (planS ts m xs 0).2 = List.replicate m 0 := rfl
  have HN := Lib.hid hn; have HN' := Lib.hid hn'; have HT := Lib.hid hj; have HX := Lib.hid hx; have HB := Lib.hid hbd; have HL := Lib.hid hlen; have HZ1 := Lib.hid hz1; have HZ2 := Lib.hid hz2
  have HTR := Lib.hid ht; have HXR := Lib.hid hxr
  clear hbd hlen hz1 hz2 hn hn' hj hx ht hxr
  go_enter Try.func98, Try.ntmps98
  go_wp2_with (first
    | (at_make; refine wp_make rfl (.tmp 14) 22 rfl 2 (.int .i64 0) 8 Try.underlying22 Try.info2 rfl n .i64 _ rfl rfl (by omega) (by unfold maxLen; omega) ?_; intro w1 hrow1 hbel1; have RA := Lib.hid (rw_zero hrow1); have BA := Lib.hid hbel1; clear hrow1 hbel1)
    | (at_make; refine wp_make rfl (.tmp 16) 22 rfl 2 (.int .i64 0) 8 Try.underlying22 Try.info2 rfl m .i64 _ rfl rfl (by omega) (by unfold maxLen; omega) ?_; intro w2 hrow hbel))
  have hne : w.heap.size ≠ w1.heap.size := by have := RA.out.lt; omega
  have RF := Lib.hid (rw_zero hrow)
  have RO := Lib.hid (RA.out.below hbel RA.out.lt)
  have B2 := Lib.hid (BA.out.trans (hbel.mono BA.out.size))
  have hsz : w.heap.size ≤ w1.heap.size := BA.out.size
  have HSZ := Lib.hid hsz
  clear hrow hbel hsz
  obtain ⟨GA, hGA⟩ : ∃ G, w.heap.size = G := ⟨_, rfl⟩
  obtain ⟨GB, hGB⟩ : ∃ G, w1.heap.size = G := ⟨_, rfl⟩
  have B2' : Hid (Below GA w w2) := Lib.hid (by rw [← hGA]; exact B2.out)
  have BFin : Hid (∀ wr, Below GA w wr → Below w.heap.size w wr ∧ w.heap.size ≤ GA ∧ w.heap.size ≤ GB) := Lib.hid (fun wr h => by rw [hGA]; exact ⟨h, Nat.le_refl _, by rw [← hGB, ← hGA]; exact HSZ.out⟩)
  have hgA : g < GA := by omega
  have hg'A : g' < GA := by omega
  have hAB : GA ≤ GB := by rw [← hGB, ← hGA]; exact HSZ.out
  rw [hGA] at RO hne ⊢; rw [hGB] at RF hne ⊢
  clear RA BA B2 HSZ hGA hGB
  go_loopw [10, 11, 12] (fun i _ _ wr => ∃ k : Nat, k ≤ n ∧ i = .int .i64 k ∧ Rw wr GA n (planS ts m xs k).1 ∧ Rw wr GB m (planS ts m xs k).2 ∧ Below GA w wr) (fun i _ _ _ => n - (intOf i).toNat)
  case atStart => exact ⟨0, Nat.zero_le _, rfl, by rw [HZ1.out]; exact RO.out, by rw [HZ2.out]; exact RF.out, B2'.out⟩
  case round =>
    obtain ⟨k, hk, rfl, hro, hrf, hbk⟩ := hrel
    have HO := Lib.hid hro; have HF := Lib.hid hrf; have HBk := Lib.hid hbk
    clear hro hrf hbk RO RF
    have hlo : (planS ts m xs k).1.length = n := by rw [(HL.out k).1]; exact HN.out
    have HLO := Lib.hid hlo
    have HLF := Lib.hid (HL.out k).2
    clear hlo
    by_cases hlt : k < n
    · have cx := (HX.out.below HBk.out hg'A).get k (by have := HN'.out; omega)
      obtain ⟨x0, x1⟩ := HXR.out k hlt
      obtain ⟨j, hj⟩ : ∃ j : Nat, xs.getD k 0 = j := ⟨(xs.getD k 0).toNat, by omega⟩
      rw [hj] at cx x0 x1
      have hjn : j < n := by omega
      have ct := (HT.out.below HBk.out hgA).get j (by have := HN.out; omega)
      obtain ⟨t0, t1⟩ := HTR.out j hjn
      have hs1 : (planS ts m xs (k + 1)).1 = (planS ts m xs k).1.set j ((amK (planS ts m xs k).2 m : Nat) : Int) := by simp only [planS]; rw [hj, Int.toNat_natCast]
      have hs2 : (planS ts m xs (k + 1)).2 = (planS ts m xs k).2.set (amK (planS ts m xs k).2 m) ((planS ts m xs k).2.getD (amK (planS ts m xs k).2 m) 0 + ts.getD j 0) := by simp only [planS]; rw [hj, Int.toNat_natCast]
      obtain ⟨t, htx⟩ : ∃ t, ts.getD j 0 = t := ⟨_, rfl⟩
      rw [htx] at ct t0 t1 hs2
      have HJX := Lib.hid hj; have HTX := Lib.hid htx
      have HS1 := Lib.hid hs1; have HS2 := Lib.hid hs2
      have HBB := Lib.hid (HB.out k (by omega))
      clear hs1 hs2 x0 hj htx
      generalize (planS ts m xs k).1 = os at *
      generalize (planS ts m xs k).2 = fs at *
      have ham := amK_lt fs m m1
      go_wp2
      obtain ⟨wo, rfl⟩ : ∃ wo : World, wo = wr := ⟨_, rfl⟩
      go_loopw [11, 12] (fun a i w3 => ∃ q : Nat, 1 ≤ q ∧ q ≤ m ∧ i = .int .i64 q ∧ a = .int .i64 (amK fs q) ∧ Dr wo w3) (fun _ i _ => m - (intOf i).toNat)
      case atStart => exact ⟨1, by omega, m1, rfl, by rw [amK_one]; rfl, .refl _⟩
      case round =>
        obtain ⟨q, hq1, hq, rfl, rfl, hd⟩ := hrel
        have HD := Lib.hid hd
        clear hd
        have hst := @amK_step fs q hq1
        have haq := amK_lt fs q hq1
        have HST := Lib.hid hst
        clear hst
        by_cases hql : q < m
        · have cq := (HF.out.dr HD.out).cell q (by have := HLF.out; omega)
          have ca := (HF.out.dr HD.out).cell (amK fs q) (by have := HLF.out; omega)
          generalize amK fs q = aq at *
          generalize fs.getD q 0 = p at *
          generalize fs.getD aq 0 = r at *
          by_cases hpr : p < r
          · go_wp2
            go_quiet (fail)
            go_wp2
            go_roundw
            case rel => exact ⟨q + 1, by omega, by omega, by go_num, by rw [HST.out, if_pos hpr], HD.out.drewN _⟩
            case measure => simp [intOf]; omega
          · go_wp2
            go_quiet (fail)
            go_wp2
            go_roundw
            case rel => exact ⟨q + 1, by omega, by omega, by go_num, by rw [HST.out, if_neg (by omega)], HD.out.drewN _⟩
            case measure => simp [intOf]; omega
        · obtain rfl : q = m := by omega
          clear HST hq haq hql
          have v0 := HBB.out (amK fs q) ham
          have HRO3 := Lib.hid (HO.out.dr HD.out)
          have HRF3 := Lib.hid (HF.out.dr HD.out)
          have HB3 := Lib.hid (HBk.out.trans (HD.out.below (B := GA)))
          have HAM := Lib.hid (rfl : amK fs q = amK fs q)
          generalize hga : amK fs q = a at *
          clear hga HAM
          have o1 := HRO3.out.cell j (by have := HLO.out; omega)
          have o2 := HRO3.out.free j
          obtain ⟨W1, hW1⟩ : ∃ W : World, W = wr.setCell ⟨GA, j, none⟩ (.int .i64 (a : Nat)) := ⟨_, rfl⟩
          have HO1 : Hid (Rw W1 GA n (os.set j (a : Nat))) := Lib.hid (by rw [hW1]; exact HRO3.out.set j _)
          have HF1 : Hid (Rw W1 GB q fs) := Lib.hid (by rw [hW1]; exact HRF3.out.past hne.symm j _)
          have HB1 : Hid (Below GA w W1) := Lib.hid (by rw [hW1]; exact HB3.out.setCell (p := ⟨GA, j, none⟩) (Nat.le_refl _) _)
          have HW1 := Lib.hid hW1
          clear hW1
          have f1 := HF1.out.cell a (by have := HLF.out; omega)
          have f2 := HF1.out.free a
          have f3 := (HX.out.below HB1.out hg'A).get k (by have := HN'.out; omega)
          rw [HJX.out] at f3
          have f4 := (HT.out.below HB1.out hgA).get j (by have := HN.out; omega)
          rw [HTX.out] at f4
          have cx3 := (HX.out.below HB3.out hg'A).get k (by have := HN'.out; omega)
          rw [HJX.out] at cx3
          clear cx ct
          generalize fs.getD a 0 = v at *
          have x2 : IntKind.i64.wrap (v + t) = v + t := IntWalk.i64_in _ (by omega)
          obtain ⟨v0, v1⟩ := v0
          go_wp2
          rw [← HW1.out]
          clear o1 o2 cx3
          go_still_tail 13, (by kernel_rfl)
          change wpList _ _ _ _ _ W1.drew
          go_wp2
          go_roundw
          case rel => exact ⟨k + 1, by omega, by go_num, by rw [HS1.out]; exact (HO1.out.dr (.one _ 1)).past hne a _, by rw [HS2.out]; exact (HF1.out.dr (.one _ 1)).set a _, (HB1.out.drew).setCell (p := ⟨GB, a, none⟩) hAB _⟩
          case measure => simp [intOf]; omega
    · obtain rfl : k = n := by omega
      go_wp2_with (go_at_call 90; refine (l02Greatest_any _ 0 _ m _ _ HLF.out (by omega) m1 HF.out.rd).mono ?_; rintro e w' ⟨rfl, rfl⟩)
      go_ret2
      exact ⟨_, rfl, HO.out, (BFin.out _ HBk.out).2.1, (BFin.out _ HBk.out).1⟩

set_option maxHeartbeats 4000000 in
set_option maxRecDepth 100000 in
theorem listPlan_any (w : World) (g n c : Nat) (ts : List Int) (hn : ts.length = n) (hj : Rd w g 0 ts) (hg : g < w.heap.size) (g' c' : Nat) (xs : List Int) (hn' : xs.length = n) (hx : Rd w g' 0 xs) (hg' : g' < w.heap.size) (n1 : 1 ≤ n) (n2 : n ≤ 24) (ht : ∀ i, i < n → 1 ≤ ts.getD i 0 ∧ ts.getD i 0 ≤ 10000) (hxr : ∀ i, i < n → 0 ≤ xs.getD i 0 ∧ xs.getD i 0 < n) (m : Nat) (m1 : 1 ≤ m) (m2 : m ≤ 8) :
    Calls Try.prog 99 #[.slice (some ⟨g, 0, none⟩) n c, .slice (some ⟨g', 0, none⟩) n c', .int .i64 m] w (PlanP ts xs m n w) := by
  have hbd := planS_bd ht hxr m1
  have hlen := planS_len ts m xs
  have hz1 : (planS ts m xs 0).1 = List.replicate n 0 := by simp [planS, hn]
  have hz2 : (planS ts m xs 0).2 = List.replicate m 0 := rfl
  have HN := Lib.hid hn; have HN' := Lib.hid hn'; have HT := Lib.hid hj; have HX := Lib.hid hx; have HB := Lib.hid hbd; have HL := Lib.hid hlen; have HZ1 := Lib.hid hz1; have HZ2 := Lib.hid hz2
  have HTR := Lib.hid ht; have HXR := Lib.hid hxr
  clear hbd hlen hz1 hz2 hn hn' hj hx ht hxr
  go_enter Try.func99, Try.ntmps99
  go_wp2_with (first
    | (at_make; refine wp_make rfl (.tmp 13) 22 rfl 2 (.int .i64 0) 8 Try.underlying22 Try.info2 rfl m .i64 _ rfl rfl (by omega) (by unfold maxLen; omega) ?_; intro w1 hrow1 hbel1; have RA := Lib.hid (rw_zero hrow1); have BA := Lib.hid hbel1; clear hrow1 hbel1)
    | (at_make; refine wp_make rfl (.tmp 16) 22 rfl 2 (.int .i64 0) 8 Try.underlying22 Try.info2 rfl n .i64 _ rfl rfl (by omega) (by unfold maxLen; omega) ?_; intro w2 hrow hbel))
  have hne : w.heap.size ≠ w1.heap.size := by have := RA.out.lt; omega
  have RO := Lib.hid (rw_zero hrow)
  have RF := Lib.hid (RA.out.below hbel RA.out.lt)
  have B2 := Lib.hid (BA.out.trans (hbel.mono BA.out.size))
  have hsz : w.heap.size ≤ w1.heap.size := BA.out.size
  have HSZ := Lib.hid hsz
  clear hrow hbel hsz
  obtain ⟨GA, hGA⟩ : ∃ G, w.heap.size = G := ⟨_, rfl⟩
  obtain ⟨GB, hGB⟩ : ∃ G, w1.heap.size = G := ⟨_, rfl⟩
  have B2' : Hid (Below GA w w2) := Lib.hid (by rw [← hGA]; exact B2.out)
  have BFin : Hid (∀ wr, Below GA w wr → Below w.heap.size w wr ∧ w.heap.size ≤ GA ∧ w.heap.size ≤ GB) := Lib.hid (fun wr h => by rw [hGA]; exact ⟨h, Nat.le_refl _, by rw [← hGB, ← hGA]; exact HSZ.out⟩)
  have hgA : g < GA := by omega
  have hg'A : g' < GA := by omega
  have hAB : GA ≤ GB := by rw [← hGB, ← hGA]; exact HSZ.out
  rw [hGA] at RF hne ⊢; rw [hGB] at RO hne ⊢
  clear RA BA B2 HSZ hGA hGB
  go_loopw [20, 11, 12] (fun i _ _ wr => ∃ k : Nat, k ≤ n ∧ i = .int .i64 k ∧ Rw wr GB n (planS ts m xs k).1 ∧ Rw wr GA m (planS ts m xs k).2 ∧ Below GA w wr) (fun i _ _ _ => n - (intOf i).toNat)
  case atStart => exact ⟨0, Nat.zero_le _, rfl, by rw [HZ1.out]; exact RO.out, by rw [HZ2.out]; exact RF.out, B2'.out⟩
  case round =>
    obtain ⟨k, hk, rfl, hro, hrf, hbk⟩ := hrel
    have HO := Lib.hid hro; have HF := Lib.hid hrf; have HBk := Lib.hid hbk
    clear hro hrf hbk RO RF
    have hlo : (planS ts m xs k).1.length = n := by rw [(HL.out k).1]; exact HN.out
    have HLO := Lib.hid hlo
    have HLF := Lib.hid (HL.out k).2
    clear hlo
    by_cases hlt : k < n
    · have cx := (HX.out.below HBk.out hg'A).get k (by have := HN'.out; omega)
      obtain ⟨x0, x1⟩ := HXR.out k hlt
      obtain ⟨j, hj⟩ : ∃ j : Nat, xs.getD k 0 = j := ⟨(xs.getD k 0).toNat, by omega⟩
      rw [hj] at cx x0 x1
      have hjn : j < n := by omega
      have ct := (HT.out.below HBk.out hgA).get j (by have := HN.out; omega)
      obtain ⟨t0, t1⟩ := HTR.out j hjn
      have hs1 : (planS ts m xs (k + 1)).1 = (planS ts m xs k).1.set j ((amK (planS ts m xs k).2 m : Nat) : Int) := by simp only [planS]; rw [hj, Int.toNat_natCast]
      have hs2 : (planS ts m xs (k + 1)).2 = (planS ts m xs k).2.set (amK (planS ts m xs k).2 m) ((planS ts m xs k).2.getD (amK (planS ts m xs k).2 m) 0 + ts.getD j 0) := by simp only [planS]; rw [hj, Int.toNat_natCast]
      obtain ⟨t, htx⟩ : ∃ t, ts.getD j 0 = t := ⟨_, rfl⟩
      rw [htx] at ct t0 t1 hs2
      have HJX := Lib.hid hj; have HTX := Lib.hid htx
      have HS1 := Lib.hid hs1; have HS2 := Lib.hid hs2
      have HBB := Lib.hid (HB.out k (by omega))
      clear hs1 hs2 x0 hj htx
      generalize (planS ts m xs k).1 = os at *
      generalize (planS ts m xs k).2 = fs at *
      have ham := amK_lt fs m m1
      obtain ⟨a, hga⟩ : ∃ a, amK fs m = a := ⟨_, rfl⟩
      have HGA := Lib.hid hga
      rw [hga] at ham HS1 HS2
      clear hga
      obtain ⟨v0, v1⟩ := HBB.out a ham
      have f1 := HF.out.cell a (by have := HLF.out; omega)
      have f2 := HF.out.free a
      have HV : Hid (fs.getD a 0 = fs.getD a 0) := Lib.hid rfl
      generalize hv : fs.getD a 0 = v at *
      clear hv HV
      have x2 : IntKind.i64.wrap (v + t) = v + t := IntWalk.i64_in _ (by omega)
      obtain ⟨W1, hW1⟩ : ∃ W : World, W = wr.setCell ⟨GA, a, none⟩ (.int .i64 (v + t)) := ⟨_, rfl⟩
      have HF1 : Hid (Rw W1 GA m (fs.set a (v + t))) := Lib.hid (by rw [hW1]; exact HF.out.set a _)
      have HO1 : Hid (Rw W1 GB n os) := Lib.hid (by rw [hW1]; exact HO.out.past hne.symm a _)
      have HB1 : Hid (Below GA w W1) := Lib.hid (by rw [hW1]; exact HBk.out.setCell (p := ⟨GA, a, none⟩) (Nat.le_refl _) _)
      have o1 := HO1.out.cell j (by have := HLO.out; omega)
      have o2 := HO1.out.free j
      rw [hW1] at o1 o2
      have HW1 := Lib.hid hW1
      clear hW1
      go_wp2_with (go_at_call 92; refine (firstFree_any _ _ m fs _ HLF.out (by omega) m1 HF.out.rd).mono ?_; rintro e w' ⟨rfl, rfl⟩; rw [HGA.out])
      go_still_tail 10, (by kernel_rfl)
      change wpList _ _ _ _ _ wr.drew
      go_wp2
      rw [← HW1.out]
      go_roundw
      case rel => exact ⟨k + 1, by omega, by go_num, by rw [HS1.out]; exact (HO1.out.set j _).dr (.one _ 1), by rw [HS2.out]; exact (HF1.out.past hne j _).dr (.one _ 1), (HB1.out.setCell (p := ⟨GB, j, none⟩) hAB _).drew⟩
      case measure => simp [intOf]; omega
    · obtain rfl : k = n := by omega
      go_wp2_with (go_at_call 84; refine (slicesMax_any _ 0 _ m _ _ HLF.out (by omega) m1 HF.out.rd).mono ?_; rintro e w' ⟨rfl, rfl⟩)
      go_ret2
      exact ⟨_, rfl, HO.out, (BFin.out _ HBk.out).2.2, (BFin.out _ HBk.out).1⟩
end Go.Proofs.Ytncmhinpjkkfkaa
