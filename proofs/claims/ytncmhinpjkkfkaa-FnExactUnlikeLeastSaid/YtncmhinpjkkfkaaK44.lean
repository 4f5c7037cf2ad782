/-
  Walks: the least way to give jobs to machines: the reference's search. Conditions: none.
-/
import Derived.Test.YtncmhinpjkkfkaaK43
set_option linter.unusedVariables false
set_option linter.unusedSimpArgs false
namespace Go.Proofs.Ytncmhinpjkkfkaa
open Go Go.RowKit

def wayN (ul : List Int) (m n : Nat) : Nat := Ways.arg (costW (tmF ul m) m n) (m ^ n)
def wayL (ul : List Int) (m n : Nat) : List Int := Ways.digs m n (wayN ul m n)
def wayV (ul : List Int) (m n : Nat) : Int := costW (tmF ul m) m n (wayN ul m n)

theorem digs_at {m n t k : Nat} (m1 : 0 < m) (hk : k < n) : ∃ d : Nat, d < m ∧ (Ways.digs m n t).getD k 0 = (d : Int) := by
  have h := Ways.digs_mem (m := m) m1 n t _ (getD_mem (xs := Ways.digs m n t) (i := k) (by rw [Ways.digs_len]; exact hk))
  exact ⟨((Ways.digs m n t).getD k 0).toNat, by omega, by omega⟩

set_option maxHeartbeats 4000000 in
set_option maxRecDepth 100000 in
theorem last_any (w : World) (g nu cu : Nat) (ul : List Int) (hun : ul.length = nu) (hul : Rd w g 0 ul) (hg : g < w.heap.size) (G cap n m t : Nat) (m1 : 1 ≤ m) (m2 : m ≤ 8) (n2 : n ≤ 24) (hnu : n * m ≤ nu) (nu2 : nu ≤ 1048576) (hw : Rw w G cap (Ways.digs m n t)) (hG : G < w.heap.size)
    (htm : ∀ i, i < n * m → 1 ≤ ul.getD i 0 ∧ ul.getD i 0 ≤ 10000) :
    Calls Try.prog 129 #[.slice (some ⟨g, 0, none⟩) nu cu, .slice (some ⟨G, 0, none⟩) n cap, .int .i64 m] w fun e w' => e = .returned (.int .i64 (costW (tmF ul m) m n t)) ∧ Below w.heap.size w w' := by
  obtain ⟨l, hl⟩ : ∃ l, Ways.digs m n t = l := ⟨_, rfl⟩
  have hcost : costW (tmF ul m) m n t = mxK (Ways.ends (tmF ul m) m n l) m := by unfold costW Ways.EN; rw [hl]
  rw [hcost]
  have hdig : ∀ k, k < n → ∃ d : Nat, d < m ∧ l.getD k 0 = (d : Int) := fun k hk => by rw [← hl]; exact digs_at m1 hk
  have hll : l.length = n := by rw [← hl, Ways.digs_len]
  rw [hl] at hw
  have hidx : ∀ k d, k < n → d < m → k * m + d < n * m := fun k d a b => by
    have : (k + 1) * m ≤ n * m := Nat.mul_le_mul_right _ a
    rw [Nat.add_mul, Nat.one_mul] at this; omega
  have hnm : n * m ≤ 24 * 8 := Nat.mul_le_mul n2 m2
  have htv : ∀ k d, k < n → d < m → 1 ≤ ul.getD (k * m + d) 0 ∧ ul.getD (k * m + d) 0 ≤ 10000 := fun k d a b => htm _ (hidx k d a b)
  have hbd : ∀ k d, k ≤ n → d < m → 0 ≤ (Ways.ends (tmF ul m) m k l).getD d 0 ∧ (Ways.ends (tmF ul m) m k l).getD d 0 ≤ 240000 := fun k d a b => by
    rw [Ways.ends_get _ _ _ _ _ b]
    have := Ways.endL_bd (tm := tmF ul m) (mc := (d : Int)) (l := l) (n := n) (fun i hi => by
      have := htv i d hi b
      unfold tmF; rw [Int.toNat_natCast]; omega) k a
    omega
  have hstep : ∀ k d, d < m → l.getD k 0 = (d : Int) → (Ways.ends (tmF ul m) m k l).set d ((Ways.ends (tmF ul m) m k l).getD d 0 + ul.getD (k * m + d) 0) = Ways.ends (tmF ul m) m (k + 1) l := fun k d a b => by
    have := Ways.ends_push (tmF ul m) m k l d a b
    unfold tmF at this
    rw [Int.toNat_natCast] at this
    exact this
  have HUN := Lib.hid hun; have HUL := Lib.hid hul; have HW := Lib.hid hw; have HD := Lib.hid hdig; have HLL := Lib.hid hll; have HI := Lib.hid hidx; have HTV := Lib.hid htv; have HBD := Lib.hid hbd; have HST := Lib.hid hstep
  have HEL : Hid (∀ k, (Ways.ends (tmF ul m) m k l).length = m) := Lib.hid (fun k => Ways.ends_len _ _ _ _)
  have HZ : Hid (Ways.ends (tmF ul m) m 0 l = List.replicate m 0) := Lib.hid (Ways.ends_zero _ _ _)
  obtain ⟨NM, hNM⟩ : ∃ NM, n * m = NM := ⟨_, rfl⟩
  rw [hNM] at hnu hnm
  have HNM := Lib.hid hNM
  clear hun hul hw hdig hll hidx htv hbd hstep htm hl hcost hNM
  go_enter Try.func129, Try.ntmps129
  go_wp2_with (at_make; refine wp_make rfl (.tmp 9) 22 rfl 2 (.int .i64 0) 8 Try.underlying22 Try.info2 rfl m .i64 _ rfl rfl (by omega) (by unfold maxLen; omega) ?_; intro w1 hrow hbel)
  obtain ⟨F, hF⟩ : ∃ F, w.heap.size = F := ⟨_, rfl⟩
  rw [hF] at hrow hbel hg hG ⊢
  have R0 : Hid (Rw w1 F m (Ways.ends (tmF ul m) m 0 l)) := Lib.hid (by rw [HZ.out]; exact rw_zero hrow)
  have B0 := Lib.hid hbel
  have HF := Lib.hid hF
  clear hrow hbel hF
  go_loopw [8] (fun i wr => ∃ k : Nat, k ≤ n ∧ i = .int .i64 k ∧ Rw wr F m (Ways.ends (tmF ul m) m k l) ∧ Below F w wr) (fun i _ => n - (intOf i).toNat)
  case atStart => exact ⟨0, by omega, rfl, R0.out, B0.out⟩
  case round =>
    obtain ⟨k, hk, rfl, hro, hbk⟩ := hrel
    have HO := Lib.hid hro; have HBk := Lib.hid hbk
    clear hro hbk R0 B0
    by_cases hlt : k < n
    · obtain ⟨d, hdm, hd⟩ := HD.out k hlt
      have c1 := (HW.out.below HBk.out hG).cell k (by rw [HLL.out]; exact hlt)
      rw [hd] at c1
      have c2 := HO.out.cell d (by rw [HEL.out]; exact hdm)
      have c3 := HO.out.free d
      have hix := HI.out k d hlt hdm
      rw [HNM.out] at hix
      have c4 := (HUL.out.below HBk.out hg).get (k * m + d) (by rw [HUN.out]; omega)
      obtain ⟨t0, t1⟩ := HTV.out k d hlt hdm
      obtain ⟨v0, v1⟩ := HBD.out k d hk hdm
      have hset := HST.out k d hdm hd
      obtain ⟨p, hp⟩ : ∃ p, k * m = p := ⟨_, rfl⟩
      have hpI : (k : Int) * (m : Int) = (p : Int) := by rw [← hp, Int.natCast_mul]
      rw [hp] at c4 t0 t1 hset hix
      obtain ⟨y, hy⟩ : ∃ y, p + d = y := ⟨_, rfl⟩
      rw [hy] at c4 t0 t1 hset hix
      have wp1 : IntKind.i64.wrap ((k : Int) * (m : Int)) = (p : Int) := by rw [hpI]; exact IntWalk.i64_in _ (by omega)
      have wy : IntKind.i64.wrap ((p : Int) + (d : Int)) = (y : Int) := by rw [IntWalk.i64_in _ (by omega)]; omega
      have hyn : y < nu := by omega
      have HSET := Lib.hid hset
      obtain ⟨v, hv⟩ : ∃ v, (Ways.ends (tmF ul m) m k l).getD d 0 = v := ⟨_, rfl⟩
      obtain ⟨tv, htv⟩ : ∃ v, ul.getD y 0 = v := ⟨_, rfl⟩
      rw [hv] at c2 v0 v1 HSET; rw [htv] at c4 t0 t1 HSET
      have wv : IntKind.i64.wrap (v + tv) = v + tv := IntWalk.i64_in _ (by omega)
      have HNEW : Hid (∀ w4, Rw w4 F m (Ways.ends (tmF ul m) m k l) → Rw (w4.setCell ⟨F, d, none⟩ (.int .i64 (v + tv))) F m (Ways.ends (tmF ul m) m (k + 1) l)) := Lib.hid (fun w4 h4 => by rw [← HSET.out]; exact h4.set d _)
      clear hd hset hp hpI hy hv htv hix
      go_wp2
      go_still_tail 20, (by kernel_rfl)
      change wpList _ _ _ _ _ wr.drew
      go_wp2
      go_roundw
      case rel => exact ⟨k + 1, by omega, by go_num, (by first | exact (HNEW.out _ HO.out).dr (.one _ 1) | exact HNEW.out _ (HO.out.dr (.one _ 1))), (by first | exact (HBk.out.setCell (p := ⟨F, d, none⟩) (Nat.le_refl _) _).drew | exact (HBk.out.drew).setCell (p := ⟨F, d, none⟩) (Nat.le_refl _) _)⟩
      case measure => simp [intOf]; omega
    · obtain rfl : k = n := by omega
      go_wp2_with (go_at_call 90; refine (l02Greatest_any _ 0 _ m _ _ (HEL.out _) (by omega) m1 HO.out.rd).mono ?_; rintro e w' ⟨rfl, rfl⟩)
      go_ret
      exact ⟨rfl, by rw [HF.out]; exact HBk.out⟩

set_option maxRecDepth 100000 in
/-- append([]int64{}, xs...). -/
theorem copy_new {ops : Array Oper} {rest : List Oper} {o : Oper} {ac : Act} {Q : Exit → Act → World → Prop} (w : World) (hgd : o.guard = none) (s x : Operand)
    (ho : o.op = .call { callee := .builtin .append, args := #[s, x], argTypes := #[22, 22] })
    (gs c n : Nat) (xs : List Int) (hs : ac.eval s = .slice (some ⟨w.heap.size, 0, none⟩) 0 0) (hx : ac.eval x = .slice (some ⟨gs, 0, none⟩) n c) (hn : xs.length = n) (hrd : Rd w gs 0 xs) (hgs : gs < w.heap.size) (n1 : 0 < n) (n2 : n ≤ 1048576)
    (h : ∀ G cap w', Rw w' G cap xs → w.heap.size ≤ G → Below w.heap.size w w' → wpList Try.prog ops Q rest (ac.put o.dst (.slice (some ⟨G, 0, none⟩) n cap)) w') :
    wpList Try.prog ops Q (o :: rest) ac (w.alloc (.cells #[] 2)) := by
  refine append_int _ hgd s x ho w.heap.size 0 [] 0 hs rfl (row_fresh w) ⟨gs, 0, none⟩ n c xs hx hn (Rd.add (hrd.below ((Below.refl w.heap.size w).alloc (Nat.le_refl _) _) hgs)) n1 (by omega) fun G cap w' h1 h2 h3 => ?_
  rw [Nat.zero_add]
  refine h G cap w' h1 ?_ (fresh_below h2)
  rcases h3 with rfl | h3
  · exact Nat.le_refl _
  · simp at h3; omega

def WayP (w : World) (n : Nat) (l : List Int) (v : Int) (e : Ending) (w' : World) : Prop :=
  ∃ G c, e = .returned (.tuple #[.slice (some ⟨G, 0, none⟩) n c, .int .i64 v]) ∧ Rw w' G c l ∧ w.heap.size ≤ G ∧ Below w.heap.size w w'

set_option maxHeartbeats 4000000 in
set_option maxRecDepth 100000 in
theorem leastWayS_any (w : World) (g nu cu : Nat) (ul : List Int) (hun : ul.length = nu) (hul : Rd w g 0 ul) (hg : g < w.heap.size) (n m : Nat) (m1 : 1 ≤ m) (m2 : m ≤ 8) (n1 : 1 ≤ n) (n2 : n ≤ 24) (hnu : n * m ≤ nu) (nu2 : nu ≤ 1048576)
    (htm : ∀ i, i < n * m → 1 ≤ ul.getD i 0 ∧ ul.getD i 0 ≤ 10000) :
    Calls Try.prog 101 #[.slice (some ⟨g, 0, none⟩) nu cu, .int .i64 n, .int .i64 m] w (WayP w n (wayL ul m n) (wayV ul m n)) := by
  obtain ⟨cost, hcost⟩ : ∃ f, costW (tmF ul m) m n = f := ⟨_, rfl⟩
  obtain ⟨M, hM⟩ : ∃ M, m ^ n = M := ⟨_, rfl⟩
  have hM0 : 0 < M := by rw [← hM]; exact Nat.pow_pos m1
  have hfin : ∀ w' G c, Rw w' G c (Ways.digs m n (Ways.arg cost M)) → w.heap.size ≤ G → Below w.heap.size w w' → WayP w n (wayL ul m n) (wayV ul m n) (.returned (.tuple #[.slice (some ⟨G, 0, none⟩) n c, .int .i64 (cost (Ways.arg cost M))])) w' := fun w' G c a b d => by
    unfold wayV wayL wayN; rw [hcost, hM]; exact ⟨G, c, rfl, a, b, d⟩
  have hlast : ∀ (w1 : World) (t G cap : Nat), Rd w1 g 0 ul → g < w1.heap.size → Rw w1 G cap (Ways.digs m n t) → Calls Try.prog 129 #[.slice (some ⟨g, 0, none⟩) nu cu, .slice (some ⟨G, 0, none⟩) n cap, .int .i64 m] w1 fun e w' => e = .returned (.int .i64 (cost t)) ∧ Below w1.heap.size w1 w' := fun w1 t G cap a b d => by
    rw [← hcost]; exact last_any w1 g nu cu ul hun a b G cap n m t m1 m2 n2 hnu nu2 d d.lt htm
  have hnw : ∀ (w1 : World) (T G cap : Nat), 1 ≤ T → T < M → Rw w1 G cap (Ways.digs m n (T - 1)) → Calls Try.prog 130 #[.slice (some ⟨G, 0, none⟩) n cap, .int .i64 m] w1 (NwP w1 G cap m n T true) := fun w1 T G cap a b d =>
    nextWay_any w1 G cap m n (T - 1) m1 m2 n2 d (by omega) T true (.inl ⟨rfl, by omega, by omega⟩)
  have hnw0 : ∀ (w1 : World) (T G cap : Nat), 1 ≤ T → T = M → Rw w1 G cap (Ways.digs m n (T - 1)) → Calls Try.prog 130 #[.slice (some ⟨G, 0, none⟩) n cap, .int .i64 m] w1 (NwP w1 G cap m n 0 false) := fun w1 T G cap a b d =>
    nextWay_any w1 G cap m n (T - 1) m1 m2 n2 d (by omega) 0 false (.inr ⟨rfl, rfl, by omega⟩)
  have HFIN := Lib.hid hfin; have HLAST := Lib.hid hlast; have HNW := Lib.hid hnw; have HNW0 := Lib.hid hnw0
  have HUL := Lib.hid hul
  have HDL : Hid (∀ t, (Ways.digs m n t).length = n) := Lib.hid (fun t => Ways.digs_len _ _ _)
  have HDZ : Hid (Ways.digs m n 0 = List.replicate n 0) := Lib.hid (Ways.digs_zero _ _)
  have HA1 : Hid (Ways.arg cost 1 = 0) := Lib.hid (Ways.arg_one cost)
  have HAS : Hid (∀ T, T ≠ 0 → Ways.arg cost (T + 1) = if cost T < cost (Ways.arg cost T) then T else Ways.arg cost T) := Lib.hid (Ways.arg_step cost)
  clear hfin hlast hnw hnw0 hul hcost hM hun htm hnu
  go_enter Try.func101, Try.ntmps101
  have hg0 : g < w.heap.size := hg
  go_wp2_with (first
    | (at_make; refine wp_make rfl (.tmp 12) 22 rfl 2 (.int .i64 0) 8 Try.underlying22 Try.info2 rfl n .i64 _ rfl rfl (by omega) (by unfold maxLen; omega) ?_; intro w1 hrow hbel; have R1 : Hid (Rw w1 w.heap.size n (Ways.digs m n 0)) := Lib.hid (by rw [HDZ.out]; exact rw_zero hrow); have B1 := Lib.hid hbel; have hlt1 := R1.out.lt; clear hrow hbel)
    | (at_builtin; refine copy_new w1 rfl _ _ rfl w.heap.size n n (Ways.digs m n 0) (by rfl) (by rfl) (HDL.out 0) R1.out.rd R1.out.lt n1 (by omega) ?_; intro GB cb w2 hr2 hg2 hb2; have RB2 := Lib.hid hr2; have RW2 := Lib.hid (R1.out.below hb2 hlt1); have B2 := Lib.hid (B1.out.trans (hb2.mono (by omega))); have hs2 := hb2.size; clear hr2 hb2)
    | (go_at_call 129; refine (HLAST.out _ 0 w.heap.size n (HUL.out.below B2.out hg0) (by omega) RW2.out).mono ?_; rintro e w3 ⟨rfl, hb3⟩; have RB3 := Lib.hid (RB2.out.below hb3 RB2.out.lt); have RW3 := Lib.hid (RW2.out.below hb3 RW2.out.lt); have B3 := Lib.hid (B2.out.trans (hb3.mono (by omega))); clear hb3))
  obtain ⟨U, hU⟩ : ∃ U, w.heap.size = U := ⟨_, rfl⟩
  have HU := Lib.hid hU
  rw [hU] at hg RW3 B3 hlt1 ⊢
  have hne0 : U ≠ GB := by omega
  have hUG : U ≤ GB := by omega
  clear R1 B1 RB2 RW2 B2 hg2 hs2 hlt1 hU hg0
  go_loopg [9, 10, 11] (M - 1) (fun gk b l _ w3 => ∃ T GB cb : Nat, 1 ≤ T ∧ T + gk = M ∧ b = .slice (some ⟨GB, 0, none⟩) n cb ∧ l = .int .i64 (cost (Ways.arg cost T)) ∧ Rw w3 GB cb (Ways.digs m n (Ways.arg cost T)) ∧ Rw w3 U n (Ways.digs m n (T - 1)) ∧ U ≠ GB ∧ U ≤ GB ∧ Below U w w3)
  case atStart => exact ⟨1, GB, cb, by omega, by omega, rfl, by rw [HA1.out], by rw [HA1.out]; exact RB3.out, RW3.out, hne0, hUG, B3.out⟩
  case round =>
    obtain ⟨T, GB, cb, hT1, hTM, rfl, rfl, hrb, hrw, hne, hUG, hbk⟩ := hrel
    have RB := Lib.hid hrb; have RW := Lib.hid hrw; have BK := Lib.hid hbk
    have hUlt := hrw.lt
    clear hrb hrw hbk RB3 RW3 B3
    by_cases hlt : T < M
    · obtain ⟨gk', rfl⟩ : ∃ g', gk = g' + 1 := ⟨gk - 1, by omega⟩
      have hTg : T + 1 + gk' = M := by omega
      have has := HAS.out T (by omega)
      obtain ⟨cT, hcT⟩ : ∃ v, cost T = v := ⟨_, rfl⟩
      obtain ⟨cA, hcA⟩ : ∃ v, cost (Ways.arg cost T) = v := ⟨_, rfl⟩
      rw [hcT, hcA] at has
      have HCT := Lib.hid hcT; have HCA := Lib.hid hcA
      rw [hcA]
      clear hcT hcA
      by_cases hcmp : cT < cA
      · rw [if_pos hcmp] at has
        have HS := Lib.hid has; clear has
        go_wp2_with (first
          | (go_at_call 130; refine (HNW.out _ T U n hT1 hlt RW.out).mono ?_; rintro e w4 ⟨rfl, hr4, ht4⟩; have B4 : Hid (Below U w w4) := Lib.hid (BK.out.trans (ht4.below (Nat.le_refl _) (by omega))); have RW4 := Lib.hid hr4; have hUlt4 := hr4.lt; clear hr4 ht4)
          | (go_at_call 129; refine (HLAST.out _ T U n (HUL.out.below B4.out hg) (by omega) RW4.out).mono ?_; rintro e w5 ⟨rfl, hb5⟩; rw [HCT.out]; have RW5 := Lib.hid (RW4.out.below hb5 RW4.out.lt); have B5 := Lib.hid (B4.out.trans (hb5.mono (by omega))); clear hb5)
          | (at_builtin; refine copy_new w5 rfl _ _ rfl U n n (Ways.digs m n T) (by rfl) (by rfl) (HDL.out T) RW5.out.rd RW5.out.lt n1 (by omega) ?_; intro G6 c6 w6 hr6 hg6 hb6; have hUlt5 := RW5.out.lt; have RB6 := Lib.hid hr6; have RW6 := Lib.hid (RW5.out.below hb6 hUlt5); have B6 := Lib.hid (B5.out.trans (hb6.mono (by omega))); have hne6 : U ≠ G6 := (by omega); have hU6 : U ≤ G6 := (by omega); clear hr6 hb6))
        go_roundg gk'
        case measure => omega
        case rel => exact ⟨T + 1, G6, c6, by omega, hTg, rfl, by rw [HS.out, HCT.out], by rw [HS.out]; exact RB6.out, by rw [Nat.add_sub_cancel]; exact RW6.out, hne6, hU6, B6.out⟩
      · rw [if_neg hcmp] at has
        have HS := Lib.hid has; clear has
        go_wp2_with (first
          | (go_at_call 130; refine (HNW.out _ T U n hT1 hlt RW.out).mono ?_; rintro e w4 ⟨rfl, hr4, ht4⟩; have B4 : Hid (Below U w w4) := Lib.hid (BK.out.trans (ht4.below (Nat.le_refl _) (by omega))); have RW4 := Lib.hid hr4; have RB4 := Lib.hid (RB.out.touch ht4 (Ne.symm hne)); have hUlt4 := hr4.lt; clear hr4 ht4)
          | (go_at_call 129; refine (HLAST.out _ T U n (HUL.out.below B4.out hg) (by omega) RW4.out).mono ?_; rintro e w5 ⟨rfl, hb5⟩; rw [HCT.out]; have RB5 := Lib.hid (RB4.out.below hb5 RB4.out.lt); have RW5 := Lib.hid (RW4.out.below hb5 RW4.out.lt); have B5 := Lib.hid (B4.out.trans (hb5.mono (by omega))); clear hb5))
        go_roundg gk'
        case measure => omega
        case rel => exact ⟨T + 1, GB, cb, by omega, hTg, rfl, by rw [HS.out, HCA.out], by rw [HS.out]; exact RB5.out, by rw [Nat.add_sub_cancel]; exact RW5.out, hne, hUG, B5.out⟩
    · have hTM2 : T = M := by omega
      have hfin : ∀ w4, Rw w4 GB cb (Ways.digs m n (Ways.arg cost T)) → Below U w w4 → WayP w n (wayL ul m n) (wayV ul m n) (.returned (.tuple #[.slice (some ⟨GB, 0, none⟩) n cb, .int .i64 (cost (Ways.arg cost T))])) w4 := fun w4 a b => by
        have := HFIN.out w4 GB cb (by rw [← hTM2]; exact a) (by rw [HU.out]; exact hUG) (by rw [HU.out]; exact b)
        rw [← hTM2] at this; exact this
      have HF := Lib.hid hfin
      have HTM := Lib.hid hTM2
      clear hfin hTM2 hTM
      obtain ⟨cA, hcA⟩ : ∃ v, cost (Ways.arg cost T) = v := ⟨_, rfl⟩
      rw [hcA] at HF ⊢
      clear hcA
      go_wp2_with (go_at_call 130; refine (HNW0.out _ T U n hT1 HTM.out RW.out).mono ?_; rintro e w4 ⟨rfl, hr4, ht4⟩; have B4 : Hid (Below U w w4) := Lib.hid (BK.out.trans (ht4.below (Nat.le_refl _) (by omega))); have RB4 := Lib.hid (RB.out.touch ht4 (Ne.symm hne)); clear hr4 ht4)
      go_ret2
      exact HF.out _ RB4.out B4.out
end Go.Proofs.Ytncmhinpjkkfkaa
