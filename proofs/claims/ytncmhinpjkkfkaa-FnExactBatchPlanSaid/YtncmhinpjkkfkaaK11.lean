/-
  Walks: the law CostOf. Conditions: none.
-/
import Derived.Test.YtncmhinpjkkfkaaK10
set_option linter.unusedVariables false
set_option linter.unusedSimpArgs false
namespace Go.Proofs.Ytncmhinpjkkfkaa
open Go Go.RowKit

def jN (js : List J) (k : Nat) : J := js.getD k default
def eN (es : List Int) (k : Nat) : Int := es.getD k 0
def costK (js : List J) (es : List Int) (kind : Int) : Nat → Int
  | 0 => partV kind (jN js 0) (eN es 0)
  | k + 1 => bothV kind (costK js es kind k) (partV kind (jN js (k + 1)) (eN es (k + 1)))
def costV (js : List J) (xs : List Int) (kind : Int) : Int := costK js (endsL js xs) kind (js.length - 1)

theorem jN_eq {js : List J} {k : Nat} (h : k < js.length) : jN js k = js[k] := by unfold jN; rw [List.getD_eq_getElem?_getD, List.getElem?_eq_getElem h]; rfl
theorem eN_eq {es : List Int} {k : Nat} (h : k < es.length) : eN es k = es[k] := by unfold eN; rw [List.getD_eq_getElem?_getD, List.getElem?_eq_getElem h]; rfl

theorem costK_bd {js : List J} {es : List Int} {kind : Int} (hj : ∀ i (hi : i < js.length), JOk js[i]) (he : ∀ x ∈ es, 0 ≤ x ∧ x ≤ 1000000) (hl : es.length = js.length) :
    ∀ k, k < js.length → -10000 * (k + 1 : Int) ≤ costK js es kind k ∧ costK js es kind k ≤ 10000000000 * (k + 1) := by
  have hp : ∀ k, k < js.length → -10000 ≤ partV kind (jN js k) (eN es k) ∧ partV kind (jN js k) (eN es k) ≤ 10000000000 := by
    intro k hk
    have h1 := he es[k] (List.getElem_mem _)
    rw [jN_eq hk, eN_eq (by omega)]
    exact partV_bd (hj k hk) h1.1 h1.2
  intro k
  induction k with
  | zero => intro hk; have := hp 0 hk; unfold costK; omega
  | succ k ih =>
    intro hk
    have h1 := ih (by omega)
    have h2 := hp (k + 1) hk
    unfold costK bothV
    split <;> omega

theorem endsL_mem {js : List J} {xs : List Int} (h : canB js xs = true) : ∀ x ∈ endsL js xs, 0 ≤ x ∧ x ≤ 1000000 := by
  obtain ⟨hj, hl, _⟩ := canB_of h
  obtain ⟨_, n2, _⟩ := jobsB_of hj
  have hb := (endsK_bd h xs.length (Nat.le_refl _)).2.2
  intro x hx
  have := hb x hx
  omega
theorem endsL_length {js : List J} {xs : List Int} : (endsL js xs).length = js.length := by unfold endsL; exact endsK_len js xs _ (Nat.le_refl _)

set_option maxHeartbeats 4000000 in
set_option maxRecDepth 100000 in
theorem l02Cost_any (w : World) (g n c : Nat) (js : List J) (hn : js.length = n) (hj : JRd w g 0 js) (hg : g < w.heap.size) (g' n' c' : Nat) (xs : List Int) (hn' : xs.length = n') (hx : Rd w g' 0 xs) (hg' : g' < w.heap.size) (hcan : canB js xs = true) (kind : Int) (k0 : 0 ≤ kind) (k1 : kind ≤ 4) :
    Calls Try.prog 110 #[.slice (some ⟨g, 0, none⟩) n c, .slice (some ⟨g', 0, none⟩) n' c', .int .i64 kind] w fun e w' => e = .returned (.int .i64 (costV js xs kind)) ∧ Below w.heap.size w w' := by
  obtain ⟨hjb, _, _⟩ := canB_of hcan
  obtain ⟨n1, n2, hjs⟩ := jobsB_of hjb
  have hmem := endsL_mem hcan
  have hlen := @endsL_length js xs
  have hfin : costK js (endsL js xs) kind (n - 1) = costV js xs kind := by unfold costV; rw [hn]
  have HF := Lib.hid hfin; have HN := Lib.hid hn; have HN' := Lib.hid hn'; have HJ := Lib.hid hj; have HX := Lib.hid hx
  have HJS : Hid (∀ i (hi : i < js.length), JOk js[i]) := Lib.hid hjs
  have m1 : 1 ≤ n := by omega
  have m2 : n ≤ 24 := by omega
  have hends := fun w1 h1 h2 h3 h4 => l02Ends_any w1 g n c js hn h1 h2 g' n' c' xs hn' h3 h4 hcan
  have HE := Lib.hid hends
  obtain ⟨es, hes⟩ : ∃ es, endsL js xs = es := ⟨_, rfl⟩
  rw [hes] at hmem hlen
  rw [hn] at hlen
  have HES := Lib.hid hes; have HM := Lib.hid hmem; have HLE := Lib.hid hlen
  have hbd := @costK_bd js es kind hjs hmem (by omega)
  have HB := Lib.hid hbd
  clear hfin hn hn' hj hx hjs hmem hlen hends hes hbd hcan hjb n1 n2
  have m0 : 0 < n := m1
  have m0' : (0 : Int) < n := by omega
  go_enter Try.func110, Try.ntmps110
  go_wp2_with fail
  go_at_call 107
  refine (HE.out _ HJ.out hg HX.out hg').mono ?_
  rintro e w1 ⟨G, rfl, hr, hgG, hb⟩
  rw [HES.out] at hr
  rw [HES.out, HLE.out]
  have R := Lib.hid hr; have B1 := Lib.hid hb
  have J1 := Lib.hid (HJ.out.below hb hg)
  have hG1 := hr.lt
  clear hr hb
  have hj0 : 0 < js.length := by have := HN.out; omega
  have he0 : 0 < es.length := by have := HLE.out; omega
  obtain ⟨_, _, c2, c3⟩ := J1.out 0 hj0
  have ce := R.out.rd 0 he0
  have t0 := HM.out es[0] (List.getElem_mem _)
  obtain ⟨t0, t1⟩ := t0
  rw [Nat.add_zero] at ce
  have hc0 : costK js es kind 0 = partV kind js[0] es[0] := by unfold costK; rw [jN_eq hj0, eN_eq he0]
  have HC0 := Lib.hid hc0
  have C2 := Lib.hid c2; have C3 := Lib.hid c3
  clear c2 c3 hc0
  have hq : ∀ d, Calls Try.prog 118 #[.pointer (some ⟨g, 0, none⟩), .int .i64 es[0], .int .i64 kind] (w1.drewN d) fun e w'' => e = .returned (.int .i64 (partV kind js[0] es[0])) ∧ ∃ m, w'' = w1.drewN m := fun d => quiet_dr (l02Part_any kind k0 k1 g 0 js[0] es[0] _ (HJS.out 0 hj0) t0 t1 C2.out C3.out)
  have HQ := Lib.hid hq; clear hq
  go_wp2
  go_quiet ((go_at_call 118; exact HQ.out _))
  rw [← HC0.out]
  clear ce t0 t1
  go_wp2
  go_loopw [8, 9] (fun s i wr => ∃ k : Nat, 1 ≤ k ∧ k ≤ n ∧ i = .int .i64 k ∧ s = .int .i64 (costK js es kind (k - 1)) ∧ Dr w1 wr) (fun _ i _ => n - (intOf i).toNat)
  case atStart => exact ⟨1, by omega, by omega, rfl, rfl, .one _ _⟩
  case round =>
    obtain ⟨k, hk1, hk, rfl, rfl, hd⟩ := hrel
    have HD := Lib.hid hd
    by_cases hlt : k < n
    · have hjk : k < js.length := by have := HN.out; omega
      have hek : k < es.length := by have := HLE.out; omega
      obtain ⟨_, _, c2, c3⟩ := hd.jrd J1.out k hjk
      have ce := hd.rd R.out.rd k hek
      obtain ⟨t0, t1⟩ := HM.out es[k] (List.getElem_mem _)
      obtain ⟨k, rfl⟩ : ∃ k', k = k' + 1 := ⟨k - 1, by omega⟩
      have hsucc : costK js es kind (k + 1) = bothV kind (costK js es kind k) (partV kind js[k + 1] es[k + 1]) := by
        conv => lhs; unfold costK
        rw [jN_eq hjk, eN_eq hek]
      have HS := Lib.hid hsucc
      obtain ⟨p0, p1⟩ := partV_bd (kind := kind) (HJS.out (k + 1) hjk) t0 t1
      obtain ⟨q0, q1⟩ := HB.out k (by omega)
      have hq : ∀ d, Calls Try.prog 118 #[.pointer (some ⟨g, (k + 1) * 4, none⟩), .int .i64 es[k + 1], .int .i64 kind] (wr.drewN d) fun e w'' => e = .returned (.int .i64 (partV kind js[k + 1] es[k + 1])) ∧ ∃ m, w'' = wr.drewN m := fun d => quiet_dr (l02Part_any kind k0 k1 g ((k + 1) * 4) js[k + 1] es[k + 1] _ (HJS.out (k + 1) hjk) t0 t1 (by rw [Nat.zero_add] at c2; exact c2) (by rw [Nat.zero_add] at c3; exact c3))
      have HQ := Lib.hid hq; clear hq
      rw [Nat.zero_add] at ce
      rw [Nat.add_sub_cancel]
      generalize costK js es kind k = cv at *
      generalize partV kind js[k + 1] es[k + 1] = pv at *
      generalize es[k + 1] = ev at *
      have B0 : Hid (-1000000000000 ≤ cv ∧ cv ≤ 1000000000000 ∧ -1000000000000 ≤ pv ∧ pv ≤ 1000000000000) := Lib.hid (by omega)
      clear c2 c3 hsucc hd p0 p1 q0 q1 t0 t1
      generalize hki : k + 1 = i at *
      have hi' : i + 1 - 1 = i := rfl
      go_wp2
      go_quiet ((first | (go_at_call 118; exact HQ.out _) | (go_at_call 119; exact quiet_eq (l02Both_any kind k0 k1 _ _ _ B0.out.1 B0.out.2.1 B0.out.2.2.1 B0.out.2.2.2))))
      go_wp2
      go_roundw
      case rel => exact ⟨i + 1, by omega, by omega, by go_num, by rw [hi', HS.out], HD.out.drewN _⟩
      case measure => simp [intOf]; omega
    · have hkn : k - 1 = n - 1 := by omega
      have hv : costK js es kind (k - 1) = costV js xs kind := by rw [← HF.out, HES.out, hkn]
      have HV := Lib.hid hv
      clear hv hd hkn
      go_wp2
      go_ret
      exact ⟨ret_int HV.out, B1.out.trans (HD.out.below)⟩

set_option maxHeartbeats 4000000 in
set_option maxRecDepth 100000 in
theorem implCost_any (w : World) (g n c : Nat) (js : List J) (hn : js.length = n) (hj : JRd w g 0 js) (hg : g < w.heap.size) (G : Nat) (es : List Int) (hen : es.length = n) (hr : Rd w G 0 es) (hG : G < w.heap.size) (hjs : ∀ i (hi : i < js.length), JOk js[i]) (hmem : ∀ x ∈ es, 0 ≤ x ∧ x ≤ 1000000) (m1 : 1 ≤ n) (m2 : n ≤ 24) (kind : Int) (k0 : 0 ≤ kind) (k1 : kind ≤ 4) :
    Calls Try.prog 111 #[.slice (some ⟨g, 0, none⟩) n c, .slice (some ⟨G, 0, none⟩) n n, .int .i64 kind] w fun e w' => e = .returned (.int .i64 (costK js es kind (n - 1))) ∧ Below w.heap.size w w' := by
  have HN := Lib.hid hn; have HJ := Lib.hid hj; have HR := Lib.hid hr; have HLE := Lib.hid hen; have HJS := Lib.hid hjs; have HM := Lib.hid hmem
  have hbd := @costK_bd js es kind hjs hmem (by omega)
  have HB := Lib.hid hbd
  have hj0 : 0 < js.length := by omega
  have he0 : 0 < es.length := by omega
  obtain ⟨c0, c1, c2, c3⟩ := hj 0 hj0
  have ce := hr 0 he0
  obtain ⟨t0, t1⟩ := hmem es[0] (List.getElem_mem _)
  rw [Nat.add_zero] at ce
  have hc0 : costK js es kind 0 = partV kind js[0] es[0] := by unfold costK; rw [jN_eq hj0, eN_eq he0]
  have HC0 := Lib.hid hc0
  have hj00 := hjs 0 hj0
  generalize hjj : js[0] = jj at *
  clear hjj
  obtain ⟨ja, jb, jc, jd⟩ := jj
  clear hn hj hr hen hjs hmem hbd hc0
  have m0 : 0 < n := m1
  have m0' : (0 : Int) < n := by omega
  simp only [Nat.zero_add, Nat.zero_mul] at c0 c1 c2 c3
  go_enter Try.func111, Try.ntmps111
  go_wp2
  go_still_tail 7, (by kernel_rfl)
  change wpList _ _ _ _ _ w.drew
  go_wp2_with fail
  go_at_call 121
  refine (share_any kind k0 k1 _ _ _ _ _ _ hj00 t0 t1).mono ?_
  rintro e w1 ⟨rfl, hb⟩
  rw [← HC0.out]
  have B1 : Hid (Below w.heap.size w w1) := Lib.hid ((Below.refl _ _).drew.trans hb)
  clear hb c0 c1 c2 c3 ce t0 t1
  by_cases hone : n = 1
  · subst hone
    go_wp2
    refine wp_loop_rounds 1 ?_; rw [rounds_succ]
    go_wp2
    go_ret
    exact ⟨rfl, B1.out⟩
  · obtain ⟨m, rfl⟩ : ∃ m, n = m + 2 := ⟨n - 2, by omega⟩
    have G1 := Lib.hid (B1.out)
    go_wp2
    go_loopw [7, 8, 9, 21] (fun s _ _ i wr => ∃ k : Nat, k ≤ m + 1 ∧ i = .int .i64 k ∧ s = .int .i64 (costK js es kind k) ∧ Below w.heap.size w wr) (fun _ _ _ i _ => m + 1 - (intOf i).toNat)
    case atStart => exact ⟨0, by omega, rfl, rfl, B1.out⟩
    case round =>
      obtain ⟨k, hk, rfl, rfl, hb⟩ := hrel
      have HBk := Lib.hid hb
      clear hb
      by_cases hlt : k < m + 1
      · have hjk : k + 1 < js.length := by have := HN.out; omega
        have hek : k + 1 < es.length := by have := HLE.out; omega
        obtain ⟨c0, c1, c2, c3⟩ := (HJ.out.below HBk.out hg) (k + 1) hjk
        have ce := (HR.out.below HBk.out hG) (k + 1) hek
        obtain ⟨t0, t1⟩ := HM.out es[k + 1] (List.getElem_mem _)
        have hjo := HJS.out (k + 1) hjk
        have hsucc : costK js es kind (k + 1) = bothV kind (costK js es kind k) (partV kind js[k + 1] es[k + 1]) := by
          conv => lhs; unfold costK
          rw [jN_eq hjk, eN_eq hek]
        obtain ⟨p0, p1⟩ := partV_bd (kind := kind) hjo t0 t1
        obtain ⟨q0, q1⟩ := HB.out k (by omega)
        generalize es[k + 1] = ev at *
        generalize hjj : js[k + 1] = jj at *
        obtain ⟨ja', jb', jc', jd'⟩ := jj
        have HS := Lib.hid hsucc
        generalize costK js es kind k = cv at *
        generalize hpv : partV kind ⟨ja', jb', jc', jd'⟩ ev = pv at *
        have HP := Lib.hid hpv; have JO := Lib.hid hjo
        have B0 : Hid (-1000000000000 ≤ cv ∧ cv ≤ 1000000000000 ∧ -1000000000000 ≤ pv ∧ pv ≤ 1000000000000) := Lib.hid (by omega)
        have T0 := Lib.hid t0; have T1 := Lib.hid t1
        rw [Nat.zero_add] at c0 c1 c2 c3
        rw [Nat.zero_add, Nat.add_comm] at ce
        clear hjj hsucc hpv hjo p0 p1 q0 q1 t0 t1
        have n0 : (0 : Int) ≤ (k : Int) + 1 := by omega
        have n1 : (k : Int) + 1 < (m : Int) + 2 := by omega
        have n2 : ((k : Int) + 1).toNat = k + 1 := by omega
        have n3 : IntKind.i64.wrap ((k : Int) + 1) = (k : Int) + 1 := IntWalk.i64_in _ (by omega)
        go_wp2_with (first
          | (go_at_call 121; refine (share_any kind k0 k1 _ _ _ _ _ _ JO.out T0.out T1.out).mono ?_; rintro e w2 ⟨rfl, hb⟩; rw [HP.out]; have B2 := Lib.hid (HBk.out.trans (hb.mono HBk.out.size)); clear hb)
          | (go_at_call 122; refine (implBoth_any kind k0 k1 _ _ _ B0.out.1 B0.out.2.1 B0.out.2.2.1 B0.out.2.2.2).mono ?_; rintro e w3 ⟨rfl, rfl⟩))
        go_roundw
        case rel => exact ⟨k + 1, by omega, by go_num, by rw [HS.out], B2.out⟩
        case measure => simp [intOf]; omega
      · obtain rfl : k = m + 1 := by omega
        go_wp2
        go_ret
        exact ⟨rfl, HBk.out⟩
end Go.Proofs.Ytncmhinpjkkfkaa
