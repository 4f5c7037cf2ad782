/-
  Walks: the least way to give jobs to machines: the reference's functions. Conditions: none.
-/
import Derived.Test.YtncmhinpjkkfkaaK26
import Derived.Test.YtncmhinpjkkfkaaK16
import Derived.Test.YtncmhinpjkkfkaaWays
import Derived.Deep.LoopGhost
set_option linter.unusedVariables false
set_option linter.unusedSimpArgs false
namespace Go.Proofs.Ytncmhinpjkkfkaa
open Go Go.RowKit

def tmF (ul : List Int) (m : Nat) (i : Nat) (d : Int) : Int := ul.getD (i * m + d.toNat) 0
def costW (tm : Nat → Int → Int) (m n t : Nat) : Int := mxK (Ways.EN tm m n t) m

theorem pow_mono {m a b : Nat} (m1 : 1 ≤ m) (h : a ≤ b) : m ^ a ≤ m ^ b := Nat.pow_le_pow_right m1 h

set_option maxHeartbeats 1000000 in
theorem few_any (m n : Nat) (m1 : 1 ≤ m) (m2 : m ≤ 8) (n2 : n ≤ 24) (w : World) :
    Calls Try.prog 100 #[.int .i64 n, .int .i64 m] w fun e w' => e = .returned (.bool (decide (m ^ n ≤ 65536))) ∧ w = w' := by
  have hmono : ∀ k, k ≤ n → m ^ k ≤ m ^ n := fun k h => pow_mono m1 h
  have hsucc : ∀ k, m ^ (k + 1) = m ^ k * m := fun k => Nat.pow_succ ..
  obtain ⟨pw, hpw⟩ : ∃ f : Nat → Nat, ∀ k, m ^ k = f k := ⟨_, fun _ => rfl⟩
  have h0 : pw 0 = 1 := by rw [← hpw]; rfl
  rw [hpw]
  simp only [hpw] at hmono hsucc
  have HM := Lib.hid hmono; have HS := Lib.hid hsucc; have H0 := Lib.hid h0
  clear hmono hsucc hpw h0
  go_enter Try.func100, Try.ntmps100
  go_wp2
  go_loop [0, 5] (fun j p => ∃ k : Nat, k ≤ n ∧ pw k ≤ 65536 ∧ j = .int .i64 ((n - k : Nat) : Int) ∧ p = .int .i64 (pw k)) (fun j _ => (intOf j).toNat)
  case atStart => exact ⟨0, by omega, by rw [H0.out]; decide, rfl, by rw [H0.out]; rfl⟩
  case round =>
    obtain ⟨k, hk, hP, rfl, rfl⟩ := hrel
    by_cases hlt : k < n
    · obtain ⟨Q, hQ⟩ : ∃ Q, pw (k + 1) = Q := ⟨_, rfl⟩
      have hQ2 := HS.out k
      rw [hQ] at hQ2
      have hle := HM.out (k + 1) hlt
      rw [hQ] at hle
      have hjj : n - k = (n - (k + 1)) + 1 := by omega
      have hrb : n - (k + 1) ≤ 24 := by omega
      generalize n - (k + 1) = r at *
      rw [hjj]
      generalize pw k = P at *
      have hQb : Q ≤ 65536 * 8 := by rw [hQ2]; exact Nat.mul_le_mul hP m2
      have hQI : (P : Int) * (m : Int) = (Q : Int) := by rw [hQ2, Int.natCast_mul]
      have wQ : IntKind.i64.wrap ((P : Int) * (m : Int)) = (Q : Int) := by rw [hQI]; exact IntWalk.i64_in _ (by omega)
      have HQ := Lib.hid hQ
      have hr1 : r = n - (k + 1) := by omega
      have HR := Lib.hid hr1
      clear hQ hQ2 hQI hjj hr1
      by_cases hq : Q ≤ 65536
      · go_wp2
        go_round
        case rel => exact ⟨k + 1, by omega, by rw [HQ.out]; exact hq, by rw [← HR.out], by rw [HQ.out]⟩
        case measure => simp [intOf] <;> omega
      · have hd : decide (pw n ≤ 65536) = false := decide_eq_false (by omega)
        have HD := Lib.hid hd
        clear hd hle
        go_wp2
        go_ret
        exact ⟨ret_bool HD.out.symm, rfl⟩
    · obtain rfl : k = n := by omega
      have hd : decide (pw k ≤ 65536) = true := decide_eq_true hP
      have HD := Lib.hid hd
      have hkk : k - k = 0 := by omega
      rw [hkk]
      clear hd hkk
      go_wp2
      go_ret
      first | exact ⟨rfl, rfl⟩ | exact ⟨ret_bool HD.out.symm, rfl⟩

theorem pwMin (m k : Nat) (m1 : 1 ≤ m) : min 65537 (min 65537 (m ^ k) * m) = min 65537 (m ^ (k + 1)) := by
  rw [Nat.pow_succ]
  by_cases h : m ^ k ≤ 65537
  · rw [Nat.min_eq_right h]
  · have h1 : 65537 * 1 ≤ 65537 * m := Nat.mul_le_mul_left _ m1
    have h2 : m ^ k * 1 ≤ m ^ k * m := Nat.mul_le_mul_left _ m1
    rw [Nat.min_eq_left (by omega : 65537 ≤ m ^ k), Nat.min_eq_left (by omega), Nat.min_eq_left (by omega)]

set_option maxHeartbeats 1000000 in
theorem powered_any (m n : Nat) (m1 : 1 ≤ m) (m2 : m ≤ 8) (n2 : n ≤ 24) (w : World) :
    Calls Try.prog 102 #[.int .i64 m, .int .i64 n] w fun e w' => e = .returned (.int .i64 ((min 65537 (m ^ n) : Nat) : Int)) ∧ w = w' := by
  have hsucc : ∀ k, min 65537 (min 65537 (m ^ k) * m) = min 65537 (m ^ (k + 1)) := fun k => pwMin m k m1
  have hle : ∀ k, min 65537 (m ^ k) ≤ 65537 := fun k => Nat.min_le_left _ _
  obtain ⟨pw, hpw⟩ : ∃ f : Nat → Nat, ∀ k, min 65537 (m ^ k) = f k := ⟨_, fun _ => rfl⟩
  have h0 : pw 0 = 1 := by rw [← hpw]; rfl
  rw [hpw]
  simp only [hpw] at hsucc hle
  have HS := Lib.hid hsucc; have H0 := Lib.hid h0; have HL := Lib.hid hle
  clear hsucc hpw h0 hle
  go_enter Try.func102, Try.ntmps102
  go_wp2
  go_loop [5, 7] (fun p i => ∃ k : Nat, k ≤ n ∧ i = .int .i64 k ∧ p = .int .i64 (pw k)) (fun _ i => n - (intOf i).toNat)
  case atStart => exact ⟨0, by omega, rfl, by rw [H0.out]; rfl⟩
  case round =>
    obtain ⟨k, hk, rfl, rfl⟩ := hrel
    by_cases hlt : k < n
    · have hP := HL.out k
      have hQ := HS.out k
      generalize pw k = P at *
      obtain ⟨Q, hQ2⟩ : ∃ Q, P * m = Q := ⟨_, rfl⟩
      have hQb : Q ≤ 65537 * 8 := by rw [← hQ2]; exact Nat.mul_le_mul hP m2
      have hQI : (P : Int) * (m : Int) = (Q : Int) := by rw [← hQ2, Int.natCast_mul]
      have wQ : IntKind.i64.wrap ((P : Int) * (m : Int)) = (Q : Int) := by rw [hQI]; exact IntWalk.i64_in _ (by omega)
      rw [hQ2] at hQ
      by_cases hq : Q < 65537
      · have hp : pw (k + 1) = Q := by omega
        have HP := Lib.hid hp
        clear hp hQ hQ2 hQI
        go_wp2
        go_round
        case rel => exact ⟨k + 1, by omega, by go_num, by rw [HP.out]⟩
        case measure => simp [intOf]; omega
      · have hp : pw (k + 1) = 65537 := by omega
        have HP := Lib.hid hp
        clear hp hQ hQ2 hQI
        go_wp2
        go_round
        case rel => exact ⟨k + 1, by omega, by go_num, by rw [HP.out]; go_num⟩
        case measure => simp [intOf]; omega
    · obtain rfl : k = n := by omega
      go_wp2
      go_ret
      exact ⟨rfl, rfl⟩

/-- The list while the next way is made. -/
def nwL (m n r q : Nat) : List Int := Ways.digs m (n - r) q ++ List.replicate r 0
theorem nwL_len {m n r q : Nat} (h : r ≤ n) : (nwL m n r q).length = n := by simp [nwL, Ways.digs_len]; omega
theorem nwL_zero (m n q : Nat) : nwL m n 0 q = Ways.digs m n q := by simp [nwL]
theorem nwL_all (m n q : Nat) : nwL m n n q = Ways.digs m n 0 := by
  simp only [nwL, Nat.sub_self, Ways.digs_zero]; simp [Ways.digs]
theorem nwL_form {m n r q k : Nat} (m1 : 0 < m) (hk : n - r = k + 1) : nwL m n r q = Ways.digs m k (q / m) ++ [((q % m : Nat) : Int)] ++ List.replicate r 0 := by
  unfold nwL; rw [hk]; rfl
theorem nwL_get {m n r q k : Nat} (m1 : 0 < m) (hk : n - r = k + 1) : (nwL m n r q).getD k 0 = ((q % m : Nat) : Int) := by
  rw [nwL_form m1 hk, List.append_assoc, List.getD_eq_getElem?_getD, List.getElem?_append_right (by rw [Ways.digs_len]; exact Nat.le_refl _), Ways.digs_len, Nat.sub_self]
  simp
theorem nwL_set {m n r q k : Nat} (m1 : 0 < m) (hk : n - r = k + 1) (v : Int) : (nwL m n r q).set k v = Ways.digs m k (q / m) ++ [v] ++ List.replicate r 0 := by
  have e := nwL_form m1 hk (q := q)
  have hl : (Ways.digs m k (q / m)).length = k := Ways.digs_len _ _ _
  rw [e, List.append_assoc, List.set_append_right _ _ (by omega), hl, Nat.sub_self]
  simp
theorem nwL_less {m n r q k : Nat} (hk : n - r = k + 1) : Ways.digs m k (q / m) ++ [0] ++ List.replicate r 0 = nwL m n (r + 1) (q / m) := by
  unfold nwL
  have : n - (r + 1) = k := by omega
  rw [this, List.append_assoc, List.replicate_succ]; rfl
theorem nwL_get2 {m n r q k : Nat} (hk : n - r = k + 1) (v : Int) : (Ways.digs m k (q / m) ++ [v] ++ List.replicate r 0).getD k 0 = v := by
  rw [List.append_assoc, List.getD_eq_getElem?_getD, List.getElem?_append_right (by rw [Ways.digs_len]; exact Nat.le_refl _), Ways.digs_len, Nat.sub_self]
  simp
theorem nwL_set2 {m n r q k : Nat} (hk : n - r = k + 1) (v u : Int) : (Ways.digs m k (q / m) ++ [v] ++ List.replicate r 0).set k u = Ways.digs m k (q / m) ++ [u] ++ List.replicate r 0 := by
  have hl : (Ways.digs m k (q / m)).length = k := Ways.digs_len _ _ _
  rw [List.append_assoc, List.set_append_right _ _ (by omega), hl, Nat.sub_self, List.append_assoc]
  simp

def NwP (w : World) (G cap m n t : Nat) (b : Bool) (e : Ending) (w' : World) : Prop :=
  e = .returned (.bool b) ∧ Rw w' G cap (Ways.digs m n t) ∧ Touch G w w'

theorem full_lt {m n r q t : Nat} (m1 : 0 < m) (hr : r ≤ n) (ht : t = q * m ^ r + (m ^ r - 1)) (hlt : t < m ^ n) : q < m ^ (n - r) := by
  have hp : 0 < m ^ r := Nat.pow_pos m1
  have e : m ^ n = m ^ (n - r) * m ^ r := by rw [← Nat.pow_add]; congr 1; omega
  have h2 : q * m ^ r < m ^ (n - r) * m ^ r := by rw [← e]; omega
  exact Nat.lt_of_mul_lt_mul_right h2

/-- The last way has only greatest digits. -/
theorem last_mod {m n r q t k : Nat} (m1 : 0 < m) (hr : r ≤ n) (hk : n - r = k + 1) (ht : t = q * m ^ r + (m ^ r - 1)) (hlt : t + 1 = m ^ n) : ¬ q % m + 1 < m := by
  have hp : 0 < m ^ r := Nat.pow_pos m1
  have e : m ^ n = m ^ (n - r) * m ^ r := by rw [← Nat.pow_add]; congr 1; omega
  have e1 : (q + 1) * m ^ r = m ^ (n - r) * m ^ r := by rw [← e, Nat.add_mul, Nat.one_mul]; omega
  have e2 : q + 1 = m ^ (n - r) := Nat.eq_of_mul_eq_mul_right hp e1
  rw [hk, Nat.pow_succ] at e2
  intro h
  have h3 := Nat.div_add_mod' q m
  have h4 : (q + 1) % m = q % m + 1 := by
    conv => lhs; rw [← h3, Nat.add_assoc]
    exact Nat.mul_add_mod_of_lt h
  rw [e2, Nat.mul_mod_left] at h4
  omega

set_option maxHeartbeats 4000000 in
set_option maxRecDepth 100000 in
theorem nextWay_any (w : World) (G cap m n t : Nat) (m1 : 1 ≤ m) (m2 : m ≤ 8) (n2 : n ≤ 24) (hr : Rw w G cap (Ways.digs m n t)) (ht : t < m ^ n) (t' : Nat) (b : Bool) (hb : b = true ∧ t' = t + 1 ∧ t + 1 < m ^ n ∨ b = false ∧ t' = 0 ∧ t + 1 = m ^ n) :
    Calls Try.prog 130 #[.slice (some ⟨G, 0, none⟩) n cap, .int .i64 m] w (NwP w G cap m n t' b) := by
  have HR := Lib.hid hr
  have hfull : ∀ r q, r ≤ n → t = q * m ^ r + (m ^ r - 1) → q < m ^ (n - r) := fun r q a c => full_lt m1 a c ht
  have hmod : ∀ r q k, r ≤ n → n - r = k + 1 → t = q * m ^ r + (m ^ r - 1) → q % m + 1 < m → b = true ∧ Ways.digs m k (q / m) ++ [((q % m + 1 : Nat) : Int)] ++ List.replicate r 0 = Ways.digs m n t' := fun r q k a c d e => by
    rcases hb with ⟨rfl, rfl, h⟩ | ⟨rfl, rfl, h⟩
    · refine ⟨rfl, ?_⟩
      have := Ways.next_yes (m := m) (by omega) k r q e
      rw [d, ← this]; congr 1; omega
    · exact absurd e (last_mod (by omega) a c d h)
  have hnext : ∀ r q, t = q * m ^ r + (m ^ r - 1) → ¬ q % m + 1 < m → t = q / m * m ^ (r + 1) + (m ^ (r + 1) - 1) := fun r q d e => by
    rw [d]; exact Ways.next_no (by omega) r q e
  have hend : ∀ q, t = q * m ^ n + (m ^ n - 1) → b = false ∧ nwL m n n q = Ways.digs m n t' := fun q d => by
    have h1 := hfull n q (Nat.le_refl _) d
    rw [Nat.sub_self, Nat.pow_zero] at h1
    have hp : 0 < m ^ n := Nat.pow_pos (by omega)
    have hq : q = 0 := by omega
    rw [hq, Nat.zero_mul] at d
    rcases hb with ⟨rfl, rfl, h⟩ | ⟨rfl, rfl, h⟩
    · omega
    · exact ⟨rfl, nwL_all m n q⟩
  have h00 : t = t * m ^ 0 + (m ^ 0 - 1) := by simp
  have HMOD := Lib.hid hmod; have HNEXT := Lib.hid hnext; have HEND := Lib.hid hend; have H00 := Lib.hid h00
  clear hr ht hb hfull hmod hnext hend h00
  go_enter Try.func130, Try.ntmps130
  go_wp2
  go_loopw [5] (fun i wr => ∃ r q : Nat, r ≤ n ∧ i = .int .i64 ((n : Int) - (r : Int) - 1) ∧ t = q * m ^ r + (m ^ r - 1) ∧ Rw wr G cap (nwL m n r q) ∧ Touch G w wr) (fun i _ => (intOf i + 1).toNat)
  case atStart => exact ⟨0, t, by omega, by go_num, H00.out, by rw [nwL_zero]; exact HR.out, Touch.refl _ _⟩
  case round =>
    obtain ⟨r, q, hrn, rfl, htq, hro, htc⟩ := hrel
    have HQ := Lib.hid htq; have HO := Lib.hid hro; have HT := Lib.hid htc
    clear htq hro htc
    by_cases hlt : r < n
    · obtain ⟨k, hk⟩ : ∃ k, n - r = k + 1 := ⟨n - r - 1, by omega⟩
      have hkI : (n : Int) - (r : Int) - 1 = (k : Int) := by omega
      rw [hkI]
      have hkn : k < n := by omega
      have hqm : q % m < m := Nat.mod_lt _ (by omega)
      have c1 := HO.out.cell k (by rw [nwL_len hrn]; exact hkn)
      rw [nwL_get (by omega) hk] at c1
      have c2 := HO.out.free k
      obtain ⟨w1, hw1⟩ : ∃ w1, wr.setCell ⟨G, k, none⟩ (.int .i64 ((q % m + 1 : Nat) : Int)) = w1 := ⟨_, rfl⟩
      have hs1 : Rw w1 G cap (Ways.digs m k (q / m) ++ [((q % m + 1 : Nat) : Int)] ++ List.replicate r 0) := by
        rw [← hw1, ← nwL_set (by omega) hk]; exact HO.out.set k _
      have ht1 : Touch G w w1 := by rw [← hw1]; exact HT.out.set k _
      have HMODr := Lib.hid (HMOD.out r q k hrn hk HQ.out)
      have HNXr := Lib.hid (HNEXT.out r q HQ.out)
      have hless : Ways.digs m k (q / m) ++ [0] ++ List.replicate r 0 = nwL m n (r + 1) (q / m) := nwL_less hk
      have d1 := hs1.cell k (by simp [Ways.digs_len])
      rw [nwL_get2 hk] at d1
      have d2 := hs1.free k
      have hs2 : Rw (w1.setCell ⟨G, k, none⟩ (.int .i64 0)) G cap (nwL m n (r + 1) (q / m)) := by
        rw [← hless, ← nwL_set2 hk ((q % m + 1 : Nat) : Int)]; exact hs1.set k _
      have ht2 : Touch G w (w1.setCell ⟨G, k, none⟩ (.int .i64 0)) := ht1.set k _
      have hcast : ((q % m : Nat) : Int) + 1 = ((q % m + 1 : Nat) : Int) := by omega
      have HS1 := Lib.hid hs1; have HT1 := Lib.hid ht1; have HS2 := Lib.hid hs2; have HT2 := Lib.hid ht2; have HW1 := Lib.hid hw1
      have hki : (k : Int) - 1 = (n : Int) - ((r + 1 : Nat) : Int) - 1 := by omega
      have HKI := Lib.hid hki
      rw [← hw1] at d1 d2
      clear hs1 ht1 hs2 ht2 hw1 hless hki hk hkI
      obtain ⟨dq, hdq⟩ : ∃ d, q % m = d := ⟨_, rfl⟩
      rw [hdq] at HMODr HNXr HS1 HW1 c1 d1 d2 hqm hcast
      clear hdq
      by_cases hd : dq + 1 < m
      · obtain ⟨hbt, hlist⟩ := HMODr.out hd
        have hfin : NwP w G cap m n t' b (.returned (.bool true)) w1 := ⟨by rw [hbt], by rw [← hlist]; exact HS1.out, HT1.out⟩
        have HFIN := Lib.hid hfin
        clear hbt hlist hfin
        rw [← hcast] at d1
        have HCS := Lib.hid hcast; clear hcast
        go_wp2
        rw [HCS.out, HW1.out]
        go_ret
        exact HFIN.out
      · have hnx := HNXr.out hd
        have HNX := Lib.hid hnx
        clear hnx
        rw [← hcast] at d1
        have HCS := Lib.hid hcast; clear hcast
        go_wp2
        go_roundw
        case rel => exact ⟨r + 1, q / m, by omega, by rw [HKI.out], HNX.out, by rw [HCS.out, HW1.out]; exact HS2.out, by rw [HCS.out, HW1.out]; exact HT2.out⟩
        case measure => simp [intOf] <;> omega
    · obtain rfl : r = n := by omega
      obtain ⟨hbf, hlist⟩ := HEND.out q HQ.out
      have hneg : (r : Int) - (r : Int) - 1 = -1 := by omega
      rw [hneg]
      have hfin : NwP w G cap m r t' b (.returned (.bool false)) wr := ⟨by rw [hbf], by rw [← hlist]; exact HO.out, HT.out⟩
      have HFIN := Lib.hid hfin
      clear hbf hlist hfin hneg
      go_wp2
      go_ret
      exact HFIN.out
end Go.Proofs.Ytncmhinpjkkfkaa
