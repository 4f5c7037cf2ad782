/-
  Walks: the laws LeastLast and UnlikeLeast: the reference's functions. Conditions: none.
-/
import Derived.Test.YtncmhinpjkkfkaaK44
set_option linter.unusedVariables false
set_option linter.unusedSimpArgs false
namespace Go.Proofs.Ytncmhinpjkkfkaa
open Go Go.RowKit

def llB (ts : List Int) (x : Int) : Bool := timesB ts && (machB x && decide (x.toNat ^ ts.length ≤ 65536))
def ulB (ts : List Int) (x : Int) : Bool := unB ts x && decide (x.toNat ^ (ts.length / x.toNat) ≤ 65536)
/-- Each time as often as there are machines. -/
def ulL (ts : List Int) (m k : Nat) : List Int := (List.range k).map fun (i : Nat) => ts.getD (i / m) 0
theorem ulL_len (ts : List Int) (m k : Nat) : (ulL ts m k).length = k := by simp [ulL]
theorem ulL_succ (ts : List Int) (m k : Nat) : ulL ts m (k + 1) = ulL ts m k ++ [ts.getD (k / m) 0] := by simp [ulL, List.range_succ]
theorem ulL_get {ts : List Int} {m k i : Nat} (h : i < k) : (ulL ts m k).getD i 0 = ts.getD (i / m) 0 := by simp [ulL, h]
theorem tm_ul {ts : List Int} {m n i d : Nat} (hi : i < n) (hd : d < m) : tmF (ulL ts m (n * m)) m i (d : Int) = ts.getD i 0 := by
  have : i * m + d < n * m := by
    have : (i + 1) * m ≤ n * m := Nat.mul_le_mul_right _ hi
    rw [Nat.add_mul, Nat.one_mul] at this; omega
  unfold tmF
  rw [Int.toNat_natCast, ulL_get this]
  congr 1
  rw [Nat.mul_comm, Nat.mul_add_div (by omega), Nat.div_eq_of_lt hd, Nat.add_zero]

def LlP (ul : List Int) (m n : Nat) (w : World) (e : Ending) (w' : World) : Prop :=
  Res1 w (wayL ul m n) (fun v => .tuple #[v, .int .i64 (wayV ul m n), .bool true]) e w'
theorem wayL_len (ul : List Int) (m n : Nat) : (wayL ul m n).length = n := Ways.digs_len _ _ _

theorem llB_of {ts : List Int} {x : Int} (h : llB ts x = true) : ∃ m : Nat, x = m ∧ 1 ≤ m ∧ m ≤ 8 ∧ timesB ts = true ∧ machB x = true ∧ m ^ ts.length ≤ 65536 ∧ 1 ≤ ts.length ∧ ts.length ≤ 24 ∧ ∀ y ∈ ts, 1 ≤ y ∧ y ≤ 10000 := by
  unfold llB at h
  simp only [Bool.and_eq_true, decide_eq_true_eq] at h
  obtain ⟨h1, h2, h3⟩ := h
  have hb := inB_lo h2
  obtain ⟨a, b, c⟩ := timesB_of h1
  exact ⟨x.toNat, by omega, by omega, by omega, h1, h2, h3, a, b, c⟩

set_option maxHeartbeats 4000000 in
set_option maxRecDepth 100000 in
theorem specLL_yes (w : World) (g n c : Nat) (ts : List Int) (hn : ts.length = n) (hcap : n ≤ c) (hm : n ≤ 1048576) (hj : Rd w g 0 ts) (hg : g < w.heap.size) (x : Int) (xlo : -9223372036854775808 ≤ x) (xhi : x ≤ 9223372036854775807) (hc : llB ts x = true) :
    Calls Try.prog 49 #[.slice (some ⟨g, 0, none⟩) n c, .int .i64 x] w (LlP (ulL ts x.toNat (ts.length * x.toNat)) x.toNat ts.length w) := by
  obtain ⟨m, rfl, m1, m2, htb, hmb, hfew, n1, n2, hall⟩ := llB_of hc
  rw [Int.toNat_natCast, hn]
  rw [hn] at n1 n2 hfew
  obtain ⟨NM, hNM⟩ : ∃ NM, n * m = NM := ⟨_, rfl⟩
  have hNMb : NM ≤ 24 * 8 := by rw [← hNM]; exact Nat.mul_le_mul n2 m2
  have wNM : IntKind.i64.wrap ((n : Int) * (m : Int)) = (NM : Int) := by
    rw [← Int.natCast_mul, hNM]; exact IntWalk.i64_in _ (by omega)
  have hNM1 : 1 ≤ NM := by rw [← hNM]; exact Nat.mul_pos n1 m1
  have hfewd : decide (m ^ n ≤ 65536) = true := decide_eq_true hfew
  have hdiv : ∀ k, k < NM → k / m < n := fun k h => by rw [← hNM, Nat.mul_comm] at h; exact Nat.div_lt_of_lt_mul h
  have htv : ∀ i, i < n → 1 ≤ ts.getD i 0 ∧ ts.getD i 0 ≤ 10000 := fun i h => hall _ (getD_mem (by omega))
  have hulv : ∀ i, i < n * m → 1 ≤ (ulL ts m (n * m)).getD i 0 ∧ (ulL ts m (n * m)).getD i 0 ≤ 10000 := fun i h => by
    rw [ulL_get h]; exact htv _ (hdiv i (by omega))
  have hfin : ∀ w1 e w', Below w.heap.size w w1 → WayP w1 n (wayL (ulL ts m (n * m)) m n) (wayV (ulL ts m (n * m)) m n) e w' → ∃ G cc, e = .returned (.tuple #[.slice (some ⟨G, 0, none⟩) n cc, .int .i64 (wayV (ulL ts m (n * m)) m n)]) ∧ LlP (ulL ts m (n * m)) m n w (.returned (.tuple #[.slice (some ⟨G, 0, none⟩) n cc, .int .i64 (wayV (ulL ts m (n * m)) m n), .bool true])) w' := fun w1 e w' hb ⟨G, cc, h1, h2, h3, h4⟩ =>
    ⟨G, cc, h1, G, cc, by rw [wayL_len], h2, by have := hb.size; omega, hb.trans (h4.mono hb.size)⟩
  rw [hNM] at hulv hfin ⊢
  have mz : ((m : Int) == 0) = false := by simp; omega
  have HN := Lib.hid hn; have HT := Lib.hid hj; have HTB := Lib.hid htb; have HMB := Lib.hid hmb; have HFD := Lib.hid hfewd; have HDIV := Lib.hid hdiv; have HTV := Lib.hid htv; have HUV := Lib.hid hulv; have HFIN := Lib.hid hfin; have HNM := Lib.hid hNM
  clear hn hj htb hmb hfewd hdiv htv hulv hfin hNM hc hall hfew
  go_enter Try.func49, Try.ntmps49
  go_wp2_with (first
    | (go_at_call 79; refine (l02Times_any _ n c ts _ HN.out hm HT.out.at').mono ?_; rintro e w' ⟨rfl, rfl⟩; rw [HTB.out])
    | (go_at_call 80; refine (l02Machines_any _ _).mono ?_; rintro e w' ⟨rfl, rfl⟩; rw [HMB.out])
    | (go_at_call 100; refine (few_any m n m1 m2 n2 _).mono ?_; rintro e w' ⟨rfl, rfl⟩; rw [HFD.out]))
  have R0 := Lib.hid (rw_nil (row_fresh w))
  have b0 : Below w.heap.size w (w.alloc (.cells #[] 2)) := below_alloc (Below.refl _ _) _
  have B0 := Lib.hid b0
  clear b0
  go_loopw [8, 9] (fun o i wr => ∃ k G cap : Nat, k ≤ NM ∧ i = .int .i64 k ∧ o = .slice (some ⟨G, 0, none⟩) k cap ∧ Rw wr G cap (ulL ts m k) ∧ w.heap.size ≤ G ∧ Below w.heap.size w wr) (fun _ i _ => NM - (intOf i).toNat)
  case atStart => exact ⟨0, w.heap.size, 0, by omega, rfl, rfl, R0.out, Nat.le_refl _, B0.out⟩
  case round =>
    obtain ⟨k, G, cap, hk, rfl, rfl, hro, hGG, hbk⟩ := hrel
    have HO := Lib.hid hro; have HBk := Lib.hid hbk
    clear hro hbk R0 B0
    by_cases hlt : k < NM
    · have hkd := HDIV.out k hlt
      have hs : ulL ts m (k + 1) = ulL ts m k ++ [ts.getD (k / m) 0] := ulL_succ ts m k
      have c1 := (HT.out.below HBk.out hg).get (k / m) (by rw [HN.out]; exact hkd)
      have hdI := (castDM k m).2
      have HS := Lib.hid hs
      have HLO : Hid ((ulL ts m k).length = k) := Lib.hid (ulL_len ts m k)
      obtain ⟨q, hq⟩ : ∃ q, k / m = q := ⟨_, rfl⟩
      rw [hq] at hkd c1 hdI HS
      obtain ⟨tv, htv⟩ : ∃ v, ts.getD q 0 = v := ⟨_, rfl⟩
      rw [htv] at c1 HS
      have hle1 : 0 ≤ (k : Int) / (m : Int) := by rw [hdI]; omega
      have hle2 : (k : Int) / (m : Int) ≤ 24 := by rw [hdI]; omega
      clear hs hq htv
      go_wp2_with (at_builtin; refine push_int _ rfl _ _ rfl G cap (ulL ts m k) _ tv (by rfl) HLO.out HO.out (by rfl) (by omega) ?_; intro G' cap' w4 hO4 htc hat; obtain ⟨hb4, hG4, hrest⟩ := push_rest HBk.out hGG HO.out.lt htc hat; have HO4 := Lib.hid hO4; have HB4 := Lib.hid hb4; clear hO4 htc hat hb4 hrest)
      go_roundw
      case rel => exact ⟨k + 1, G', cap', by omega, by go_num, rfl, by rw [HS.out]; exact HO4.out, hG4, HB4.out⟩
      case measure => simp [intOf]; omega
    · obtain rfl : k = NM := by omega
      have HUL2 : Hid (Rd wr G 0 (ulL ts m k)) := Lib.hid HO.out.rd
      have hGlt := HO.out.lt
      have hnm1 : n * m ≤ k := by have := HNM.out; omega
      have hk2 : k ≤ 1048576 := by omega
      have HUV2 : Hid (∀ i, i < n * m → 1 ≤ (ulL ts m k).getD i 0 ∧ (ulL ts m k).getD i 0 ≤ 10000) := Lib.hid (fun i h => HUV.out i (by omega))
      go_wp2_with (go_at_call 101; refine (leastWayS_any _ G k cap (ulL ts m k) (ulL_len ts m k) HUL2.out hGlt n m m1 m2 n1 n2 hnm1 hk2 HUV2.out).mono ?_; rintro e w4 hway; obtain ⟨G4, cc, rfl, hll⟩ := HFIN.out _ _ _ HBk.out hway; have HLL := Lib.hid hll; clear hway hll)
      go_ret3
      exact HLL.out

theorem ulB_of {ts : List Int} {x : Int} (h : ulB ts x = true) : ∃ m : Nat, x = m ∧ 1 ≤ m ∧ m ≤ 8 ∧ unB ts x = true ∧ m ^ (ts.length / m) ≤ 65536 ∧ 1 ≤ ts.length / m ∧ ts.length / m ≤ 24 ∧ ts.length = ts.length / m * m ∧ ∀ y ∈ ts, 1 ≤ y ∧ y ≤ 10000 := by
  unfold ulB at h
  simp only [Bool.and_eq_true, decide_eq_true_eq] at h
  obtain ⟨h1, h2⟩ := h
  obtain ⟨m, rfl, a, b, c, d, e, f, k, l⟩ := unB_of h1
  rw [Int.toNat_natCast] at h2
  exact ⟨m, rfl, a, b, h1, h2, d, f, k, l⟩

set_option maxHeartbeats 4000000 in
set_option maxRecDepth 100000 in
theorem specUL_yes (w : World) (g n' c : Nat) (ts : List Int) (hn : ts.length = n') (hcap : n' ≤ c) (hm : n' ≤ 1048576) (hj : Rd w g 0 ts) (hg : g < w.heap.size) (x : Int) (xlo : -9223372036854775808 ≤ x) (xhi : x ≤ 9223372036854775807) (hc : ulB ts x = true) :
    Calls Try.prog 51 #[.slice (some ⟨g, 0, none⟩) n' c, .int .i64 x] w (LlP ts x.toNat (ts.length / x.toNat) w) := by
  obtain ⟨m, rfl, m1, m2, hub, hfew, n1, n2, hnm, hall⟩ := ulB_of hc
  rw [Int.toNat_natCast, hn]
  rw [hn] at n1 n2 hnm hfew
  obtain ⟨n, hq⟩ : ∃ n, n' / m = n := ⟨_, rfl⟩
  rw [hq] at n1 n2 hnm hfew ⊢
  have hcd : (n' : Int) / (m : Int) = (n : Int) := by rw [(castDM n' m).2, hq]
  have mz : ((m : Int) == 0) = false := by simp; omega
  have hle1 : 0 ≤ (n' : Int) / (m : Int) := by rw [hcd]; omega
  have hle2 : (n' : Int) / (m : Int) ≤ 24 := by rw [hcd]; omega
  have hfewd : decide (m ^ n ≤ 65536) = true := decide_eq_true hfew
  have hulv : ∀ i, i < n * m → 1 ≤ ts.getD i 0 ∧ ts.getD i 0 ≤ 10000 := fun i h => hall _ (getD_mem (by omega))
  have hfin : ∀ e w', WayP w n (wayL ts m n) (wayV ts m n) e w' → ∃ G cc, e = .returned (.tuple #[.slice (some ⟨G, 0, none⟩) n cc, .int .i64 (wayV ts m n)]) ∧ LlP ts m n w (.returned (.tuple #[.slice (some ⟨G, 0, none⟩) n cc, .int .i64 (wayV ts m n), .bool true])) w' := fun e w' ⟨G, cc, h1, h2, h3, h4⟩ =>
    ⟨G, cc, h1, G, cc, by rw [wayL_len], h2, h3, h4⟩
  have hnm2 : n * m ≤ n' := by omega
  have HN := Lib.hid hn; have HT := Lib.hid hj; have HUB := Lib.hid hub; have HFD := Lib.hid hfewd; have HUV := Lib.hid hulv; have HFIN := Lib.hid hfin
  clear hn hj hub hfewd hulv hfin hc hall hfew hnm hq
  go_enter Try.func51, Try.ntmps51
  go_wp2_with (first
    | (go_at_call 89; refine (l02Unlike_any g c n' ts _ _ HN.out hm HT.out).mono ?_; rintro e w' ⟨rfl, rfl⟩; rw [HUB.out])
    | (go_at_call 100; refine (few_any m n m1 m2 n2 _).mono ?_; rintro e w' ⟨rfl, rfl⟩; rw [HFD.out])
    | (go_at_call 101; refine (leastWayS_any _ g n' c ts HN.out HT.out hg n m m1 m2 n1 n2 hnm2 hm HUV.out).mono ?_; rintro e w4 hway; obtain ⟨G4, cc, rfl, hll⟩ := HFIN.out _ _ hway; have HLL := Lib.hid hll; clear hway hll))
  go_ret3
  exact HLL.out
end Go.Proofs.Ytncmhinpjkkfkaa
