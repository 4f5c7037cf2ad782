/-
  Walks: the laws LeastLast and UnlikeLeast: the program's functions. Conditions: none.
-/
import Derived.Test.YtncmhinpjkkfkaaK48
set_option linter.unusedVariables false
set_option linter.unusedSimpArgs false
namespace Go.Proofs.Ytncmhinpjkkfkaa
open Go Go.RowKit

set_option maxRecDepth 100000 in
theorem time1_any (w : World) (bx g n c : Nat) (ts : List Int) (hn : ts.length = n) (n2 : n ≤ 24) (hb : w.cell? ⟨bx, 0, none⟩ = some (.slice (some ⟨g, 0, none⟩) n c)) (hts : Rd w g 0 ts) (i : Nat) (d : Int) (hi : i < n) :
    Calls Try.prog 104 #[.int .i64 (i : Int), .int .i64 d, .pointer (some ⟨bx, 0, none⟩)] w fun e w' => e = .returned (.int .i64 (ts.getD i 0)) ∧ w' = w := by
  have c1 := hts.get i (by omega)
  clear hts hn
  generalize ts.getD i 0 = v at *
  go_enter Try.func104, Try.ntmps104
  go_wp2
  go_ret
  exact ⟨rfl, rfl⟩

set_option maxRecDepth 100000 in
theorem time2_any (w : World) (bx bm g n c m : Nat) (ts : List Int) (hn : ts.length = n) (n2 : n ≤ 192) (m1 : 1 ≤ m) (m2 : m ≤ 8) (hb : w.cell? ⟨bx, 0, none⟩ = some (.slice (some ⟨g, 0, none⟩) n c)) (hbm : w.cell? ⟨bm, 0, none⟩ = some (.int .i64 m)) (hts : Rd w g 0 ts) (i d : Nat) (hi : i * m + d < n) (hi2 : i < 24) (hd : d < m) :
    Calls Try.prog 105 #[.int .i64 (i : Int), .int .i64 (d : Int), .pointer (some ⟨bx, 0, none⟩), .pointer (some ⟨bm, 0, none⟩)] w fun e w' => e = .returned (.int .i64 (ts.getD (i * m + d) 0)) ∧ w' = w := by
  have c1 := hts.get (i * m + d) (by omega)
  obtain ⟨p, hp⟩ : ∃ p, i * m = p := ⟨_, rfl⟩
  have hpI : (i : Int) * (m : Int) = (p : Int) := by rw [← hp, Int.natCast_mul]
  rw [hp] at c1 hi ⊢
  obtain ⟨y, hy⟩ : ∃ y, p + d = y := ⟨_, rfl⟩
  rw [hy] at c1 hi ⊢
  have wp1 : IntKind.i64.wrap ((i : Int) * (m : Int)) = (p : Int) := by rw [hpI]; exact IntWalk.i64_in _ (by omega)
  have wy : IntKind.i64.wrap ((p : Int) + (d : Int)) = (y : Int) := by rw [IntWalk.i64_in _ (by omega)]; omega
  clear hts hn hp hpI hy
  generalize ts.getD y 0 = v at *
  go_enter Try.func105, Try.ntmps105
  go_wp2
  go_ret
  exact ⟨rfl, rfl⟩

theorem below_of_alloc {w w' : World} (o : Obj) (h : Below (w.alloc o).heap.size (w.alloc o) w') : Below w.heap.size w w' :=
  (below_alloc (Below.refl _ _) o).trans (h.mono (by simp))

set_option maxHeartbeats 4000000 in
set_option maxRecDepth 100000 in
theorem implLL_yes (w : World) (g n c : Nat) (ts : List Int) (hn : ts.length = n) (hcap : n ≤ c) (hm : n ≤ 1048576) (hj : Rd w g 0 ts) (hg : g < w.heap.size) (x : Int) (xlo : -9223372036854775808 ≤ x) (xhi : x ≤ 9223372036854775807) (hc : llB ts x = true) :
    Calls Try.prog 50 #[.slice (some ⟨g, 0, none⟩) n c, .int .i64 x] w (LlP (ulL ts x.toNat (ts.length * x.toNat)) x.toNat ts.length w) := by
  obtain ⟨m, rfl, m1, m2, htb, hmb, hfew, n1, n2, hall⟩ := llB_of hc
  rw [Int.toNat_natCast, hn]
  rw [hn] at n1 n2 hfew
  obtain ⟨F0, hF0⟩ : ∃ F, min 65537 (m ^ n) = F := ⟨_, rfl⟩
  have hF1 : F0 ≤ 65536 := by rw [← hF0]; exact Nat.le_trans (Nat.min_le_right _ _) hfew
  have HF0 := Lib.hid hF0
  obtain ⟨wb, hwb⟩ : ∃ wb, w.alloc (.cells #[.slice (some ⟨g, 0, none⟩) n c] 22) = wb := ⟨_, rfl⟩
  have RB : Row wb w.heap.size 22 1 [.slice (some ⟨g, 0, none⟩) n c] := by rw [← hwb]; exact row1 rfl
  have BB : Below w.heap.size w wb := by rw [← hwb]; exact below_alloc (Below.refl _ _) _
  have hsz : wb.heap.size = w.heap.size + 1 := by rw [← hwb]; simp
  have hRdb : Rd wb g 0 ts := hj.below BB hg
  have htm : ∀ i d : Nat, i < n → d < m → 1 ≤ tmF (ulL ts m (n * m)) m i (d : Int) ∧ tmF (ulL ts m (n * m)) m i (d : Int) ≤ 10000 := fun i d a b => by
    rw [tm_ul a b]; exact hall _ (getD_mem (by omega))
  have hclo : ∀ w', Below wb.heap.size wb w' → ∀ i d : Nat, i < n → d < m → Calls Try.prog 104 (#[.int .i64 (i : Int), .int .i64 (d : Int)] ++ #[.pointer (some ⟨w.heap.size, 0, none⟩)]) w' fun e w'' => e = .returned (.int .i64 (tmF (ulL ts m (n * m)) m i d)) ∧ w'' = w' := fun w' hb i d a b => by
    rw [tm_ul a b]
    exact time1_any w' w.heap.size g n c ts hn n2 (Lw.Row1.cell (RB.below hb RB.lt)) (hRdb.below hb (by omega)) i d a
  have hen : ∀ (args : Array Value) (w' : World), Sem.run Try.prog (callFunc 104 args) w' = .ok (.enter 104 args) w' := fun args w' => by kernel_rfl
  have hway := leastWay_any wb n m n1 n2 m1 m2 (tmF (ulL ts m (n * m)) m) 104 #[.pointer (some ⟨w.heap.size, 0, none⟩)] hclo hen htm
  have hfin : ∀ e w', WayP wb n (Ways.digs m n (Ways.arg (costW (tmF (ulL ts m (n * m)) m) m n) (m ^ n))) (costW (tmF (ulL ts m (n * m)) m) m n (Ways.arg (costW (tmF (ulL ts m (n * m)) m) m n) (m ^ n))) e w' → ∃ G cc v, e = .returned (.tuple #[.slice (some ⟨G, 0, none⟩) n cc, .int .i64 v]) ∧ LlP (ulL ts m (n * m)) m n w (.returned (.tuple #[.slice (some ⟨G, 0, none⟩) n cc, .int .i64 v, .bool true])) w' := fun e w' ⟨G, cc, h1, h2, h3, h4⟩ =>
    ⟨G, cc, _, h1, G, cc, by rw [wayL_len]; rfl, h2, by omega, BB.trans (h4.mono (by omega))⟩
  have HWAY := Lib.hid hway; have HFIN := Lib.hid hfin
  have HTB := Lib.hid htb; have HMB := Lib.hid hmb; have HN := Lib.hid hn
  have HRD := Lib.hid hRdb
  have c1 := Lw.Row1.cell RB
  have HWB := Lib.hid hwb
  rw [← hwb] at c1
  have hpw := powered_any m n m1 m2 n2
  rw [hF0] at hpw
  have HPW := Lib.hid hpw
  clear hway hfin htb hmb hn hRdb RB BB hclo hen htm hall hfew hc hF0 hwb hj hsz hpw
  go_enter Try.func50, Try.ntmps50
  go_wp2_with (first
    | (go_at_call 82; rw [HWB.out]; refine (areTimes_any _ n c ts _ HN.out hm HRD.out.at').mono ?_; rintro e w' ⟨rfl, rfl⟩; rw [HTB.out]; rw [HWB.out] at c1)
    | (go_at_call 83; refine (areMachines_any _ _).mono ?_; rintro e w' ⟨rfl, rfl⟩; rw [HMB.out])
    | (go_at_call 102; refine (HPW.out _).mono ?_; rintro e w' ⟨rfl, rfl⟩)
    | (go_at_call 103; refine HWAY.out.mono ?_; rintro e w4 hway; obtain ⟨G4, cc, v, rfl, hll⟩ := HFIN.out _ _ hway; have HLL := Lib.hid hll; clear hway hll))
  go_ret3
  exact HLL.out

set_option maxHeartbeats 4000000 in
set_option maxRecDepth 100000 in
theorem implUL_yes (w : World) (g n' c : Nat) (ts : List Int) (hn : ts.length = n') (hcap : n' ≤ c) (hm : n' ≤ 1048576) (hj : Rd w g 0 ts) (hg : g < w.heap.size) (x : Int) (xlo : -9223372036854775808 ≤ x) (xhi : x ≤ 9223372036854775807) (hc : ulB ts x = true) :
    Calls Try.prog 52 #[.slice (some ⟨g, 0, none⟩) n' c, .int .i64 x] w (LlP ts x.toNat (ts.length / x.toNat) w) := by
  obtain ⟨m, rfl, m1, m2, hub, hfew, n1, n2, hnm, hall⟩ := ulB_of hc
  rw [Int.toNat_natCast, hn]
  rw [hn] at n1 n2 hnm hfew
  obtain ⟨n, hq⟩ : ∃ n, n' / m = n := ⟨_, rfl⟩
  have hqv : ((ts.length / (m : Int).toNat : Nat) : Int) = (n : Int) := by rw [Int.toNat_natCast, hn, hq]
  rw [hq] at n1 n2 hnm hfew ⊢
  have hn192 : n' ≤ 192 := by rw [hnm]; exact Nat.mul_le_mul n2 m2
  obtain ⟨F0, hF0⟩ : ∃ F, min 65537 (m ^ n) = F := ⟨_, rfl⟩
  have hF1 : F0 ≤ 65536 := by rw [← hF0]; exact Nat.le_trans (Nat.min_le_right _ _) hfew
  obtain ⟨wb, hwb⟩ : ∃ wb, (w.alloc (.cells #[.slice (some ⟨g, 0, none⟩) n' c] 22)).alloc (.cells #[.int .i64 (m : Int)] 2) = wb := ⟨_, rfl⟩
  have RB : Row wb w.heap.size 22 1 [.slice (some ⟨g, 0, none⟩) n' c] := by rw [← hwb]; exact (row1 rfl).alloc _
  have RM : Row wb (w.heap.size + 1) 2 1 [.int .i64 (m : Int)] := by rw [← hwb]; exact row1 (by simp)
  have BB : Below w.heap.size w wb := by rw [← hwb]; exact below_alloc (below_alloc (Below.refl _ _) _) _
  have hsz : wb.heap.size = w.heap.size + 2 := by rw [← hwb]; simp
  have hRdb : Rd wb g 0 ts := hj.below BB hg
  have hix : ∀ i d : Nat, i < n → d < m → i * m + d < n' := fun i d a b => by
    have : (i + 1) * m ≤ n * m := Nat.mul_le_mul_right _ a
    rw [Nat.add_mul, Nat.one_mul] at this; omega
  have htf : ∀ i d : Nat, tmF ts m i (d : Int) = ts.getD (i * m + d) 0 := fun i d => by unfold tmF; rw [Int.toNat_natCast]
  have htm : ∀ i d : Nat, i < n → d < m → 1 ≤ tmF ts m i (d : Int) ∧ tmF ts m i (d : Int) ≤ 10000 := fun i d a b => by
    rw [htf]; exact hall _ (getD_mem (by rw [hn]; exact hix i d a b))
  have hclo : ∀ w', Below wb.heap.size wb w' → ∀ i d : Nat, i < n → d < m → Calls Try.prog 105 (#[.int .i64 (i : Int), .int .i64 (d : Int)] ++ #[.pointer (some ⟨w.heap.size, 0, none⟩), .pointer (some ⟨w.heap.size + 1, 0, none⟩)]) w' fun e w'' => e = .returned (.int .i64 (tmF ts m i d)) ∧ w'' = w' := fun w' hb i d a b => by
    rw [htf]
    exact time2_any w' w.heap.size (w.heap.size + 1) g n' c m ts hn hn192 m1 m2 (Lw.Row1.cell (RB.below hb RB.lt)) (Lw.Row1.cell (RM.below hb RM.lt)) (hRdb.below hb (by omega)) i d (hix i d a b) (by omega) b
  have hen : ∀ (args : Array Value) (w' : World), Sem.run Try.prog (callFunc 105 args) w' = .ok (.enter 105 args) w' := fun args w' => by kernel_rfl
  have hway := leastWay_any wb n m n1 n2 m1 m2 (tmF ts m) 105 #[.pointer (some ⟨w.heap.size, 0, none⟩), .pointer (some ⟨w.heap.size + 1, 0, none⟩)] hclo hen htm
  have hfin : ∀ e w', WayP wb n (Ways.digs m n (Ways.arg (costW (tmF ts m) m n) (m ^ n))) (costW (tmF ts m) m n (Ways.arg (costW (tmF ts m) m n) (m ^ n))) e w' → ∃ G cc v, e = .returned (.tuple #[.slice (some ⟨G, 0, none⟩) n cc, .int .i64 v]) ∧ LlP ts m n w (.returned (.tuple #[.slice (some ⟨G, 0, none⟩) n cc, .int .i64 v, .bool true])) w' := fun e w' ⟨G, cc, h1, h2, h3, h4⟩ =>
    ⟨G, cc, _, h1, G, cc, by rw [wayL_len]; rfl, h2, by omega, BB.trans (h4.mono (by omega))⟩
  have HWAY := Lib.hid hway; have HFIN := Lib.hid hfin
  have HUB := Lib.hid hub; have HN := Lib.hid hn; have HQV := Lib.hid hqv
  have HRD := Lib.hid hRdb
  have c1 := Lw.Row1.cell RB; have c2 := Lw.Row1.cell RM
  have HWB := Lib.hid hwb
  rw [← hwb] at c1 c2
  have hpw := powered_any m n m1 m2 n2
  rw [hF0] at hpw
  have HPW := Lib.hid hpw
  clear hway hfin hub hn hRdb RB RM BB hclo hen htm htf hix hall hfew hc hF0 hwb hj hsz hpw hq hqv hnm
  go_enter Try.func52, Try.ntmps52
  go_wp2_with (first
    | (go_at_call 91; rw [HWB.out]; refine (unlikeJobs_any g c n' ts _ _ HN.out hm HRD.out).mono ?_; rintro e w' ⟨v, rfl, hv, rfl⟩; rw [hv HUB.out, HQV.out, HUB.out]; clear hv; rw [HWB.out] at c1 c2)
    | (go_at_call 102; refine (HPW.out _).mono ?_; rintro e w' ⟨rfl, rfl⟩)
    | (go_at_call 103; refine HWAY.out.mono ?_; rintro e w4 hway; obtain ⟨G4, cc, v, rfl, hll⟩ := HFIN.out _ _ hway; have HLL := Lib.hid hll; clear hway hll))
  go_ret3
  exact HLL.out
end Go.Proofs.Ytncmhinpjkkfkaa
