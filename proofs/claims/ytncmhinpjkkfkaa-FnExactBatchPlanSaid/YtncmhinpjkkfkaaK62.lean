/-
  Walks: a list turned round; a step of a region that appends; appends of lists. Conditions: none.
-/
import Derived.Test.YtncmhinpjkkfkaaK61
set_option linter.unusedVariables false
set_option linter.unusedSimpArgs false
namespace Go.Proofs.Ytncmhinpjkkfkaa
open Go Go.RowKit

/-- A list of which the first k and the last k are exchanged. -/
def revL (xs : List Int) (n k : Nat) : List Int := (List.range n).map fun (p : Nat) => if p < k ∨ n - 1 - p < k then xs.getD (n - 1 - p) 0 else xs.getD p 0
theorem revL_len (xs : List Int) (n k : Nat) : (revL xs n k).length = n := by simp [revL]
theorem revL_get {xs : List Int} {n k p : Nat} (hp : p < n) : (revL xs n k).getD p 0 = if p < k ∨ n - 1 - p < k then xs.getD (n - 1 - p) 0 else xs.getD p 0 := by
  rw [List.getD_eq_getElem?_getD, List.getElem?_eq_getElem (by rw [revL_len]; exact hp)]
  simp only [revL, List.getElem_map, List.getElem_range, Option.getD_some]
theorem ext_getD {xs ys : List Int} (hl : xs.length = ys.length) (h : ∀ p, p < xs.length → xs.getD p 0 = ys.getD p 0) : xs = ys := by
  refine List.ext_getElem hl fun p h1 h2 => ?_
  have := h p h1
  rw [List.getD_eq_getElem?_getD, List.getD_eq_getElem?_getD, List.getElem?_eq_getElem h1, List.getElem?_eq_getElem h2] at this
  exact this
theorem revL_zero {xs : List Int} {n : Nat} (hn : xs.length = n) : revL xs n 0 = xs := by
  refine ext_getD (by rw [revL_len, hn]) fun p hp => ?_
  rw [revL_len] at hp
  rw [revL_get hp, if_neg (by omega)]
theorem revL_step {xs : List Int} {n k d : Nat} (hd : d = n - 1 - k) (hk : 2 * k + 1 < n) : ((revL xs n k).set k (xs.getD d 0)).set d (xs.getD k 0) = revL xs n (k + 1) := by
  subst hd
  refine ext_getD (by simp [revL_len]) fun p hp => ?_
  have hp : p < n := by simpa [revL_len] using hp
  rw [getD_set _ _ _ _ (by simp [revL_len]; omega), getD_set _ _ _ _ (by rw [revL_len]; omega), revL_get hp, revL_get hp]
  by_cases h1 : n - 1 - k = p
  · subst h1
    rw [if_pos rfl, if_pos (by omega)]
    congr 1; omega
  · rw [if_neg h1]
    by_cases h2 : k = p
    · subst h2; rw [if_pos rfl, if_pos (by omega)]
    · rw [if_neg h2]
      by_cases h3 : p < k ∨ n - 1 - p < k
      · rw [if_pos h3, if_pos (by omega)]
      · rw [if_neg h3, if_neg (by omega)]
theorem revL_done {xs : List Int} {n k : Nat} (hn : xs.length = n) (hk : n ≤ 2 * k + 1) : revL xs n k = xs.reverse := by
  refine ext_getD (by simp [revL_len, hn]) fun p hp => ?_
  have hp : p < n := by simpa [revL_len] using hp
  have e : xs.reverse.getD p 0 = xs.getD (n - 1 - p) 0 := by
    rw [List.getD_eq_getElem?_getD, List.getD_eq_getElem?_getD, List.getElem?_reverse (by omega), hn]
  rw [revL_get hp, e]
  by_cases h : p < k ∨ n - 1 - p < k
  · rw [if_pos h]
  · rw [if_neg h, show n - 1 - p = p by omega]

set_option maxHeartbeats 4000000 in
set_option maxRecDepth 100000 in
theorem reverse_any (w : World) (G n c : Nat) (xs : List Int) (hn : xs.length = n) (n1 : 1 ≤ n) (n2 : n ≤ 1048576) (hx : Rw w G c xs) :
    Calls Try.prog 117 #[.slice (some ⟨G, 0, none⟩) n c] w fun e w' => e = .returned (.tuple #[]) ∧ Rw w' G c xs.reverse ∧ Touch G w w' := by
  have HN := Lib.hid hn
  have HX : Hid (Rw w G c (revL xs n 0)) := Lib.hid (by rw [revL_zero hn]; exact hx)
  have HD := Lib.hid (fun k => @revL_done xs n k hn)
  clear hx hn
  go_enter Try.func117, Try.ntmps117
  go_wp2
  go_loopw [2, 3] (fun i j wr => ∃ k : Nat, 2 * k ≤ n ∧ i = .int .i64 k ∧ j = .int .i64 ((n : Int) - 1 - (k : Int)) ∧ Rw wr G c (revL xs n k) ∧ Touch G w wr) (fun i _ _ => n - (intOf i).toNat)
  case atStart => exact ⟨0, by omega, rfl, by go_num, HX.out, Touch.refl _ _⟩
  case round =>
    obtain ⟨k, hk, rfl, rfl, hr, ht⟩ := hrel
    have HR := Lib.hid hr; have HT := Lib.hid ht
    clear hr ht HX
    by_cases hlt : 2 * k + 1 < n
    · obtain ⟨d, hd⟩ : ∃ d, d = n - 1 - k := ⟨_, rfl⟩
      have hdI : (n : Int) - 1 - (k : Int) = (d : Int) := by omega
      have HDI := Lib.hid hdI
      rw [hdI]
      have hkd : k < d := by omega
      have hdn : d < n := by omega
      have HDD := Lib.hid hd
      have cp := HR.out.cell k (by rw [revL_len]; omega)
      have cq := HR.out.cell d (by rw [revL_len]; omega)
      rw [revL_get (by omega), if_neg (by omega)] at cp cq
      obtain ⟨p, hp⟩ : ∃ p, xs.getD k 0 = p := ⟨_, rfl⟩
      obtain ⟨q, hq⟩ : ∃ q, xs.getD d 0 = q := ⟨_, rfl⟩
      have f0 := HR.out.free k
      have h2 := HR.out.set k q
      have s1 := h2.cell d (by simp [revL_len]; omega)
      have f1 := h2.free d
      have h3 := h2.set d p
      have hst := revL_step (xs := xs) hd hlt
      rw [hp, hq] at hst
      rw [hp] at cp; rw [hq] at cq
      rw [hst] at h3
      have H3 := Lib.hid h3
      generalize (List.set (revL xs n k) k q).getD d 0 = sv at s1
      clear h2 h3 hst hp hq hdI hd
      go_wp2
      go_region
      obtain ⟨W, hW⟩ : ∃ W, ((wr.setCell ⟨G, k, none⟩ (.int .i64 q)).setCell ⟨G, d, none⟩ (.int .i64 p)) = W := ⟨_, rfl⟩
      have hTW : Touch G w W := by rw [← hW]; exact (HT.out.set k _).set d _
      have HTW := Lib.hid hTW
      rw [hW] at H3 ⊢
      clear hTW hW s1 f0 f1 cp cq
      go_wp2
      go_roundw
      case rel => exact ⟨k + 1, by omega, by go_num, by have := HDI.out; go_num, H3.out.dr (.one _ 1), by
        obtain ⟨a, b, c', d', e'⟩ := HTW.out
        exact ⟨a, b, c', d', e'⟩⟩
      case measure => simp [intOf]; omega
    · have hfin : Rw wr G c xs.reverse := by rw [← HD.out k (by omega)]; exact HR.out
      have HF := Lib.hid hfin
      have hnk : ¬ (k : Int) < (n : Int) - 1 - (k : Int) := by omega
      clear hfin
      go_wp2
      go_end0
      exact ⟨rfl, HF.out, HT.out⟩

set_option maxRecDepth 100000 in
theorem step_push {t e : TypeId} {z : Value} {by' : Nat} (h1 : Try.prog.underlying t = some (.slice e)) (h2 : (Try.prog.info? e).map (fun i => (i.zero, i.size, i.bytes)) = some (some z, 1, by'))
    {ops : Array Oper} {o : Oper} {a : Act} {K : Act → World → Prop} {Q : Exit → Act → World → Prop} {E : Prop} {w W : World} (hgd : o.guard = none) (s x : Operand)
    (ho : o.op = .call { callee := .builtin .append, args := #[s, x], argTypes := #[t, t] })
    (v : Value) (hW : Dr (w.alloc (.cells #[v] e)) W)
    (G cap : Nat) (xs : List Value) (n : Nat) (hs : a.eval s = .slice (some ⟨G, 0, none⟩) n cap) (hn : xs.length = n) (hrow : Row w G e cap xs)
    (hx : a.eval x = .slice (some ⟨w.heap.size, 0, none⟩) 1 1) (hv : v.oneCell' = true) (hsm : n + 1 ≤ 2000000) (hby : by' ≤ 64) (hzc : z.cells.size = 1)
    (B : Nat) (w0 : World) (hB : Below B w0 w) (hsz : B ≤ w.heap.size) (hG : B ≤ G)
    (h : ∀ G' cap' w', Row w' G' e cap' (xs ++ [v]) → Below B w0 w' → B ≤ G' → (∀ g c T vs, Row w g T c vs → g ≠ G → Row w' g T c vs ∧ g ≠ G') → K (a.put o.dst (.slice (some ⟨G', 0, none⟩) (n + 1) cap')) w') :
    if Region.wanted o (yielded ops a.tmps) = true then Oper.wp Try.prog o a W K Q else E := by
  obtain ⟨i2, hi2, hz0, hz1, hz2⟩ := info_parts h2
  have hr := (hrow.alloc (.cells #[v] e)).dr hW
  have hb : (n + 1) * by' ≤ 140737488355328 := Nat.le_trans (Nat.mul_le_mul hsm hby) (by decide)
  have hWs : W.heap.size = w.heap.size + 1 := by obtain ⟨q, rfl⟩ := hW; simp
  have hnews : ∀ j u, [v][j]? = some u → W.cell? ((⟨w.heap.size, 0, none⟩ : Addr).add j) = some u := by
    obtain ⟨q, rfl⟩ := hW
    exact cell_one_new w v e
  refine step_append_lies W hgd s x t ho 0 e i2 z 1 by' h1 hi2 hz0 hz1 hz2 hzc (by decide) (.slice (some ⟨G, 0, none⟩) n cap) n xs hs (hr.owns hn (Nat.zero_le _)) ⟨w.heap.size, 0, none⟩ 1 1 [v] hx rfl hnews (by intro u hu; simp at hu; subst hu; exact hv) (by decide) (by unfold maxLen; omega) hb (Nat.zero_le _) W.heap.size rfl fun g cap' w' h2 h3 h4 h5 => h g cap' w' (Row.of_owns h2).1 ?_ ?_ ?_
  · exact ((hB.alloc hsz _).trans hW.below).grown h3 (by rw [hWs]; omega) (fun k hk => (show G = k by simpa [Value.ownBlock] using hk) ▸ hG)
  · rcases h4 with h4 | rfl
    · have : G = g := by simpa [Value.ownBlock] using h4
      omega
    · omega
  · intro g' c T vs hr' hne
    have hl := hr'.lt
    refine ⟨((hr'.alloc _).dr hW).touch h3 hne, ?_⟩
    rcases h4 with h4 | rfl
    · have : G = g := by simpa [Value.ownBlock] using h4
      omega
    · omega

set_option maxRecDepth 100000 in
/-- append([]int64{v}, l...), l a list of sizes or a row without any. -/
theorem push_all {ops : Array Oper} {rest : List Oper} {o : Oper} {ac : Act} {Q : Exit → Act → World → Prop} (w : World) (hgd : o.guard = none) (s x : Operand)
    (ho : o.op = .call { callee := .builtin .append, args := #[s, x], argTypes := #[22, 22] }) (v : Int) (l : List Int) (m : Nat)
    (hs : ac.eval s = .slice (some ⟨w.heap.size, 0, none⟩) 1 1) (sv : Value) (hx : ac.eval x = sv) (hm : l.length = m) (m2 : m ≤ 1000) (hsv : Sz w sv l ∨ ∃ G c, sv = .slice (some ⟨G, 0, none⟩) m c ∧ Rw w G c l)
    (h : ∀ G cap w', Rw w' G cap (v :: l) → w.heap.size ≤ G → Below w.heap.size w w' → wpList Try.prog ops Q rest (ac.put o.dst (.slice (some ⟨G, 0, none⟩) (m + 1) cap)) w') :
    wpList Try.prog ops Q (o :: rest) ac (w.alloc (.cells #[.int .i64 v] 2)) := by
  obtain ⟨i2, hi2, he2⟩ := Option.map_eq_some_iff.1 Try.info2
  simp only [Prod.mk.injEq] at he2
  have hrow : Row (w.alloc (.cells #[.int .i64 v] 2)) w.heap.size 2 1 [.int .i64 v] := ⟨#[.int .i64 v], heap_alloc_new w _, rfl, by simp, by simp [maxLen], rfl⟩
  have hB0 : Below w.heap.size w (w.alloc (.cells #[.int .i64 v] 2)) := (Below.refl _ _).alloc (Nat.le_refl _) _
  have key : ∀ G c, sv = .slice (some ⟨G, 0, none⟩) m c → Rw w G c l → wpList Try.prog ops Q (o :: rest) ac (w.alloc (.cells #[.int .i64 v] 2)) := by
    intro G c e hr
    refine wpList_append_own_at _ hgd s x 22 ho w.heap.size 2 i2 (.int .i64 0) 1 8 Try.underlying22 hi2 he2.1 he2.2.1 he2.2.2 rfl (by decide) (.slice (some ⟨w.heap.size, 0, none⟩) 1 1) 1 [.int .i64 v] hs (hrow.owns rfl (Nat.le_refl _)) ⟨G, 0, none⟩ m c (l.map (Value.int .i64)) (by rw [hx, e]) (by simp; omega) (fun j u hu => ?_) (fun u hu => ?_) (by unfold maxLen; omega) (by omega) (by simp) fun v' w' h1 h2 h3 h4 => ?_
    · rw [List.getElem?_map] at hu
      obtain ⟨y, hy, rfl⟩ := Option.map_eq_some_iff.1 hu
      obtain ⟨hj, rfl⟩ := List.getElem?_eq_some_iff.1 hy
      exact Rd.add (hr.rd.below hB0 hr.lt) j hj
    · obtain ⟨y, _, rfl⟩ := List.mem_map.1 hu
      rfl
    · obtain ⟨q1, q2⟩ := h1
      rcases q2 with ⟨q3, _⟩ | ⟨g', cap, cur, hv, hbb, hh, hnn, hmm, hss, htt⟩
      · omega
      · subst hv
        have hk : ∀ k, (Value.slice (some ⟨w.heap.size, 0, none⟩) 1 1).ownBlock = some k → w.heap.size ≤ k := by
          intro k hk
          have : w.heap.size = k := by simpa [Value.ownBlock] using hk
          omega
        have hb : Below w.heap.size w w' := hB0.grown h2 (by simp) hk
        rw [Nat.add_comm 1 m]
        have hl : ((v :: l).map (Value.int .i64)).length = 1 + m := by simp; omega
        refine h g' cap w' ⟨cur, hh, by omega, by omega, hmm, ?_⟩ hbb hb
        rw [hl]
        rw [Nat.mul_one] at htt
        exact htt
  rcases hsv with (⟨rfl, rfl⟩ | ⟨G, c, rfl, _, hr⟩) | ⟨G, c, rfl, hr⟩
  · have hm0 : m = 0 := by simpa using hm.symm
    subst hm0
    refine wpList_append_own_none hgd s x 22 ho w.heap.size 2 i2 1 Try.underlying22 hi2 (.slice (some ⟨w.heap.size, 0, none⟩) 1 1) 1 [.int .i64 v] hs (hrow.owns rfl (Nat.le_refl _)) hx ?_
    exact h w.heap.size 1 _ hrow (Nat.le_refl _) hB0
  · exact key G c (by rw [hm]) hr
  · exact key G c rfl hr
end Go.Proofs.Ytncmhinpjkkfkaa
