/-
  Walks: copies of lists of integers, and exchanged orders. Conditions: none.
-/
import Derived.Test.YtncmhinpjkkfkaaK12
import Derived.Deep.AppendLies
set_option linter.unusedVariables false
set_option linter.unusedSimpArgs false
namespace Go.Proofs.Ytncmhinpjkkfkaa
open Go Go.RowKit

set_option maxRecDepth 100000 in
theorem append_int {ops : Array Oper} {rest : List Oper} {o : Oper} {a : Act} {Q : Exit → Act → World → Prop} (w : World) (hgd : o.guard = none) (s x : Operand)
    (ho : o.op = .call { callee := .builtin .append, args := #[s, x], argTypes := #[22, 22] })
    (g cap : Nat) (xs : List Value) (n : Nat) (hs : a.eval s = .slice (some ⟨g, 0, none⟩) n cap) (hn : xs.length = n) (hrow : Row w g 2 cap xs)
    (ad : Addr) (m c : Nat) (news : List Int) (hx : a.eval x = .slice (some ad) m c) (hl : news.length = m) (hnews : ∀ j (hj : j < news.length), w.cell? (ad.add j) = some (.int .i64 news[j])) (hm : 0 < m) (hsm : n + m ≤ 1048576)
    (h : ∀ G cap' w', Row w' G 2 cap' (xs ++ news.map (Value.int .i64)) → w.grownBy w' (some g) → (G = g ∨ G = w.heap.size) → wpList Try.prog ops Q rest (a.put o.dst (.slice (some ⟨G, 0, none⟩) (n + m) cap')) w') :
    wpList Try.prog ops Q (o :: rest) a w := by
  obtain ⟨i2, hi2, he2⟩ := Option.map_eq_some_iff.1 Try.info2
  simp only [Prod.mk.injEq] at he2
  refine wpList_append_lies w hgd s x 22 ho 0 2 i2 (.int .i64 0) 1 8 Try.underlying22 hi2 he2.1 he2.2.1 he2.2.2 rfl (by decide) (.slice (some ⟨g, 0, none⟩) n cap) n xs hs (hrow.owns hn (Nat.zero_le _)) ad m c (news.map (Value.int .i64)) hx (by simp; omega) (fun j u hu => ?_) (fun u hu => ?_) hm (by unfold maxLen; omega) (by omega) (Nat.zero_le _) _ rfl fun G cap' w' h2 h3 h4 _ => h G cap' w' (Row.of_owns h2).1 h3 ?_
  · rw [List.getElem?_map] at hu
    obtain ⟨y, hy, rfl⟩ := Option.map_eq_some_iff.1 hu
    obtain ⟨hj, rfl⟩ := List.getElem?_eq_some_iff.1 hy
    exact hnews j hj
  · obtain ⟨y, _, rfl⟩ := List.mem_map.1 hu
    rfl
  · rcases h4 with h4 | h4
    · exact .inl (by simpa [Value.ownBlock] using h4.symm)
    · exact .inr h4

theorem row_fresh (w : World) : Row (w.alloc (.cells #[] 2)) w.heap.size 2 0 [] := ⟨#[], heap_alloc_new w _, rfl, by simp, by simp [maxLen], rfl⟩
theorem fresh_below {w w' : World} {o : Obj} (h : (w.alloc o).grownBy w' (some w.heap.size)) : Below w.heap.size w w' :=
  ((Below.refl w.heap.size w).alloc (Nat.le_refl _) o).grown h (by simp) (fun k hk => by injection hk; omega)
theorem Rd.add {w : World} {g : Nat} {xs : List Int} (h : Rd w g 0 xs) : ∀ j (hj : j < xs.length), w.cell? ((⟨g, 0, none⟩ : Addr).add j) = some (.int .i64 xs[j]) := fun j hj => by
  have hadd : (⟨g, 0, none⟩ : Addr).add j = ⟨g, j, none⟩ := by unfold Addr.add; split <;> simp_all
  rw [hadd]; have := h j hj; rwa [Nat.zero_add] at this

set_option maxRecDepth 100000 in
theorem clone_any (w : World) (g n c : Nat) (xs : List Int) (hn : xs.length = n) (hx : Rd w g 0 xs) (hg : g < w.heap.size) (m1 : 0 < n) (m2 : n ≤ 1048576) :
    Calls Try.prog 112 #[.slice (some ⟨g, 0, none⟩) n c] w fun e w' => ∃ G cap, e = .returned (.slice (some ⟨G, 0, none⟩) n cap) ∧ Row w' G 2 cap (xs.map (Value.int .i64)) ∧ w.heap.size ≤ G ∧ Below w.heap.size w w' := by
  have HN := Lib.hid hn; have HX := Lib.hid hx
  clear hn hx
  have heq := fun w => Lib.run_eql_slice_nil (P := Try.prog) w 22 2 (some ⟨g, 0, none⟩) n c 0 0 Try.underlying22
  go_enter Try.func112, Try.ntmps112
  have hx1 : Rd (w.alloc (.cells #[] 2)) g 0 xs := HX.out.below ((Below.refl w.heap.size w).alloc (Nat.le_refl _) _) hg
  have HX1 := Lib.hid hx1
  have HR := Lib.hid (row_fresh w)
  clear hx1
  go_wp2_with (at_builtin; refine append_int _ rfl _ _ rfl w.heap.size 0 [] 0 (by rfl) rfl HR.out ⟨g, 0, none⟩ n c xs (by rfl) HN.out HX1.out.add m1 (by omega) ?_; intro G cap w1 hr hgr hat)
  have HR1 := Lib.hid hr; have HB := Lib.hid (fresh_below hgr)
  clear hr hgr
  go_ret
  exact ⟨G, cap, rfl, HR1.out, by rcases hat with rfl | h; exact Nat.le_refl _; simp at h; omega, HB.out⟩

def swapL (xs : List Int) (a : Nat) : List Int := (xs.set a (xs.getD (a + 1) 0)).set (a + 1) (xs.getD a 0)
theorem swapL_eq {xs : List Int} {a : Nat} (h : a + 1 < xs.length) : swapL xs a = (xs.set a xs[a + 1]).set (a + 1) xs[a] := by
  unfold swapL
  rw [List.getD_eq_getElem?_getD, List.getD_eq_getElem?_getD, List.getElem?_eq_getElem h, List.getElem?_eq_getElem (show a < xs.length by omega)]; rfl
theorem swapL_perm {xs : List Int} {a : Nat} (h : a + 1 < xs.length) : (swapL xs a).Perm xs := by
  rw [swapL_eq h]; exact List.set_set_perm (by omega) h
theorem swapL_length (xs : List Int) (a : Nat) : (swapL xs a).length = xs.length := by simp [swapL]

theorem ordB_iff (xs : List Int) (n : Int) : ordB xs n xs.length = true ↔ (∀ x ∈ xs, inB x 0 (n - 1) = true) ∧ xs.Nodup := by
  unfold ordB
  rw [List.all_eq_true]
  constructor
  · intro h
    have hat : ∀ i (hi : i < xs.length), inB xs[i] 0 (n - 1) = true ∧ hasB (xs.take i) xs[i] = false := by
      intro i hi
      have := h i (List.mem_range.2 hi)
      simpa [List.getElem?_eq_getElem hi] using this
    refine ⟨fun x hx => ?_, ?_⟩
    · obtain ⟨i, hi, rfl⟩ := List.getElem_of_mem hx
      exact (hat i hi).1
    · unfold List.Nodup
      rw [List.pairwise_iff_getElem]
      intro i j hi hj hij e
      have h1 := (hat j hj).2
      unfold hasB at h1
      rw [List.any_eq_false] at h1
      have h2 := h1 xs[i] (List.mem_take_iff_getElem.2 ⟨i, by omega, rfl⟩)
      simp [e] at h2
  · rintro ⟨h1, h2⟩ i hi
    have hi' : i < xs.length := List.mem_range.1 hi
    unfold List.Nodup at h2
    rw [List.pairwise_iff_getElem] at h2
    have e1 := h1 xs[i] (List.getElem_mem _)
    have e2 : hasB (xs.take i) xs[i] = false := by
      unfold hasB
      rw [List.any_eq_false]
      intro y hy
      obtain ⟨j, hj, rfl⟩ := List.mem_take_iff_getElem.1 hy
      have := h2 j i (by omega) hi' (by omega)
      simpa using this
    simp [List.getElem?_eq_getElem hi', e1, e2]

theorem canB_swap {js : List J} {xs : List Int} {a : Nat} (h : canB js xs = true) (ha : a + 1 < xs.length) : canB js (swapL xs a) = true := by
  unfold canB at h ⊢
  simp only [Bool.and_eq_true] at h ⊢
  rw [swapL_length]
  refine ⟨h.1, ?_, h.2.2⟩
  have hp := swapL_perm ha
  have h1 := (ordB_iff _ _).1 h.2.1
  rw [← swapL_length xs a]
  exact (ordB_iff _ _).2 ⟨fun x hx => h1.1 x (hp.mem_iff.1 hx), hp.nodup_iff.2 h1.2⟩
end Go.Proofs.Ytncmhinpjkkfkaa
