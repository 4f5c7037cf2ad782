/-
  Walks: the law ReadList: the list with a text: the reference's and the program's functions. Conditions (the program's): the table of powers of ten and the two errors of the library lie as their initialisers lay them; the library's variable MaxLen holds an int.
-/
import Derived.Test.YtjlbjlcficbdlaaDoorD6
import Derived.Test.YtjlbjlcficbdlaaDoorCut
import Derived.Test.YtjlbjlcficbdlaaDoorShS
set_option linter.unusedVariables false
set_option linter.unusedSimpArgs false
namespace Go.Proofs.YtjlbjlcficbdlaaDoor
open Go Go.RowKit

set_option maxRecDepth 100000 in
/-- append(s, v) of one element of one cell: what is left of other blocks. -/
theorem push_to {t e : TypeId} {z : Value} {by' : Nat} (h1 : Tryd.prog.underlying t = some (.slice e)) (h2 : (Tryd.prog.info? e).map (fun i => (i.zero, i.size, i.bytes)) = some (some z, 1, by'))
    {ops : Array Oper} {rest : List Oper} {o : Oper} {a : Act} {Q : Exit → Act → World → Prop} (w : World) (hgd : o.guard = none) (s x : Operand)
    (ho : o.op = .call { callee := .builtin .append, args := #[s, x], argTypes := #[t, t] })
    (G cap : Nat) (xs : List Value) (n : Nat) (v : Value) (hs : a.eval s = .slice (some ⟨G, 0, none⟩) n cap) (hn : xs.length = n) (hrow : Row w G e cap xs)
    (hx : a.eval x = .slice (some ⟨w.heap.size, 0, none⟩) 1 1) (hv : v.oneCell' = true) (hsm : n + 1 ≤ 2000000) (hby : by' ≤ 64) (hzc : z.cells.size = 1)
    (B : Nat) (w0 : World) (hB : Below B w0 w) (hsz : B ≤ w.heap.size) (hG : B ≤ G)
    (h : ∀ G' cap' w', Row w' G' e cap' (xs ++ [v]) → Below B w0 w' → B ≤ G' → (∀ g c T vs, Row w g T c vs → g ≠ G → Row w' g T c vs ∧ g ≠ G') → wpList Tryd.prog ops Q rest (a.put o.dst (.slice (some ⟨G', 0, none⟩) (n + 1) cap')) w') :
    wpList Tryd.prog ops Q (o :: rest) a (w.alloc (.cells #[v] e)) := by
  refine append_at h1 h2 _ hgd s x ho G cap xs n hs hn (hrow.alloc _) ⟨w.heap.size, 0, none⟩ 1 1 [v] hx rfl (cell_one_new w v e) (by intro u hu; simp at hu; subst hu; exact hv) hsm hby hzc fun G' cap' w' k1 k2 k3 => h G' cap' w' k1 ?_ ?_ ?_
  · exact (hB.alloc hsz _).grown k2 (by simp; omega) (fun k hk => by injection hk; omega)
  · rcases k3 with rfl | rfl
    · exact hG
    · simp; omega
  · intro g c T vs hr hne
    have hl := hr.lt
    refine ⟨(hr.alloc _).touch k2 hne, ?_⟩
    rcases k3 with rfl | rfl
    · exact hne
    · simp; omega

def bsV (ds : List ByteArray) : List Value := ds.map Value.string
theorem bsV_len (ds : List ByteArray) : (bsV ds).length = ds.length := by simp [bsV]
theorem bsV_snoc (ds : List ByteArray) (x : ByteArray) : bsV (ds ++ [x]) = bsV ds ++ [.string x] := by simp [bsV]
theorem ext_data (s : ByteArray) (f i : Nat) : (s.extract f i).data.toList = (s.data.toList.take i).drop f := by
  rw [Lib.extract_data, List.drop_take]

/-- The loop's list: what is cut, and what the rest will give. -/
def CutI (s : ByteArray) (ds : List ByteArray) (f i : Nat) : Prop :=
  (i ≤ s.size ∧ f ≤ i ∧ ds.map (·.data.toList) ++ cutsL ((s.data.toList.take i).drop f) (s.data.toList.drop i) = cutsL [] s.data.toList) ∨
  (i = s.size + 1 ∧ ds.map (·.data.toList) = cutsL [] s.data.toList)
theorem CutI.start (s : ByteArray) : CutI s [] 0 0 := .inl ⟨Nat.zero_le _, Nat.le_refl _, by simp⟩
theorem CutI.last {s : ByteArray} {ds : List ByteArray} {f : Nat} (h : CutI s ds f s.size) : f ≤ s.size ∧ CutI s (ds ++ [s.extract f s.size]) (s.size + 1) (s.size + 1) := by
  rcases h with ⟨_, h2, h3⟩ | ⟨h1, _⟩
  · refine ⟨h2, .inr ⟨rfl, ?_⟩⟩
    have := @cut_end s.data.toList f
    rw [size_len] at this
    rw [this] at h3
    rw [List.map_append, ← h3]
    simp only [List.map_cons, List.map_nil, ext_data]
  · omega
theorem CutI.comma {s : ByteArray} {ds : List ByteArray} {f i : Nat} (h : CutI s ds f i) (hi : i < s.size) (hc : s[i] = 44) : f ≤ i ∧ CutI s (ds ++ [s.extract f i]) (i + 1) (i + 1) := by
  rcases h with ⟨_, h2, h3⟩ | ⟨h1, _⟩
  · refine ⟨h2, .inl ⟨by omega, Nat.le_refl _, ?_⟩⟩
    rw [cut_comma (l := s.data.toList) (by rw [size_len]; exact hi) hc h2] at h3
    rw [List.map_append, ← h3]
    simp only [List.map_cons, List.map_nil, ext_data, List.append_assoc, List.cons_append, List.nil_append]
  · omega
theorem CutI.other {s : ByteArray} {ds : List ByteArray} {f i : Nat} (h : CutI s ds f i) (hi : i < s.size) (hc : s[i] ≠ 44) : CutI s ds f (i + 1) := by
  rcases h with ⟨_, h2, h3⟩ | ⟨h1, _⟩
  · refine .inl ⟨by omega, by omega, ?_⟩
    rw [← cut_other (l := s.data.toList) (by rw [size_len]; exact hi) hc h2]; exact h3
  · omega
theorem CutI.done {s : ByteArray} {ds : List ByteArray} {f : Nat} (h : CutI s ds f (s.size + 1)) : ds.map (·.data.toList) = cutsL [] s.data.toList := by
  rcases h with ⟨h1, _⟩ | ⟨_, h⟩
  · omega
  · exact h

/-- A text's pieces in a row of strings of its own. -/
def Pieces (w : World) (s : ByteArray) (e : Ending) (w' : World) : Prop :=
  ∃ (G n cap : Nat) (ds : List ByteArray), e = .returned (.slice (some ⟨G, 0, none⟩) n cap) ∧ Row w' G 9 cap (bsV ds) ∧ ds.length = n ∧ ds.map (·.data.toList) = cutsL [] s.data.toList ∧ w.heap.size ≤ G ∧ Below w.heap.size w w'

set_option maxHeartbeats 4000000 in
set_option maxRecDepth 100000 in
theorem l01Cut_any (s : ByteArray) (w : World) (hs : s.size ≤ 1048576) : Calls Tryd.prog 62 #[.string s, .int .u8 44] w (Pieces w s) := by
  have R0 := Lib.hid (row_fresh w 9)
  have B0 := Lib.hid ((Below.refl w.heap.size w).alloc (Nat.le_refl _) (.cells #[] 9))
  have hfin : ∀ (w' : World) (G n cap f : Nat) (ds : List ByteArray), Row w' G 9 cap (bsV ds) → ds.length = n → CutI s ds f (s.size + 1) → w.heap.size ≤ G → Below w.heap.size w w' → Pieces w s (.returned (.slice (some ⟨G, 0, none⟩) n cap)) w' :=
    fun w' G n cap f ds h1 h2 h3 h4 h5 => ⟨G, n, cap, ds, rfl, h1, h2, h3.done, h4, h5⟩
  have HFin := Lib.hid hfin
  clear hfin
  go_enter Tryd.func62, Tryd.ntmps62
  go_wp2
  go_loopw [5, 6, 7] (fun o f i wr => ∃ (k fr m G cap : Nat) (ds : List ByteArray), k ≤ s.size + 1 ∧ fr ≤ k ∧ i = .int .i64 k ∧ f = .int .i64 fr ∧ o = .slice (some ⟨G, 0, none⟩) m cap ∧ ds.length = m ∧ m ≤ k ∧ Row wr G 9 cap (bsV ds) ∧ CutI s ds fr k ∧ Below w.heap.size w wr ∧ w.heap.size ≤ G) (fun _ _ i _ => s.size + 2 - (intOf i).toNat)
  case atStart => exact ⟨0, 0, 0, w.heap.size, 0, [], by omega, Nat.le_refl _, rfl, rfl, rfl, rfl, Nat.le_refl _, R0.out, CutI.start s, B0.out, Nat.le_refl _⟩
  case round =>
    obtain ⟨k, fr, m, G, cap, ds, hk, hfr, rfl, rfl, rfl, hm, hmk, hr, hcut, hb, hG⟩ := hrel
    have HR := Lib.hid hr; have HC := Lib.hid hcut; have HB := Lib.hid hb; have HM := Lib.hid hm
    have HMV : Hid ((bsV ds).length = m) := Lib.hid (by rw [bsV_len]; exact HM.out)
    clear hr hcut hb hm R0 B0
    by_cases h1 : k = s.size + 1
    · subst h1
      go_wp2
      go_ret
      exact HFin.out _ _ _ _ _ _ HR.out HM.out HC.out hG HB.out
    · by_cases h2 : k = s.size
      · subst h2
        have hl := HC.out.last
        have HL := Lib.hid hl.2
        clear hl
        go_wp2_with (at_builtin; refine push_at Tryd.underlying57 str_info _ rfl _ _ rfl G cap (bsV ds) m (.string (s.extract fr s.size)) (by rfl) HMV.out HR.out (by rfl) rfl (by omega) (by decide) rfl w.heap.size w HB.out HB.out.size hG ?_; intro G' cap' w3 hr3 hb3 hG3; have HR3 := Lib.hid hr3; have HB3 := Lib.hid hb3; clear hr3 hb3)
        go_roundw
        case rel => exact ⟨s.size + 1, s.size + 1, m + 1, G', cap', ds ++ [s.extract fr s.size], by omega, by omega, by go_num, by go_num, rfl, by simp [HM.out], by omega, by rw [bsV_snoc]; exact HR3.out, HL.out, HB3.out, hG3⟩
        case measure => simp [intOf] <;> omega
      · have hlt : k < s.size := by omega
        have hks : ((k : Int) == (s.size : Int)) = false := by simp; omega
        by_cases h3 : s[k] = 44
        · have hl := HC.out.comma hlt h3
          have HL := Lib.hid hl.2
          have hc : ((s[k].toNat : Int) == 44) = true := by rw [h3]; rfl
          have hc2 : (s[k].toNat : Int) = 44 := by rw [h3]; rfl
          clear hl h3
          go_wp2_with (at_builtin; refine push_at Tryd.underlying57 str_info _ rfl _ _ rfl G cap (bsV ds) m (.string (s.extract fr k)) (by rfl) HMV.out HR.out (by rfl) rfl (by omega) (by decide) rfl w.heap.size w HB.out HB.out.size hG ?_; intro G' cap' w3 hr3 hb3 hG3; have HR3 := Lib.hid hr3; have HB3 := Lib.hid hb3; clear hr3 hb3)
          go_roundw
          case rel => exact ⟨k + 1, k + 1, m + 1, G', cap', ds ++ [s.extract fr k], by omega, by omega, by go_num, by go_num, rfl, by simp [HM.out], by omega, by rw [bsV_snoc]; exact HR3.out, HL.out, HB3.out, hG3⟩
          case measure => simp [intOf] <;> omega
        · have HL := Lib.hid (HC.out.other hlt h3)
          have hc2 : (s[k].toNat : Int) ≠ 44 := by
            intro e
            exact h3 (UInt8.toNat_inj.1 (by show s[k].toNat = 44; omega))
          have hc : ((s[k].toNat : Int) == 44) = false := by simpa using hc2
          clear h3
          go_wp2
          go_roundw
          case rel => exact ⟨k + 1, fr, m, G, cap, ds, by omega, by omega, by go_num, rfl, rfl, HM.out, by omega, HR.out, HL.out, HB.out, hG⟩
          case measure => simp [intOf] <;> omega

theorem same_n4 (s : ByteArray) : (s.toList == [110, 111, 110, 101]) = decide (s.data.toList = n4) := by
  rw [ByteArray.toList_eq]
  by_cases h : s.data.toList = n4
  · rw [h, decide_eq_true rfl]; rfl
  · rw [decide_eq_false h]; exact beq_eq_false_iff_ne.2 h

/-- A list and whether there is one. -/
def RL (w : World) (o : Option (List Int)) (e : Ending) (w' : World) : Prop :=
  (o = none ∧ e = .returned (.tuple #[.slice none 0 0, .bool false]) ∧ Below w.heap.size w w') ∨
  ∃ vs n G cap, o = some vs ∧ vs.length = n ∧ e = .returned (.tuple #[.slice (some ⟨G, 0, none⟩) n cap, .bool true]) ∧ Row w' G 2 cap (vs.map (Value.int .i64)) ∧ w.heap.size ≤ G ∧ Below w.heap.size w w'
theorem RL.no {w w' : World} {o : Option (List Int)} (h : o = none) (hb : Below w.heap.size w w') : RL w o (.returned (.tuple #[.slice none 0 0, .bool false])) w' := .inl ⟨h, rfl, hb⟩
theorem RL.yes {w w' : World} {o : Option (List Int)} {vs : List Int} {n G cap : Nat} (h : o = some vs) (hn : vs.length = n) (hr : Row w' G 2 cap (vs.map (Value.int .i64))) (hG : w.heap.size ≤ G) (hb : Below w.heap.size w w') :
    RL w o (.returned (.tuple #[.slice (some ⟨G, 0, none⟩) n cap, .bool true])) w' := .inr ⟨vs, n, G, cap, h, hn, rfl, hr, hG, hb⟩

/-- The library's MaxLen holds an int. -/
def MaxL (w : World) : Prop := ∃ m, w.cell? ⟨6, 0, none⟩ = some (.int .i64 m)
theorem MaxL.below {w w' : World} (h : MaxL w) (hb : Below w.heap.size w w') : MaxL w' := by
  obtain ⟨m, h1⟩ := h
  exact ⟨m, by rw [hb.cell (block_lt_of_cell h1)]; exact h1⟩
theorem maxL_of_shape {w : World} (h : w.ShapedOpen Tryd.prog) : MaxL w := Tryd.laysM146.s1_3 w h

theorem split_any (s : ByteArray) (w : World) (hs : s.size ≤ 1048576) (hm : MaxL w) : Calls Tryd.prog 69 #[.string s, .string ⟨#[44]⟩] w (Pieces w s) := by
  obtain ⟨m, hm⟩ := hm
  refine (Tryd.strings_Split s ⟨#[44]⟩ m w (by omega) hm (by decide)).mono fun e w' ⟨he, hw⟩ => ?_
  have hlen := Lib.splitB_all ⟨#[44]⟩ (by decide) 0 _ s rfl
  have hcl := Lib.countB_le ⟨#[44]⟩ (by decide) s.size s (Nat.le_refl _)
  subst hw
  refine ⟨w.heap.size, Lib.countB s ⟨#[44]⟩ + 1, Lib.countB s ⟨#[44]⟩ + 1, Lib.splitB ⟨#[44]⟩ 0 (Lib.countB s ⟨#[44]⟩) s, he, ?_, hlen, splitB_cutsL s, Nat.le_refl _, (Below.refl _ _).alloc (Nat.le_refl _) _⟩
  refine ⟨_, heap_alloc_new w _, by simp [hlen], by rw [bsV_len, hlen]; exact Nat.le_refl _, by unfold maxLen; omega, ?_⟩
  rw [List.take_of_length_le (by simp [bsV])]
  simp [bsV]

set_option maxHeartbeats 1000000 in
set_option maxRecDepth 100000 in
theorem pieces_none (s : ByteArray) (w : World) (hn : s.data.toList = n4) : Calls Tryd.prog 52 #[.string s] w fun e w' => e = .returned (.slice none 0 0) ∧ w = w' := by
  have hcmp := (same_n4 s).trans (decide_eq_true hn)
  clear hn
  go_enter Tryd.func52, Tryd.ntmps52
  go_wp2
  go_ret
  exact ⟨rfl, rfl⟩
set_option maxHeartbeats 1000000 in
set_option maxRecDepth 100000 in
theorem pieces_any (s : ByteArray) (w : World) (hs : s.size ≤ 1048576) (hm : MaxL w) (hn : s.data.toList ≠ n4) : Calls Tryd.prog 52 #[.string s] w (Pieces w s) := by
  have hcmp := (same_n4 s).trans (decide_eq_false hn)
  have HM := Lib.hid hm
  clear hn hm
  have hfin : ∀ (w' : World) (G n cap : Nat) (ds : List ByteArray), Row w' G 9 cap (bsV ds) → ds.length = n → ds.map (·.data.toList) = cutsL [] s.data.toList → w.heap.size ≤ G → Below w.heap.size w w' → Pieces w s (.returned (.slice (some ⟨G, 0, none⟩) n cap)) w' :=
    fun w' G n cap ds h1 h2 h3 h4 h5 => ⟨G, n, cap, ds, rfl, h1, h2, h3, h4, h5⟩
  have HF := Lib.hid hfin
  clear hfin
  go_enter Tryd.func52, Tryd.ntmps52
  go_wp2_with (go_at_call 69; refine (split_any s _ hs HM.out).mono ?_; rintro e w1 ⟨G, n, cap, ds, rfl, h1, h2, h3, h4, h5⟩; have H1 := Lib.hid h1; have H2 := Lib.hid h2; have H3 := Lib.hid h3; have H5 := Lib.hid h5; clear h1 h2 h3 h5)
  go_ret
  exact HF.out _ _ _ _ _ H1.out H2.out H3.out h4 H5.out

set_option maxHeartbeats 8000000 in
set_option maxRecDepth 100000 in
theorem l01Numbers_any (s : ByteArray) (w : World) (hs : s.size ≤ 1048576) : Calls Tryd.prog 44 #[.string s] w (RL w (rl s.data.toList)) := by
  have R0 := Lib.hid (row_fresh w 2)
  have B0 := Lib.hid ((Below.refl w.heap.size w).alloc (Nat.le_refl _) (.cells #[] 2))
  skip
  by_cases hn : s.data.toList = n4
  · have HF : Hid (RL w (rl s.data.toList) (.returned (.tuple #[.slice (some ⟨w.heap.size, 0, none⟩) 0 0, .bool true])) (w.alloc (.cells #[] 2))) :=
      Lib.hid (RL.yes (vs := []) (by rw [hn]; exact rl_none) rfl R0.out (Nat.le_refl _) B0.out)
    have hcmp := (same_n4 s).trans (decide_eq_true hn)
    clear hn
    go_enter Tryd.func44, Tryd.ntmps44
    go_wp2
    go_ret2
    exact HF.out

  · have HNN := Lib.hid hn
    have hsz : (w.alloc (.cells #[] 2)).heap.size = w.heap.size + 1 := by simp
    have hcmp := (same_n4 s).trans (decide_eq_false hn)
    clear hn
    go_enter Tryd.func44, Tryd.ntmps44
    go_wp2_with fail
    go_at_call 62
    refine (l01Cut_any s _ hs).mono ?_
    rintro e w1 ⟨GP, n, capP, ds, rfl, hrp, hlen, hmap, hGP, hb1⟩
    have hGP' : w.heap.size < GP := by rw [hsz] at hGP; omega
    have RO := Lib.hid (R0.out.below hb1 (by rw [hsz]; omega))
    have B1 := Lib.hid (B0.out.trans (hb1.mono B0.out.size))
    have RP := Lib.hid hrp
    obtain ⟨ps, hps⟩ : ∃ ps, cutsL [] s.data.toList = ps := ⟨_, rfl⟩
    have HPS := Lib.hid hps
    rw [hps] at hmap
    have HMAP := Lib.hid hmap
    have HLEN : Hid (ps.length = n) := Lib.hid (by rw [← hmap, List.length_map]; exact hlen)
    have HDS := Lib.hid hlen
    have hnle : n ≤ 1048577 := by
      have := cutsL_len s.data.toList []
      rw [hps, size_len] at this
      have := HLEN.out; omega
    have HSZ : Hid (∀ k (hk : k < ds.length) (hk' : k < ps.length), ds[k].data.toList = ps[k] ∧ ds[k].size ≤ 1048576) := Lib.hid (fun k hk hk' => by
      have e1 : ds[k].data.toList = ps[k] := by
        have : (ds.map (·.data.toList))[k]? = ps[k]? := by rw [hmap]
        rw [List.getElem?_map, List.getElem?_eq_getElem hk, List.getElem?_eq_getElem hk'] at this
        exact Option.some.inj this
      refine ⟨e1, ?_⟩
      have h2 := cutsL_mem s.data.toList [] ps[k] (by rw [hps]; exact List.getElem_mem _)
      rw [size_of e1]
      rw [size_len] at h2
      simp only [List.length_nil] at h2
      omega)
    have HBAD : Hid (∀ k (hk : k < ps.length), okP ps[k] = false → rl s.data.toList = none) := Lib.hid (fun k hk hv => by
      subst hps; exact rl_bad HNN.out hk hv)
    have HOK : Hid (ps.length ≤ 64 → okK ps ps.length → rl s.data.toList = some (nums ps)) := Lib.hid (fun h1 h2 => by
      subst hps; exact rl_ok HNN.out h1 h2)
    by_cases hlong : n ≤ 64
    case neg =>
      have HLO : Hid (rl s.data.toList = none) := Lib.hid (rl_long HNN.out (by rw [hps, HLEN.out]; exact hlong))
      clear hrp hlen hmap hb1 hps hGP R0 B0 hsz
      go_wp2
      go_ret2
      exact RL.no HLO.out B1.out
    have hnn : n ≤ 64 := hlong
    clear hlong
    clear hrp hlen hmap hb1 hps hGP R0 B0 hsz

    go_wp2
    go_loopw [4, 6] (fun o i wr => ∃ (k G cap : Nat), k ≤ n ∧ i = .int .i64 k ∧ o = .slice (some ⟨G, 0, none⟩) k cap ∧ okK ps k ∧ Row wr G 2 cap ((nums (ps.take k)).map (Value.int .i64)) ∧ Row wr GP 9 capP (bsV ds) ∧ Below w.heap.size w wr ∧ w.heap.size ≤ G ∧ GP ≠ G) (fun _ i _ => n - (intOf i).toNat)
    case atStart => exact ⟨0, w.heap.size, 0, Nat.zero_le _, rfl, rfl, by simp [okK], by simpa [nums] using RO.out, RP.out, B1.out, Nat.le_refl _, by omega⟩
    case round =>
      obtain ⟨k, G, cap, hk, rfl, rfl, hok, hr, hrp, hb, hG, hne⟩ := hrel
      have HK := Lib.hid hok; have HR := Lib.hid hr; have HRP := Lib.hid hrp; have HB := Lib.hid hb
      clear hok hr hrp hb RO RP B1
      by_cases hlt : k < n
      · have hkp : k < ps.length := by rw [HLEN.out]; exact hlt
        have hkd : k < ds.length := by rw [HDS.out]; exact hlt
        have hcell := HRP.out.cell k (by rw [bsV_len]; exact hkd)
        have hcv : (bsV ds)[k]'(by rw [bsV_len]; exact hkd) = .string ds[k] := by simp [bsV]
        rw [hcv] at hcell
        obtain ⟨hd1, hd2⟩ := HSZ.out k hkd hkp
        have HNS := Lib.hid (nums_succ hkp)
        have HKS := Lib.hid (fun h => okK_succ HK.out hkp h)
        have HB2 := Lib.hid (HBAD.out k hkp)
        have HNL : Hid (((nums (ps.take k)).map (Value.int .i64)).length = k) := Lib.hid (by rw [List.length_map, nums_len, List.length_take]; omega)
        generalize ds[k] = d at hcell hd1 hd2
        have HD1 := Lib.hid hd1
        obtain ⟨r, hr⟩ : ∃ r, spv ps[k] = r := ⟨_, rfl⟩
        have HRr : Hid (rdV (spv d.data.toList) = rdV r) := Lib.hid (by rw [hd1, hr])
        clear hcv hd1
        cases r with
        | none =>
          have HBB := Lib.hid (HB2.out (by unfold okP; rw [hr]; rfl))
          clear hr
          go_wp2_with (go_at_call 37; refine (l01Value_any d _ hd2).mono ?_; rintro e w2 ⟨rfl, hb2⟩; rw [HRr.out]; unfold rdV; have HW2 := Lib.hid hb2; clear hb2)
          go_ret2
          exact RL.no HBB.out (HB.out.trans (HW2.out.mono HB.out.size))
        | some v =>
          have HKK := Lib.hid (HKS.out (by unfold okP; rw [hr]; rfl))
          have HNV : Hid ((nums (ps.take (k + 1))).map (Value.int .i64) = (nums (ps.take k)).map (Value.int .i64) ++ [.int .i64 v]) := Lib.hid (by
            rw [HNS.out, List.map_append]
            have : num ps[k] = v := by unfold num; rw [hr]; rfl
            rw [this]; rfl)
          clear hr
          go_wp2_with (first
            | (go_at_call 37; refine (l01Value_any d _ hd2).mono ?_; rintro e w2 ⟨rfl, hb2⟩; rw [HRr.out]; unfold rdV; have HW2 := Lib.hid hb2; have HBw := Lib.hid (HB.out.trans (HW2.out.mono HB.out.size)); have HR2 := Lib.hid (HR.out.below HW2.out HR.out.lt); have HRP2 := Lib.hid (HRP.out.below HW2.out HRP.out.lt); clear hb2)
            | (at_builtin; refine push_to Tryd.underlying27 Tryd.info2 _ rfl _ _ rfl G cap ((nums (ps.take k)).map (Value.int .i64)) k (.int .i64 v) (by rfl) HNL.out HR2.out (by rfl) rfl (by omega) (by decide) rfl w.heap.size w HBw.out HBw.out.size hG ?_; intro G' cap' w3 hr3 hb3 hG3 hk3; obtain ⟨hrp3, hne3⟩ := hk3 _ _ _ _ HRP2.out hne; have HR3 := Lib.hid hr3; have HB3 := Lib.hid hb3; have HRP3 := Lib.hid hrp3; clear hr3 hb3 hrp3 hk3))
          go_roundw
          case rel => exact ⟨k + 1, G', cap', by omega, by go_num, rfl, HKK.out, by rw [HNV.out]; exact HR3.out, HRP3.out, HB3.out, hG3, hne3⟩
          case measure => simp [intOf] <;> omega
      · obtain rfl : k = n := by omega
        have HYY : Hid (rl s.data.toList = some (nums ps)) := Lib.hid (HOK.out (by rw [HLEN.out]; exact hnn) (by rw [HLEN.out]; exact HK.out))
        have HRn : Hid (Row wr G 2 cap ((nums ps).map (Value.int .i64))) := Lib.hid (by have := HR.out; rw [← HLEN.out, List.take_length] at this; exact this)
        go_wp2
        go_ret2
        exact RL.yes HYY.out (by rw [nums_len]; exact HLEN.out) HRn.out hG HB.out


set_option maxHeartbeats 8000000 in
set_option maxRecDepth 100000 in
theorem readList_any (s : ByteArray) (w : World) (hs : s.size ≤ 1048576) (hp : Pow w) (hE : Errs w) (hM : MaxL w) : Calls Tryd.prog 45 #[.string s] w (RL w (rl0 s.data.toList)) := by
  have R0 := Lib.hid (row_fresh w 2)
  have B0 := Lib.hid ((Below.refl w.heap.size w).alloc (Nat.le_refl _) (.cells #[] 2))
  have HP := Lib.hid hp; have HE := Lib.hid hE; have HM := Lib.hid (hM.below B0.out)
  clear hp hE hM
  by_cases hn : s.data.toList = n4
  · have HF : Hid (RL w (rl0 s.data.toList) (.returned (.tuple #[.slice (some ⟨w.heap.size, 0, none⟩) 0 0, .bool true])) (w.alloc (.cells #[] 2))) :=
      Lib.hid (RL.yes (vs := []) (by rw [hn]; exact rl0_none) rfl R0.out (Nat.le_refl _) B0.out)
    have HNN := Lib.hid hn
    clear hn
    go_enter Tryd.func45, Tryd.ntmps45
    go_wp2_with (go_at_call 52; refine (pieces_none s _ HNN.out).mono ?_; rintro e w' ⟨rfl, rfl⟩)
    refine wp_loop_rounds 1 ?_; rw [rounds_succ]
    go_wp2
    go_ret2
    exact HF.out

  · have HNN := Lib.hid hn
    have hsz : (w.alloc (.cells #[] 2)).heap.size = w.heap.size + 1 := by simp
    skip
    clear hn
    go_enter Tryd.func45, Tryd.ntmps45
    go_wp2_with fail
    go_at_call 52
    refine (pieces_any s _ hs HM.out HNN.out).mono ?_
    rintro e w1 ⟨GP, n, capP, ds, rfl, hrp, hlen, hmap, hGP, hb1⟩
    have hGP' : w.heap.size < GP := by rw [hsz] at hGP; omega
    have RO := Lib.hid (R0.out.below hb1 (by rw [hsz]; omega))
    have B1 := Lib.hid (B0.out.trans (hb1.mono B0.out.size))
    have RP := Lib.hid hrp
    obtain ⟨ps, hps⟩ : ∃ ps, cutsL [] s.data.toList = ps := ⟨_, rfl⟩
    have HPS := Lib.hid hps
    rw [hps] at hmap
    have HMAP := Lib.hid hmap
    have HLEN : Hid (ps.length = n) := Lib.hid (by rw [← hmap, List.length_map]; exact hlen)
    have HDS := Lib.hid hlen
    have hnle : n ≤ 1048577 := by
      have := cutsL_len s.data.toList []
      rw [hps, size_len] at this
      have := HLEN.out; omega
    have HSZ : Hid (∀ k (hk : k < ds.length) (hk' : k < ps.length), ds[k].data.toList = ps[k] ∧ ds[k].size ≤ 1048576) := Lib.hid (fun k hk hk' => by
      have e1 : ds[k].data.toList = ps[k] := by
        have : (ds.map (·.data.toList))[k]? = ps[k]? := by rw [hmap]
        rw [List.getElem?_map, List.getElem?_eq_getElem hk, List.getElem?_eq_getElem hk'] at this
        exact Option.some.inj this
      refine ⟨e1, ?_⟩
      have h2 := cutsL_mem s.data.toList [] ps[k] (by rw [hps]; exact List.getElem_mem _)
      rw [size_of e1]
      rw [size_len] at h2
      simp only [List.length_nil] at h2
      omega)
    have HBAD : Hid (∀ k (hk : k < ps.length), okP ps[k] = false → rl0 s.data.toList = none) := Lib.hid (fun k hk hv => by
      subst hps; exact rl0_bad HNN.out hk hv)
    have HOK : Hid (okK ps ps.length → rl0 s.data.toList = some (nums ps)) := Lib.hid (fun h2 => by
      subst hps; exact rl0_ok HNN.out h2)
    skip
    clear hrp hlen hmap hb1 hps hGP R0 B0 hsz

    go_wp2
    go_loopw [4, 13] (fun o i wr => ∃ (k G cap : Nat), k ≤ n ∧ i = .int .i64 k ∧ o = .slice (some ⟨G, 0, none⟩) k cap ∧ okK ps k ∧ Row wr G 2 cap ((nums (ps.take k)).map (Value.int .i64)) ∧ Row wr GP 9 capP (bsV ds) ∧ Below w.heap.size w wr ∧ w.heap.size ≤ G ∧ GP ≠ G) (fun _ i _ => n - (intOf i).toNat)
    case atStart => exact ⟨0, w.heap.size, 0, Nat.zero_le _, rfl, rfl, by simp [okK], by simpa [nums] using RO.out, RP.out, B1.out, Nat.le_refl _, by omega⟩
    case round =>
      obtain ⟨k, G, cap, hk, rfl, rfl, hok, hr, hrp, hb, hG, hne⟩ := hrel
      have HK := Lib.hid hok; have HR := Lib.hid hr; have HRP := Lib.hid hrp; have HB := Lib.hid hb
      clear hok hr hrp hb RO RP B1
      by_cases hlt : k < n
      · have hkp : k < ps.length := by rw [HLEN.out]; exact hlt
        have hkd : k < ds.length := by rw [HDS.out]; exact hlt
        have hcell := HRP.out.cell k (by rw [bsV_len]; exact hkd)
        have hcv : (bsV ds)[k]'(by rw [bsV_len]; exact hkd) = .string ds[k] := by simp [bsV]
        rw [hcv] at hcell
        obtain ⟨hd1, hd2⟩ := HSZ.out k hkd hkp
        have HNS := Lib.hid (nums_succ hkp)
        have HKS := Lib.hid (fun h => okK_succ HK.out hkp h)
        have HB2 := Lib.hid (HBAD.out k hkp)
        have HNL : Hid (((nums (ps.take k)).map (Value.int .i64)).length = k) := Lib.hid (by rw [List.length_map, nums_len, List.length_take]; omega)
        generalize ds[k] = d at hcell hd1 hd2
        have HD1 := Lib.hid hd1
        obtain ⟨r, hr⟩ : ∃ r, spv ps[k] = r := ⟨_, rfl⟩
        have HRr : Hid (rdV (spv d.data.toList) = rdV r) := Lib.hid (by rw [hd1, hr])
        clear hcv hd1
        cases r with
        | none =>
          have HBB := Lib.hid (HB2.out (by unfold okP; rw [hr]; rfl))
          clear hr
          go_wp2_with (go_at_call 13; refine (implReadDecimal_any d _ hd2 (HP.out.below HB.out) (HE.out.below HB.out)).mono ?_; rintro e w2 ⟨rfl, hb2⟩; rw [HRr.out]; unfold rdV; have HW2 := Lib.hid hb2; clear hb2)
          go_ret2
          exact RL.no HBB.out (HB.out.trans (HW2.out.mono HB.out.size))
        | some v =>
          have HKK := Lib.hid (HKS.out (by unfold okP; rw [hr]; rfl))
          have HNV : Hid ((nums (ps.take (k + 1))).map (Value.int .i64) = (nums (ps.take k)).map (Value.int .i64) ++ [.int .i64 v]) := Lib.hid (by
            rw [HNS.out, List.map_append]
            have : num ps[k] = v := by unfold num; rw [hr]; rfl
            rw [this]; rfl)
          clear hr
          go_wp2_with (first
            | (go_at_call 13; refine (implReadDecimal_any d _ hd2 (HP.out.below HB.out) (HE.out.below HB.out)).mono ?_; rintro e w2 ⟨rfl, hb2⟩; rw [HRr.out]; unfold rdV; have HW2 := Lib.hid hb2; have HBw := Lib.hid (HB.out.trans (HW2.out.mono HB.out.size)); have HR2 := Lib.hid (HR.out.below HW2.out HR.out.lt); have HRP2 := Lib.hid (HRP.out.below HW2.out HRP.out.lt); clear hb2)
            | (at_builtin; refine push_to Tryd.underlying27 Tryd.info2 _ rfl _ _ rfl G cap ((nums (ps.take k)).map (Value.int .i64)) k (.int .i64 v) (by rfl) HNL.out HR2.out (by rfl) rfl (by omega) (by decide) rfl w.heap.size w HBw.out HBw.out.size hG ?_; intro G' cap' w3 hr3 hb3 hG3 hk3; obtain ⟨hrp3, hne3⟩ := hk3 _ _ _ _ HRP2.out hne; have HR3 := Lib.hid hr3; have HB3 := Lib.hid hb3; have HRP3 := Lib.hid hrp3; clear hr3 hb3 hrp3 hk3))
          go_roundw
          case rel => exact ⟨k + 1, G', cap', by omega, by go_num, rfl, HKK.out, by rw [HNV.out]; exact HR3.out, HRP3.out, HB3.out, hG3, hne3⟩
          case measure => simp [intOf] <;> omega
      · obtain rfl : k = n := by omega
        have HYY : Hid (rl0 s.data.toList = some (nums ps)) := Lib.hid (HOK.out (by rw [HLEN.out]; exact HK.out))
        have HRn : Hid (Row wr G 2 cap ((nums ps).map (Value.int .i64))) := Lib.hid (by have := HR.out; rw [← HLEN.out, List.take_length] at this; exact this)
        go_wp2
        go_ret2
        exact RL.yes HYY.out (by rw [nums_len]; exact HLEN.out) HRn.out hG HB.out


set_option maxHeartbeats 1000000 in
set_option maxRecDepth 100000 in
theorem specReadList_any (s : ByteArray) (w : World) (hs : s.size ≤ 1048576) : Calls Tryd.prog 18 #[.string s] w (RL w (rl s.data.toList)) := by
  obtain ⟨o, ho⟩ : ∃ o, rl s.data.toList = o := ⟨_, rfl⟩
  have HO := Lib.hid ho
  rw [ho]; clear ho
  go_enter Tryd.func18, Tryd.ntmps18
  go_wp2_with fail
  go_at_call 44
  refine (l01Numbers_any s _ hs).mono ?_
  rw [HO.out]
  rintro e w1 (⟨rfl, rfl, hb⟩ | ⟨vs, n, G, cap, rfl, hn, rfl, hr, hG, hb⟩)
  · have HB := Lib.hid hb; clear hb
    go_wp2
    go_ret2
    exact RL.no rfl HB.out
  · have HB := Lib.hid hb; have HN := Lib.hid hn; have HR := Lib.hid hr; clear hb hn hr
    go_wp2
    go_ret2
    exact RL.yes rfl HN.out HR.out hG HB.out

set_option maxHeartbeats 1000000 in
set_option maxRecDepth 100000 in
theorem implReadList_any (s : ByteArray) (w : World) (hs : s.size ≤ 1048576) (hp : Pow w) (hE : Errs w) (hM : MaxL w) : Calls Tryd.prog 19 #[.string s] w (RL w (rl s.data.toList)) := by
  have HP := Lib.hid hp; have HE := Lib.hid hE; have HM := Lib.hid hM
  clear hp hE hM
  have h0 := rl_of0 s.data.toList
  obtain ⟨o, ho⟩ : ∃ o, rl0 s.data.toList = o := ⟨_, rfl⟩
  rw [ho] at h0
  have HO := Lib.hid ho; have H0 := Lib.hid h0
  clear ho h0
  go_enter Tryd.func19, Tryd.ntmps19
  go_wp2_with fail
  go_at_call 45
  refine (readList_any s _ hs HP.out HE.out HM.out).mono ?_
  rw [HO.out]
  rintro e w1 (⟨rfl, rfl, hb⟩ | ⟨vs, n, G, cap, rfl, hn, rfl, hr, hG, hb⟩)
  · have HB := Lib.hid hb; clear hb
    go_wp2
    go_ret2
    exact RL.no H0.out HB.out
  · have HB := Lib.hid hb; have HN := Lib.hid hn; have HR := Lib.hid hr
    have H1 := H0.out
    simp only [hn] at H1
    by_cases h64 : n ≤ 64
    · rw [if_pos h64] at H1
      have H2 := Lib.hid H1
      clear hb hn hr H1
      go_wp2
      go_ret2
      exact RL.yes H2.out HN.out HR.out hG HB.out
    · rw [if_neg h64] at H1
      have H2 := Lib.hid H1
      clear hb hn hr H1
      go_wp2
      go_ret2
      exact RL.no H2.out HB.out

end Go.Proofs.YtjlbjlcficbdlaaDoor
