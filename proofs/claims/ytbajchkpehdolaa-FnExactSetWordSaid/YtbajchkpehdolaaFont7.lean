/- Contracts: the size of a word set in a font; the law of it. -/
import Derived.Test.YtbajchkpehdolaaFont6
import Derived.Test.YtbajchkpehdolaaMk
namespace Go.Proofs.Ytbajchkpehdolaa
open Go Go.Bm Go.Proofs
set_option linter.all false

/-- Each piece is a glyph of the font, or a kern. -/
def PcOk (gs : List Glyph) (l : List Piece) : Prop := ∀ p ∈ l, p.code < 0 ∨ hasG gs p.code = true
theorem setL_ok {gs : List Glyph} {ps : List Pair} (h : pairsB gs ps = true) : ∀ (cs : List Int) (now : Int), hasG gs now = true → (∀ c ∈ cs, hasG gs c = true) → PcOk gs (setL ps now cs)
  | [], now, hn, _ => fun p hp => by
    simp [setL] at hp
    subst hp
    exact .inr hn
  | c :: cs, now, hn, hc => by
    have ih := fun k hk => setL_ok h cs k hk fun x hx => hc x (List.mem_cons_of_mem _ hx)
    have h0 := hc c (by simp)
    unfold setL
    cases hf : findP ps now c with
    | none =>
      intro p hp
      rcases List.mem_cons.1 hp with rfl | hp
      · exact .inr hn
      · exact ih c h0 p hp
    | some q =>
      simp only
      split
      · intro p hp
        rcases List.mem_cons.1 hp with rfl | hp
        · exact .inr hn
        · rcases List.mem_append.1 hp with hp | hp
          · split at hp
            · cases hp
            · have : p = ⟨-1, q.kern⟩ := by simpa using hp
              subst this
              exact .inl (by show (-1 : Int) < 0; omega)
          · exact ih c h0 p hp
      · rename_i hl
        refine ih q.lig ?_
        obtain ⟨i, hi, e⟩ := List.getElem_of_mem (findP_mem hf)
        simp only [pairsB, List.all_eq_true] at h
        have := h i (List.mem_range.2 hi)
        rw [← nth_eq hi] at e
        rw [pairAt, e] at this
        simp [hl] at this
        exact this.2.2
theorem wordL_ok {gs : List Glyph} {ps : List Pair} (h : pairsB gs ps = true) (w : List Int) : PcOk gs (wordL gs ps w) := by
  have ha : ∀ c ∈ w.filter (hasG gs), hasG gs c = true := fun c hc => (List.mem_filter.1 hc).2
  unfold wordL
  cases hf : w.filter (hasG gs) with
  | nil => intro p hp; cases hp
  | cons c cs =>
    rw [hf] at ha
    exact setL_ok h cs c (ha c (by simp)) fun x hx => ha x (List.mem_cons_of_mem _ hx)
theorem setL_len (ps : List Pair) : ∀ (cs : List Int) (now : Int), (setL ps now cs).length ≤ 2 * cs.length + 1
  | [], now => by simp [setL]
  | c :: cs, now => by
    have ih := setL_len ps cs
    unfold setL
    cases findP ps now c with
    | none => have := ih c; simp; omega
    | some q =>
      simp only
      split
      · have := ih c
        split <;> simp <;> omega
      · have := ih q.lig; simp; omega
theorem setW_ok {f : Font} {w : List Int} : (setW f w).length ≤ 2001 ∧ (setW f w ≠ [] → glyphsB f.glyphs = true ∧ PcOk f.glyphs (setW f w)) := by
  unfold setW
  split
  · rename_i h
    have hf := h.1
    rw [show f = ⟨f.name, f.glyphs, f.pairs, ⟨f.space.size, f.space.plus, f.space.plusOrder, f.space.minus, f.space.minusOrder⟩, f.quad, f.rise⟩ from rfl, fontB_eq] at hf
    simp only [Bool.and_eq_true] at hf
    refine ⟨?_, fun _ => ⟨hf.1.2, wordL_ok hf.2 w⟩⟩
    have hfl : (w.filter (hasG f.glyphs)).length ≤ w.length := List.length_filter_le _ _
    unfold wordL
    cases hc : w.filter (hasG f.glyphs) with
    | nil => simp [setC]
    | cons c cs =>
      rw [hc] at hfl
      have := setL_len f.pairs cs c
      simp only [List.length_cons] at hfl
      simp only [setC]
      omega
  · simp
def szStep (gs : List Glyph) (a : Size) (p : Piece) : Size := if p.code < 0 then ⟨IntKind.wrap .i64 (a.width + p.kern), a.height, a.depth⟩ else ⟨IntKind.wrap .i64 (a.width + (firstG gs p.code).width), if a.height < (firstG gs p.code).height then (firstG gs p.code).height else a.height, if a.depth < (firstG gs p.code).depth then (firstG gs p.code).depth else a.depth⟩
def sizeW (f : Font) (w : List Int) : Size := (setW f w).foldl (szStep f.glyphs) ⟨0, 0, 0⟩
set_option maxRecDepth 100000 in
theorem specWordSize_iff (nm : ByteArray) (gs : List Glyph) (ps : List Pair) (a b c d e q r : Int) (w : List Int) (hb : gs.length ≤ 1048576) (hb2 : ps.length ≤ 1048576) (hb3 : nm.size ≤ 1048576) (hw : w.length ≤ 1048576) (hw0 : ∀ x ∈ w, 0 ≤ x ∧ x ≤ 255) (cp : Option Nat) (h : AH) (R : AV → AH → Prop) :
    CA 6 [.agg (fcells nm gs ps a b c d e q r), .fs cp (w.map (encI .u8))] h R ↔ R (.agg (sizeW ⟨nm, gs, ps, ⟨a, b, c, d, e⟩, q, r⟩ w).enc) h := by
  refine ca_pure (af := ac6) rfl ?_
  have sw := specSetWord_iff nm gs ps a b c d e q r w hb hb2 hb3 hw hw0 cp
  have gl := fun x => l6Glyph_iff nm gs ps a b c d e q r x hb
  simp only [fcells] at sw gl
  simp [ac6, sw]
  obtain ⟨hl, hok⟩ := setW_ok (f := ⟨nm, gs, ps, ⟨a, b, c, d, e⟩, q, r⟩) (w := w)
  simp only [sizeW]
  generalize setW ⟨nm, gs, ps, ⟨a, b, c, d, e⟩, q, r⟩ w = l at *
  simp only at hok
  refine awp_loop2 caM (fun n s h' => h' = h ∧ ∃ (i : Nat) (z : Size), n = l.length - i ∧ i ≤ l.length ∧ (s 5 = .fs none (l.map Piece.enc) ∧ s 7 = .int .i64 i ∧ s 100002 = .agg (fcells nm gs ps a b c d e q r) ∧ s 100004 = .agg [.int .i64 0, .int .i64 0, .int .i64 0] ∧ s 100006 = .agg z.enc) ∧ (l.drop i).foldl (szStep gs) z = l.foldl (szStep gs) ⟨0, 0, 0⟩) ?_ (n := l.length) ⟨rfl, 0, ⟨0, 0, 0⟩, by simp, by simp, by simp, by simp⟩
  rintro n s h' ⟨rfl, i, z, rfl, hi, ⟨s5, s7, sb, sc, sd⟩, hz⟩ K hK hE hQ
  simp only [fcells, Size.enc] at sb sd
  simp [s5, s7]
  by_cases hlt : i < l.length
  · have w1 : IntKind.wrap .i64 ((i : Int) + 1) = (i : Int) + 1 := wrap_i64 (by omega) (by omega)
    have a1 := fun k => Piece.ok.toEncOk.iaddr (by omega) none l k (i : Int) h' (by omega) (by omega)
    simp only [Int.toNat_natCast] at a1
    have hd : l.drop i = nth l i :: l.drop (i + 1) := by rw [nth_eq hlt]; exact List.drop_eq_getElem_cons hlt
    rw [hd, List.foldl_cons] at hz
    obtain ⟨hg, hpc⟩ := hok (fun e => by rw [e] at hlt; simp at hlt)
    have hx := hpc _ (nth_mem hlt)
    have next : ∀ (s' : S) (z2 : Size), z2 = szStep gs z (nth l i) → s' 5 = s 5 → s' 7 = .int .i64 ((i : Int) + 1) → s' 100002 = s 100002 → s' 100004 = s 100004 → s' 100006 = .agg z2.enc → K .normal s' h' := fun s' z2 e t5 t7 tb tc td =>
      hK (l.length - (i + 1)) _ _ (by omega) ⟨rfl, i + 1, z2, rfl, by omega, ⟨t5.trans s5, by simpa using t7, tb.trans sb, tc.trans sc, td⟩, by rw [e]; exact hz⟩
    by_cases hc : (nth l i).code < 0
    · simp [hlt, s5, s7, sb, sd, a1, hc, w1]
      exact next _ ⟨IntKind.wrap .i64 (z.width + (nth l i).kern), z.height, z.depth⟩ (by simp [szStep, hc]) (by simp) (by simp) (by simp) (by simp) (by simp)
    · have hx1 : hasG gs (nth l i).code = true := hx.resolve_left hc
      obtain ⟨g0, g1, g2⟩ := glyphI_at hg hx1
      have a2 := fun k => Glyph.ok.toEncOk.iaddr (by omega) none gs k (glyphI gs (nth l i).code) h' g0 g1
      rw [g2] at a2
      have ss : szStep gs z (nth l i) = ⟨IntKind.wrap .i64 (z.width + (firstG gs (nth l i).code).width), if z.height < (firstG gs (nth l i).code).height then (firstG gs (nth l i).code).height else z.height, if z.depth < (firstG gs (nth l i).code).depth then (firstG gs (nth l i).code).depth else z.depth⟩ := by simp [szStep, hc]
      generalize firstG gs (nth l i).code = g at *
      by_cases c1 : z.height < g.height
      · by_cases c2 : z.depth < g.depth
        · simp [hlt, s5, s7, sb, sd, a1, a2, gl, hc, w1, c1, c2]
          exact next _ ⟨IntKind.wrap .i64 (z.width + g.width), g.height, g.depth⟩ (by simp [ss, c1, c2]) (by simp) (by simp) (by simp) (by simp) (by simp)
        · simp [hlt, s5, s7, sb, sd, a1, a2, gl, hc, w1, c1, c2]
          exact next _ ⟨IntKind.wrap .i64 (z.width + g.width), g.height, z.depth⟩ (by simp [ss, c1, c2]) (by simp) (by simp) (by simp) (by simp) (by simp)
      · by_cases c2 : z.depth < g.depth
        · simp [hlt, s5, s7, sb, sd, a1, a2, gl, hc, w1, c1, c2]
          exact next _ ⟨IntKind.wrap .i64 (z.width + g.width), z.height, g.depth⟩ (by simp [ss, c1, c2]) (by simp) (by simp) (by simp) (by simp) (by simp)
        · simp [hlt, s5, s7, sb, sd, a1, a2, gl, hc, w1, c1, c2]
          exact next _ ⟨IntKind.wrap .i64 (z.width + g.width), z.height, z.depth⟩ (by simp [ss, c1, c2]) (by simp) (by simp) (by simp) (by simp) (by simp)
  · obtain rfl : i = l.length := by omega
    rw [List.drop_length, List.foldl_nil] at hz
    simp [hE, sc, sd, ← hz]
set_option maxRecDepth 100000 in
theorem WordSize_iff (nm : ByteArray) (gs : List Glyph) (ps : List Pair) (a b c d e q r : Int) (w : List Int) (hb : gs.length ≤ 1048576) (hb2 : ps.length ≤ 1048576) (hb3 : nm.size ≤ 1048576) (hw : w.length ≤ 1048576) (hw0 : ∀ x ∈ w, 0 ≤ x ∧ x ≤ 255) (cp : Option Nat) (h : AH) (R : AV → AH → Prop) :
    CA 9 [.agg (fcells nm gs ps a b c d e q r), .fs cp (w.map (encI .u8))] h R ↔ R (.agg (sizeW ⟨nm, gs, ps, ⟨a, b, c, d, e⟩, q, r⟩ w).enc) h := by
  refine ca_pure (af := ac9) rfl ?_
  have sw : ∀ (h : AH) R, acallM CA .frz 14 [.agg (fcells nm gs ps a b c d e q r), .fs cp (w.map (encI .u8))] h R ↔ R (.fs none ((setW ⟨nm, gs, ps, ⟨a, b, c, d, e⟩, q, r⟩ w).map Piece.enc)) h := fun h R => own_frzO Piece.ok fun R hR => SetWord_ok nm gs ps a b c d e q r w hb hb2 hb3 hw hw0 cp h R hR
  have gl := fun x => glyph_iff nm gs ps a b c d e q r x hb
  simp only [fcells] at sw gl
  simp [ac9, sw]
  obtain ⟨hl, hok⟩ := setW_ok (f := ⟨nm, gs, ps, ⟨a, b, c, d, e⟩, q, r⟩) (w := w)
  simp only [sizeW]
  generalize setW ⟨nm, gs, ps, ⟨a, b, c, d, e⟩, q, r⟩ w = l at *
  simp only at hok
  refine awp_loop2 caM (fun n s h' => h' = h ∧ ∃ (i : Nat) (z : Size), n = l.length - i ∧ i ≤ l.length ∧ (s 12 = .fs none (l.map Piece.enc) ∧ s 13 = .int .i64 l.length ∧ s 14 = .int .i64 i ∧ s 100002 = .agg (fcells nm gs ps a b c d e q r) ∧ s 100004 = .agg [.int .i64 0, .int .i64 0, .int .i64 0] ∧ s 100005 = .agg z.enc) ∧ (l.drop i).foldl (szStep gs) z = l.foldl (szStep gs) ⟨0, 0, 0⟩) ?_ (n := l.length) ⟨rfl, 0, ⟨0, 0, 0⟩, by simp, by simp, by simp, by simp⟩
  rintro n s h' ⟨rfl, i, z, rfl, hi, ⟨s12, s13, s14, sb, sc, sd⟩, hz⟩ K hK hE hQ
  simp only [fcells, Size.enc] at sb sd
  simp [s12, s13, s14]
  by_cases hlt : i < l.length
  · have w1 : IntKind.wrap .i64 ((i : Int) + 1) = (i : Int) + 1 := wrap_i64 (by omega) (by omega)
    have a1 := fun k => Piece.ok.toEncOk.iaddr (by omega) none l k (i : Int) h' (by omega) (by omega)
    simp only [Int.toNat_natCast] at a1
    have hd : l.drop i = nth l i :: l.drop (i + 1) := by rw [nth_eq hlt]; exact List.drop_eq_getElem_cons hlt
    rw [hd, List.foldl_cons] at hz
    obtain ⟨hg, hpc⟩ := hok (fun e => by rw [e] at hlt; simp at hlt)
    have hx := hpc _ (nth_mem hlt)
    have next : ∀ (s' : S) (z2 : Size), z2 = szStep gs z (nth l i) → s' 12 = s 12 → s' 13 = s 13 → s' 14 = .int .i64 ((i : Int) + 1) → s' 100002 = s 100002 → s' 100004 = s 100004 → s' 100005 = .agg z2.enc → K .normal s' h' := fun s' z2 e t12 t13 t14 tb tc td =>
      hK (l.length - (i + 1)) _ _ (by omega) ⟨rfl, i + 1, z2, rfl, by omega, ⟨t12.trans s12, t13.trans s13, by simpa using t14, tb.trans sb, tc.trans sc, td⟩, by rw [e]; exact hz⟩
    by_cases hc : (nth l i).code < 0
    · simp [hlt, s12, s14, sb, sd, a1, hc, w1]
      exact next _ ⟨IntKind.wrap .i64 (z.width + (nth l i).kern), z.height, z.depth⟩ (by simp [szStep, hc]) (by simp) (by simp) (by simp) (by simp) (by simp) (by simp)
    · have hx1 : hasG gs (nth l i).code = true := hx.resolve_left hc
      have ss : szStep gs z (nth l i) = ⟨IntKind.wrap .i64 (z.width + (firstG gs (nth l i).code).width), if z.height < (firstG gs (nth l i).code).height then (firstG gs (nth l i).code).height else z.height, if z.depth < (firstG gs (nth l i).code).depth then (firstG gs (nth l i).code).depth else z.depth⟩ := by simp [szStep, hc]
      simp [hlt, s12, s14, sb, sd, a1, gl, hc, hx1, w1]
      generalize firstG gs (nth l i).code = g at *
      refine next _ ⟨IntKind.wrap .i64 (z.width + g.width), if z.height < g.height then g.height else z.height, if z.depth < g.depth then g.depth else z.depth⟩ ss.symm (by simp) (by simp) (by simp) (by simp) (by simp) ?_
      simp
  · obtain rfl : i = l.length := by omega
    rw [List.drop_length, List.foldl_nil] at hz
    simp [hE, sc, sd, ← hz]
theorem toBytes_iff (w : List Int) (hw : w.length ≤ 1048576) (cp : Option Nat) (h : AH) (R : AV → AH → Prop) : acallM CA .frz 8 [.fs cp (w.map (encI .u8))] h R ↔ R (.fs none (w.map (encI .u8))) h :=
  own_frz (d := 2) (by decide) fun R hR => toByteS_new 0 w hw h cp R fun h' y F N => hR h' y F N
set_option maxRecDepth 100000 in
theorem lawWordSize_ok (x : Font) (hx : x.Ok) (w : List Int) (hw : w.length ≤ maxLen ∧ ∀ z ∈ w, 0 ≤ z ∧ z ≤ 255) (h : AH) : CA 3 [.agg x.enc, .fs none (w.map (encI .u8))] h (fun v _ => v = .bool true) := by
  obtain ⟨nm, gs, ps, ⟨a, b, c, d, e⟩, q, r⟩ := x
  refine (ca_iff (af := ac3) rfl).2 ?_
  by_cases hts : (1048576 : Int) < w.length
  · simp [ac3, hts]
  have sz := szFont_iff' nm gs ps a b c d e q r hx
  simp [ac3, sz, szr_neg, hts]
  by_cases hW : (1048576 : Int) < Font.W ⟨nm, gs, ps, ⟨a, b, c, d, e⟩, q, r⟩
  · simp [hW]
  have hw1 : Font.W ⟨nm, gs, ps, ⟨a, b, c, d, e⟩, q, r⟩ ≤ 1048576 := by omega
  have hw2 := hw1
  simp only [Font.W] at hw2
  have spc := specWordSize_iff nm gs ps a b c d e q r w (by omega) (by omega) (by omega) (by omega) hw.2 none
  have imp := WordSize_iff nm gs ps a b c d e q r w (by omega) (by omega) (by omega) (by omega) hw.2 none
  have eqf := eqFont_iff' nm gs ps a b c d e q r nm gs ps a b c d e q r (Nat.le_trans hw1 (by decide))
  have eqb := fun h => eqByteS_iff w w (by omega) h none none
  have eqs := fun h R => eqSize_iff (sizeW ⟨nm, gs, ps, ⟨a, b, c, d, e⟩, q, r⟩ w) (sizeW ⟨nm, gs, ps, ⟨a, b, c, d, e⟩, q, r⟩ w) h R
  have tf := toFont_iff' nm gs ps a b c d e q r hw1
  have tb := fun h => toBytes_iff w (by omega) none h
  simp only [fcells, Size.enc] at spc imp eqs
  (iterate 4 ((try simp [hW, spc, imp, eqf, eqb, eqs, tf, tb]); (try simp (disch := omega) [hW, spc, imp, eqf, eqb, eqs, tf, tb])))
end Go.Proofs.Ytbajchkpehdolaa
