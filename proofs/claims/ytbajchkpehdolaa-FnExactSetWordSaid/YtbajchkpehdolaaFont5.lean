/- Contracts: a word set in a font, by the reference. -/
import Derived.Test.YtbajchkpehdolaaFont4
namespace Go.Proofs.Ytbajchkpehdolaa
open Go Go.Bm Go.Proofs
set_option linter.all false

/-- What a code under way and the codes behind it make. -/
def setL (ps : List Pair) : Int → List Int → List Piece
  | now, [] => [⟨now, 0⟩]
  | now, c :: cs => match findP ps now c with
    | some p => if p.lig = -1 then ⟨now, 0⟩ :: ((if p.kern = 0 then [] else [⟨-1, p.kern⟩]) ++ setL ps c cs) else setL ps p.lig cs
    | none => ⟨now, 0⟩ :: setL ps c cs
def setC (ps : List Pair) : List Int → List Piece
  | [] => []
  | c :: cs => setL ps c cs
def wordL (gs : List Glyph) (ps : List Pair) (w : List Int) : List Piece := setC ps (w.filter (hasG gs))
def setW (f : Font) (w : List Int) : List Piece := if fontB f = true ∧ w.length ≤ 1000 then wordL f.glyphs f.pairs w else []
/-- What is under way (-1: nothing yet), and what follows. -/
def restL (gs : List Glyph) (ps : List Pair) (now : Int) (w : List Int) : List Piece := if now < 0 then wordL gs ps w else setL ps now (w.filter (hasG gs))
theorem restL_no {gs : List Glyph} {ps : List Pair} {now c : Int} {w : List Int} (h : hasG gs c = false) : restL gs ps now (c :: w) = restL gs ps now w := by
  simp [restL, wordL, h]
theorem restL_first {gs : List Glyph} {ps : List Pair} {now c : Int} {w : List Int} (h : hasG gs c = true) (hn : now < 0) (hc : 0 ≤ c) : restL gs ps now (c :: w) = restL gs ps c w := by
  simp [restL, wordL, h, hn, setC, show ¬ c < 0 by omega]
theorem restL_lig {gs : List Glyph} {ps : List Pair} {now c : Int} {w : List Int} {p : Pair} (h : hasG gs c = true) (hn : ¬ now < 0) (hp : findP ps now c = some p) (hl : ¬ p.lig < 0) : restL gs ps now (c :: w) = restL gs ps p.lig w := by
  have : ¬ p.lig = -1 := by omega
  simp [restL, h, hn, hl, setL, hp, this]
theorem restL_kern {gs : List Glyph} {ps : List Pair} {now c : Int} {w : List Int} {p : Pair} (h : hasG gs c = true) (hn : ¬ now < 0) (hc : 0 ≤ c) (hp : findP ps now c = some p) (hl : p.lig = -1) : restL gs ps now (c :: w) = ⟨now, 0⟩ :: ((if p.kern = 0 then [] else [⟨-1, p.kern⟩]) ++ restL gs ps c w) := by
  simp [restL, h, hn, hl, setL, hp, show ¬ c < 0 by omega]
theorem restL_none {gs : List Glyph} {ps : List Pair} {now c : Int} {w : List Int} (h : hasG gs c = true) (hn : ¬ now < 0) (hc : 0 ≤ c) (hp : findP ps now c = none) : restL gs ps now (c :: w) = ⟨now, 0⟩ :: restL gs ps c w := by
  simp [restL, h, hn, setL, hp, show ¬ c < 0 by omega]
theorem findP_mem {ps : List Pair} {a b : Int} {p : Pair} (h : findP ps a b = some p) : p ∈ ps := List.mem_of_find?_eq_some h
theorem pair_lig {gs : List Glyph} {ps : List Pair} (hg : glyphsB gs = true) (h : pairsB gs ps = true) {p : Pair} (hp : p ∈ ps) : p.lig = -1 ∨ 0 ≤ p.lig := by
  obtain ⟨i, hi, rfl⟩ := List.getElem_of_mem hp
  simp only [pairsB, List.all_eq_true] at h
  have := h i (List.mem_range.2 hi)
  rw [← nth_eq hi]
  by_cases e : (nth ps i).lig = -1
  · exact .inl e
  · refine .inr ?_
    simp [pairAt, e] at this
    have hc := this.2.2
    rw [hasG_mem] at hc
    simp [codes] at hc
    obtain ⟨g, hm, e2⟩ := hc
    obtain ⟨j, hj, rfl⟩ := List.getElem_of_mem hm
    have ga := glyphs_at hg hj
    simp [glyphAt] at ga
    rw [nth_eq hj] at ga
    omega
theorem litP (c k : Int) (h : AH) : bsliceFA 1 2 [.int .i64 0, .int .i64 0] [(0, .agg [.int .i64 c, .int .i64 k])] h = some (.fs (some 1) [[.int .i64 c, .int .i64 k]], h) :=
  Piece.ok.bsliceF1 _ rfl ⟨c, k⟩ h
theorem litP0 (h : AH) : bsliceFA 0 2 [.int .i64 0, .int .i64 0] [] h = some (.fs (some 0) [], h) := rfl
set_option maxRecDepth 100000 in
set_option maxHeartbeats 1000000 in
theorem l6Set_ok (nm : ByteArray) (gs : List Glyph) (ps : List Pair) (a b c d e q r : Int) (w : List Int) (hb : gs.length ≤ 1048576) (hb2 : ps.length ≤ 1048576) (hw : w.length ≤ 1048576) (hg : glyphsB gs = true) (hp : pairsB gs ps = true) (hw0 : ∀ x ∈ w, 0 ≤ x ∧ x ≤ 255) (cp : Option Nat) (h : AH) (R : AV → AH → Prop)
    (hR : ∀ h' v, Own h 2 Piece.enc h' v (wordL gs ps w) → R v h') : CA 31 [.agg (fcells nm gs ps a b c d e q r), .fs cp (w.map (encI .u8))] h R := by
  refine (ca_iff (af := ac31) rfl).2 ?_
  have gn : ∀ x, hasG gs x = false → glyphI gs x < 0 := fun x e => (glyphI_lt hg x).2 e
  have gy : ∀ x, hasG gs x = true → ¬ glyphI gs x < 0 := fun x e e2 => by rw [(glyphI_lt hg x).1 e2] at e; cases e
  have gl := fun x => l6Glyph_iff nm gs ps a b c d e q r x hb
  have pr := fun x y => l6Pair_iff nm gs ps a b c d e q r x y hb2
  simp only [fcells] at gl pr
  simp [ac31, litP0]
  refine awp_loop2 caM (fun n s h' => ∃ (i : Nat) (now : Int) (v : AV) (out : List Piece), n = w.length - i ∧ i ≤ w.length ∧ (s 1 = .fs cp (w.map (encI .u8)) ∧ s 5 = v ∧ s 6 = .int .i64 now ∧ s 7 = .int .i64 i ∧ s 100002 = .agg (fcells nm gs ps a b c d e q r)) ∧ Own h 2 Piece.enc h' v out ∧ out.length ≤ 2 * i ∧ out ++ restL gs ps now (w.drop i) = wordL gs ps w) ?_ (n := w.length) ⟨0, -1, .fs (some 0) [], [], by simp, by simp, by simp, Own.lit0 Piece.ok.toEncOk (AH.le_refl h), by simp, by simp [restL]⟩
  rintro n s h' ⟨i, now, v, out, rfl, hi, ⟨s1, s5, s6, s7, sb⟩, O, ho, hout⟩ K hK hE hQ
  simp only [fcells] at sb
  simp [s1, s5, s6, s7, sb]
  by_cases hlt : i < w.length
  · have w1 : IntKind.wrap .i64 ((i : Int) + 1) = (i : Int) + 1 := wrap_i64 (by omega) (by omega)
    have a1 := fun k => (encI_ok .u8).toEncOk.iaddr (by omega) cp w k (i : Int) h' (by omega) (by omega)
    simp only [Int.toNat_natCast] at a1
    have hx := hw0 _ (nth_mem hlt)
    have wc : IntKind.wrap .i64 (nth w i) = nth w i := wrap_i64 (by omega) (by omega)
    have hd : w.drop i = nth w i :: w.drop (i + 1) := by rw [nth_eq hlt]; exact List.drop_eq_getElem_cons hlt
    rw [hd] at hout
    have next : ∀ (s' : S) (h2 : AH) (now2 : Int) (v2 : AV) (out2 : List Piece), Own h 2 Piece.enc h2 v2 out2 → out2.length ≤ 2 * (i + 1) → out2 ++ restL gs ps now2 (w.drop (i + 1)) = wordL gs ps w → s' 1 = s 1 → s' 5 = v2 → s' 6 = .int .i64 now2 → s' 7 = .int .i64 ((i : Int) + 1) → s' 100002 = s 100002 → K .normal s' h2 := fun s' h2 now2 v2 out2 O2 l2 e2 t1 t5 t6 t7 tb =>
      hK (w.length - (i + 1)) _ _ (by omega) ⟨i + 1, now2, v2, out2, rfl, by omega, ⟨t1.trans s1, t5, t6, by simpa using t7, tb.trans (by simpa using sb)⟩, O2, l2, e2⟩
    generalize nth w i = x at *
    simp [hlt, s1, s5, s6, s7, sb, a1, wc, gl]
    cases hx1 : hasG gs x with
    | false =>
      simp [gn _ hx1, s7, w1]
      exact next _ _ now v out O (by omega) (by rw [← hout, restL_no hx1]) (by simp) (by simp [s5]) (by simp [s6]) (by simp) (by simp)
    | true =>
    by_cases hn : now < 0
    · simp [gy _ hx1, hn, s6, s7, w1]
      exact next _ _ x v out O (by omega) (by rw [← hout, restL_first hx1 hn hx.1]) (by simp) (by simp [s5]) (by simp) (by simp) (by simp)
    obtain ⟨v2, h2, ea, O2, _⟩ := O.append1 (some 1) ⟨now, 0⟩ _ rfl 16 (by omega) (by omega)
    simp only [Piece.enc] at ea
    cases hf : findP ps now x with
    | none =>
      simp [gy _ hx1, hn, s5, s6, s7, sb, pr, hf, litP, ea, w1]
      exact next _ _ x v2 _ O2 (by simp; omega) (by rw [List.append_assoc, ← hout, restL_none hx1 hn hx.1 hf]; rfl) (by simp) (by simp) (by simp) (by simp) (by simp)
    | some p =>
      rcases pair_lig hg hp (findP_mem hf) with hl | hl
      · by_cases hk : p.kern = 0
        · simp [gy _ hx1, hn, s5, s6, s7, sb, pr, hf, hl, hk, litP, ea, w1]
          exact next _ _ x v2 _ O2 (by simp; omega) (by rw [List.append_assoc, ← hout, restL_kern hx1 hn hx.1 hf hl]; simp [hk]) (by simp) (by simp) (by simp) (by simp) (by simp)
        · obtain ⟨v3, h3, eb, O3, _⟩ := O2.append1 (some 1) ⟨-1, p.kern⟩ _ rfl 16 (by simp; omega) (by simp; omega)
          simp only [Piece.enc] at eb
          simp [gy _ hx1, hn, s5, s6, s7, sb, pr, hf, hl, hk, litP, ea, eb, w1]
          exact next _ _ x v3 _ O3 (by simp; omega) (by rw [← hout, restL_kern hx1 hn hx.1 hf hl]; simp [hk]) (by simp) (by simp) (by simp) (by simp) (by simp)
      · have hl' : ¬ p.lig < 0 := by omega
        simp [gy _ hx1, hn, s5, s6, s7, sb, pr, hf, hl, hl', w1]
        exact next _ _ p.lig v out O (by omega) (by rw [← hout, restL_lig hx1 hn hf hl']) (by simp) (by simp [s5]) (by simp) (by simp) (by simp)
  · obtain rfl : i = w.length := by omega
    rw [List.drop_length] at hout
    by_cases hn : now < 0
    · simp [hE, hlt, s5, s6, hn, show ¬ 0 ≤ now by omega]
      refine hR _ _ ?_
      rw [← hout]; simpa [restL, hn, wordL, setC] using O
    · obtain ⟨v2, h2, ea, O2, _⟩ := O.append1 (some 1) ⟨now, 0⟩ _ rfl 16 (by omega) (by omega)
      simp only [Piece.enc] at ea
      simp [hE, hlt, s5, s6, hn, show 0 ≤ now by omega, litP, ea]
      refine hR _ _ ?_
      rw [← hout]; simpa [restL, hn, setL] using O2
theorem l6Set_iff (nm : ByteArray) (gs : List Glyph) (ps : List Pair) (a b c d e q r : Int) (w : List Int) (hb : gs.length ≤ 1048576) (hb2 : ps.length ≤ 1048576) (hw : w.length ≤ 1048576) (hg : glyphsB gs = true) (hp : pairsB gs ps = true) (hw0 : ∀ x ∈ w, 0 ≤ x ∧ x ≤ 255) (cp : Option Nat) (h : AH) (R : AV → AH → Prop) :
    acallM CA .frz 31 [.agg (fcells nm gs ps a b c d e q r), .fs cp (w.map (encI .u8))] h R ↔ R (.fs none ((wordL gs ps w).map Piece.enc)) h :=
  own_frzO Piece.ok fun R hR => l6Set_ok nm gs ps a b c d e q r w hb hb2 hw hg hp hw0 cp h R hR
set_option maxRecDepth 100000 in
theorem specSetWord_iff (nm : ByteArray) (gs : List Glyph) (ps : List Pair) (a b c d e q r : Int) (w : List Int) (hb : gs.length ≤ 1048576) (hb2 : ps.length ≤ 1048576) (hb3 : nm.size ≤ 1048576) (hw : w.length ≤ 1048576) (hw0 : ∀ x ∈ w, 0 ≤ x ∧ x ≤ 255) (cp : Option Nat) (h : AH) (R : AV → AH → Prop) :
    acallM CA .frz 13 [.agg (fcells nm gs ps a b c d e q r), .fs cp (w.map (encI .u8))] h R ↔ R (.fs none ((setW ⟨nm, gs, ps, ⟨a, b, c, d, e⟩, q, r⟩ w).map Piece.enc)) h := by
  refine ca_frz (af := ac13) rfl ?_
  have fo := specFontOk_iff nm gs ps a b c d e q r hb hb2 hb3
  simp only [fcells] at fo
  simp [ac13, fo, setW]
  cases hf : fontB ⟨nm, gs, ps, ⟨a, b, c, d, e⟩, q, r⟩ with
  | false => simp [litP0]
  | true =>
  by_cases hl : (1000 : Int) < w.length
  · simp [hl, litP0, show ¬ w.length ≤ 1000 by omega]
  · rw [fontB_eq] at hf
    simp only [Bool.and_eq_true] at hf
    have st := l6Set_iff nm gs ps a b c d e q r w hb hb2 hw hf.1.2 hf.2 hw0 cp
    simp only [fcells] at st
    simp [hl, st, show w.length ≤ 1000 by omega]
end Go.Proofs.Ytbajchkpehdolaa
