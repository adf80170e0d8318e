/- What the helpers of the laws tell. -/
import Derived.Test.YtbajchkpehdolaaTy
import Derived.Test.YtbajchkpehdolaaBc0
namespace Go.Proofs.Ytbajchkpehdolaa
open Go Go.Bm Go.Proofs
set_option linter.all false

def CA : AQ := ACalls ap noE
theorem ca_iff {f : FuncId} {af : AFunc} (hf : ap f = some af) {args : List AV} {h : AH} {R : AV → AH → Prop} : CA f args h R ↔ abody CA af args h R := acall_iff hf
@[congr] theorem ca_congr {f : FuncId} {a a' : List AV} {h h' : AH} {R : AV → AH → Prop} (ea : tick a = a') (eh : h = h') : CA f a h R = CA f a' h' R := by rw [← ea, eh]; rfl
theorem ca_pure {f : FuncId} {af : AFunc} (hf : ap f = some af) {args : List AV} {h : AH} {v : AV} {R : AV → AH → Prop} (hb : abody CA af args h (fun v' h' => v' = v ∧ h' = h)) : CA f args h R ↔ R v h := call_pure hf hb
theorem ca_frz {f : FuncId} {af : AFunc} (hf : ap f = some af) {args : List AV} {h : AH} {v : AV} {R : AV → AH → Prop} (hb : abody CA af args h (fun v' h' => h.le h' ∧ frzV h.next h' DF v' = some v)) : acallM CA .frz f args h R ↔ R v h := call_frz hf hb
theorem caM : CA.Mono := acalls_mono noE_mono

set_option maxRecDepth 100000 in
theorem toGlyph_iff' (a_code : Int) (a_width : Int) (a_height : Int) (a_depth : Int) (h : AH) (R : AV → AH → Prop) : CA 36 [.agg [.int .i64 a_code, .int .i64 a_width, .int .i64 a_height, .int .i64 a_depth]] h R ↔ R (.agg [.int .i64 a_code, .int .i64 a_width, .int .i64 a_height, .int .i64 a_depth]) h := by
  refine ca_pure (af := ac36) rfl ?_
  (iterate 9 ((try simp [ac36]); (try simp (disch := omega) [ac36])))
theorem toGlyph_iff (x : Glyph) (h : AH) (R : AV → AH → Prop) : CA 36 [.agg x.enc] h R ↔ R (.agg x.enc) h := toGlyph_iff' _ _ _ _ h R
set_option maxRecDepth 100000 in
theorem eqGlyph_iff' (a_code : Int) (a_width : Int) (a_height : Int) (a_depth : Int) (b_code : Int) (b_width : Int) (b_height : Int) (b_depth : Int) (h : AH) (R : AV → AH → Prop) : CA 38 [.agg [.int .i64 a_code, .int .i64 a_width, .int .i64 a_height, .int .i64 a_depth], .agg [.int .i64 b_code, .int .i64 b_width, .int .i64 b_height, .int .i64 b_depth]] h R ↔ R (.bool (decide ((⟨a_code, a_width, a_height, a_depth⟩ : Glyph) = ⟨b_code, b_width, b_height, b_depth⟩))) h := by
  refine ca_pure (af := ac38) rfl ?_
  (iterate 9 ((try simp [ac38, -Glyph.mk.injEq]); (try simp (disch := omega) [ac38, -Glyph.mk.injEq])))
  by_cases e_code : (a_code) = b_code
  case neg =>
    rw [decide_eq_false (fun q => e_code (congrArg Glyph.code q))]
    (iterate 4 ((try simp [e_code, -Glyph.mk.injEq]); (try simp (disch := omega) [e_code, -Glyph.mk.injEq])))
  cases e_code
  (iterate 4 ((try simp [-Glyph.mk.injEq]); (try simp (disch := omega) [-Glyph.mk.injEq])))
  by_cases e_width : (a_width) = b_width
  case neg =>
    rw [decide_eq_false (fun q => e_width (congrArg Glyph.width q))]
    (iterate 4 ((try simp [e_width, -Glyph.mk.injEq]); (try simp (disch := omega) [e_width, -Glyph.mk.injEq])))
  cases e_width
  (iterate 4 ((try simp [-Glyph.mk.injEq]); (try simp (disch := omega) [-Glyph.mk.injEq])))
  by_cases e_height : (a_height) = b_height
  case neg =>
    rw [decide_eq_false (fun q => e_height (congrArg Glyph.height q))]
    (iterate 4 ((try simp [e_height, -Glyph.mk.injEq]); (try simp (disch := omega) [e_height, -Glyph.mk.injEq])))
  cases e_height
  (iterate 4 ((try simp [-Glyph.mk.injEq]); (try simp (disch := omega) [-Glyph.mk.injEq])))
  by_cases e_depth : (a_depth) = b_depth
  case neg =>
    rw [decide_eq_false (fun q => e_depth (congrArg Glyph.depth q))]
    (iterate 4 ((try simp [e_depth, -Glyph.mk.injEq]); (try simp (disch := omega) [e_depth, -Glyph.mk.injEq])))
  cases e_depth
  (iterate 4 ((try simp [-Glyph.mk.injEq]); (try simp (disch := omega) [-Glyph.mk.injEq])))
theorem eqGlyph_iff (x y : Glyph) (h : AH) (R : AV → AH → Prop) : CA 38 [.agg x.enc, .agg y.enc] h R ↔ R (.bool (decide (x = y))) h := eqGlyph_iff' _ _ _ _ _ _ _ _ h R
set_option maxRecDepth 100000 in
theorem toPair_iff' (a_left : Int) (a_right : Int) (a_lig : Int) (a_kern : Int) (h : AH) (R : AV → AH → Prop) : CA 37 [.agg [.int .i64 a_left, .int .i64 a_right, .int .i64 a_lig, .int .i64 a_kern]] h R ↔ R (.agg [.int .i64 a_left, .int .i64 a_right, .int .i64 a_lig, .int .i64 a_kern]) h := by
  refine ca_pure (af := ac37) rfl ?_
  (iterate 9 ((try simp [ac37]); (try simp (disch := omega) [ac37])))
theorem toPair_iff (x : Pair) (h : AH) (R : AV → AH → Prop) : CA 37 [.agg x.enc] h R ↔ R (.agg x.enc) h := toPair_iff' _ _ _ _ h R
set_option maxRecDepth 100000 in
theorem eqPair_iff' (a_left : Int) (a_right : Int) (a_lig : Int) (a_kern : Int) (b_left : Int) (b_right : Int) (b_lig : Int) (b_kern : Int) (h : AH) (R : AV → AH → Prop) : CA 39 [.agg [.int .i64 a_left, .int .i64 a_right, .int .i64 a_lig, .int .i64 a_kern], .agg [.int .i64 b_left, .int .i64 b_right, .int .i64 b_lig, .int .i64 b_kern]] h R ↔ R (.bool (decide ((⟨a_left, a_right, a_lig, a_kern⟩ : Pair) = ⟨b_left, b_right, b_lig, b_kern⟩))) h := by
  refine ca_pure (af := ac39) rfl ?_
  (iterate 9 ((try simp [ac39, -Pair.mk.injEq]); (try simp (disch := omega) [ac39, -Pair.mk.injEq])))
  by_cases e_left : (a_left) = b_left
  case neg =>
    rw [decide_eq_false (fun q => e_left (congrArg Pair.left q))]
    (iterate 4 ((try simp [e_left, -Pair.mk.injEq]); (try simp (disch := omega) [e_left, -Pair.mk.injEq])))
  cases e_left
  (iterate 4 ((try simp [-Pair.mk.injEq]); (try simp (disch := omega) [-Pair.mk.injEq])))
  by_cases e_right : (a_right) = b_right
  case neg =>
    rw [decide_eq_false (fun q => e_right (congrArg Pair.right q))]
    (iterate 4 ((try simp [e_right, -Pair.mk.injEq]); (try simp (disch := omega) [e_right, -Pair.mk.injEq])))
  cases e_right
  (iterate 4 ((try simp [-Pair.mk.injEq]); (try simp (disch := omega) [-Pair.mk.injEq])))
  by_cases e_lig : (a_lig) = b_lig
  case neg =>
    rw [decide_eq_false (fun q => e_lig (congrArg Pair.lig q))]
    (iterate 4 ((try simp [e_lig, -Pair.mk.injEq]); (try simp (disch := omega) [e_lig, -Pair.mk.injEq])))
  cases e_lig
  (iterate 4 ((try simp [-Pair.mk.injEq]); (try simp (disch := omega) [-Pair.mk.injEq])))
  by_cases e_kern : (a_kern) = b_kern
  case neg =>
    rw [decide_eq_false (fun q => e_kern (congrArg Pair.kern q))]
    (iterate 4 ((try simp [e_kern, -Pair.mk.injEq]); (try simp (disch := omega) [e_kern, -Pair.mk.injEq])))
  cases e_kern
  (iterate 4 ((try simp [-Pair.mk.injEq]); (try simp (disch := omega) [-Pair.mk.injEq])))
theorem eqPair_iff (x y : Pair) (h : AH) (R : AV → AH → Prop) : CA 39 [.agg x.enc, .agg y.enc] h R ↔ R (.bool (decide (x = y))) h := eqPair_iff' _ _ _ _ _ _ _ _ h R
set_option maxRecDepth 100000 in
theorem toGlue_iff' (a_size : Int) (a_plus : Int) (a_plusOrder : Int) (a_minus : Int) (a_minusOrder : Int) (h : AH) (R : AV → AH → Prop) : CA 25 [.agg [.int .i64 a_size, .int .i64 a_plus, .int .i64 a_plusOrder, .int .i64 a_minus, .int .i64 a_minusOrder]] h R ↔ R (.agg [.int .i64 a_size, .int .i64 a_plus, .int .i64 a_plusOrder, .int .i64 a_minus, .int .i64 a_minusOrder]) h := by
  refine ca_pure (af := ac25) rfl ?_
  (iterate 9 ((try simp [ac25]); (try simp (disch := omega) [ac25])))
theorem toGlue_iff (x : Glue) (h : AH) (R : AV → AH → Prop) : CA 25 [.agg x.enc] h R ↔ R (.agg x.enc) h := toGlue_iff' _ _ _ _ _ h R
set_option maxRecDepth 100000 in
theorem eqGlue_iff' (a_size : Int) (a_plus : Int) (a_plusOrder : Int) (a_minus : Int) (a_minusOrder : Int) (b_size : Int) (b_plus : Int) (b_plusOrder : Int) (b_minus : Int) (b_minusOrder : Int) (h : AH) (R : AV → AH → Prop) : CA 29 [.agg [.int .i64 a_size, .int .i64 a_plus, .int .i64 a_plusOrder, .int .i64 a_minus, .int .i64 a_minusOrder], .agg [.int .i64 b_size, .int .i64 b_plus, .int .i64 b_plusOrder, .int .i64 b_minus, .int .i64 b_minusOrder]] h R ↔ R (.bool (decide ((⟨a_size, a_plus, a_plusOrder, a_minus, a_minusOrder⟩ : Glue) = ⟨b_size, b_plus, b_plusOrder, b_minus, b_minusOrder⟩))) h := by
  refine ca_pure (af := ac29) rfl ?_
  (iterate 9 ((try simp [ac29, -Glue.mk.injEq]); (try simp (disch := omega) [ac29, -Glue.mk.injEq])))
  by_cases e_size : (a_size) = b_size
  case neg =>
    rw [decide_eq_false (fun q => e_size (congrArg Glue.size q))]
    (iterate 4 ((try simp [e_size, -Glue.mk.injEq]); (try simp (disch := omega) [e_size, -Glue.mk.injEq])))
  cases e_size
  (iterate 4 ((try simp [-Glue.mk.injEq]); (try simp (disch := omega) [-Glue.mk.injEq])))
  by_cases e_plus : (a_plus) = b_plus
  case neg =>
    rw [decide_eq_false (fun q => e_plus (congrArg Glue.plus q))]
    (iterate 4 ((try simp [e_plus, -Glue.mk.injEq]); (try simp (disch := omega) [e_plus, -Glue.mk.injEq])))
  cases e_plus
  (iterate 4 ((try simp [-Glue.mk.injEq]); (try simp (disch := omega) [-Glue.mk.injEq])))
  by_cases e_plusOrder : (a_plusOrder) = b_plusOrder
  case neg =>
    rw [decide_eq_false (fun q => e_plusOrder (congrArg Glue.plusOrder q))]
    (iterate 4 ((try simp [e_plusOrder, -Glue.mk.injEq]); (try simp (disch := omega) [e_plusOrder, -Glue.mk.injEq])))
  cases e_plusOrder
  (iterate 4 ((try simp [-Glue.mk.injEq]); (try simp (disch := omega) [-Glue.mk.injEq])))
  by_cases e_minus : (a_minus) = b_minus
  case neg =>
    rw [decide_eq_false (fun q => e_minus (congrArg Glue.minus q))]
    (iterate 4 ((try simp [e_minus, -Glue.mk.injEq]); (try simp (disch := omega) [e_minus, -Glue.mk.injEq])))
  cases e_minus
  (iterate 4 ((try simp [-Glue.mk.injEq]); (try simp (disch := omega) [-Glue.mk.injEq])))
  by_cases e_minusOrder : (a_minusOrder) = b_minusOrder
  case neg =>
    rw [decide_eq_false (fun q => e_minusOrder (congrArg Glue.minusOrder q))]
    (iterate 4 ((try simp [e_minusOrder, -Glue.mk.injEq]); (try simp (disch := omega) [e_minusOrder, -Glue.mk.injEq])))
  cases e_minusOrder
  (iterate 4 ((try simp [-Glue.mk.injEq]); (try simp (disch := omega) [-Glue.mk.injEq])))
theorem eqGlue_iff (x y : Glue) (h : AH) (R : AV → AH → Prop) : CA 29 [.agg x.enc, .agg y.enc] h R ↔ R (.bool (decide (x = y))) h := eqGlue_iff' _ _ _ _ _ _ _ _ _ _ h R
theorem szGlyphS_iff (xs : List Glyph) (hxl : xs.length ≤ maxLen) (left : Int) (h0 : 0 ≤ left) (h1 : left ≤ 1048576) (h : AH) (c : Option Nat) (R : AV → AH → Prop) : CA 20 [.fs c (xs.map Glyph.enc), .int .i64 left] h R ↔ R (.int .i64 (szr left xs.length)) h :=
  call_pure (af := ac20) rfl (by have := tplSzI_ok (ap := ap) (rows := xs.map Glyph.enc) (by rw [List.length_map]; exact Nat.le_trans hxl (by decide)) h0 h1 h c; rw [List.length_map] at this; exact this)
theorem eqGlyphS_iff (xs ys : List Glyph) (hW : xs.length ≤ 67108864) (h : AH) (c d : Option Nat) (R : AV → AH → Prop) : CA 27 [.fs c (xs.map Glyph.enc), .fs d (ys.map Glyph.enc)] h R ↔ R (.bool (decide (xs = ys))) h :=
  call_pure (af := ac27) rfl (tplEq_ok (es := 4) (g := true) (f := 38) Glyph.ok.toEncOk (by omega) (.inl rfl) hW h (fun i hi hj R => eqGlyph_iff (nth xs i) (nth ys i) h R) c d)
theorem szPairS_iff (xs : List Pair) (hxl : xs.length ≤ maxLen) (left : Int) (h0 : 0 ≤ left) (h1 : left ≤ 1048576) (h : AH) (c : Option Nat) (R : AV → AH → Prop) : CA 21 [.fs c (xs.map Pair.enc), .int .i64 left] h R ↔ R (.int .i64 (szr left xs.length)) h :=
  call_pure (af := ac21) rfl (by have := tplSzI_ok (ap := ap) (rows := xs.map Pair.enc) (by rw [List.length_map]; exact Nat.le_trans hxl (by decide)) h0 h1 h c; rw [List.length_map] at this; exact this)
theorem eqPairS_iff (xs ys : List Pair) (hW : xs.length ≤ 67108864) (h : AH) (c d : Option Nat) (R : AV → AH → Prop) : CA 28 [.fs c (xs.map Pair.enc), .fs d (ys.map Pair.enc)] h R ↔ R (.bool (decide (xs = ys))) h :=
  call_pure (af := ac28) rfl (tplEq_ok (es := 4) (g := true) (f := 39) Pair.ok.toEncOk (by omega) (.inl rfl) hW h (fun i hi hj R => eqPair_iff (nth xs i) (nth ys i) h R) c d)
set_option maxRecDepth 100000 in
theorem szFont_iff' (a_name : ByteArray) (a_glyphs : List Glyph) (a_pairs : List Pair) (a_space_size : Int) (a_space_plus : Int) (a_space_plusOrder : Int) (a_space_minus : Int) (a_space_minusOrder : Int) (a_quad : Int) (a_rise : Int) (hx : Font.Ok ⟨a_name, a_glyphs, a_pairs, ⟨a_space_size, a_space_plus, a_space_plusOrder, a_space_minus, a_space_minusOrder⟩, a_quad, a_rise⟩) (left : Int) (h0 : 0 ≤ left) (h1 : left ≤ 1048576) (h : AH) (R : AV → AH → Prop) : CA 5 [.agg [.str a_name, .fs none (a_glyphs.map Glyph.enc), .fs none (a_pairs.map Pair.enc), .int .i64 a_space_size, .int .i64 a_space_plus, .int .i64 a_space_plusOrder, .int .i64 a_space_minus, .int .i64 a_space_minusOrder, .int .i64 a_quad, .int .i64 a_rise], .int .i64 left] h R ↔ R (.int .i64 (szr left (Font.W ⟨a_name, a_glyphs, a_pairs, ⟨a_space_size, a_space_plus, a_space_plusOrder, a_space_minus, a_space_minusOrder⟩, a_quad, a_rise⟩))) h := by
  refine ca_pure (af := ac5) rfl ?_
  have hmx : maxLen = 9223372036854775807 := by decide
  simp only [Font.Ok] at hx
  simp [ac5, Font.W]
  have w0 : IntKind.wrap .i64 (left - (a_name.size : Nat)) = left - (a_name.size : Nat) := wrap_i64 (by omega) (by omega)
  simp [w0]
  by_cases e0 : left - (a_name.size : Nat) < 0
  · have : szr left (a_name.size + a_glyphs.length + a_pairs.length) = -1 := szr_lt (by omega)
    simp [e0, this, w0]
  simp [show ¬ (left - (a_name.size : Nat)) < 0 by omega, w0]
  simp [szGlyphS_iff _ hx.2.1.1 (left - (a_name.size : Nat)) (by omega) (by omega), w0]
  by_cases e1 : (left - (a_name.size : Nat)) < (a_glyphs.length : Nat)
  · have : szr left (a_name.size + a_glyphs.length + a_pairs.length) = -1 := szr_lt (by omega)
    simp [szr_lt e1, this, w0]
  rw [szr_nonneg (show ((a_glyphs.length : Nat) : Int) ≤ (left - (a_name.size : Nat)) by omega)]
  simp [show ¬ ((left - (a_name.size : Nat)) - (a_glyphs.length : Nat)) < 0 by omega, w0]
  simp [szPairS_iff _ hx.2.2.1.1 ((left - (a_name.size : Nat)) - (a_glyphs.length : Nat)) (by omega) (by omega), w0]
  by_cases e2 : ((left - (a_name.size : Nat)) - (a_glyphs.length : Nat)) < (a_pairs.length : Nat)
  · have : szr left (a_name.size + a_glyphs.length + a_pairs.length) = -1 := szr_lt (by omega)
    simp [szr_lt e2, this, w0]
  rw [szr_nonneg (show ((a_pairs.length : Nat) : Int) ≤ ((left - (a_name.size : Nat)) - (a_glyphs.length : Nat)) by omega)]
  simp [show ¬ (((left - (a_name.size : Nat)) - (a_glyphs.length : Nat)) - (a_pairs.length : Nat)) < 0 by omega, w0]
  all_goals (first | done | (rw [szr_nonneg (by omega)]; done) | (rw [szr_nonneg (by omega)]; omega))
theorem szFont_iff (x : Font) (hx : x.Ok) (left : Int) (h0 : 0 ≤ left) (h1 : left ≤ 1048576) (h : AH) (R : AV → AH → Prop) : CA 5 [.agg x.enc, .int .i64 left] h R ↔ R (.int .i64 (szr left x.W)) h := szFont_iff' _ _ _ _ _ _ _ _ _ _ hx left h0 h1 h R
set_option maxRecDepth 100000 in
theorem eqFont_iff' (a_name : ByteArray) (a_glyphs : List Glyph) (a_pairs : List Pair) (a_space_size : Int) (a_space_plus : Int) (a_space_plusOrder : Int) (a_space_minus : Int) (a_space_minusOrder : Int) (a_quad : Int) (a_rise : Int) (b_name : ByteArray) (b_glyphs : List Glyph) (b_pairs : List Pair) (b_space_size : Int) (b_space_plus : Int) (b_space_plusOrder : Int) (b_space_minus : Int) (b_space_minusOrder : Int) (b_quad : Int) (b_rise : Int) (hW : Font.W ⟨a_name, a_glyphs, a_pairs, ⟨a_space_size, a_space_plus, a_space_plusOrder, a_space_minus, a_space_minusOrder⟩, a_quad, a_rise⟩ ≤ 67108864) (h : AH) (R : AV → AH → Prop) : CA 11 [.agg [.str a_name, .fs none (a_glyphs.map Glyph.enc), .fs none (a_pairs.map Pair.enc), .int .i64 a_space_size, .int .i64 a_space_plus, .int .i64 a_space_plusOrder, .int .i64 a_space_minus, .int .i64 a_space_minusOrder, .int .i64 a_quad, .int .i64 a_rise], .agg [.str b_name, .fs none (b_glyphs.map Glyph.enc), .fs none (b_pairs.map Pair.enc), .int .i64 b_space_size, .int .i64 b_space_plus, .int .i64 b_space_plusOrder, .int .i64 b_space_minus, .int .i64 b_space_minusOrder, .int .i64 b_quad, .int .i64 b_rise]] h R ↔ R (.bool (decide ((⟨a_name, a_glyphs, a_pairs, ⟨a_space_size, a_space_plus, a_space_plusOrder, a_space_minus, a_space_minusOrder⟩, a_quad, a_rise⟩ : Font) = ⟨b_name, b_glyphs, b_pairs, ⟨b_space_size, b_space_plus, b_space_plusOrder, b_space_minus, b_space_minusOrder⟩, b_quad, b_rise⟩))) h := by
  refine ca_pure (af := ac11) rfl ?_
  simp only [Font.W] at hW
  (iterate 9 ((try simp [ac11, eqGlue_iff', eqGlyphS_iff, eqPairS_iff, -Font.mk.injEq, -Glue.mk.injEq]); (try simp (disch := omega) [ac11, eqGlue_iff', eqGlyphS_iff, eqPairS_iff, -Font.mk.injEq, -Glue.mk.injEq])))
  by_cases e_name : (a_name) = b_name
  case neg =>
    rw [decide_eq_false (fun q => e_name (congrArg Font.name q))]
    (iterate 4 ((try simp [e_name, eqGlue_iff', eqGlyphS_iff, eqPairS_iff, -Font.mk.injEq, -Glue.mk.injEq]); (try simp (disch := omega) [e_name, eqGlue_iff', eqGlyphS_iff, eqPairS_iff, -Font.mk.injEq, -Glue.mk.injEq])))
  cases e_name
  (iterate 4 ((try simp [eqGlue_iff', eqGlyphS_iff, eqPairS_iff, -Font.mk.injEq, -Glue.mk.injEq]); (try simp (disch := omega) [eqGlue_iff', eqGlyphS_iff, eqPairS_iff, -Font.mk.injEq, -Glue.mk.injEq])))
  by_cases e_glyphs : (a_glyphs) = b_glyphs
  case neg =>
    rw [decide_eq_false (fun q => e_glyphs (congrArg Font.glyphs q))]
    (iterate 4 ((try simp [e_glyphs, eqGlue_iff', eqGlyphS_iff, eqPairS_iff, -Font.mk.injEq, -Glue.mk.injEq]); (try simp (disch := omega) [e_glyphs, eqGlue_iff', eqGlyphS_iff, eqPairS_iff, -Font.mk.injEq, -Glue.mk.injEq])))
  cases e_glyphs
  (iterate 4 ((try simp [eqGlue_iff', eqGlyphS_iff, eqPairS_iff, -Font.mk.injEq, -Glue.mk.injEq]); (try simp (disch := omega) [eqGlue_iff', eqGlyphS_iff, eqPairS_iff, -Font.mk.injEq, -Glue.mk.injEq])))
  by_cases e_pairs : (a_pairs) = b_pairs
  case neg =>
    rw [decide_eq_false (fun q => e_pairs (congrArg Font.pairs q))]
    (iterate 4 ((try simp [e_pairs, eqGlue_iff', eqGlyphS_iff, eqPairS_iff, -Font.mk.injEq, -Glue.mk.injEq]); (try simp (disch := omega) [e_pairs, eqGlue_iff', eqGlyphS_iff, eqPairS_iff, -Font.mk.injEq, -Glue.mk.injEq])))
  cases e_pairs
  (iterate 4 ((try simp [eqGlue_iff', eqGlyphS_iff, eqPairS_iff, -Font.mk.injEq, -Glue.mk.injEq]); (try simp (disch := omega) [eqGlue_iff', eqGlyphS_iff, eqPairS_iff, -Font.mk.injEq, -Glue.mk.injEq])))
  by_cases e_space : (⟨a_space_size, a_space_plus, a_space_plusOrder, a_space_minus, a_space_minusOrder⟩ : Glue) = ⟨b_space_size, b_space_plus, b_space_plusOrder, b_space_minus, b_space_minusOrder⟩
  case neg =>
    rw [decide_eq_false (fun q => e_space (congrArg Font.space q))]
    (iterate 4 ((try simp [e_space, eqGlue_iff', eqGlyphS_iff, eqPairS_iff, -Font.mk.injEq, -Glue.mk.injEq]); (try simp (disch := omega) [e_space, eqGlue_iff', eqGlyphS_iff, eqPairS_iff, -Font.mk.injEq, -Glue.mk.injEq])))
  cases e_space
  (iterate 4 ((try simp [eqGlue_iff', eqGlyphS_iff, eqPairS_iff, -Font.mk.injEq, -Glue.mk.injEq]); (try simp (disch := omega) [eqGlue_iff', eqGlyphS_iff, eqPairS_iff, -Font.mk.injEq, -Glue.mk.injEq])))
  by_cases e_quad : (a_quad) = b_quad
  case neg =>
    rw [decide_eq_false (fun q => e_quad (congrArg Font.quad q))]
    (iterate 4 ((try simp [e_quad, eqGlue_iff', eqGlyphS_iff, eqPairS_iff, -Font.mk.injEq, -Glue.mk.injEq]); (try simp (disch := omega) [e_quad, eqGlue_iff', eqGlyphS_iff, eqPairS_iff, -Font.mk.injEq, -Glue.mk.injEq])))
  cases e_quad
  (iterate 4 ((try simp [eqGlue_iff', eqGlyphS_iff, eqPairS_iff, -Font.mk.injEq, -Glue.mk.injEq]); (try simp (disch := omega) [eqGlue_iff', eqGlyphS_iff, eqPairS_iff, -Font.mk.injEq, -Glue.mk.injEq])))
  by_cases e_rise : (a_rise) = b_rise
  case neg =>
    rw [decide_eq_false (fun q => e_rise (congrArg Font.rise q))]
    (iterate 4 ((try simp [e_rise, eqGlue_iff', eqGlyphS_iff, eqPairS_iff, -Font.mk.injEq, -Glue.mk.injEq]); (try simp (disch := omega) [e_rise, eqGlue_iff', eqGlyphS_iff, eqPairS_iff, -Font.mk.injEq, -Glue.mk.injEq])))
  cases e_rise
  (iterate 4 ((try simp [eqGlue_iff', eqGlyphS_iff, eqPairS_iff, -Font.mk.injEq, -Glue.mk.injEq]); (try simp (disch := omega) [eqGlue_iff', eqGlyphS_iff, eqPairS_iff, -Font.mk.injEq, -Glue.mk.injEq])))
theorem eqFont_iff (x y : Font) (hW : x.W ≤ 67108864) (h : AH) (R : AV → AH → Prop) : CA 11 [.agg x.enc, .agg y.enc] h R ↔ R (.bool (decide (x = y))) h := eqFont_iff' _ _ _ _ _ _ _ _ _ _ _ _ _ _ _ _ _ _ _ _ hW h R
set_option maxRecDepth 100000 in
theorem eqPiece_iff' (a_code : Int) (a_kern : Int) (b_code : Int) (b_kern : Int) (h : AH) (R : AV → AH → Prop) : CA 33 [.agg [.int .i64 a_code, .int .i64 a_kern], .agg [.int .i64 b_code, .int .i64 b_kern]] h R ↔ R (.bool (decide ((⟨a_code, a_kern⟩ : Piece) = ⟨b_code, b_kern⟩))) h := by
  refine ca_pure (af := ac33) rfl ?_
  (iterate 9 ((try simp [ac33, -Piece.mk.injEq]); (try simp (disch := omega) [ac33, -Piece.mk.injEq])))
  by_cases e_code : (a_code) = b_code
  case neg =>
    rw [decide_eq_false (fun q => e_code (congrArg Piece.code q))]
    (iterate 4 ((try simp [e_code, -Piece.mk.injEq]); (try simp (disch := omega) [e_code, -Piece.mk.injEq])))
  cases e_code
  (iterate 4 ((try simp [-Piece.mk.injEq]); (try simp (disch := omega) [-Piece.mk.injEq])))
  by_cases e_kern : (a_kern) = b_kern
  case neg =>
    rw [decide_eq_false (fun q => e_kern (congrArg Piece.kern q))]
    (iterate 4 ((try simp [e_kern, -Piece.mk.injEq]); (try simp (disch := omega) [e_kern, -Piece.mk.injEq])))
  cases e_kern
  (iterate 4 ((try simp [-Piece.mk.injEq]); (try simp (disch := omega) [-Piece.mk.injEq])))
theorem eqPiece_iff (x y : Piece) (h : AH) (R : AV → AH → Prop) : CA 33 [.agg x.enc, .agg y.enc] h R ↔ R (.bool (decide (x = y))) h := eqPiece_iff' _ _ _ _ h R
set_option maxRecDepth 100000 in
theorem eqSize_iff' (a_width : Int) (a_height : Int) (a_depth : Int) (b_width : Int) (b_height : Int) (b_depth : Int) (h : AH) (R : AV → AH → Prop) : CA 10 [.agg [.int .i64 a_width, .int .i64 a_height, .int .i64 a_depth], .agg [.int .i64 b_width, .int .i64 b_height, .int .i64 b_depth]] h R ↔ R (.bool (decide ((⟨a_width, a_height, a_depth⟩ : Size) = ⟨b_width, b_height, b_depth⟩))) h := by
  refine ca_pure (af := ac10) rfl ?_
  (iterate 9 ((try simp [ac10, -Size.mk.injEq]); (try simp (disch := omega) [ac10, -Size.mk.injEq])))
  by_cases e_width : (a_width) = b_width
  case neg =>
    rw [decide_eq_false (fun q => e_width (congrArg Size.width q))]
    (iterate 4 ((try simp [e_width, -Size.mk.injEq]); (try simp (disch := omega) [e_width, -Size.mk.injEq])))
  cases e_width
  (iterate 4 ((try simp [-Size.mk.injEq]); (try simp (disch := omega) [-Size.mk.injEq])))
  by_cases e_height : (a_height) = b_height
  case neg =>
    rw [decide_eq_false (fun q => e_height (congrArg Size.height q))]
    (iterate 4 ((try simp [e_height, -Size.mk.injEq]); (try simp (disch := omega) [e_height, -Size.mk.injEq])))
  cases e_height
  (iterate 4 ((try simp [-Size.mk.injEq]); (try simp (disch := omega) [-Size.mk.injEq])))
  by_cases e_depth : (a_depth) = b_depth
  case neg =>
    rw [decide_eq_false (fun q => e_depth (congrArg Size.depth q))]
    (iterate 4 ((try simp [e_depth, -Size.mk.injEq]); (try simp (disch := omega) [e_depth, -Size.mk.injEq])))
  cases e_depth
  (iterate 4 ((try simp [-Size.mk.injEq]); (try simp (disch := omega) [-Size.mk.injEq])))
theorem eqSize_iff (x y : Size) (h : AH) (R : AV → AH → Prop) : CA 10 [.agg x.enc, .agg y.enc] h R ↔ R (.bool (decide (x = y))) h := eqSize_iff' _ _ _ _ _ _ h R
theorem eqPieceS_iff (xs ys : List Piece) (hW : xs.length ≤ 67108864) (h : AH) (c d : Option Nat) (R : AV → AH → Prop) : CA 15 [.fs c (xs.map Piece.enc), .fs d (ys.map Piece.enc)] h R ↔ R (.bool (decide (xs = ys))) h :=
  call_pure (af := ac15) rfl (tplEq_ok (es := 2) (g := true) (f := 33) Piece.ok.toEncOk (by omega) (.inl rfl) hW h (fun i hi hj R => eqPiece_iff (nth xs i) (nth ys i) h R) c d)
theorem eqByteS_iff (xs ys : List Int) (hW : xs.length ≤ 67108864) (h : AH) (c d : Option Nat) (R : AV → AH → Prop) : CA 12 [.fs c (xs.map (encI .u8)), .fs d (ys.map (encI .u8))] h R ↔ R (.bool (decide (xs = ys))) h :=
  call_pure (af := ac12) rfl (tplEqI_ok hW h c d)
end Go.Proofs.Ytbajchkpehdolaa
