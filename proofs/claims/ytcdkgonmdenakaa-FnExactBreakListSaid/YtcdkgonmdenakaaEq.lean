/- What the helpers of the laws tell. -/
import Derived.Test.YtcdkgonmdenakaaTy
import Derived.Test.YtcdkgonmdenakaaBc1
namespace Go.Proofs.Ytcdkgonmdenakaa
open Go Go.Bm Go.Proofs
set_option linter.all false

def CA : AQ := ACalls ap noE
theorem ca_iff {f : FuncId} {af : AFunc} (hf : ap f = some af) {args : List AV} {h : AH} {R : AV → AH → Prop} : CA f args h R ↔ abody CA af args h R := acall_iff hf
@[congr] theorem ca_congr {f : FuncId} {a a' : List AV} {h h' : AH} {R : AV → AH → Prop} (ea : tick a = a') (eh : h = h') : CA f a h R = CA f a' h' R := by rw [← ea, eh]; rfl
theorem ca_pure {f : FuncId} {af : AFunc} (hf : ap f = some af) {args : List AV} {h : AH} {v : AV} {R : AV → AH → Prop} (hb : abody CA af args h (fun v' h' => v' = v ∧ h' = h)) : CA f args h R ↔ R v h := call_pure hf hb
theorem ca_frz {f : FuncId} {af : AFunc} (hf : ap f = some af) {args : List AV} {h : AH} {v : AV} {R : AV → AH → Prop} (hb : abody CA af args h (fun v' h' => h.le h' ∧ frzV h.next h' DF v' = some v)) : acallM CA .frz f args h R ↔ R v h := call_frz hf hb
theorem caM : CA.Mono := acalls_mono noE_mono

set_option maxRecDepth 100000 in
theorem toGlue_iff' (a_size : Int) (a_plus : Int) (a_plusOrder : Int) (a_minus : Int) (a_minusOrder : Int) (h : AH) (R : AV → AH → Prop) : CA 27 [.agg [.int .i64 a_size, .int .i64 a_plus, .int .i64 a_plusOrder, .int .i64 a_minus, .int .i64 a_minusOrder]] h R ↔ R (.agg [.int .i64 a_size, .int .i64 a_plus, .int .i64 a_plusOrder, .int .i64 a_minus, .int .i64 a_minusOrder]) h := by
  refine ca_pure (af := ac27) rfl ?_
  (iterate 9 ((try simp [ac27]); (try simp (disch := omega) [ac27])))
theorem toGlue_iff (x : Glue) (h : AH) (R : AV → AH → Prop) : CA 27 [.agg x.enc] h R ↔ R (.agg x.enc) h := toGlue_iff' _ _ _ _ _ h R
set_option maxRecDepth 100000 in
theorem eqGlue_iff' (a_size : Int) (a_plus : Int) (a_plusOrder : Int) (a_minus : Int) (a_minusOrder : Int) (b_size : Int) (b_plus : Int) (b_plusOrder : Int) (b_minus : Int) (b_minusOrder : Int) (h : AH) (R : AV → AH → Prop) : CA 48 [.agg [.int .i64 a_size, .int .i64 a_plus, .int .i64 a_plusOrder, .int .i64 a_minus, .int .i64 a_minusOrder], .agg [.int .i64 b_size, .int .i64 b_plus, .int .i64 b_plusOrder, .int .i64 b_minus, .int .i64 b_minusOrder]] h R ↔ R (.bool (decide ((⟨a_size, a_plus, a_plusOrder, a_minus, a_minusOrder⟩ : Glue) = ⟨b_size, b_plus, b_plusOrder, b_minus, b_minusOrder⟩))) h := by
  refine ca_pure (af := ac48) rfl ?_
  (iterate 9 ((try simp [ac48, -Glue.mk.injEq]); (try simp (disch := omega) [ac48, -Glue.mk.injEq])))
  by_cases e_size : (a_size) = b_size
  case neg =>
    rw [decide_eq_false (fun q => e_size (congrArg Glue.size q))]
    (iterate 4 ((try simp [e_size, -Glue.mk.injEq]); (try simp (disch := omega) [e_size, -Glue.mk.injEq])))
  cases e_size
  (iterate 4 ((try simp [-Glue.mk.injEq]); (try simp (disch := omega) [-Glue.mk.injEq])))
  by_cases e_plus : (a_plus) = b_plus
  case neg =>
    rw [decide_eq_false (fun q => e_plus (congrArg Glue.plus q))]
    (iterate 4 ((try simp [e_plus, -Glue.mk.injEq]); (try simp (disch := omega) [e_plus, -Glue.mk.injEq])))
  cases e_plus
  (iterate 4 ((try simp [-Glue.mk.injEq]); (try simp (disch := omega) [-Glue.mk.injEq])))
  by_cases e_plusOrder : (a_plusOrder) = b_plusOrder
  case neg =>
    rw [decide_eq_false (fun q => e_plusOrder (congrArg Glue.plusOrder q))]
    (iterate 4 ((try simp [e_plusOrder, -Glue.mk.injEq]); (try simp (disch := omega) [e_plusOrder, -Glue.mk.injEq])))
  cases e_plusOrder
  (iterate 4 ((try simp [-Glue.mk.injEq]); (try simp (disch := omega) [-Glue.mk.injEq])))
  by_cases e_minus : (a_minus) = b_minus
  case neg =>
    rw [decide_eq_false (fun q => e_minus (congrArg Glue.minus q))]
    (iterate 4 ((try simp [e_minus, -Glue.mk.injEq]); (try simp (disch := omega) [e_minus, -Glue.mk.injEq])))
  cases e_minus
  (iterate 4 ((try simp [-Glue.mk.injEq]); (try simp (disch := omega) [-Glue.mk.injEq])))
  by_cases e_minusOrder : (a_minusOrder) = b_minusOrder
  case neg =>
    rw [decide_eq_false (fun q => e_minusOrder (congrArg Glue.minusOrder q))]
    (iterate 4 ((try simp [e_minusOrder, -Glue.mk.injEq]); (try simp (disch := omega) [e_minusOrder, -Glue.mk.injEq])))
  cases e_minusOrder
  (iterate 4 ((try simp [-Glue.mk.injEq]); (try simp (disch := omega) [-Glue.mk.injEq])))
theorem eqGlue_iff (x y : Glue) (h : AH) (R : AV → AH → Prop) : CA 48 [.agg x.enc, .agg y.enc] h R ↔ R (.bool (decide (x = y))) h := eqGlue_iff' _ _ _ _ _ _ _ _ _ _ h R
set_option maxRecDepth 100000 in
theorem szNode_iff' (a_kind : Int) (a_width : Int) (a_height : Int) (a_depth : Int) (a_shift : Int) (a_font : Int) (a_char : Int) (a_n : Int) (a_glue_size : Int) (a_glue_plus : Int) (a_glue_plusOrder : Int) (a_glue_minus : Int) (a_glue_minusOrder : Int) (a_text : ByteArray) (a_kids : Int) (hx : Node.Ok ⟨a_kind, a_width, a_height, a_depth, a_shift, a_font, a_char, a_n, ⟨a_glue_size, a_glue_plus, a_glue_plusOrder, a_glue_minus, a_glue_minusOrder⟩, a_text, a_kids⟩) (left : Int) (h0 : 0 ≤ left) (h1 : left ≤ 1048576) (h : AH) (R : AV → AH → Prop) : CA 24 [.agg [.int .i64 a_kind, .int .i64 a_width, .int .i64 a_height, .int .i64 a_depth, .int .i64 a_shift, .int .i64 a_font, .int .i64 a_char, .int .i64 a_n, .int .i64 a_glue_size, .int .i64 a_glue_plus, .int .i64 a_glue_plusOrder, .int .i64 a_glue_minus, .int .i64 a_glue_minusOrder, .str a_text, .int .i64 a_kids], .int .i64 left] h R ↔ R (.int .i64 (szr left (Node.W ⟨a_kind, a_width, a_height, a_depth, a_shift, a_font, a_char, a_n, ⟨a_glue_size, a_glue_plus, a_glue_plusOrder, a_glue_minus, a_glue_minusOrder⟩, a_text, a_kids⟩))) h := by
  refine ca_pure (af := ac24) rfl ?_
  have hmx : maxLen = 9223372036854775807 := by decide
  simp only [Node.Ok] at hx
  simp [ac24, Node.W]
  have w0 : IntKind.wrap .i64 (left - (a_text.size : Nat)) = left - (a_text.size : Nat) := wrap_i64 (by omega) (by omega)
  simp [w0]
  by_cases e0 : left - (a_text.size : Nat) < 0
  · have : szr left (a_text.size) = -1 := szr_lt (by omega)
    simp [e0, this, w0]
  simp [show ¬ (left - (a_text.size : Nat)) < 0 by omega, w0]
  all_goals (first | done | (rw [szr_nonneg (by omega)]; done) | (rw [szr_nonneg (by omega)]; omega))
theorem szNode_iff (x : Node) (hx : x.Ok) (left : Int) (h0 : 0 ≤ left) (h1 : left ≤ 1048576) (h : AH) (R : AV → AH → Prop) : CA 24 [.agg x.enc, .int .i64 left] h R ↔ R (.int .i64 (szr left x.W)) h := szNode_iff' _ _ _ _ _ _ _ _ _ _ _ _ _ _ _ hx left h0 h1 h R
set_option maxRecDepth 100000 in
theorem toNode_iff' (a_kind : Int) (a_width : Int) (a_height : Int) (a_depth : Int) (a_shift : Int) (a_font : Int) (a_char : Int) (a_n : Int) (a_glue_size : Int) (a_glue_plus : Int) (a_glue_plusOrder : Int) (a_glue_minus : Int) (a_glue_minusOrder : Int) (a_text : ByteArray) (a_kids : Int) (hW : Node.W ⟨a_kind, a_width, a_height, a_depth, a_shift, a_font, a_char, a_n, ⟨a_glue_size, a_glue_plus, a_glue_plusOrder, a_glue_minus, a_glue_minusOrder⟩, a_text, a_kids⟩ ≤ 1048576) (h : AH) (R : AV → AH → Prop) : CA 26 [.agg [.int .i64 a_kind, .int .i64 a_width, .int .i64 a_height, .int .i64 a_depth, .int .i64 a_shift, .int .i64 a_font, .int .i64 a_char, .int .i64 a_n, .int .i64 a_glue_size, .int .i64 a_glue_plus, .int .i64 a_glue_plusOrder, .int .i64 a_glue_minus, .int .i64 a_glue_minusOrder, .str a_text, .int .i64 a_kids]] h R ↔ R (.agg [.int .i64 a_kind, .int .i64 a_width, .int .i64 a_height, .int .i64 a_depth, .int .i64 a_shift, .int .i64 a_font, .int .i64 a_char, .int .i64 a_n, .int .i64 a_glue_size, .int .i64 a_glue_plus, .int .i64 a_glue_plusOrder, .int .i64 a_glue_minus, .int .i64 a_glue_minusOrder, .str a_text, .int .i64 a_kids]) h := by
  refine ca_pure (af := ac26) rfl ?_
  simp only [Node.W] at hW
  (iterate 9 ((try simp [ac26, toGlue_iff']); (try simp (disch := omega) [ac26, toGlue_iff'])))
theorem toNode_iff (x : Node) (hW : x.W ≤ 1048576) (h : AH) (R : AV → AH → Prop) : CA 26 [.agg x.enc] h R ↔ R (.agg x.enc) h := toNode_iff' _ _ _ _ _ _ _ _ _ _ _ _ _ _ _ hW h R
set_option maxRecDepth 100000 in
theorem eqNode_iff' (a_kind : Int) (a_width : Int) (a_height : Int) (a_depth : Int) (a_shift : Int) (a_font : Int) (a_char : Int) (a_n : Int) (a_glue_size : Int) (a_glue_plus : Int) (a_glue_plusOrder : Int) (a_glue_minus : Int) (a_glue_minusOrder : Int) (a_text : ByteArray) (a_kids : Int) (b_kind : Int) (b_width : Int) (b_height : Int) (b_depth : Int) (b_shift : Int) (b_font : Int) (b_char : Int) (b_n : Int) (b_glue_size : Int) (b_glue_plus : Int) (b_glue_plusOrder : Int) (b_glue_minus : Int) (b_glue_minusOrder : Int) (b_text : ByteArray) (b_kids : Int) (hW : Node.W ⟨a_kind, a_width, a_height, a_depth, a_shift, a_font, a_char, a_n, ⟨a_glue_size, a_glue_plus, a_glue_plusOrder, a_glue_minus, a_glue_minusOrder⟩, a_text, a_kids⟩ ≤ 67108864) (h : AH) (R : AV → AH → Prop) : CA 29 [.agg [.int .i64 a_kind, .int .i64 a_width, .int .i64 a_height, .int .i64 a_depth, .int .i64 a_shift, .int .i64 a_font, .int .i64 a_char, .int .i64 a_n, .int .i64 a_glue_size, .int .i64 a_glue_plus, .int .i64 a_glue_plusOrder, .int .i64 a_glue_minus, .int .i64 a_glue_minusOrder, .str a_text, .int .i64 a_kids], .agg [.int .i64 b_kind, .int .i64 b_width, .int .i64 b_height, .int .i64 b_depth, .int .i64 b_shift, .int .i64 b_font, .int .i64 b_char, .int .i64 b_n, .int .i64 b_glue_size, .int .i64 b_glue_plus, .int .i64 b_glue_plusOrder, .int .i64 b_glue_minus, .int .i64 b_glue_minusOrder, .str b_text, .int .i64 b_kids]] h R ↔ R (.bool (decide ((⟨a_kind, a_width, a_height, a_depth, a_shift, a_font, a_char, a_n, ⟨a_glue_size, a_glue_plus, a_glue_plusOrder, a_glue_minus, a_glue_minusOrder⟩, a_text, a_kids⟩ : Node) = ⟨b_kind, b_width, b_height, b_depth, b_shift, b_font, b_char, b_n, ⟨b_glue_size, b_glue_plus, b_glue_plusOrder, b_glue_minus, b_glue_minusOrder⟩, b_text, b_kids⟩))) h := by
  refine ca_pure (af := ac29) rfl ?_
  simp only [Node.W] at hW
  (iterate 9 ((try simp [ac29, eqGlue_iff', -Glue.mk.injEq, -Node.mk.injEq]); (try simp (disch := omega) [ac29, eqGlue_iff', -Glue.mk.injEq, -Node.mk.injEq])))
  by_cases e_kind : (a_kind) = b_kind
  case neg =>
    rw [decide_eq_false (fun q => e_kind (congrArg Node.kind q))]
    (iterate 4 ((try simp [e_kind, eqGlue_iff', -Glue.mk.injEq, -Node.mk.injEq]); (try simp (disch := omega) [e_kind, eqGlue_iff', -Glue.mk.injEq, -Node.mk.injEq])))
  cases e_kind
  (iterate 4 ((try simp [eqGlue_iff', -Glue.mk.injEq, -Node.mk.injEq]); (try simp (disch := omega) [eqGlue_iff', -Glue.mk.injEq, -Node.mk.injEq])))
  by_cases e_width : (a_width) = b_width
  case neg =>
    rw [decide_eq_false (fun q => e_width (congrArg Node.width q))]
    (iterate 4 ((try simp [e_width, eqGlue_iff', -Glue.mk.injEq, -Node.mk.injEq]); (try simp (disch := omega) [e_width, eqGlue_iff', -Glue.mk.injEq, -Node.mk.injEq])))
  cases e_width
  (iterate 4 ((try simp [eqGlue_iff', -Glue.mk.injEq, -Node.mk.injEq]); (try simp (disch := omega) [eqGlue_iff', -Glue.mk.injEq, -Node.mk.injEq])))
  by_cases e_height : (a_height) = b_height
  case neg =>
    rw [decide_eq_false (fun q => e_height (congrArg Node.height q))]
    (iterate 4 ((try simp [e_height, eqGlue_iff', -Glue.mk.injEq, -Node.mk.injEq]); (try simp (disch := omega) [e_height, eqGlue_iff', -Glue.mk.injEq, -Node.mk.injEq])))
  cases e_height
  (iterate 4 ((try simp [eqGlue_iff', -Glue.mk.injEq, -Node.mk.injEq]); (try simp (disch := omega) [eqGlue_iff', -Glue.mk.injEq, -Node.mk.injEq])))
  by_cases e_depth : (a_depth) = b_depth
  case neg =>
    rw [decide_eq_false (fun q => e_depth (congrArg Node.depth q))]
    (iterate 4 ((try simp [e_depth, eqGlue_iff', -Glue.mk.injEq, -Node.mk.injEq]); (try simp (disch := omega) [e_depth, eqGlue_iff', -Glue.mk.injEq, -Node.mk.injEq])))
  cases e_depth
  (iterate 4 ((try simp [eqGlue_iff', -Glue.mk.injEq, -Node.mk.injEq]); (try simp (disch := omega) [eqGlue_iff', -Glue.mk.injEq, -Node.mk.injEq])))
  by_cases e_shift : (a_shift) = b_shift
  case neg =>
    rw [decide_eq_false (fun q => e_shift (congrArg Node.shift q))]
    (iterate 4 ((try simp [e_shift, eqGlue_iff', -Glue.mk.injEq, -Node.mk.injEq]); (try simp (disch := omega) [e_shift, eqGlue_iff', -Glue.mk.injEq, -Node.mk.injEq])))
  cases e_shift
  (iterate 4 ((try simp [eqGlue_iff', -Glue.mk.injEq, -Node.mk.injEq]); (try simp (disch := omega) [eqGlue_iff', -Glue.mk.injEq, -Node.mk.injEq])))
  by_cases e_font : (a_font) = b_font
  case neg =>
    rw [decide_eq_false (fun q => e_font (congrArg Node.font q))]
    (iterate 4 ((try simp [e_font, eqGlue_iff', -Glue.mk.injEq, -Node.mk.injEq]); (try simp (disch := omega) [e_font, eqGlue_iff', -Glue.mk.injEq, -Node.mk.injEq])))
  cases e_font
  (iterate 4 ((try simp [eqGlue_iff', -Glue.mk.injEq, -Node.mk.injEq]); (try simp (disch := omega) [eqGlue_iff', -Glue.mk.injEq, -Node.mk.injEq])))
  by_cases e_char : (a_char) = b_char
  case neg =>
    rw [decide_eq_false (fun q => e_char (congrArg Node.char q))]
    (iterate 4 ((try simp [e_char, eqGlue_iff', -Glue.mk.injEq, -Node.mk.injEq]); (try simp (disch := omega) [e_char, eqGlue_iff', -Glue.mk.injEq, -Node.mk.injEq])))
  cases e_char
  (iterate 4 ((try simp [eqGlue_iff', -Glue.mk.injEq, -Node.mk.injEq]); (try simp (disch := omega) [eqGlue_iff', -Glue.mk.injEq, -Node.mk.injEq])))
  by_cases e_n : (a_n) = b_n
  case neg =>
    rw [decide_eq_false (fun q => e_n (congrArg Node.n q))]
    (iterate 4 ((try simp [e_n, eqGlue_iff', -Glue.mk.injEq, -Node.mk.injEq]); (try simp (disch := omega) [e_n, eqGlue_iff', -Glue.mk.injEq, -Node.mk.injEq])))
  cases e_n
  (iterate 4 ((try simp [eqGlue_iff', -Glue.mk.injEq, -Node.mk.injEq]); (try simp (disch := omega) [eqGlue_iff', -Glue.mk.injEq, -Node.mk.injEq])))
  by_cases e_glue : (⟨a_glue_size, a_glue_plus, a_glue_plusOrder, a_glue_minus, a_glue_minusOrder⟩ : Glue) = ⟨b_glue_size, b_glue_plus, b_glue_plusOrder, b_glue_minus, b_glue_minusOrder⟩
  case neg =>
    rw [decide_eq_false (fun q => e_glue (congrArg Node.glue q))]
    (iterate 4 ((try simp [e_glue, eqGlue_iff', -Glue.mk.injEq, -Node.mk.injEq]); (try simp (disch := omega) [e_glue, eqGlue_iff', -Glue.mk.injEq, -Node.mk.injEq])))
  cases e_glue
  (iterate 4 ((try simp [eqGlue_iff', -Glue.mk.injEq, -Node.mk.injEq]); (try simp (disch := omega) [eqGlue_iff', -Glue.mk.injEq, -Node.mk.injEq])))
  by_cases e_text : (a_text) = b_text
  case neg =>
    rw [decide_eq_false (fun q => e_text (congrArg Node.text q))]
    (iterate 4 ((try simp [e_text, eqGlue_iff', -Glue.mk.injEq, -Node.mk.injEq]); (try simp (disch := omega) [e_text, eqGlue_iff', -Glue.mk.injEq, -Node.mk.injEq])))
  cases e_text
  (iterate 4 ((try simp [eqGlue_iff', -Glue.mk.injEq, -Node.mk.injEq]); (try simp (disch := omega) [eqGlue_iff', -Glue.mk.injEq, -Node.mk.injEq])))
  by_cases e_kids : (a_kids) = b_kids
  case neg =>
    rw [decide_eq_false (fun q => e_kids (congrArg Node.kids q))]
    (iterate 4 ((try simp [e_kids, eqGlue_iff', -Glue.mk.injEq, -Node.mk.injEq]); (try simp (disch := omega) [e_kids, eqGlue_iff', -Glue.mk.injEq, -Node.mk.injEq])))
  cases e_kids
  (iterate 4 ((try simp [eqGlue_iff', -Glue.mk.injEq, -Node.mk.injEq]); (try simp (disch := omega) [eqGlue_iff', -Glue.mk.injEq, -Node.mk.injEq])))
theorem eqNode_iff (x y : Node) (hW : x.W ≤ 67108864) (h : AH) (R : AV → AH → Prop) : CA 29 [.agg x.enc, .agg y.enc] h R ↔ R (.bool (decide (x = y))) h := eqNode_iff' _ _ _ _ _ _ _ _ _ _ _ _ _ _ _ _ _ _ _ _ _ _ _ _ _ _ _ _ _ _ hW h R
set_option maxRecDepth 100000 in
theorem toStyle_iff' (a_width : Int) (a_narrow : Int) (a_hang : Int) (a_tolerance : Int) (a_line : Int) (a_hyphen : Int) (a_double : Int) (a_adjacent : Int) (a_left_size : Int) (a_left_plus : Int) (a_left_plusOrder : Int) (a_left_minus : Int) (a_left_minusOrder : Int) (a_right_size : Int) (a_right_plus : Int) (a_right_plusOrder : Int) (a_right_minus : Int) (a_right_minusOrder : Int) (a_fill_size : Int) (a_fill_plus : Int) (a_fill_plusOrder : Int) (a_fill_minus : Int) (a_fill_minusOrder : Int) (h : AH) (R : AV → AH → Prop) : CA 9 [.agg [.int .i64 a_width, .int .i64 a_narrow, .int .i64 a_hang, .int .i64 a_tolerance, .int .i64 a_line, .int .i64 a_hyphen, .int .i64 a_double, .int .i64 a_adjacent, .int .i64 a_left_size, .int .i64 a_left_plus, .int .i64 a_left_plusOrder, .int .i64 a_left_minus, .int .i64 a_left_minusOrder, .int .i64 a_right_size, .int .i64 a_right_plus, .int .i64 a_right_plusOrder, .int .i64 a_right_minus, .int .i64 a_right_minusOrder, .int .i64 a_fill_size, .int .i64 a_fill_plus, .int .i64 a_fill_plusOrder, .int .i64 a_fill_minus, .int .i64 a_fill_minusOrder]] h R ↔ R (.agg [.int .i64 a_width, .int .i64 a_narrow, .int .i64 a_hang, .int .i64 a_tolerance, .int .i64 a_line, .int .i64 a_hyphen, .int .i64 a_double, .int .i64 a_adjacent, .int .i64 a_left_size, .int .i64 a_left_plus, .int .i64 a_left_plusOrder, .int .i64 a_left_minus, .int .i64 a_left_minusOrder, .int .i64 a_right_size, .int .i64 a_right_plus, .int .i64 a_right_plusOrder, .int .i64 a_right_minus, .int .i64 a_right_minusOrder, .int .i64 a_fill_size, .int .i64 a_fill_plus, .int .i64 a_fill_plusOrder, .int .i64 a_fill_minus, .int .i64 a_fill_minusOrder]) h := by
  refine ca_pure (af := ac9) rfl ?_
  (iterate 9 ((try simp [ac9, toGlue_iff']); (try simp (disch := omega) [ac9, toGlue_iff'])))
theorem toStyle_iff (x : Style) (h : AH) (R : AV → AH → Prop) : CA 9 [.agg x.enc] h R ↔ R (.agg x.enc) h := toStyle_iff' _ _ _ _ _ _ _ _ _ _ _ _ _ _ _ _ _ _ _ _ _ _ _ h R
theorem szNodeS_iff (xs : List Node) (hx : xs.length ≤ maxLen ∧ ∀ y ∈ xs, Node.Ok y) (left : Int) (h0 : 0 ≤ left) (h1 : left ≤ 1048576) (h : AH) (c : Option Nat) (R : AV → AH → Prop) : CA 6 [.fs c (xs.map Node.enc), .int .i64 left] h R ↔ R (.int .i64 (szr left (WS Node.W xs))) h :=
  call_pure (af := ac6) rfl (tplSz_ok (es := 15) (g := true) (f := 24) Node.ok.toEncOk (by omega) (.inl rfl) (Nat.le_trans hx.1 (by decide)) Node.W h0 h1 h c (fun i hi l R a b => szNode_iff (nth xs i) (hx.2 _ (nth_mem hi)) l a b h R))
theorem toNodeS_iff (xs : List Node) (hW : WS Node.W xs ≤ 1048576) (h : AH) (c : Option Nat) (R : AV → AH → Prop) : acallM CA .frz 8 [.fs c (xs.map Node.enc)] h R ↔ R (.fs none (xs.map Node.enc)) h :=
  call_frz (af := ac8) rfl (tplTo_ok (es := 15) (bytes := 128) (zero := [(.int .i64 0), (.int .i64 0), (.int .i64 0), (.int .i64 0), (.int .i64 0), (.int .i64 0), (.int .i64 0), (.int .i64 0), (.int .i64 0), (.int .i64 0), (.int .i64 0), (.int .i64 0), (.int .i64 0), (.str ⟨#[]⟩), (.int .i64 0)]) (g := true) (m := .raw) (f := 26) Node.ok (by omega) (.inl rfl) rfl rfl (by have := WS_len Node.W xs; omega) (by omega) h c (fun i hi h1 R => toNode_iff (nth xs i) (by have := WS_nth Node.W hi; omega) h1 R))
theorem eqNodeS_iff (xs ys : List Node) (hW : WS Node.W xs ≤ 67108864) (h : AH) (c d : Option Nat) (R : AV → AH → Prop) : CA 12 [.fs c (xs.map Node.enc), .fs d (ys.map Node.enc)] h R ↔ R (.bool (decide (xs = ys))) h :=
  call_pure (af := ac12) rfl (tplEq_ok (es := 15) (g := true) (f := 29) Node.ok.toEncOk (by omega) (.inl rfl) (by have := WS_len Node.W xs; omega) h (fun i hi hj R => eqNode_iff (nth xs i) (nth ys i) (by have := WS_nth Node.W hi; omega) h R) c d)
theorem eqInt64S_iff (xs ys : List Int) (hW : xs.length ≤ 67108864) (h : AH) (c d : Option Nat) (R : AV → AH → Prop) : CA 11 [.fs c (xs.map (encI .i64)), .fs d (ys.map (encI .i64))] h R ↔ R (.bool (decide (xs = ys))) h :=
  call_pure (af := ac11) rfl (tplEqI_ok hW h c d)
end Go.Proofs.Ytcdkgonmdenakaa
