/- Contracts: lengths, glue, a node by itself, of the program and of the reference. -/
import Derived.Test.YtcdkgonmdenakaaEq
namespace Go.Proofs.Ytcdkgonmdenakaa
open Go Go.Bm Go.Proofs
set_option linter.all false

def fitsB (n : Int) : Bool := decide (-1073741823 ≤ n ∧ n ≤ 1073741823)
theorem fits_iff (n : Int) (h : AH) (R : AV → AH → Prop) : CA 71 [.int .i64 n] h R ↔ R (.bool (fitsB n)) h := by
  refine ca_pure (af := ac71) rfl ?_
  by_cases h1 : -1073741823 ≤ n <;> simp [ac71, fitsB, h1]
theorem l1Fits_iff (n : Int) (h : AH) (R : AV → AH → Prop) : CA 73 [.int .i64 n] h R ↔ R (.bool (fitsB n)) h := by
  refine ca_pure (af := ac73) rfl ?_
  by_cases h1 : -1073741823 ≤ n <;> simp [ac73, fitsB, h1]
def ordB (n : Int) : Bool := decide (0 ≤ n ∧ n ≤ 3)
theorem GlueOk1_iff (n : Int) (h : AH) (R : AV → AH → Prop) : CA 77 [.int .i64 n] h R ↔ R (.bool (ordB n)) h := by
  refine ca_pure (af := ac77) rfl ?_
  by_cases h1 : 0 ≤ n <;> simp [ac77, ordB, h1]
theorem l1Order_iff (n : Int) (h : AH) (R : AV → AH → Prop) : CA 74 [.int .i64 n] h R ↔ R (.bool (ordB n)) h := by
  refine ca_pure (af := ac74) rfl ?_
  by_cases h1 : 0 ≤ n <;> simp [ac74, ordB, h1]
def glueB (g : Glue) : Bool := fitsB g.size && fitsB g.plus && fitsB g.minus && ordB g.plusOrder && ordB g.minusOrder
theorem GlueOk_iff (a b c d e : Int) (h : AH) (R : AV → AH → Prop) : CA 63 [.agg [.int .i64 a, .int .i64 b, .int .i64 c, .int .i64 d, .int .i64 e]] h R ↔ R (.bool (glueB ⟨a, b, c, d, e⟩)) h := by
  refine ca_pure (af := ac63) rfl ?_
  simp [ac63, fits_iff, glueB]
  repeat' (first
    | (with_reducible refine condR_splitND ?_ ?_ <;> intro e_ <;> (try simp [*, GlueOk1_iff, fits_iff]))
    | (with_reducible refine condR_splitD ?_ ?_ <;> intro e_ <;> (try simp [*, GlueOk1_iff, fits_iff]))
    | (with_reducible refine condR_splitN ?_ ?_ <;> intro e_ <;> (try simp [*, GlueOk1_iff, fits_iff]))
    | (with_reducible refine condR_split ?_ ?_ <;> intro e_ <;> (try simp [*, GlueOk1_iff, fits_iff]))
    | (with_reducible refine guardR_splitT ?_ ?_ <;> intro e_ <;> (try simp [*, GlueOk1_iff, fits_iff]))
    | (with_reducible refine guardR_splitF ?_ ?_ <;> intro e_ <;> (try simp [*, GlueOk1_iff, fits_iff]))
    | (with_reducible refine guardR_splitNT ?_ ?_ <;> intro e_ <;> (try simp [*, GlueOk1_iff, fits_iff]))
    | (with_reducible refine guardR_splitNF ?_ ?_ <;> intro e_ <;> (try simp [*, GlueOk1_iff, fits_iff]))
    | (with_reducible refine guardR_sT ?_ ?_ <;> intro e_ <;> (try simp [*, GlueOk1_iff, fits_iff]))
    | (with_reducible refine guardR_sF ?_ ?_ <;> intro e_ <;> (try simp [*, GlueOk1_iff, fits_iff])))
  all_goals (first | (simp_all; done) | omega | grind | skip)
theorem specGlueOk_iff (a b c d e : Int) (h : AH) (R : AV → AH → Prop) : CA 59 [.agg [.int .i64 a, .int .i64 b, .int .i64 c, .int .i64 d, .int .i64 e]] h R ↔ R (.bool (glueB ⟨a, b, c, d, e⟩)) h := by
  refine ca_pure (af := ac59) rfl ?_
  simp [ac59, l1Fits_iff, glueB]
  repeat' (first
    | (with_reducible refine condR_splitND ?_ ?_ <;> intro e_ <;> (try simp [*, l1Order_iff, l1Fits_iff]))
    | (with_reducible refine condR_splitD ?_ ?_ <;> intro e_ <;> (try simp [*, l1Order_iff, l1Fits_iff]))
    | (with_reducible refine condR_splitN ?_ ?_ <;> intro e_ <;> (try simp [*, l1Order_iff, l1Fits_iff]))
    | (with_reducible refine condR_split ?_ ?_ <;> intro e_ <;> (try simp [*, l1Order_iff, l1Fits_iff]))
    | (with_reducible refine guardR_splitT ?_ ?_ <;> intro e_ <;> (try simp [*, l1Order_iff, l1Fits_iff]))
    | (with_reducible refine guardR_splitF ?_ ?_ <;> intro e_ <;> (try simp [*, l1Order_iff, l1Fits_iff]))
    | (with_reducible refine guardR_splitNT ?_ ?_ <;> intro e_ <;> (try simp [*, l1Order_iff, l1Fits_iff]))
    | (with_reducible refine guardR_splitNF ?_ ?_ <;> intro e_ <;> (try simp [*, l1Order_iff, l1Fits_iff]))
    | (with_reducible refine guardR_sT ?_ ?_ <;> intro e_ <;> (try simp [*, l1Order_iff, l1Fits_iff]))
    | (with_reducible refine guardR_sF ?_ ?_ <;> intro e_ <;> (try simp [*, l1Order_iff, l1Fits_iff])))
  all_goals (first | (simp_all; done) | omega | grind | skip)

def boxB (k : Int) : Bool := decide (k = 6 ∨ k = 7)
def deepB (k : Int) : Bool := decide (k = 6 ∨ k = 7 ∨ k = 11)
theorem isBox_iff (a1 a2 a3 a4 a5 a6 a7 a8 a9 a10 a11 a12 a13 a15 : Int) (a14 : ByteArray) (h : AH) (R : AV → AH → Prop) : CA 72 [.agg [.int .i64 a1, .int .i64 a2, .int .i64 a3, .int .i64 a4, .int .i64 a5, .int .i64 a6, .int .i64 a7, .int .i64 a8, .int .i64 a9, .int .i64 a10, .int .i64 a11, .int .i64 a12, .int .i64 a13, .str a14, .int .i64 a15]] h R ↔ R (.bool (boxB a1)) h := by
  refine ca_pure (af := ac72) rfl ?_
  simp [ac72, boxB]
  repeat' (first
    | (with_reducible refine condR_splitND ?_ ?_ <;> intro e_ <;> (try simp [*]))
    | (with_reducible refine condR_splitD ?_ ?_ <;> intro e_ <;> (try simp [*]))
    | (with_reducible refine condR_splitN ?_ ?_ <;> intro e_ <;> (try simp [*]))
    | (with_reducible refine condR_split ?_ ?_ <;> intro e_ <;> (try simp [*]))
    | (with_reducible refine guardR_splitT ?_ ?_ <;> intro e_ <;> (try simp [*]))
    | (with_reducible refine guardR_splitF ?_ ?_ <;> intro e_ <;> (try simp [*]))
    | (with_reducible refine guardR_splitNT ?_ ?_ <;> intro e_ <;> (try simp [*]))
    | (with_reducible refine guardR_splitNF ?_ ?_ <;> intro e_ <;> (try simp [*]))
    | (with_reducible refine guardR_sT ?_ ?_ <;> intro e_ <;> (try simp [*]))
    | (with_reducible refine guardR_sF ?_ ?_ <;> intro e_ <;> (try simp [*])))
theorem holds_iff (a1 a2 a3 a4 a5 a6 a7 a8 a9 a10 a11 a12 a13 a15 : Int) (a14 : ByteArray) (h : AH) (R : AV → AH → Prop) : CA 57 [.agg [.int .i64 a1, .int .i64 a2, .int .i64 a3, .int .i64 a4, .int .i64 a5, .int .i64 a6, .int .i64 a7, .int .i64 a8, .int .i64 a9, .int .i64 a10, .int .i64 a11, .int .i64 a12, .int .i64 a13, .str a14, .int .i64 a15]] h R ↔ R (.bool (deepB a1)) h := by
  refine ca_pure (af := ac57) rfl ?_
  simp [ac57, deepB, isBox_iff, boxB]
  repeat' (first
    | (with_reducible refine condR_splitND ?_ ?_ <;> intro e_ <;> (try simp [*]))
    | (with_reducible refine condR_splitD ?_ ?_ <;> intro e_ <;> (try simp [*]))
    | (with_reducible refine condR_splitN ?_ ?_ <;> intro e_ <;> (try simp [*]))
    | (with_reducible refine condR_split ?_ ?_ <;> intro e_ <;> (try simp [*]))
    | (with_reducible refine guardR_splitT ?_ ?_ <;> intro e_ <;> (try simp [*]))
    | (with_reducible refine guardR_splitF ?_ ?_ <;> intro e_ <;> (try simp [*]))
    | (with_reducible refine guardR_splitNT ?_ ?_ <;> intro e_ <;> (try simp [*]))
    | (with_reducible refine guardR_splitNF ?_ ?_ <;> intro e_ <;> (try simp [*]))
    | (with_reducible refine guardR_sT ?_ ?_ <;> intro e_ <;> (try simp [*]))
    | (with_reducible refine guardR_sF ?_ ?_ <;> intro e_ <;> (try simp [*])))
  all_goals (first | omega | grind)
theorem l8Deep_iff (a1 a2 a3 a4 a5 a6 a7 a8 a9 a10 a11 a12 a13 a15 : Int) (a14 : ByteArray) (h : AH) (R : AV → AH → Prop) : CA 76 [.agg [.int .i64 a1, .int .i64 a2, .int .i64 a3, .int .i64 a4, .int .i64 a5, .int .i64 a6, .int .i64 a7, .int .i64 a8, .int .i64 a9, .int .i64 a10, .int .i64 a11, .int .i64 a12, .int .i64 a13, .str a14, .int .i64 a15]] h R ↔ R (.bool (deepB a1)) h := by
  refine ca_pure (af := ac76) rfl ?_
  simp [ac76, deepB]
  repeat' (first
    | (with_reducible refine condR_splitND ?_ ?_ <;> intro e_ <;> (try simp [*]))
    | (with_reducible refine condR_splitD ?_ ?_ <;> intro e_ <;> (try simp [*]))
    | (with_reducible refine condR_splitN ?_ ?_ <;> intro e_ <;> (try simp [*]))
    | (with_reducible refine condR_split ?_ ?_ <;> intro e_ <;> (try simp [*]))
    | (with_reducible refine guardR_splitT ?_ ?_ <;> intro e_ <;> (try simp [*]))
    | (with_reducible refine guardR_splitF ?_ ?_ <;> intro e_ <;> (try simp [*]))
    | (with_reducible refine guardR_splitNT ?_ ?_ <;> intro e_ <;> (try simp [*]))
    | (with_reducible refine guardR_splitNF ?_ ?_ <;> intro e_ <;> (try simp [*]))
    | (with_reducible refine guardR_sT ?_ ?_ <;> intro e_ <;> (try simp [*]))
    | (with_reducible refine guardR_sF ?_ ?_ <;> intro e_ <;> (try simp [*])))
def fontB (x : Node) : Bool := decide (0 ≤ x.font ∧ x.font ≤ 15 ∧ 0 ≤ x.char ∧ x.char ≤ 255)
theorem l8FontOk_iff (a1 a2 a3 a4 a5 a6 a7 a8 a9 a10 a11 a12 a13 a15 : Int) (a14 : ByteArray) (h : AH) (R : AV → AH → Prop) : CA 89 [.agg [.int .i64 a1, .int .i64 a2, .int .i64 a3, .int .i64 a4, .int .i64 a5, .int .i64 a6, .int .i64 a7, .int .i64 a8, .int .i64 a9, .int .i64 a10, .int .i64 a11, .int .i64 a12, .int .i64 a13, .str a14, .int .i64 a15]] h R ↔ R (.bool (fontB ⟨a1, a2, a3, a4, a5, a6, a7, a8, ⟨a9, a10, a11, a12, a13⟩, a14, a15⟩)) h := by
  refine ca_pure (af := ac89) rfl ?_
  simp [ac89, fontB]
  repeat' (first
    | (with_reducible refine condR_splitND ?_ ?_ <;> intro e_ <;> (try simp [*]))
    | (with_reducible refine condR_splitD ?_ ?_ <;> intro e_ <;> (try simp [*]))
    | (with_reducible refine condR_splitN ?_ ?_ <;> intro e_ <;> (try simp [*]))
    | (with_reducible refine condR_split ?_ ?_ <;> intro e_ <;> (try simp [*]))
    | (with_reducible refine guardR_splitT ?_ ?_ <;> intro e_ <;> (try simp [*]))
    | (with_reducible refine guardR_splitF ?_ ?_ <;> intro e_ <;> (try simp [*]))
    | (with_reducible refine guardR_splitNT ?_ ?_ <;> intro e_ <;> (try simp [*]))
    | (with_reducible refine guardR_splitNF ?_ ?_ <;> intro e_ <;> (try simp [*]))
    | (with_reducible refine guardR_sT ?_ ?_ <;> intro e_ <;> (try simp [*]))
    | (with_reducible refine guardR_sF ?_ ?_ <;> intro e_ <;> (try simp [*])))
  all_goals (first | (simp_all; done) | omega | grind | skip)

/-- Only what a node of its kind uses. -/
def used (x : Node) : Node :=
  let z : Node := ⟨x.kind, 0, 0, 0, 0, 0, 0, 0, ⟨0, 0, 0, 0, 0⟩, ⟨#[]⟩, 0⟩
  if x.kind = 1 ∨ x.kind = 8 then { z with font := x.font, char := x.char, width := x.width, height := x.height, depth := x.depth }
  else if x.kind = 2 then { z with width := x.width }
  else if x.kind = 3 then { z with width := x.width, glue := x.glue }
  else if x.kind = 4 then { z with n := x.n }
  else if x.kind = 5 then { z with width := x.width, height := x.height, depth := x.depth }
  else if x.kind = 6 ∨ x.kind = 7 then { z with width := x.width, height := x.height, depth := x.depth, shift := x.shift, kids := x.kids }
  else if x.kind = 9 ∨ x.kind = 10 then { z with text := x.text }
  else if x.kind = 11 then { z with n := x.n, height := x.height, kids := x.kids }
  else z
set_option maxRecDepth 100000 in
theorem l8Used_iff (x : Node) (h : AH) (R : AV → AH → Prop) : CA 88 [.agg x.enc] h R ↔ R (.agg (used x).enc) h := by
  refine ca_pure (af := ac88) rfl ?_
  simp [ac88, used]
  repeat' (first
    | (with_reducible refine condR_splitND ?_ ?_ <;> intro e_ <;> (try simp [*]))
    | (with_reducible refine condR_splitD ?_ ?_ <;> intro e_ <;> (try simp [*]))
    | (with_reducible refine condR_splitN ?_ ?_ <;> intro e_ <;> (try simp [*]))
    | (with_reducible refine condR_split ?_ ?_ <;> intro e_ <;> (try simp [*]))
    | (with_reducible refine guardR_splitT ?_ ?_ <;> intro e_ <;> (try simp [*]))
    | (with_reducible refine guardR_splitF ?_ ?_ <;> intro e_ <;> (try simp [*]))
    | (with_reducible refine guardR_splitNT ?_ ?_ <;> intro e_ <;> (try simp [*]))
    | (with_reducible refine guardR_splitNF ?_ ?_ <;> intro e_ <;> (try simp [*]))
    | (with_reducible refine guardR_sT ?_ ?_ <;> intro e_ <;> (try simp [*]))
    | (with_reducible refine guardR_sF ?_ ?_ <;> intro e_ <;> (try simp [*])))
/-- Is the node, by itself, as its kind wants it? -/
def okB (x : Node) : Bool := decide (1 ≤ x.kind ∧ x.kind ≤ 11 ∧ used x = x) && (fitsB x.width && fitsB x.height && fitsB x.depth && fitsB x.shift && glueB x.glue) &&
  decide (¬ (x.kind = 4 ∧ (x.n < -10000 ∨ x.n > 10000)) ∧ ¬ (x.kind = 11 ∧ (x.n < 0 ∨ x.n > 15))) && fontB x && decide (x.text.size ≤ 1000)
theorem Node.eq_iff (x y : Node) : x = y ↔ (x.kind = y.kind ∧ x.width = y.width ∧ x.height = y.height ∧ x.depth = y.depth ∧ x.shift = y.shift ∧ x.font = y.font ∧ x.char = y.char ∧ x.n = y.n ∧ (x.glue.size = y.glue.size ∧ x.glue.plus = y.glue.plus ∧ x.glue.plusOrder = y.glue.plusOrder ∧ x.glue.minus = y.glue.minus ∧ x.glue.minusOrder = y.glue.minusOrder) ∧ x.text = y.text ∧ x.kids = y.kids) := by
  obtain ⟨_, _, _, _, _, _, _, _, ⟨_, _, _, _, _⟩, _, _⟩ := x
  obtain ⟨_, _, _, _, _, _, _, _, ⟨_, _, _, _, _⟩, _, _⟩ := y
  simp [and_assoc]
theorem Node.cells_eq (x y : Node) : eqCells [1, 1, 1, 1, 1, 1, 1, 1, 1, 1, 1, 1, 1, 2, 1] x.enc y.enc = some (decide (y = x)) := by
  simp [Node.eq_iff]
  rw [Bool.eq_iff_iff]
  simp
  constructor <;> intro h <;> simp [h]
set_option maxRecDepth 100000 in
set_option maxHeartbeats 2000000 in
theorem l8NodeOk_x (x : Node) (h : AH) (R : AV → AH → Prop) : CA 75 [.agg x.enc] h R ↔ R (.bool (okB x)) h := by
  refine ca_pure (af := ac75) rfl ?_
  have e1 := l8Used_iff x
  have e3 := Node.cells_eq x (used x)
  simp only [Node.enc] at e1 e3
  simp [-eqCells, ac75, okB, e1, e3, l8FontOk_iff, l1Fits_iff, specGlueOk_iff]
  repeat' (first
    | (with_reducible refine condR_splitND ?_ ?_ <;> intro e_ <;> (try simp [*, l1Fits_iff, specGlueOk_iff, l8FontOk_iff, -eqCells]))
    | (with_reducible refine condR_splitD ?_ ?_ <;> intro e_ <;> (try simp [*, l1Fits_iff, specGlueOk_iff, l8FontOk_iff, -eqCells]))
    | (with_reducible refine condR_splitN ?_ ?_ <;> intro e_ <;> (try simp [*, l1Fits_iff, specGlueOk_iff, l8FontOk_iff, -eqCells]))
    | (with_reducible refine condR_split ?_ ?_ <;> intro e_ <;> (try simp [*, l1Fits_iff, specGlueOk_iff, l8FontOk_iff, -eqCells]))
    | (with_reducible refine guardR_splitT ?_ ?_ <;> intro e_ <;> (try simp [*, l1Fits_iff, specGlueOk_iff, l8FontOk_iff, -eqCells]))
    | (with_reducible refine guardR_splitF ?_ ?_ <;> intro e_ <;> (try simp [*, l1Fits_iff, specGlueOk_iff, l8FontOk_iff, -eqCells]))
    | (with_reducible refine guardR_splitNT ?_ ?_ <;> intro e_ <;> (try simp [*, l1Fits_iff, specGlueOk_iff, l8FontOk_iff, -eqCells]))
    | (with_reducible refine guardR_splitNF ?_ ?_ <;> intro e_ <;> (try simp [*, l1Fits_iff, specGlueOk_iff, l8FontOk_iff, -eqCells]))
    | (with_reducible refine guardR_sT ?_ ?_ <;> intro e_ <;> (try simp [*, l1Fits_iff, specGlueOk_iff, l8FontOk_iff, -eqCells]))
    | (with_reducible refine guardR_sF ?_ ?_ <;> intro e_ <;> (try simp [*, l1Fits_iff, specGlueOk_iff, l8FontOk_iff, -eqCells])))
  all_goals simp only [fontB, Node.eta, Glue.eta] at *
  all_goals grind
set_option maxRecDepth 100000 in
set_option maxHeartbeats 4000000 in
theorem nodeOk_x (x : Node) (h : AH) (R : AV → AH → Prop) : CA 56 [.agg x.enc] h R ↔ R (.bool (okB x && decide (0 ≤ x.kids))) h := by
  refine ca_pure (af := ac56) rfl ?_
  have hk : x.kind = 1 ∨ x.kind = 2 ∨ x.kind = 3 ∨ x.kind = 4 ∨ x.kind = 5 ∨ x.kind = 6 ∨ x.kind = 7 ∨ x.kind = 8 ∨ x.kind = 9 ∨ x.kind = 10 ∨ x.kind = 11 ∨ (x.kind < 1 ∨ 11 < x.kind) := by omega
  rcases hk with hk | hk | hk | hk | hk | hk | hk | hk | hk | hk | hk | hk
  case inr.inr.inr.inr.inr.inr.inr.inr.inr.inr.inr =>
    have e : okB x = false := by
      have : ¬ (1 ≤ x.kind ∧ x.kind ≤ 11) := by omega
      simp only [okB]; grind
    have n1 : ¬ x.kind = 1 := by omega
    have n2 : ¬ x.kind = 2 := by omega
    have n3 : ¬ x.kind = 3 := by omega
    have n4 : ¬ x.kind = 4 := by omega
    have n5 : ¬ x.kind = 5 := by omega
    have n6 : ¬ x.kind = 6 := by omega
    have n7 : ¬ x.kind = 7 := by omega
    have n8 : ¬ x.kind = 8 := by omega
    have n9 : ¬ x.kind = 9 := by omega
    have n10 : ¬ x.kind = 10 := by omega
    have n11 : ¬ x.kind = 11 := by omega
    simp [ac56, e, n1, n2, n3, n4, n5, n6, n7, n8, n9, n10, n11]
  all_goals
    simp [ac56, hk, GlueOk_iff, fits_iff]
    repeat' (first
      | (with_reducible refine condR_splitND ?_ ?_ <;> intro e_ <;> (try simp [*, GlueOk_iff, fits_iff]))
      | (with_reducible refine condR_splitD ?_ ?_ <;> intro e_ <;> (try simp [*, GlueOk_iff, fits_iff]))
      | (with_reducible refine condR_splitN ?_ ?_ <;> intro e_ <;> (try simp [*, GlueOk_iff, fits_iff]))
      | (with_reducible refine condR_split ?_ ?_ <;> intro e_ <;> (try simp [*, GlueOk_iff, fits_iff]))
      | (with_reducible refine guardR_splitT ?_ ?_ <;> intro e_ <;> (try simp [*, GlueOk_iff, fits_iff]))
      | (with_reducible refine guardR_splitF ?_ ?_ <;> intro e_ <;> (try simp [*, GlueOk_iff, fits_iff]))
      | (with_reducible refine guardR_splitNT ?_ ?_ <;> intro e_ <;> (try simp [*, GlueOk_iff, fits_iff]))
      | (with_reducible refine guardR_splitNF ?_ ?_ <;> intro e_ <;> (try simp [*, GlueOk_iff, fits_iff]))
      | (with_reducible refine guardR_sT ?_ ?_ <;> intro e_ <;> (try simp [*, GlueOk_iff, fits_iff]))
      | (with_reducible refine guardR_sF ?_ ?_ <;> intro e_ <;> (try simp [*, GlueOk_iff, fits_iff])))
    all_goals
      have z1 : fitsB 0 = true := rfl
      have z2 : ordB 0 = true := rfl
      simp [okB, used, hk, Node.eq_iff, fontB, glueB, eq_comm (a := (0 : Int)), eq_comm (a := ByteArray.mk #[])] at *
      first | grind | (simp [*, ByteArray.size]; done)
theorem nodeOk_iff (a1 a2 a3 a4 a5 a6 a7 a8 a9 a10 a11 a12 a13 a15 : Int) (a14 : ByteArray) (h : AH) (R : AV → AH → Prop) : CA 56 [.agg [.int .i64 a1, .int .i64 a2, .int .i64 a3, .int .i64 a4, .int .i64 a5, .int .i64 a6, .int .i64 a7, .int .i64 a8, .int .i64 a9, .int .i64 a10, .int .i64 a11, .int .i64 a12, .int .i64 a13, .str a14, .int .i64 a15]] h R ↔ R (.bool (okB ⟨a1, a2, a3, a4, a5, a6, a7, a8, ⟨a9, a10, a11, a12, a13⟩, a14, a15⟩ && decide (0 ≤ a15))) h := nodeOk_x ⟨a1, a2, a3, a4, a5, a6, a7, a8, ⟨a9, a10, a11, a12, a13⟩, a14, a15⟩ h R
theorem l8NodeOk_iff (a1 a2 a3 a4 a5 a6 a7 a8 a9 a10 a11 a12 a13 a15 : Int) (a14 : ByteArray) (h : AH) (R : AV → AH → Prop) : CA 75 [.agg [.int .i64 a1, .int .i64 a2, .int .i64 a3, .int .i64 a4, .int .i64 a5, .int .i64 a6, .int .i64 a7, .int .i64 a8, .int .i64 a9, .int .i64 a10, .int .i64 a11, .int .i64 a12, .int .i64 a13, .str a14, .int .i64 a15]] h R ↔ R (.bool (okB ⟨a1, a2, a3, a4, a5, a6, a7, a8, ⟨a9, a10, a11, a12, a13⟩, a14, a15⟩)) h := l8NodeOk_x ⟨a1, a2, a3, a4, a5, a6, a7, a8, ⟨a9, a10, a11, a12, a13⟩, a14, a15⟩ h R
end Go.Proofs.Ytcdkgonmdenakaa
