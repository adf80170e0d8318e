/- Contracts of the functions of one node. -/
import Derived.Test.YtnaainlddcpfgaaAmM
import Derived.Test.YtnaainlddcpfgaaAc2
namespace Go.Proofs.Ytnaainlddcpfgaa
open Go Go.Am Go.Proofs
set_option linter.all false

structure Nd where
  kind : Int
  width : Int
  height : Int
  depth : Int
  shift : Int
  font : Int
  char : Int
  n : Int
  size : Int
  plus : Int
  plusO : Int
  minus : Int
  minusO : Int
  text : ByteArray
  kids : Int
  deriving Inhabited

def Nd.enc (x : Nd) : List AV := [.int .i64 x.kind, .int .i64 x.width, .int .i64 x.height, .int .i64 x.depth, .int .i64 x.shift, .int .i64 x.font, .int .i64 x.char, .int .i64 x.n,
  .int .i64 x.size, .int .i64 x.plus, .int .i64 x.plusO, .int .i64 x.minus, .int .i64 x.minusO, .str x.text, .int .i64 x.kids]
def Nd.glue (x : Nd) : List AV := [.int .i64 x.size, .int .i64 x.plus, .int .i64 x.plusO, .int .i64 x.minus, .int .i64 x.minusO]
theorem Nd.ok : EncOk 15 Nd.enc := ⟨fun _ => rfl, fun _ => rfl⟩

def CA : AQ := ACalls ap noE
theorem ca_iff {f : FuncId} {af : AFunc} (hf : ap f = some af) {args : List AV} {h : AH} {R : AV → AH → Prop} : CA f args h R ↔ abody CA af args h R := acall_iff hf
@[congr] theorem ca_congr {f : FuncId} {a a' : List AV} {h h' : AH} {R : AV → AH → Prop} (ea : tick a = a') (eh : h = h') : CA f a h R = CA f a' h' R := by rw [← ea, eh]; rfl
theorem ca_pure {f : FuncId} {af : AFunc} (hf : ap f = some af) {args : List AV} {h : AH} {v : AV} {R : AV → AH → Prop} (hb : abody CA af args h (fun v' h' => v' = v ∧ h' = h)) : CA f args h R ↔ R v h := acalls_det (acall noE_mono hf hb)
theorem ca_mono : CA.Mono := acalls_mono noE_mono

def fitsB (n : Int) : Bool := decide (-1073741823 ≤ n ∧ n ≤ 1073741823)
theorem fits_iff (n : Int) (h : AH) (R : AV → AH → Prop) : CA 99 [.int .i64 n] h R ↔ R (.bool (fitsB n)) h := by
  rw [ca_iff (af := ac99) rfl]
  by_cases h1 : -1073741823 ≤ n <;> simp [ac99, fitsB, h1]
theorem l1Fits_iff (n : Int) (h : AH) (R : AV → AH → Prop) : CA 107 [.int .i64 n] h R ↔ R (.bool (fitsB n)) h := by
  rw [ca_iff (af := ac107) rfl]
  by_cases h1 : -1073741823 ≤ n <;> simp [ac107, fitsB, h1]

theorem toGlue_iff (a b c d e : Int) (h : AH) (R : AV → AH → Prop) : CA 58 [.agg [.int .i64 a, .int .i64 b, .int .i64 c, .int .i64 d, .int .i64 e]] h R ↔ R (.agg [.int .i64 a, .int .i64 b, .int .i64 c, .int .i64 d, .int .i64 e]) h := by
  rw [ca_iff (af := ac58) rfl]
  simp [ac58]

set_option maxRecDepth 100000 in
theorem toNode_iff (x : Nd) (h : AH) (R : AV → AH → Prop) : CA 42 [.agg x.enc] h R ↔ R (.agg x.enc) h := by
  rw [ca_iff (af := ac42) rfl]
  simp [ac42, Nd.enc, toGlue_iff]


def b5 (x y : Nd) : Bool := x.size == y.size && x.plus == y.plus && x.plusO == y.plusO && x.minus == y.minus && x.minusO == y.minusO
theorem eqGlue_iff (a b c d e a' b' c' d' e' : Int) (h : AH) (R : AV → AH → Prop) : CA 69 [.agg [.int .i64 a, .int .i64 b, .int .i64 c, .int .i64 d, .int .i64 e], .agg [.int .i64 a', .int .i64 b', .int .i64 c', .int .i64 d', .int .i64 e']] h R ↔
    R (.bool (decide (a = a' ∧ b = b' ∧ c = c' ∧ d = d' ∧ e = e'))) h := by
  rw [ca_iff (af := ac69) rfl]
  simp [ac69]
  by_cases h1 : a = a' <;> simp [h1]
  by_cases h2 : b = b' <;> simp [h2]
  by_cases h3 : c = c' <;> simp [h3]
  by_cases h4 : d = d' <;> simp [h4]
  by_cases h5 : e = e' <;> simp [h5]

instance : DecidableEq Nd := fun x y => decidable_of_iff (x.kind = y.kind ∧ x.width = y.width ∧ x.height = y.height ∧ x.depth = y.depth ∧ x.shift = y.shift ∧ x.font = y.font ∧ x.char = y.char ∧ x.n = y.n ∧ (x.size = y.size ∧ x.plus = y.plus ∧ x.plusO = y.plusO ∧ x.minus = y.minus ∧ x.minusO = y.minusO) ∧ x.text = y.text ∧ x.kids = y.kids) (by
  cases x; cases y; simp [and_assoc])

theorem Nd.eq_iff (x y : Nd) : x = y ↔ (x.kind = y.kind ∧ x.width = y.width ∧ x.height = y.height ∧ x.depth = y.depth ∧ x.shift = y.shift ∧ x.font = y.font ∧ x.char = y.char ∧ x.n = y.n ∧ (x.size = y.size ∧ x.plus = y.plus ∧ x.plusO = y.plusO ∧ x.minus = y.minus ∧ x.minusO = y.minusO) ∧ x.text = y.text ∧ x.kids = y.kids) := by
  cases x; cases y; simp [and_assoc]

theorem Nd.cells_eq (x y : Nd) : eqCells [1, 1, 1, 1, 1, 1, 1, 1, 1, 1, 1, 1, 1, 2, 1] x.enc y.enc = some (decide (y = x)) := by
  simp [Nd.enc, Nd.eq_iff]
  rw [Bool.eq_iff_iff]
  simp
  constructor <;> intro h <;> simp [h]

set_option maxRecDepth 100000 in
theorem eqNode_iff (x y : Nd) (h : AH) (R : AV → AH → Prop) : CA 46 [.agg x.enc, .agg y.enc] h R ↔ R (.bool (decide (x = y))) h := by
  refine ca_pure (af := ac46) rfl ?_
  simp [ac46, Nd.enc, eqGlue_iff, Nd.eq_iff x y]
  repeat' (first
    | (with_reducible refine condR_splitND ?_ ?_ <;> intro e_ <;> (try simp [*, eqGlue_iff]))
    | (with_reducible refine condR_splitD ?_ ?_ <;> intro e_ <;> (try simp [*, eqGlue_iff]))
    | (with_reducible refine condR_splitN ?_ ?_ <;> intro e_ <;> (try simp [*, eqGlue_iff]))
    | (with_reducible refine condR_split ?_ ?_ <;> intro e_ <;> (try simp [*, eqGlue_iff]))
    | (with_reducible refine guardR_splitT ?_ ?_ <;> intro e_ <;> (try simp [*, eqGlue_iff]))
    | (with_reducible refine guardR_splitF ?_ ?_ <;> intro e_ <;> (try simp [*, eqGlue_iff]))
    | (with_reducible refine guardR_splitNT ?_ ?_ <;> intro e_ <;> (try simp [*, eqGlue_iff]))
    | (with_reducible refine guardR_splitNF ?_ ?_ <;> intro e_ <;> (try simp [*, eqGlue_iff]))
    | (with_reducible refine guardR_sT ?_ ?_ <;> intro e_ <;> (try simp [*, eqGlue_iff]))
    | (with_reducible refine guardR_sF ?_ ?_ <;> intro e_ <;> (try simp [*, eqGlue_iff])))
  all_goals (first | (simp_all; done) | omega | grind | skip)

def ordB (n : Int) : Bool := decide (0 ≤ n ∧ n ≤ 3)
theorem ord_iff (n : Int) (h : AH) (R : AV → AH → Prop) : CA 118 [.int .i64 n] h R ↔ R (.bool (ordB n)) h := by
  rw [ca_iff (af := ac118) rfl]
  by_cases h1 : 0 ≤ n <;> simp [ac118, ordB, h1]
theorem l1Order_iff (n : Int) (h : AH) (R : AV → AH → Prop) : CA 119 [.int .i64 n] h R ↔ R (.bool (ordB n)) h := by
  rw [ca_iff (af := ac119) rfl]
  by_cases h1 : 0 ≤ n <;> simp [ac119, ordB, h1]
def glueB (a b c d e : Int) : Bool := fitsB a && fitsB b && fitsB d && ordB c && ordB e
theorem glueOk_iff (a b c d e : Int) (h : AH) (R : AV → AH → Prop) : CA 98 [.agg [.int .i64 a, .int .i64 b, .int .i64 c, .int .i64 d, .int .i64 e]] h R ↔ R (.bool (glueB a b c d e)) h := by
  refine ca_pure (af := ac98) rfl ?_
  simp [ac98, fits_iff, ord_iff, glueB]
  repeat' (first
    | (with_reducible refine condR_splitND ?_ ?_ <;> intro e_ <;> (try simp [*, fits_iff, ord_iff]))
    | (with_reducible refine condR_splitD ?_ ?_ <;> intro e_ <;> (try simp [*, fits_iff, ord_iff]))
    | (with_reducible refine condR_splitN ?_ ?_ <;> intro e_ <;> (try simp [*, fits_iff, ord_iff]))
    | (with_reducible refine condR_split ?_ ?_ <;> intro e_ <;> (try simp [*, fits_iff, ord_iff]))
    | (with_reducible refine guardR_splitT ?_ ?_ <;> intro e_ <;> (try simp [*, fits_iff, ord_iff]))
    | (with_reducible refine guardR_splitF ?_ ?_ <;> intro e_ <;> (try simp [*, fits_iff, ord_iff]))
    | (with_reducible refine guardR_splitNT ?_ ?_ <;> intro e_ <;> (try simp [*, fits_iff, ord_iff]))
    | (with_reducible refine guardR_splitNF ?_ ?_ <;> intro e_ <;> (try simp [*, fits_iff, ord_iff]))
    | (with_reducible refine guardR_sT ?_ ?_ <;> intro e_ <;> (try simp [*, fits_iff, ord_iff]))
    | (with_reducible refine guardR_sF ?_ ?_ <;> intro e_ <;> (try simp [*, fits_iff, ord_iff])))
theorem l1GlueOk_iff (a b c d e : Int) (h : AH) (R : AV → AH → Prop) : CA 100 [.agg [.int .i64 a, .int .i64 b, .int .i64 c, .int .i64 d, .int .i64 e]] h R ↔ R (.bool (glueB a b c d e)) h := by
  refine ca_pure (af := ac100) rfl ?_
  simp [ac100, l1Fits_iff, l1Order_iff, glueB]
  repeat' (first
    | (with_reducible refine condR_splitND ?_ ?_ <;> intro e_ <;> (try simp [*, l1Fits_iff, l1Order_iff]))
    | (with_reducible refine condR_splitD ?_ ?_ <;> intro e_ <;> (try simp [*, l1Fits_iff, l1Order_iff]))
    | (with_reducible refine condR_splitN ?_ ?_ <;> intro e_ <;> (try simp [*, l1Fits_iff, l1Order_iff]))
    | (with_reducible refine condR_split ?_ ?_ <;> intro e_ <;> (try simp [*, l1Fits_iff, l1Order_iff]))
    | (with_reducible refine guardR_splitT ?_ ?_ <;> intro e_ <;> (try simp [*, l1Fits_iff, l1Order_iff]))
    | (with_reducible refine guardR_splitF ?_ ?_ <;> intro e_ <;> (try simp [*, l1Fits_iff, l1Order_iff]))
    | (with_reducible refine guardR_splitNT ?_ ?_ <;> intro e_ <;> (try simp [*, l1Fits_iff, l1Order_iff]))
    | (with_reducible refine guardR_splitNF ?_ ?_ <;> intro e_ <;> (try simp [*, l1Fits_iff, l1Order_iff]))
    | (with_reducible refine guardR_sT ?_ ?_ <;> intro e_ <;> (try simp [*, l1Fits_iff, l1Order_iff]))
    | (with_reducible refine guardR_sF ?_ ?_ <;> intro e_ <;> (try simp [*, l1Fits_iff, l1Order_iff])))
def boxB (k : Int) : Bool := decide (k = 6 ∨ k = 7)
def deepB (k : Int) : Bool := decide (k = 6 ∨ k = 7 ∨ k = 11)
theorem isBox_iff (x : Nd) (h : AH) (R : AV → AH → Prop) : CA 68 [.agg x.enc] h R ↔ R (.bool (boxB x.kind)) h := by
  refine ca_pure (af := ac68) rfl ?_
  simp [ac68, Nd.enc, boxB]
  repeat' (first
    | (with_reducible refine condR_splitND ?_ ?_ <;> intro e_ <;> (try simp [*]))
    | (with_reducible refine condR_splitD ?_ ?_ <;> intro e_ <;> (try simp [*]))
    | (with_reducible refine condR_splitN ?_ ?_ <;> intro e_ <;> (try simp [*]))
    | (with_reducible refine condR_split ?_ ?_ <;> intro e_ <;> (try simp [*]))
    | (with_reducible refine guardR_splitT ?_ ?_ <;> intro e_ <;> (try simp [*]))
    | (with_reducible refine guardR_splitF ?_ ?_ <;> intro e_ <;> (try simp [*]))
    | (with_reducible refine guardR_splitNT ?_ ?_ <;> intro e_ <;> (try simp [*]))
    | (with_reducible refine guardR_splitNF ?_ ?_ <;> intro e_ <;> (try simp [*]))
    | (with_reducible refine guardR_sT ?_ ?_ <;> intro e_ <;> (try simp [*]))
    | (with_reducible refine guardR_sF ?_ ?_ <;> intro e_ <;> (try simp [*])))
theorem l8Box_iff (x : Nd) (h : AH) (R : AV → AH → Prop) : CA 67 [.agg x.enc] h R ↔ R (.bool (boxB x.kind)) h := by
  refine ca_pure (af := ac67) rfl ?_
  simp [ac67, Nd.enc, boxB]
  repeat' (first
    | (with_reducible refine condR_splitND ?_ ?_ <;> intro e_ <;> (try simp [*]))
    | (with_reducible refine condR_splitD ?_ ?_ <;> intro e_ <;> (try simp [*]))
    | (with_reducible refine condR_splitN ?_ ?_ <;> intro e_ <;> (try simp [*]))
    | (with_reducible refine condR_split ?_ ?_ <;> intro e_ <;> (try simp [*]))
    | (with_reducible refine guardR_splitT ?_ ?_ <;> intro e_ <;> (try simp [*]))
    | (with_reducible refine guardR_splitF ?_ ?_ <;> intro e_ <;> (try simp [*]))
    | (with_reducible refine guardR_splitNT ?_ ?_ <;> intro e_ <;> (try simp [*]))
    | (with_reducible refine guardR_splitNF ?_ ?_ <;> intro e_ <;> (try simp [*]))
    | (with_reducible refine guardR_sT ?_ ?_ <;> intro e_ <;> (try simp [*]))
    | (with_reducible refine guardR_sF ?_ ?_ <;> intro e_ <;> (try simp [*])))
theorem holds_iff (x : Nd) (h : AH) (R : AV → AH → Prop) : CA 76 [.agg x.enc] h R ↔ R (.bool (deepB x.kind)) h := by
  have := isBox_iff x
  simp only [Nd.enc] at this
  refine ca_pure (af := ac76) rfl ?_
  simp [ac76, Nd.enc, deepB, this]
  repeat' (first
    | (with_reducible refine condR_splitND ?_ ?_ <;> intro e_ <;> (try simp [*]))
    | (with_reducible refine condR_splitD ?_ ?_ <;> intro e_ <;> (try simp [*]))
    | (with_reducible refine condR_splitN ?_ ?_ <;> intro e_ <;> (try simp [*]))
    | (with_reducible refine condR_split ?_ ?_ <;> intro e_ <;> (try simp [*]))
    | (with_reducible refine guardR_splitT ?_ ?_ <;> intro e_ <;> (try simp [*]))
    | (with_reducible refine guardR_splitF ?_ ?_ <;> intro e_ <;> (try simp [*]))
    | (with_reducible refine guardR_splitNT ?_ ?_ <;> intro e_ <;> (try simp [*]))
    | (with_reducible refine guardR_splitNF ?_ ?_ <;> intro e_ <;> (try simp [*]))
    | (with_reducible refine guardR_sT ?_ ?_ <;> intro e_ <;> (try simp [*]))
    | (with_reducible refine guardR_sF ?_ ?_ <;> intro e_ <;> (try simp [*])))
  all_goals (clear this; simp [boxB] at *; first | omega | simp [*])
theorem l8Deep_iff (x : Nd) (h : AH) (R : AV → AH → Prop) : CA 92 [.agg x.enc] h R ↔ R (.bool (deepB x.kind)) h := by
  refine ca_pure (af := ac92) rfl ?_
  simp [ac92, Nd.enc, deepB]
  repeat' (first
    | (with_reducible refine condR_splitND ?_ ?_ <;> intro e_ <;> (try simp [*]))
    | (with_reducible refine condR_splitD ?_ ?_ <;> intro e_ <;> (try simp [*]))
    | (with_reducible refine condR_splitN ?_ ?_ <;> intro e_ <;> (try simp [*]))
    | (with_reducible refine condR_split ?_ ?_ <;> intro e_ <;> (try simp [*]))
    | (with_reducible refine guardR_splitT ?_ ?_ <;> intro e_ <;> (try simp [*]))
    | (with_reducible refine guardR_splitF ?_ ?_ <;> intro e_ <;> (try simp [*]))
    | (with_reducible refine guardR_splitNT ?_ ?_ <;> intro e_ <;> (try simp [*]))
    | (with_reducible refine guardR_splitNF ?_ ?_ <;> intro e_ <;> (try simp [*]))
    | (with_reducible refine guardR_sT ?_ ?_ <;> intro e_ <;> (try simp [*]))
    | (with_reducible refine guardR_sF ?_ ?_ <;> intro e_ <;> (try simp [*])))
def fontB (x : Nd) : Bool := decide (0 ≤ x.font ∧ x.font ≤ 15 ∧ 0 ≤ x.char ∧ x.char ≤ 255)
theorem l8FontOk_iff (x : Nd) (h : AH) (R : AV → AH → Prop) : CA 108 [.agg x.enc] h R ↔ R (.bool (fontB x)) h := by
  refine ca_pure (af := ac108) rfl ?_
  simp [ac108, Nd.enc, fontB]
  repeat' (first
    | (with_reducible refine condR_splitND ?_ ?_ <;> intro e_ <;> (try simp [*]))
    | (with_reducible refine condR_splitD ?_ ?_ <;> intro e_ <;> (try simp [*]))
    | (with_reducible refine condR_splitN ?_ ?_ <;> intro e_ <;> (try simp [*]))
    | (with_reducible refine condR_split ?_ ?_ <;> intro e_ <;> (try simp [*]))
    | (with_reducible refine guardR_splitT ?_ ?_ <;> intro e_ <;> (try simp [*]))
    | (with_reducible refine guardR_splitF ?_ ?_ <;> intro e_ <;> (try simp [*]))
    | (with_reducible refine guardR_splitNT ?_ ?_ <;> intro e_ <;> (try simp [*]))
    | (with_reducible refine guardR_splitNF ?_ ?_ <;> intro e_ <;> (try simp [*]))
    | (with_reducible refine guardR_sT ?_ ?_ <;> intro e_ <;> (try simp [*]))
    | (with_reducible refine guardR_sF ?_ ?_ <;> intro e_ <;> (try simp [*])))
  all_goals (first | (simp_all; done) | omega | grind | skip)

/-- Only what a node of its kind uses. -/
def used (x : Nd) : Nd :=
  let z : Nd := ⟨x.kind, 0, 0, 0, 0, 0, 0, 0, 0, 0, 0, 0, 0, ⟨#[]⟩, 0⟩
  if x.kind = 1 ∨ x.kind = 8 then { z with font := x.font, char := x.char, width := x.width, height := x.height, depth := x.depth }
  else if x.kind = 2 then { z with width := x.width }
  else if x.kind = 3 then { z with width := x.width, size := x.size, plus := x.plus, plusO := x.plusO, minus := x.minus, minusO := x.minusO }
  else if x.kind = 4 then { z with n := x.n }
  else if x.kind = 5 then { z with width := x.width, height := x.height, depth := x.depth }
  else if x.kind = 6 ∨ x.kind = 7 then { z with width := x.width, height := x.height, depth := x.depth, shift := x.shift, kids := x.kids }
  else if x.kind = 9 ∨ x.kind = 10 then { z with text := x.text }
  else if x.kind = 11 then { z with n := x.n, height := x.height, kids := x.kids }
  else z
set_option maxRecDepth 100000 in
theorem l8Used_iff (x : Nd) (h : AH) (R : AV → AH → Prop) : CA 106 [.agg x.enc] h R ↔ R (.agg (used x).enc) h := by
  refine ca_pure (af := ac106) rfl ?_
  simp [ac106, Nd.enc, used]
  repeat' (first
    | (with_reducible refine condR_splitND ?_ ?_ <;> intro e_ <;> (try simp [*]))
    | (with_reducible refine condR_splitD ?_ ?_ <;> intro e_ <;> (try simp [*]))
    | (with_reducible refine condR_splitN ?_ ?_ <;> intro e_ <;> (try simp [*]))
    | (with_reducible refine condR_split ?_ ?_ <;> intro e_ <;> (try simp [*]))
    | (with_reducible refine guardR_splitT ?_ ?_ <;> intro e_ <;> (try simp [*]))
    | (with_reducible refine guardR_splitF ?_ ?_ <;> intro e_ <;> (try simp [*]))
    | (with_reducible refine guardR_splitNT ?_ ?_ <;> intro e_ <;> (try simp [*]))
    | (with_reducible refine guardR_splitNF ?_ ?_ <;> intro e_ <;> (try simp [*]))
    | (with_reducible refine guardR_sT ?_ ?_ <;> intro e_ <;> (try simp [*]))
    | (with_reducible refine guardR_sF ?_ ?_ <;> intro e_ <;> (try simp [*])))

/-- Is the node, by itself, as its kind wants it? -/
def okB (x : Nd) : Bool := decide (1 ≤ x.kind ∧ x.kind ≤ 11 ∧ used x = x) && (fitsB x.width && fitsB x.height && fitsB x.depth && fitsB x.shift && glueB x.size x.plus x.plusO x.minus x.minusO) &&
  decide (¬ (x.kind = 4 ∧ (x.n < -10000 ∨ x.n > 10000)) ∧ ¬ (x.kind = 11 ∧ (x.n < 0 ∨ x.n > 15))) && fontB x && decide (x.text.size ≤ 1000)

set_option maxRecDepth 100000 in
set_option maxHeartbeats 2000000 in
theorem l8NodeOk_iff (x : Nd) (h : AH) (R : AV → AH → Prop) : CA 91 [.agg x.enc] h R ↔ R (.bool (okB x)) h := by
  refine ca_pure (af := ac91) rfl ?_
  have e1 := l8Used_iff x
  have e2 := fun a1 a2 a3 a4 a5 a6 a7 a8 a9 a10 a11 a12 a13 a14 a15 => l8FontOk_iff ⟨a1, a2, a3, a4, a5, a6, a7, a8, a9, a10, a11, a12, a13, a14, a15⟩
  have e3 := Nd.cells_eq x (used x)
  simp only [Nd.enc] at e1 e2 e3
  simp [-eqCells, ac91, Nd.enc, okB, e1, e2, e3, l1Fits_iff, l1GlueOk_iff]
  repeat' (first
    | (with_reducible refine condR_splitND ?_ ?_ <;> intro e_ <;> (try simp [*, l1Fits_iff, l1GlueOk_iff, -eqCells]))
    | (with_reducible refine condR_splitD ?_ ?_ <;> intro e_ <;> (try simp [*, l1Fits_iff, l1GlueOk_iff, -eqCells]))
    | (with_reducible refine condR_splitN ?_ ?_ <;> intro e_ <;> (try simp [*, l1Fits_iff, l1GlueOk_iff, -eqCells]))
    | (with_reducible refine condR_split ?_ ?_ <;> intro e_ <;> (try simp [*, l1Fits_iff, l1GlueOk_iff, -eqCells]))
    | (with_reducible refine guardR_splitT ?_ ?_ <;> intro e_ <;> (try simp [*, l1Fits_iff, l1GlueOk_iff, -eqCells]))
    | (with_reducible refine guardR_splitF ?_ ?_ <;> intro e_ <;> (try simp [*, l1Fits_iff, l1GlueOk_iff, -eqCells]))
    | (with_reducible refine guardR_splitNT ?_ ?_ <;> intro e_ <;> (try simp [*, l1Fits_iff, l1GlueOk_iff, -eqCells]))
    | (with_reducible refine guardR_splitNF ?_ ?_ <;> intro e_ <;> (try simp [*, l1Fits_iff, l1GlueOk_iff, -eqCells]))
    | (with_reducible refine guardR_sT ?_ ?_ <;> intro e_ <;> (try simp [*, l1Fits_iff, l1GlueOk_iff, -eqCells]))
    | (with_reducible refine guardR_sF ?_ ?_ <;> intro e_ <;> (try simp [*, l1Fits_iff, l1GlueOk_iff, -eqCells])))
  all_goals simp only [fontB] at *
  all_goals grind


set_option maxRecDepth 100000 in
set_option maxHeartbeats 4000000 in
theorem nodeOk_iff (x : Nd) (h : AH) (R : AV → AH → Prop) : CA 75 [.agg x.enc] h R ↔ R (.bool (okB x && decide (0 ≤ x.kids))) h := by
  refine ca_pure (af := ac75) rfl ?_
  have hk : x.kind = 1 ∨ x.kind = 2 ∨ x.kind = 3 ∨ x.kind = 4 ∨ x.kind = 5 ∨ x.kind = 6 ∨ x.kind = 7 ∨ x.kind = 8 ∨ x.kind = 9 ∨ x.kind = 10 ∨ x.kind = 11 ∨ (x.kind < 1 ∨ 11 < x.kind) := by omega
  rcases hk with hk | hk | hk | hk | hk | hk | hk | hk | hk | hk | hk | hk
  case inr.inr.inr.inr.inr.inr.inr.inr.inr.inr.inr =>
    have e : okB x = false := by
      have : ¬ (1 ≤ x.kind ∧ x.kind ≤ 11) := by omega
      simp only [okB]; grind
    have n1 : ¬ x.kind = 1 := by omega
    have n2 : ¬ x.kind = 2 := by omega
    have n3 : ¬ x.kind = 3 := by omega
    have n4 : ¬ x.kind = 4 := by omega
    have n5 : ¬ x.kind = 5 := by omega
    have n6 : ¬ x.kind = 6 := by omega
    have n7 : ¬ x.kind = 7 := by omega
    have n8 : ¬ x.kind = 8 := by omega
    have n9 : ¬ x.kind = 9 := by omega
    have n10 : ¬ x.kind = 10 := by omega
    have n11 : ¬ x.kind = 11 := by omega
    simp [ac75, Nd.enc, e, n1, n2, n3, n4, n5, n6, n7, n8, n9, n10, n11]
  all_goals
    simp [ac75, Nd.enc, hk, glueOk_iff, fits_iff]
    repeat' (first
      | (with_reducible refine condR_splitND ?_ ?_ <;> intro e_ <;> (try simp [*, glueOk_iff, fits_iff]))
      | (with_reducible refine condR_splitD ?_ ?_ <;> intro e_ <;> (try simp [*, glueOk_iff, fits_iff]))
      | (with_reducible refine condR_splitN ?_ ?_ <;> intro e_ <;> (try simp [*, glueOk_iff, fits_iff]))
      | (with_reducible refine condR_split ?_ ?_ <;> intro e_ <;> (try simp [*, glueOk_iff, fits_iff]))
      | (with_reducible refine guardR_splitT ?_ ?_ <;> intro e_ <;> (try simp [*, glueOk_iff, fits_iff]))
      | (with_reducible refine guardR_splitF ?_ ?_ <;> intro e_ <;> (try simp [*, glueOk_iff, fits_iff]))
      | (with_reducible refine guardR_splitNT ?_ ?_ <;> intro e_ <;> (try simp [*, glueOk_iff, fits_iff]))
      | (with_reducible refine guardR_splitNF ?_ ?_ <;> intro e_ <;> (try simp [*, glueOk_iff, fits_iff]))
      | (with_reducible refine guardR_sT ?_ ?_ <;> intro e_ <;> (try simp [*, glueOk_iff, fits_iff]))
      | (with_reducible refine guardR_sF ?_ ?_ <;> intro e_ <;> (try simp [*, glueOk_iff, fits_iff])))
    all_goals
      have z1 : fitsB 0 = true := rfl
      have z2 : ordB 0 = true := rfl
      simp [okB, used, hk, Nd.eq_iff, fontB, glueB, eq_comm (a := (0 : Int)), eq_comm (a := ByteArray.mk #[])] at *
      first | grind | (simp [*, ByteArray.size]; done)
end Go.Proofs.Ytnaainlddcpfgaa
