/- Contracts: lengths, glue, tokens, of the program and of the reference. -/
import Derived.Test.YtojmemlbajnhhaaEq
namespace Go.Proofs.Ytojmemlbajnhhaa
open Go Go.Bm Go.Proofs
set_option linter.all false

def fitsB (n : Int) : Bool := decide (-1073741823 ≤ n ∧ n ≤ 1073741823)
theorem fits_iff (n : Int) (h : AH) (R : AV → AH → Prop) : CA 105 [.int .i64 n] h R ↔ R (.bool (fitsB n)) h := by
  refine ca_pure (af := ac105) rfl ?_
  by_cases h1 : -1073741823 ≤ n <;> simp [ac105, fitsB, h1]
theorem l1Fits_iff (n : Int) (h : AH) (R : AV → AH → Prop) : CA 99 [.int .i64 n] h R ↔ R (.bool (fitsB n)) h := by
  refine ca_pure (af := ac99) rfl ?_
  by_cases h1 : -1073741823 ≤ n <;> simp [ac99, fitsB, h1]
def ordB (n : Int) : Bool := decide (0 ≤ n ∧ n ≤ 3)
theorem GlueOk1_iff (n : Int) (h : AH) (R : AV → AH → Prop) : CA 155 [.int .i64 n] h R ↔ R (.bool (ordB n)) h := by
  refine ca_pure (af := ac155) rfl ?_
  by_cases h1 : 0 ≤ n <;> simp [ac155, ordB, h1]
theorem l1Order_iff (n : Int) (h : AH) (R : AV → AH → Prop) : CA 148 [.int .i64 n] h R ↔ R (.bool (ordB n)) h := by
  refine ca_pure (af := ac148) rfl ?_
  by_cases h1 : 0 ≤ n <;> simp [ac148, ordB, h1]
def glueB (g : Glue) : Bool := fitsB g.size && fitsB g.plus && fitsB g.minus && ordB g.plusOrder && ordB g.minusOrder
theorem GlueOk_iff (a b c d e : Int) (h : AH) (R : AV → AH → Prop) : CA 106 [.agg [.int .i64 a, .int .i64 b, .int .i64 c, .int .i64 d, .int .i64 e]] h R ↔ R (.bool (glueB ⟨a, b, c, d, e⟩)) h := by
  refine ca_pure (af := ac106) rfl ?_
  simp [ac106, fits_iff, glueB]
  repeat' (first
    | (with_reducible refine condR_splitND ?_ ?_ <;> intro e_ <;> (try simp [*, GlueOk1_iff, fits_iff]))
    | (with_reducible refine condR_splitD ?_ ?_ <;> intro e_ <;> (try simp [*, GlueOk1_iff, fits_iff]))
    | (with_reducible refine condR_splitN ?_ ?_ <;> intro e_ <;> (try simp [*, GlueOk1_iff, fits_iff]))
    | (with_reducible refine condR_split ?_ ?_ <;> intro e_ <;> (try simp [*, GlueOk1_iff, fits_iff]))
    | (with_reducible refine guardR_splitT ?_ ?_ <;> intro e_ <;> (try simp [*, GlueOk1_iff, fits_iff]))
    | (with_reducible refine guardR_splitF ?_ ?_ <;> intro e_ <;> (try simp [*, GlueOk1_iff, fits_iff]))
    | (with_reducible refine guardR_splitNT ?_ ?_ <;> intro e_ <;> (try simp [*, GlueOk1_iff, fits_iff]))
    | (with_reducible refine guardR_splitNF ?_ ?_ <;> intro e_ <;> (try simp [*, GlueOk1_iff, fits_iff]))
    | (with_reducible refine guardR_sT ?_ ?_ <;> intro e_ <;> (try simp [*, GlueOk1_iff, fits_iff]))
    | (with_reducible refine guardR_sF ?_ ?_ <;> intro e_ <;> (try simp [*, GlueOk1_iff, fits_iff])))
  all_goals (first | (simp_all; done) | omega | grind | skip)
theorem l1GlueOk_iff (a b c d e : Int) (h : AH) (R : AV → AH → Prop) : CA 100 [.agg [.int .i64 a, .int .i64 b, .int .i64 c, .int .i64 d, .int .i64 e]] h R ↔ R (.bool (glueB ⟨a, b, c, d, e⟩)) h := by
  refine ca_pure (af := ac100) rfl ?_
  simp [ac100, l1Fits_iff, glueB]
  repeat' (first
    | (with_reducible refine condR_splitND ?_ ?_ <;> intro e_ <;> (try simp [*, l1Order_iff, l1Fits_iff]))
    | (with_reducible refine condR_splitD ?_ ?_ <;> intro e_ <;> (try simp [*, l1Order_iff, l1Fits_iff]))
    | (with_reducible refine condR_splitN ?_ ?_ <;> intro e_ <;> (try simp [*, l1Order_iff, l1Fits_iff]))
    | (with_reducible refine condR_split ?_ ?_ <;> intro e_ <;> (try simp [*, l1Order_iff, l1Fits_iff]))
    | (with_reducible refine guardR_splitT ?_ ?_ <;> intro e_ <;> (try simp [*, l1Order_iff, l1Fits_iff]))
    | (with_reducible refine guardR_splitF ?_ ?_ <;> intro e_ <;> (try simp [*, l1Order_iff, l1Fits_iff]))
    | (with_reducible refine guardR_splitNT ?_ ?_ <;> intro e_ <;> (try simp [*, l1Order_iff, l1Fits_iff]))
    | (with_reducible refine guardR_splitNF ?_ ?_ <;> intro e_ <;> (try simp [*, l1Order_iff, l1Fits_iff]))
    | (with_reducible refine guardR_sT ?_ ?_ <;> intro e_ <;> (try simp [*, l1Order_iff, l1Fits_iff]))
    | (with_reducible refine guardR_sF ?_ ?_ <;> intro e_ <;> (try simp [*, l1Order_iff, l1Fits_iff])))
  all_goals (first | (simp_all; done) | omega | grind | skip)

def noS : ByteArray := ⟨#[]⟩
def nameB (t : Token) : Bool := decide (t.cat = 0 ∧ t.name.size ≤ 40 ∧ t.char = 0)
def charB (t : Token) : Bool := decide (t.name = ⟨#[]⟩ ∧ 1 ≤ t.cat ∧ t.cat ≤ 15 ∧ 0 ≤ t.char ∧ t.char ≤ 255 ∧ t.cat ≠ 6 ∧ t.cat ≠ 8 ∧ t.cat ≠ 9 ∧ t.cat ≠ 15)
def slotB (t : Token) : Bool := decide (t.cat = 16 ∧ t.name = ⟨#[]⟩ ∧ 1 ≤ t.char ∧ t.char ≤ 9)
def tokB (t : Token) : Bool := nameB t || charB t || slotB t
theorem isName_iff (a b : Int) (c : ByteArray) (h : AH) (R : AV → AH → Prop) : CA 132 [.agg [.int .i64 a, .int .i64 b, .str c]] h R ↔ R (.bool (nameB ⟨a, b, c⟩)) h := by
  refine ca_pure (af := ac132) rfl ?_
  simp [ac132, nameB]
  repeat' (first
    | (with_reducible refine condR_splitND ?_ ?_ <;> intro e_ <;> (try simp [*]))
    | (with_reducible refine condR_splitD ?_ ?_ <;> intro e_ <;> (try simp [*]))
    | (with_reducible refine condR_splitN ?_ ?_ <;> intro e_ <;> (try simp [*]))
    | (with_reducible refine condR_split ?_ ?_ <;> intro e_ <;> (try simp [*]))
    | (with_reducible refine guardR_splitT ?_ ?_ <;> intro e_ <;> (try simp [*]))
    | (with_reducible refine guardR_splitF ?_ ?_ <;> intro e_ <;> (try simp [*]))
    | (with_reducible refine guardR_splitNT ?_ ?_ <;> intro e_ <;> (try simp [*]))
    | (with_reducible refine guardR_splitNF ?_ ?_ <;> intro e_ <;> (try simp [*]))
    | (with_reducible refine guardR_sT ?_ ?_ <;> intro e_ <;> (try simp [*]))
    | (with_reducible refine guardR_sF ?_ ?_ <;> intro e_ <;> (try simp [*])))
  all_goals (first | (simp_all; done) | omega | grind | skip)
theorem isChar_iff (a b : Int) (c : ByteArray) (h : AH) (R : AV → AH → Prop) : CA 133 [.agg [.int .i64 a, .int .i64 b, .str c]] h R ↔ R (.bool (charB ⟨a, b, c⟩)) h := by
  refine ca_pure (af := ac133) rfl ?_
  simp [ac133, charB]
  repeat' (first
    | (with_reducible refine condR_splitND ?_ ?_ <;> intro e_ <;> (try simp [*]))
    | (with_reducible refine condR_splitD ?_ ?_ <;> intro e_ <;> (try simp [*]))
    | (with_reducible refine condR_splitN ?_ ?_ <;> intro e_ <;> (try simp [*]))
    | (with_reducible refine condR_split ?_ ?_ <;> intro e_ <;> (try simp [*]))
    | (with_reducible refine guardR_splitT ?_ ?_ <;> intro e_ <;> (try simp [*]))
    | (with_reducible refine guardR_splitF ?_ ?_ <;> intro e_ <;> (try simp [*]))
    | (with_reducible refine guardR_splitNT ?_ ?_ <;> intro e_ <;> (try simp [*]))
    | (with_reducible refine guardR_splitNF ?_ ?_ <;> intro e_ <;> (try simp [*]))
    | (with_reducible refine guardR_sT ?_ ?_ <;> intro e_ <;> (try simp [*]))
    | (with_reducible refine guardR_sF ?_ ?_ <;> intro e_ <;> (try simp [*])))
  all_goals (first | (simp_all; done) | omega | grind | skip)
theorem isSlot_iff (a b : Int) (c : ByteArray) (h : AH) (R : AV → AH → Prop) : CA 134 [.agg [.int .i64 a, .int .i64 b, .str c]] h R ↔ R (.bool (slotB ⟨a, b, c⟩)) h := by
  refine ca_pure (af := ac134) rfl ?_
  simp [ac134, slotB]
  repeat' (first
    | (with_reducible refine condR_splitND ?_ ?_ <;> intro e_ <;> (try simp [*]))
    | (with_reducible refine condR_splitD ?_ ?_ <;> intro e_ <;> (try simp [*]))
    | (with_reducible refine condR_splitN ?_ ?_ <;> intro e_ <;> (try simp [*]))
    | (with_reducible refine condR_split ?_ ?_ <;> intro e_ <;> (try simp [*]))
    | (with_reducible refine guardR_splitT ?_ ?_ <;> intro e_ <;> (try simp [*]))
    | (with_reducible refine guardR_splitF ?_ ?_ <;> intro e_ <;> (try simp [*]))
    | (with_reducible refine guardR_splitNT ?_ ?_ <;> intro e_ <;> (try simp [*]))
    | (with_reducible refine guardR_splitNF ?_ ?_ <;> intro e_ <;> (try simp [*]))
    | (with_reducible refine guardR_sT ?_ ?_ <;> intro e_ <;> (try simp [*]))
    | (with_reducible refine guardR_sF ?_ ?_ <;> intro e_ <;> (try simp [*])))
  all_goals (first | (simp_all; done) | omega | grind | skip)
theorem TokenOk_iff (a b : Int) (c : ByteArray) (h : AH) (R : AV → AH → Prop) : CA 63 [.agg [.int .i64 a, .int .i64 b, .str c]] h R ↔ R (.bool (tokB ⟨a, b, c⟩)) h := by
  refine ca_pure (af := ac63) rfl ?_
  simp [ac63, tokB, isName_iff]
  repeat' (first
    | (with_reducible refine condR_splitND ?_ ?_ <;> intro e_ <;> (try simp [*, isChar_iff, isSlot_iff]))
    | (with_reducible refine condR_splitD ?_ ?_ <;> intro e_ <;> (try simp [*, isChar_iff, isSlot_iff]))
    | (with_reducible refine condR_splitN ?_ ?_ <;> intro e_ <;> (try simp [*, isChar_iff, isSlot_iff]))
    | (with_reducible refine condR_split ?_ ?_ <;> intro e_ <;> (try simp [*, isChar_iff, isSlot_iff]))
    | (with_reducible refine guardR_splitT ?_ ?_ <;> intro e_ <;> (try simp [*, isChar_iff, isSlot_iff]))
    | (with_reducible refine guardR_splitF ?_ ?_ <;> intro e_ <;> (try simp [*, isChar_iff, isSlot_iff]))
    | (with_reducible refine guardR_splitNT ?_ ?_ <;> intro e_ <;> (try simp [*, isChar_iff, isSlot_iff]))
    | (with_reducible refine guardR_splitNF ?_ ?_ <;> intro e_ <;> (try simp [*, isChar_iff, isSlot_iff]))
    | (with_reducible refine guardR_sT ?_ ?_ <;> intro e_ <;> (try simp [*, isChar_iff, isSlot_iff]))
    | (with_reducible refine guardR_sF ?_ ?_ <;> intro e_ <;> (try simp [*, isChar_iff, isSlot_iff])))
  all_goals (first | (simp_all; done) | omega | grind | skip)
theorem l2TokenOk_iff (a b : Int) (c : ByteArray) (h : AH) (R : AV → AH → Prop) : CA 129 [.agg [.int .i64 a, .int .i64 b, .str c]] h R ↔ R (.bool (tokB ⟨a, b, c⟩)) h := by
  refine ca_pure (af := ac129) rfl ?_
  simp [ac129, tokB, nameB, charB, slotB]
  repeat' (first
    | (with_reducible refine condR_splitND ?_ ?_ <;> intro e_ <;> (try simp [*]))
    | (with_reducible refine condR_splitD ?_ ?_ <;> intro e_ <;> (try simp [*]))
    | (with_reducible refine condR_splitN ?_ ?_ <;> intro e_ <;> (try simp [*]))
    | (with_reducible refine condR_split ?_ ?_ <;> intro e_ <;> (try simp [*]))
    | (with_reducible refine guardR_splitT ?_ ?_ <;> intro e_ <;> (try simp [*]))
    | (with_reducible refine guardR_splitF ?_ ?_ <;> intro e_ <;> (try simp [*]))
    | (with_reducible refine guardR_splitNT ?_ ?_ <;> intro e_ <;> (try simp [*]))
    | (with_reducible refine guardR_splitNF ?_ ?_ <;> intro e_ <;> (try simp [*]))
    | (with_reducible refine guardR_sT ?_ ?_ <;> intro e_ <;> (try simp [*]))
    | (with_reducible refine guardR_sF ?_ ?_ <;> intro e_ <;> (try simp [*])))
  all_goals (first | (simp_all; done) | omega | grind | skip)
end Go.Proofs.Ytojmemlbajnhhaa
