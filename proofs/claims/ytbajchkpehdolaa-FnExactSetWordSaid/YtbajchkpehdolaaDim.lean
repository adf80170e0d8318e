/- Contracts: lengths, glue, of the program and of the reference. -/
import Derived.Test.YtbajchkpehdolaaEq
namespace Go.Proofs.Ytbajchkpehdolaa
open Go Go.Bm Go.Proofs
set_option linter.all false

def fitsB (n : Int) : Bool := decide (-1073741823 ≤ n ∧ n ≤ 1073741823)
theorem fits_iff (n : Int) (h : AH) (R : AV → AH → Prop) : CA 49 [.int .i64 n] h R ↔ R (.bool (fitsB n)) h := by
  refine ca_pure (af := ac49) rfl ?_
  by_cases h1 : -1073741823 ≤ n <;> simp [ac49, fitsB, h1]
theorem l1Fits_iff (n : Int) (h : AH) (R : AV → AH → Prop) : CA 46 [.int .i64 n] h R ↔ R (.bool (fitsB n)) h := by
  refine ca_pure (af := ac46) rfl ?_
  by_cases h1 : -1073741823 ≤ n <;> simp [ac46, fitsB, h1]
def ordB (n : Int) : Bool := decide (0 ≤ n ∧ n ≤ 3)
theorem GlueOk1_iff (n : Int) (h : AH) (R : AV → AH → Prop) : CA 48 [.int .i64 n] h R ↔ R (.bool (ordB n)) h := by
  refine ca_pure (af := ac48) rfl ?_
  by_cases h1 : 0 ≤ n <;> simp [ac48, ordB, h1]
theorem l1Order_iff (n : Int) (h : AH) (R : AV → AH → Prop) : CA 47 [.int .i64 n] h R ↔ R (.bool (ordB n)) h := by
  refine ca_pure (af := ac47) rfl ?_
  by_cases h1 : 0 ≤ n <;> simp [ac47, ordB, h1]
def glueB (g : Glue) : Bool := fitsB g.size && fitsB g.plus && fitsB g.minus && ordB g.plusOrder && ordB g.minusOrder
theorem GlueOk_iff (a b c d e : Int) (h : AH) (R : AV → AH → Prop) : CA 45 [.agg [.int .i64 a, .int .i64 b, .int .i64 c, .int .i64 d, .int .i64 e]] h R ↔ R (.bool (glueB ⟨a, b, c, d, e⟩)) h := by
  refine ca_pure (af := ac45) rfl ?_
  simp [ac45, fits_iff, glueB]
  repeat' (first
    | (with_reducible refine condR_splitND ?_ ?_ <;> intro e_ <;> (try simp [*, GlueOk1_iff, fits_iff]))
    | (with_reducible refine condR_splitD ?_ ?_ <;> intro e_ <;> (try simp [*, GlueOk1_iff, fits_iff]))
    | (with_reducible refine condR_splitN ?_ ?_ <;> intro e_ <;> (try simp [*, GlueOk1_iff, fits_iff]))
    | (with_reducible refine condR_split ?_ ?_ <;> intro e_ <;> (try simp [*, GlueOk1_iff, fits_iff]))
    | (with_reducible refine guardR_splitT ?_ ?_ <;> intro e_ <;> (try simp [*, GlueOk1_iff, fits_iff]))
    | (with_reducible refine guardR_splitF ?_ ?_ <;> intro e_ <;> (try simp [*, GlueOk1_iff, fits_iff]))
    | (with_reducible refine guardR_splitNT ?_ ?_ <;> intro e_ <;> (try simp [*, GlueOk1_iff, fits_iff]))
    | (with_reducible refine guardR_splitNF ?_ ?_ <;> intro e_ <;> (try simp [*, GlueOk1_iff, fits_iff]))
    | (with_reducible refine guardR_sT ?_ ?_ <;> intro e_ <;> (try simp [*, GlueOk1_iff, fits_iff]))
    | (with_reducible refine guardR_sF ?_ ?_ <;> intro e_ <;> (try simp [*, GlueOk1_iff, fits_iff])))
  all_goals (first | (simp_all; done) | omega | grind | skip)
theorem specGlueOk_iff (a b c d e : Int) (h : AH) (R : AV → AH → Prop) : CA 41 [.agg [.int .i64 a, .int .i64 b, .int .i64 c, .int .i64 d, .int .i64 e]] h R ↔ R (.bool (glueB ⟨a, b, c, d, e⟩)) h := by
  refine ca_pure (af := ac41) rfl ?_
  simp [ac41, l1Fits_iff, glueB]
  repeat' (first
    | (with_reducible refine condR_splitND ?_ ?_ <;> intro e_ <;> (try simp [*, l1Order_iff, l1Fits_iff]))
    | (with_reducible refine condR_splitD ?_ ?_ <;> intro e_ <;> (try simp [*, l1Order_iff, l1Fits_iff]))
    | (with_reducible refine condR_splitN ?_ ?_ <;> intro e_ <;> (try simp [*, l1Order_iff, l1Fits_iff]))
    | (with_reducible refine condR_split ?_ ?_ <;> intro e_ <;> (try simp [*, l1Order_iff, l1Fits_iff]))
    | (with_reducible refine guardR_splitT ?_ ?_ <;> intro e_ <;> (try simp [*, l1Order_iff, l1Fits_iff]))
    | (with_reducible refine guardR_splitF ?_ ?_ <;> intro e_ <;> (try simp [*, l1Order_iff, l1Fits_iff]))
    | (with_reducible refine guardR_splitNT ?_ ?_ <;> intro e_ <;> (try simp [*, l1Order_iff, l1Fits_iff]))
    | (with_reducible refine guardR_splitNF ?_ ?_ <;> intro e_ <;> (try simp [*, l1Order_iff, l1Fits_iff]))
    | (with_reducible refine guardR_sT ?_ ?_ <;> intro e_ <;> (try simp [*, l1Order_iff, l1Fits_iff]))
    | (with_reducible refine guardR_sF ?_ ?_ <;> intro e_ <;> (try simp [*, l1Order_iff, l1Fits_iff])))
  all_goals (first | (simp_all; done) | omega | grind | skip)

end Go.Proofs.Ytbajchkpehdolaa
