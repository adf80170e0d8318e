/- Contracts: a style; what falls away at a break; whole numbers compared. Plain: the row of a paragraph, its breaks. -/
import Derived.Test.YtcdkgonmdenakaaBox5
namespace Go.Proofs.Ytcdkgonmdenakaa
open Go Go.Bm Go.Proofs
set_option linter.all false

def inB (n most : Int) : Bool := decide (0 ≤ n) && decide (n ≤ most)
theorem StyleOk1_iff (a b : Int) (h : AH) (R : AV → AH → Prop) : CA 62 [.int .i64 a, .int .i64 b] h R ↔ R (.bool (inB a b)) h := by
  refine ca_pure (af := ac62) rfl ?_
  by_cases h1 : 0 ≤ a <;> simp [ac62, inB, h1]
theorem l9Cost_iff (a : Int) (h : AH) (R : AV → AH → Prop) : CA 58 [.int .i64 a] h R ↔ R (.bool (inB a 1000000)) h := by
  refine ca_pure (af := ac58) rfl ?_
  by_cases h1 : 0 ≤ a <;> simp [ac58, inB, h1]
def styleB (s : Style) : Bool := inB s.width 1073741823 && inB s.narrow 1073741823 && inB s.hang 4 && inB s.tolerance 10000 && inB s.line 10000 && inB s.hyphen 10000 && inB s.double 1000000 && inB s.adjacent 1000000 && glueB s.left && glueB s.right && glueB s.fill
set_option maxRecDepth 100000 in
theorem StyleOk_x (s : Style) (h : AH) (R : AV → AH → Prop) : CA 45 [.agg s.enc] h R ↔ R (.bool (styleB s)) h := by
  refine ca_pure (af := ac45) rfl ?_
  unfold styleB
  simp [ac45, StyleOk1_iff, GlueOk_iff]
  cases h1 : inB s.width 1073741823 <;> simp [h1, StyleOk1_iff]
  cases h2 : inB s.narrow 1073741823 <;> simp [h2, StyleOk1_iff]
  cases h3 : inB s.hang 4 <;> simp [h3, StyleOk1_iff]
  cases h4 : inB s.tolerance 10000 <;> simp [h4, StyleOk1_iff]
  cases h5 : inB s.line 10000 <;> simp [h5, StyleOk1_iff]
  cases h6 : inB s.hyphen 10000 <;> simp [h6, StyleOk1_iff]
  cases h7 : inB s.double 1000000 <;> simp [h7, StyleOk1_iff]
  cases h8 : inB s.adjacent 1000000 <;> simp [h8, StyleOk1_iff, GlueOk_iff]
  cases h9 : glueB s.left <;> simp [h9, GlueOk_iff]
  cases h10 : glueB s.right <;> simp [h10, GlueOk_iff]
set_option maxRecDepth 100000 in
theorem specStyleOk_x (s : Style) (h : AH) (R : AV → AH → Prop) : CA 40 [.agg s.enc] h R ↔ R (.bool (styleB s)) h := by
  refine ca_pure (af := ac40) rfl ?_
  unfold styleB
  simp [ac40, l9Cost_iff, specGlueOk_iff, inB]
  repeat' (first
    | (with_reducible refine condR_splitND ?_ ?_ <;> intro e_ <;> (try simp [*, l9Cost_iff, specGlueOk_iff, inB]))
    | (with_reducible refine condR_splitD ?_ ?_ <;> intro e_ <;> (try simp [*, l9Cost_iff, specGlueOk_iff, inB]))
    | (with_reducible refine condR_splitN ?_ ?_ <;> intro e_ <;> (try simp [*, l9Cost_iff, specGlueOk_iff, inB]))
    | (with_reducible refine condR_split ?_ ?_ <;> intro e_ <;> (try simp [*, l9Cost_iff, specGlueOk_iff, inB]))
    | (with_reducible refine guardR_splitT ?_ ?_ <;> intro e_ <;> (try simp [*, l9Cost_iff, specGlueOk_iff, inB]))
    | (with_reducible refine guardR_splitF ?_ ?_ <;> intro e_ <;> (try simp [*, l9Cost_iff, specGlueOk_iff, inB]))
    | (with_reducible refine guardR_splitNT ?_ ?_ <;> intro e_ <;> (try simp [*, l9Cost_iff, specGlueOk_iff, inB]))
    | (with_reducible refine guardR_splitNF ?_ ?_ <;> intro e_ <;> (try simp [*, l9Cost_iff, specGlueOk_iff, inB]))
    | (with_reducible refine guardR_sT ?_ ?_ <;> intro e_ <;> (try simp [*, l9Cost_iff, specGlueOk_iff, inB]))
    | (with_reducible refine guardR_sF ?_ ?_ <;> intro e_ <;> (try simp [*, l9Cost_iff, specGlueOk_iff, inB])))
  all_goals grind
theorem StyleOk_iff (a1 a2 a3 a4 a5 a6 a7 a8 b1 b2 b3 b4 b5 c1 c2 c3 c4 c5 d1 d2 d3 d4 d5 : Int) (h : AH) (R : AV → AH → Prop) : CA 45 [.agg [.int .i64 a1, .int .i64 a2, .int .i64 a3, .int .i64 a4, .int .i64 a5, .int .i64 a6, .int .i64 a7, .int .i64 a8, .int .i64 b1, .int .i64 b2, .int .i64 b3, .int .i64 b4, .int .i64 b5, .int .i64 c1, .int .i64 c2, .int .i64 c3, .int .i64 c4, .int .i64 c5, .int .i64 d1, .int .i64 d2, .int .i64 d3, .int .i64 d4, .int .i64 d5]] h R ↔ R (.bool (styleB ⟨a1, a2, a3, a4, a5, a6, a7, a8, ⟨b1, b2, b3, b4, b5⟩, ⟨c1, c2, c3, c4, c5⟩, ⟨d1, d2, d3, d4, d5⟩⟩)) h := StyleOk_x ⟨a1, a2, a3, a4, a5, a6, a7, a8, ⟨b1, b2, b3, b4, b5⟩, ⟨c1, c2, c3, c4, c5⟩, ⟨d1, d2, d3, d4, d5⟩⟩ h R
theorem specStyleOk_iff (a1 a2 a3 a4 a5 a6 a7 a8 b1 b2 b3 b4 b5 c1 c2 c3 c4 c5 d1 d2 d3 d4 d5 : Int) (h : AH) (R : AV → AH → Prop) : CA 40 [.agg [.int .i64 a1, .int .i64 a2, .int .i64 a3, .int .i64 a4, .int .i64 a5, .int .i64 a6, .int .i64 a7, .int .i64 a8, .int .i64 b1, .int .i64 b2, .int .i64 b3, .int .i64 b4, .int .i64 b5, .int .i64 c1, .int .i64 c2, .int .i64 c3, .int .i64 c4, .int .i64 c5, .int .i64 d1, .int .i64 d2, .int .i64 d3, .int .i64 d4, .int .i64 d5]] h R ↔ R (.bool (styleB ⟨a1, a2, a3, a4, a5, a6, a7, a8, ⟨b1, b2, b3, b4, b5⟩, ⟨c1, c2, c3, c4, c5⟩, ⟨d1, d2, d3, d4, d5⟩⟩)) h := specStyleOk_x ⟨a1, a2, a3, a4, a5, a6, a7, a8, ⟨b1, b2, b3, b4, b5⟩, ⟨c1, c2, c3, c4, c5⟩, ⟨d1, d2, d3, d4, d5⟩⟩ h R
def discB (k : Int) : Bool := decide (k = 3 ∨ k = 2 ∨ k = 4)
theorem discardable_iff (a1 a2 a3 a4 a5 a6 a7 a8 a9 a10 a11 a12 a13 a15 : Int) (a14 : ByteArray) (h : AH) (R : AV → AH → Prop) : CA 47 [.agg [.int .i64 a1, .int .i64 a2, .int .i64 a3, .int .i64 a4, .int .i64 a5, .int .i64 a6, .int .i64 a7, .int .i64 a8, .int .i64 a9, .int .i64 a10, .int .i64 a11, .int .i64 a12, .int .i64 a13, .str a14, .int .i64 a15]] h R ↔ R (.bool (discB a1)) h := by
  refine ca_pure (af := ac47) rfl ?_
  simp [ac47, discB]
  repeat' (first
    | (with_reducible refine condR_splitND ?_ ?_ <;> intro e_ <;> (try simp [*]))
    | (with_reducible refine condR_splitD ?_ ?_ <;> intro e_ <;> (try simp [*]))
    | (with_reducible refine condR_splitN ?_ ?_ <;> intro e_ <;> (try simp [*]))
    | (with_reducible refine condR_split ?_ ?_ <;> intro e_ <;> (try simp [*]))
    | (with_reducible refine guardR_splitT ?_ ?_ <;> intro e_ <;> (try simp [*]))
    | (with_reducible refine guardR_splitF ?_ ?_ <;> intro e_ <;> (try simp [*]))
    | (with_reducible refine guardR_splitNT ?_ ?_ <;> intro e_ <;> (try simp [*]))
    | (with_reducible refine guardR_splitNF ?_ ?_ <;> intro e_ <;> (try simp [*]))
    | (with_reducible refine guardR_sT ?_ ?_ <;> intro e_ <;> (try simp [*]))
    | (with_reducible refine guardR_sF ?_ ?_ <;> intro e_ <;> (try simp [*])))
theorem l9Discard_iff (a1 a2 a3 a4 a5 a6 a7 a8 a9 a10 a11 a12 a13 a15 : Int) (a14 : ByteArray) (h : AH) (R : AV → AH → Prop) : CA 50 [.agg [.int .i64 a1, .int .i64 a2, .int .i64 a3, .int .i64 a4, .int .i64 a5, .int .i64 a6, .int .i64 a7, .int .i64 a8, .int .i64 a9, .int .i64 a10, .int .i64 a11, .int .i64 a12, .int .i64 a13, .str a14, .int .i64 a15]] h R ↔ R (.bool (discB a1)) h := by
  refine ca_pure (af := ac50) rfl ?_
  simp [ac50, discB]
  repeat' (first
    | (with_reducible refine condR_splitND ?_ ?_ <;> intro e_ <;> (try simp [*]))
    | (with_reducible refine condR_splitD ?_ ?_ <;> intro e_ <;> (try simp [*]))
    | (with_reducible refine condR_splitN ?_ ?_ <;> intro e_ <;> (try simp [*]))
    | (with_reducible refine condR_split ?_ ?_ <;> intro e_ <;> (try simp [*]))
    | (with_reducible refine guardR_splitT ?_ ?_ <;> intro e_ <;> (try simp [*]))
    | (with_reducible refine guardR_splitF ?_ ?_ <;> intro e_ <;> (try simp [*]))
    | (with_reducible refine guardR_splitNT ?_ ?_ <;> intro e_ <;> (try simp [*]))
    | (with_reducible refine guardR_splitNF ?_ ?_ <;> intro e_ <;> (try simp [*]))
    | (with_reducible refine guardR_sT ?_ ?_ <;> intro e_ <;> (try simp [*]))
    | (with_reducible refine guardR_sF ?_ ?_ <;> intro e_ <;> (try simp [*])))
theorem isNaN_iff (a : Int) (h : AH) (R : AV → AH → Prop) : CA 78 [.int .i64 a] h R ↔ R (.bool false) h := by
  refine ca_pure (af := ac78) rfl ?_
  simp [ac78]
theorem isNaN2_iff (a : Int) (h : AH) (R : AV → AH → Prop) : CA 65 [.int .i64 a] h R ↔ R (.bool false) h := by
  refine ca_pure (af := ac65) rfl ?_
  simp [ac65]
theorem Less_iff (a b : Int) (h : AH) (R : AV → AH → Prop) : CA 64 [.int .i64 a, .int .i64 b] h R ↔ R (.bool (decide (a < b))) h := by
  refine ca_pure (af := ac64) rfl ?_
  simp [ac64, isNaN_iff]

/-! ### plain -/
/-- What a row's item begins with. -/
def hd1 (l : List Node) : Node := nth l 0
/-- Without the glue at its end. -/
def trimR (l : List (List Node)) : List (List Node) := if h : 0 < l.length ∧ (hd1 (nth l (l.length - 1))).kind = 3 then trimR (l.take (l.length - 1)) else l
termination_by l.length
decreasing_by rw [List.length_take]; omega
theorem trimR_le : ∀ (n : Nat) (l : List (List Node)), l.length ≤ n → (trimR l).length ≤ l.length
  | 0, l, h => by rw [trimR, dif_neg (by omega)]; exact Nat.le_refl _
  | n + 1, l, h => by
    rw [trimR]; split
    · have := trimR_le n (l.take (l.length - 1)) (by rw [List.length_take]; omega)
      rw [List.length_take] at this; omega
    · exact Nat.le_refl _
theorem trimR_mem : ∀ (n : Nat) (l : List (List Node)), l.length ≤ n → ∀ x ∈ trimR l, x ∈ l
  | 0, l, h, x, hx => by rw [trimR, dif_neg (by omega)] at hx; exact hx
  | n + 1, l, h, x, hx => by
    rw [trimR] at hx; split at hx
    · exact List.mem_of_mem_take (trimR_mem n (l.take (l.length - 1)) (by rw [List.length_take]; omega) x hx)
    · exact hx
def pen (n : Int) : Node := ⟨4, 0, 0, 0, 0, 0, 0, n, ⟨0, 0, 0, 0, 0⟩, ⟨#[]⟩, 0⟩
def glu (g : Glue) : Node := ⟨3, 0, 0, 0, 0, 0, 0, 0, g, ⟨#[]⟩, 0⟩
def tailR (st : Style) : List (List Node) := [[pen 10000], [glu st.fill], [pen (-10000)]]
def rowL (xs : List Node) (st : Style) : List (List Node) := trimR (itemsL xs) ++ tailR st
def isBrk (l : List (List Node)) (i : Nat) : Bool :=
  if (hd1 (nth l i)).kind = 3 then decide (0 < i) && !discB (hd1 (nth l (i - 1))).kind else if (hd1 (nth l i)).kind = 4 then decide ((hd1 (nth l i)).n < 10000) else decide ((hd1 (nth l i)).kind = 8)
def brks (l : List (List Node)) (k : Nat) : List Int := ((List.range k).filter (isBrk l)).map fun i : Nat => (i : Int)
theorem brks_succ (l : List (List Node)) (k : Nat) : brks l (k + 1) = if isBrk l k then brks l k ++ [(k : Int)] else brks l k := by
  unfold brks
  rw [List.range_succ, List.filter_append, List.map_append]
  cases h : isBrk l k <;> simp [h]
theorem brks_len (l : List (List Node)) (k : Nat) : (brks l k).length ≤ k := by
  unfold brks
  rw [List.length_map]
  exact Nat.le_trans (List.length_filter_le _ _) (by simp)
/-- Can it be a paragraph? -/
def paraB (xs : List Node) (st : Style) : Bool := styleB st && listB xs && decide ((itemsL xs).length ≤ 2000) && decide ((brks (rowL xs st) (rowL xs st).length).length ≤ 300)
def brkL (xs : List Node) (st : Style) : List Int := if paraB xs st then brks (rowL xs st) (rowL xs st).length else []
theorem item_ne {xs : List Node} : ∀ x ∈ itemsL xs, 0 < x.length := by
  intro x hx
  obtain ⟨i, _, rfl⟩ := List.mem_map.1 hx
  simp [itemL]
theorem row_ne {xs : List Node} {st : Style} : ∀ x ∈ rowL xs st, 0 < x.length := by
  intro x hx
  rcases List.mem_append.1 hx with hx | hx
  · exact item_ne x (trimR_mem _ _ (Nat.le_refl _) x hx)
  · simp only [tailR, List.mem_cons, List.not_mem_nil, or_false] at hx
    rcases hx with rfl | rfl | rfl <;> simp
theorem nth_ne {l : List (List Node)} (hl : ∀ x ∈ l, 0 < x.length) {i : Nat} (hi : i < l.length) : 0 < (nth l i).length := hl _ (nth_mem hi)
end Go.Proofs.Ytcdkgonmdenakaa
