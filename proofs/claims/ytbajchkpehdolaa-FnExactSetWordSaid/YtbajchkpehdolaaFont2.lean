/- Contracts: the search for a glyph, for a pair; fonts, as the reference has them. -/
import Derived.Test.YtbajchkpehdolaaFont1
namespace Go.Proofs.Ytbajchkpehdolaa
open Go Go.Bm Go.Proofs
set_option linter.all false

/-- The cells of a font. -/
@[simp] def fcells (nm : ByteArray) (gs : List Glyph) (ps : List Pair) (a b c d e q r : Int) : List AV := [.str nm, .fs none (gs.map Glyph.enc), .fs none (ps.map Pair.enc), .int .i64 a, .int .i64 b, .int .i64 c, .int .i64 d, .int .i64 e, .int .i64 q, .int .i64 r]
theorem l6Size_iff (n : Int) (h : AH) (R : AV → AH → Prop) : CA 40 [.int .i64 n] h R ↔ R (.bool (sizB n)) h := by
  refine ca_pure (af := ac40) rfl ?_
  by_cases h1 : 0 ≤ n <;> simp [ac40, sizB, h1]
theorem FontOk1_iff (n : Int) (h : AH) (R : AV → AH → Prop) : CA 44 [.int .i64 n] h R ↔ R (.bool (sizB n)) h := by
  refine ca_pure (af := ac44) rfl ?_
  by_cases h1 : 0 ≤ n <;> simp [ac44, sizB, h1]
theorem half2 (a b : Nat) (ha : a ≤ 1048576) (hb : b ≤ 1048576) : bin .quo (.int .i64 ((a : Int) + b)) (.int .i64 2) = some (.int .i64 (((a + b) / 2 : Nat) : Int)) := by
  have e : ((a : Int) + b).tdiv 2 = (((a + b) / 2 : Nat) : Int) := by rw [Int.tdiv_eq_ediv_of_nonneg (by omega)]; omega
  have w : IntKind.wrap .i64 (((a + b) / 2 : Nat) : Int) = (((a + b) / 2 : Nat) : Int) := wrap_i64 (by omega) (by omega)
  simp only [bin, if_true, binInt]
  rw [if_neg (by decide), e, w]
set_option maxRecDepth 100000 in
theorem l6Glyph_iff (nm : ByteArray) (gs : List Glyph) (ps : List Pair) (a b c d e q r x : Int) (hb : gs.length ≤ 1048576) (h : AH) (R : AV → AH → Prop) : CA 22 [.agg (fcells nm gs ps a b c d e q r), .int .i64 x] h R ↔ R (.int .i64 (glyphI gs x)) h := by
  refine ca_pure (af := ac22) rfl ?_
  simp [ac22]
  refine awp_loop2 caM (fun n s h' => h' = h ∧ ∃ (lo hi : Nat), n = hi - lo ∧ lo ≤ hi ∧ hi ≤ gs.length ∧ (s 1 = .int .i64 x ∧ s 5 = .int .i64 lo ∧ s 6 = .int .i64 hi ∧ s 100002 = .agg (fcells nm gs ps a b c d e q r)) ∧ seekI (codes gs) x = bsr (fun i => decide (nth (codes gs) i < x)) lo hi) ?_ (n := gs.length) ⟨rfl, 0, gs.length, by simp, by simp, by simp, by simp, by simp [seekI, codes_len]⟩
  rintro n s h' ⟨rfl, lo, hi, rfl, h1, h2, ⟨s1, s5, s6, sb⟩, hs⟩ K hK hE hQ
  simp only [fcells] at sb
  simp [s1, s5, s6, sb]
  by_cases hlt : lo < hi
  · have w1 : IntKind.wrap .i64 ((lo : Int) + hi) = (lo : Int) + hi := wrap_i64 (by omega) (by omega)
    have w2 : IntKind.wrap .i64 ((((lo + hi) / 2 : Nat) : Int) + 1) = (((lo + hi) / 2 + 1 : Nat) : Int) := by rw [wrap_i64 (by omega) (by omega)]; omega
    have a1 := fun k => Glyph.ok.toEncOk.iaddr (by omega) none gs k (((lo + hi) / 2 : Nat) : Int) h' (by omega) (by omega)
    have hf := half2 lo hi (by omega) (by omega)
    simp only [Int.toNat_natCast] at a1
    rw [bsr, dif_pos hlt] at hs
    have hm1 : lo ≤ (lo + hi) / 2 := by omega
    have hm2 : (lo + hi) / 2 < hi := by omega
    generalize (lo + hi) / 2 = m at *
    rw [codes_nth (show m < gs.length by omega)] at hs
    simp [hlt, s1, s5, s6, sb, hf, w1, a1]
    by_cases hp : (nth gs m).code < x
    · simp [hp] at hs
      simp [hp, w2]
      exact hK (hi - (m + 1)) _ _ (by omega) ⟨rfl, m + 1, hi, rfl, by omega, h2, ⟨by simp [s1], by simp, by simp [s6], by simp [sb]⟩, hs⟩
    · simp [hp] at hs
      simp [hp]
      exact hK (m - lo) _ _ (by omega) ⟨rfl, lo, m, rfl, by omega, by omega, ⟨by simp [s1], by simp [s5], by simp, by simp [sb]⟩, hs⟩
  · have e1 : seekI (codes gs) x = lo := by rw [hs, bsr, dif_neg hlt]
    have e2 : lo = hi := by omega
    have hsb : seekB (codes gs) x = (decide (lo < gs.length) && decide (nth (codes gs) lo = x)) := by unfold seekB; rw [e1, codes_len]
    have hgl : glyphI gs x = if (decide (lo < gs.length) && decide (nth (codes gs) lo = x)) = true then (lo : Int) else -1 := by unfold glyphI; rw [hsb, e1]
    simp [hE, hlt, s1, s5, s6, sb]
    by_cases hl : lo < gs.length
    · have a1 := fun k => Glyph.ok.toEncOk.iaddr (by omega) none gs k (lo : Int) h' (by omega) (by omega)
      simp only [Int.toNat_natCast] at a1
      rw [codes_nth hl] at hgl
      simp [hl, s1, s5, sb, a1]
      by_cases e2 : (nth gs lo).code = x
      · simp [e2, s5, hgl, hl]
      · simp [e2, hgl, hl]
    · simp [hl, hgl]
set_option maxRecDepth 100000 in
theorem glyph_iff (nm : ByteArray) (gs : List Glyph) (ps : List Pair) (a b c d e q r x : Int) (hb : gs.length ≤ 1048576) (h : AH) (R : AV → AH → Prop) : CA 26 [.agg (fcells nm gs ps a b c d e q r), .int .i64 x] h R ↔ R (.tup [.agg (if hasG gs x then (firstG gs x).enc else [.int .i64 0, .int .i64 0, .int .i64 0, .int .i64 0]), .bool (hasG gs x)]) h := by
  refine ca_pure (af := ac26) rfl ?_
  simp [ac26]
  refine awp_loop2 caM (fun n s h' => h' = h ∧ ∃ (i : Nat), n = gs.length - i ∧ i ≤ gs.length ∧ (s 1 = .int .i64 x ∧ s 9 = .fs none (gs.map Glyph.enc) ∧ s 10 = .int .i64 gs.length ∧ s 11 = .int .i64 i ∧ s 100004 = .agg [.int .i64 0, .int .i64 0, .int .i64 0, .int .i64 0]) ∧ hasG gs x = hasG (gs.drop i) x ∧ firstG gs x = firstG (gs.drop i) x) ?_ (n := gs.length) ⟨rfl, 0, by simp, by simp, by simp, by simp, by simp⟩
  rintro n s h' ⟨rfl, i, rfl, hi, ⟨s1, s9, s10, s11, sc⟩, g1, g2⟩ K hK hE hQ
  simp [s1, s9, s10, s11]
  by_cases hlt : i < gs.length
  · have w1 : IntKind.wrap .i64 ((i : Int) + 1) = (i : Int) + 1 := wrap_i64 (by omega) (by omega)
    have a1 := fun k => Glyph.ok.toEncOk.iaddr (by omega) none gs k (i : Int) h' (by omega) (by omega)
    simp only [Int.toNat_natCast] at a1
    have hd : gs.drop i = nth gs i :: gs.drop (i + 1) := by rw [nth_eq hlt]; exact List.drop_eq_getElem_cons hlt
    simp [hlt, s1, s9, s11, a1]
    rw [hd] at g1 g2
    by_cases hc : (nth gs i).code = x
    · have e1 : hasG gs x = true := by rw [g1]; simp [hasG, hc]
      have e2 : firstG gs x = nth gs i := by rw [g2]; simp [firstG, hc]
      simp [hc, hQ, e1, e2, sc]
    · simp [hc, w1, s11]
      refine hK (gs.length - (i + 1)) _ _ (by omega) ⟨rfl, i + 1, rfl, by omega, ⟨by simp [s1], by simp [s9], by simp [s10], by simp, by simp [sc]⟩, ?_, ?_⟩
      · rw [g1]; simp [hasG, hc]
      · rw [g2]; simp [firstG, hc]
  · obtain rfl : i = gs.length := by omega
    have e1 : hasG gs x = false := by rw [g1]; simp [hasG]
    simp [hE, e1, sc]
theorem l6PairLess_iff (a b c d a' b' c' d' : Int) (h : AH) (R : AV → AH → Prop) : CA 42 [.agg [.int .i64 a, .int .i64 b, .int .i64 c, .int .i64 d], .agg [.int .i64 a', .int .i64 b', .int .i64 c', .int .i64 d']] h R ↔ R (.bool (pairLt ⟨a, b, c, d⟩ ⟨a', b', c', d'⟩)) h := by
  refine ca_pure (af := ac42) rfl ?_
  by_cases h1 : a < a'
  · simp [ac42, pairLt, h1]
  by_cases h2 : a = a'
  · simp [ac42, pairLt, h2]
  · simp [ac42, pairLt, h1, h2]
set_option maxRecDepth 100000 in
theorem l6Pair_iff (nm : ByteArray) (gs : List Glyph) (ps : List Pair) (a b c d e q r x y : Int) (hb : ps.length ≤ 1048576) (h : AH) (R : AV → AH → Prop) : CA 43 [.agg (fcells nm gs ps a b c d e q r), .int .i64 x, .int .i64 y] h R ↔ R (.tup [.agg ((findP ps x y).getD ⟨0, 0, 0, 0⟩).enc, .bool (findP ps x y).isSome]) h := by
  refine ca_pure (af := ac43) rfl ?_
  simp [ac43]
  refine awp_loop2 caM (fun n s h' => h' = h ∧ ∃ (i : Nat), n = ps.length - i ∧ i ≤ ps.length ∧ (s 1 = .int .i64 x ∧ s 2 = .int .i64 y ∧ s 8 = .int .i64 i ∧ s 100003 = .agg (fcells nm gs ps a b c d e q r) ∧ s 100006 = .agg [.int .i64 0, .int .i64 0, .int .i64 0, .int .i64 0]) ∧ findP ps x y = findP (ps.drop i) x y) ?_ (n := ps.length) ⟨rfl, 0, by simp, by simp, by simp, by simp⟩
  rintro n s h' ⟨rfl, i, rfl, hi, ⟨s1, s2, s8, sb, sc⟩, g1⟩ K hK hE hQ
  simp only [fcells] at sb
  simp [s1, s2, s8, sb]
  by_cases hlt : i < ps.length
  · have w1 : IntKind.wrap .i64 ((i : Int) + 1) = (i : Int) + 1 := wrap_i64 (by omega) (by omega)
    have a1 := fun k => Pair.ok.toEncOk.iaddr (by omega) none ps k (i : Int) h' (by omega) (by omega)
    simp only [Int.toNat_natCast] at a1
    have hd : ps.drop i = nth ps i :: ps.drop (i + 1) := by rw [nth_eq hlt]; exact List.drop_eq_getElem_cons hlt
    rw [hd] at g1
    simp [hlt, s1, s2, s8, sb, sc, a1]
    by_cases h1 : (nth ps i).left = x
    · by_cases h2 : (nth ps i).right = y
      · have e1 : findP ps x y = some (nth ps i) := by rw [g1]; simp [findP, isP, h1, h2]
        simp [h1, h2, hQ, e1, s1, s2, s8, sb, sc, a1]
      · simp [h1, h2, w1, s1, s2, s8, sb, sc, a1]
        refine hK (ps.length - (i + 1)) _ _ (by omega) ⟨rfl, i + 1, rfl, by omega, ⟨by simp [s1], by simp [s2], by simp, by simp [sb], by simp [sc]⟩, ?_⟩
        rw [g1]; simp [findP, isP, h1, h2]
    · simp [h1, w1, s8, sb, sc]
      refine hK (ps.length - (i + 1)) _ _ (by omega) ⟨rfl, i + 1, rfl, by omega, ⟨by simp [s1], by simp [s2], by simp, by simp [sb], by simp [sc]⟩, ?_⟩
      rw [g1]; simp [findP, isP, h1]
  · obtain rfl : i = ps.length := by omega
    have e1 : findP ps x y = none := by rw [g1]; simp [findP]
    simp [hE, e1, sc]
end Go.Proofs.Ytbajchkpehdolaa
