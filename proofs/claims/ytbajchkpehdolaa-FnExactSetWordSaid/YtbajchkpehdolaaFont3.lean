/- Contracts: FontOk of the reference. -/
import Derived.Test.YtbajchkpehdolaaFont2
namespace Go.Proofs.Ytbajchkpehdolaa
open Go Go.Bm Go.Proofs
set_option linter.all false

theorem glyphI_lt {gs : List Glyph} (h : glyphsB gs = true) (c : Int) : glyphI gs c < 0 ↔ hasG gs c = false := by
  have := glyphI_neg h c
  rw [Bool.eq_iff_iff] at this
  simpa using this
theorem all_bad {f : Nat → Bool} {n i : Nat} (hi : i < n) (h : f i = false) : (List.range n).all f = false := by
  rw [Bool.eq_false_iff]
  intro e
  rw [List.all_eq_true] at e
  rw [e i (List.mem_range.2 hi)] at h
  cases h
theorem all_succ {f : Nat → Bool} {i : Nat} (h : (List.range i).all f = true) (h2 : f i = true) : (List.range (i + 1)).all f = true := by
  rw [List.range_succ, List.all_append, h]; simp [h2]
def headB (nm : ByteArray) (ps : List Pair) (a b c d e q r : Int) : Bool := decide (nm.size ≤ 40) && decide (ps.length ≤ 2000) && glueB ⟨a, b, c, d, e⟩ && decide (0 ≤ a) && decide (c = 0) && decide (e = 0) && sizB q && sizB r
theorem fontB_eq (nm : ByteArray) (gs : List Glyph) (ps : List Pair) (a b c d e q r : Int) : fontB ⟨nm, gs, ps, ⟨a, b, c, d, e⟩, q, r⟩ = (headB nm ps a b c d e q r && glyphsB gs && pairsB gs ps) := by
  simp only [fontB, headB, glueB]
theorem fontB_false {nm : ByteArray} {gs : List Glyph} {ps : List Pair} {a b c d e q r : Int} (h : headB nm ps a b c d e q r = false ∨ glyphsB gs = false ∨ pairsB gs ps = false) : fontB ⟨nm, gs, ps, ⟨a, b, c, d, e⟩, q, r⟩ = false := by
  rw [fontB_eq]
  rcases h with h | h | h <;> simp [h]
set_option maxRecDepth 100000 in
theorem specFontOk_iff (nm : ByteArray) (gs : List Glyph) (ps : List Pair) (a b c d e q r : Int) (hb : gs.length ≤ 1048576) (hb2 : ps.length ≤ 1048576) (hb3 : nm.size ≤ 1048576) (h : AH) (R : AV → AH → Prop) : CA 30 [.agg (fcells nm gs ps a b c d e q r)] h R ↔ R (.bool (fontB ⟨nm, gs, ps, ⟨a, b, c, d, e⟩, q, r⟩)) h := by
  refine ca_pure (af := ac30) rfl ?_
  have big : 256 < gs.length → fontB ⟨nm, gs, ps, ⟨a, b, c, d, e⟩, q, r⟩ = false := fun hg => fontB_false (.inr (.inl (by
    rw [Bool.eq_false_iff]; intro e1; have := glyphs_len e1; omega)))
  have head : headB nm ps a b c d e q r = false → fontB ⟨nm, gs, ps, ⟨a, b, c, d, e⟩, q, r⟩ = false := fun h => fontB_false (.inl h)
  have hh : headB nm ps a b c d e q r = (decide (nm.size ≤ 40) && decide (ps.length ≤ 2000) && glueB ⟨a, b, c, d, e⟩ && decide (0 ≤ a) && decide (c = 0) && decide (e = 0) && sizB q && sizB r) := rfl
  simp [ac30, l6Size_iff, specGlueOk_iff]
  by_cases h1 : (40 : Int) < nm.size
  · simp [h1]; exact head (by simp [hh]; omega)
  by_cases h2 : (256 : Int) < gs.length
  · simp [h1, h2]; exact big (by omega)
  by_cases h3 : (2000 : Int) < ps.length
  · simp [h1, h2, h3]; exact head (by simp [hh]; omega)
  cases h4 : sizB q with
  | false => simp [h1, h2, h3, h4, l6Size_iff]; exact head (by simp [hh, h4])
  | true =>
  cases h5 : sizB r with
  | false => simp [h1, h2, h3, h4, h5, l6Size_iff]; exact head (by simp [hh, h5])
  | true =>
  cases h6 : glueB ⟨a, b, c, d, e⟩ with
  | false => simp [h1, h2, h3, h4, h5, h6, l6Size_iff, specGlueOk_iff]; exact head (by simp [hh, h6])
  | true =>
  by_cases h7 : a < 0
  · simp [h1, h2, h3, h4, h5, h6, h7, l6Size_iff, specGlueOk_iff]; exact head (by simp [hh]; omega)
  by_cases h8 : c = 0
  case neg => simp [h1, h2, h3, h4, h5, h6, h7, h8, l6Size_iff, specGlueOk_iff]; exact head (by simp [hh, h8])
  subst h8
  by_cases h9 : e = 0
  case neg => simp [h1, h2, h3, h4, h5, h6, h7, h9, l6Size_iff, specGlueOk_iff]; exact head (by simp [hh, h9])
  subst h9
  have hd : headB nm ps a b 0 d 0 q r = true := by rw [hh, h4, h5, h6]; simp; omega
  simp [h1, h2, h3, h4, h5, h6, h7, l6Size_iff, specGlueOk_iff]
  clear head big hh
  refine awp_loop2 caM (fun n s h' => h' = h ∧ ∃ (i : Nat), n = gs.length - i ∧ i ≤ gs.length ∧ (s 3 = .int .i64 i ∧ s 100001 = .agg (fcells nm gs ps a b 0 d 0 q r)) ∧ (List.range i).all (glyphAt gs) = true) ?_ (n := gs.length) ⟨rfl, 0, by simp, by simp, by simp, by simp⟩
  rintro n s h' ⟨rfl, i, rfl, hi, ⟨s3, sb⟩, ha⟩ K hK hE hQ
  simp only [fcells] at sb
  simp [s3, sb]
  by_cases hlt : i < gs.length
  · have w1 : IntKind.wrap .i64 ((i : Int) + 1) = (i : Int) + 1 := wrap_i64 (by omega) (by omega)
    have a1 := fun k => Glyph.ok.toEncOk.iaddr (by omega) none gs k (i : Int) h' (by omega) (by omega)
    simp only [Int.toNat_natCast] at a1
    have bad : glyphAt gs i = false → fontB ⟨nm, gs, ps, ⟨a, b, 0, d, 0⟩, q, r⟩ = false := fun e => fontB_false (.inr (.inl (all_bad hlt e)))
    have hga : glyphAt gs i = (decide (0 ≤ (nth gs i).code) && decide ((nth gs i).code ≤ 255) && !(decide (0 < i) && decide ((nth gs i).code ≤ (nth gs (i - 1)).code)) && sizB (nth gs i).width && sizB (nth gs i).height && sizB (nth gs i).depth) := rfl
    by_cases c1 : (nth gs i).code < 0
    · simp [hlt, s3, sb, a1, c1, hQ, l6Size_iff]; exact bad (by simp [hga]; omega)
    by_cases c2 : 255 < (nth gs i).code
    · simp [hlt, s3, sb, a1, c1, c2, hQ, l6Size_iff]; exact bad (by simp [hga]; omega)
    have tail : (0 < i → (nth gs (i - 1)).code < (nth gs i).code) → ∀ K2 : Prop, K2 → K2 := fun _ _ h => h
    by_cases c0 : 0 < i
    · have w2 : IntKind.wrap .i64 ((i : Int) - 1) = ((i - 1 : Nat) : Int) := by rw [wrap_i64 (by omega) (by omega)]; omega
      have a2 := fun k => Glyph.ok.toEncOk.iaddr (by omega) none gs k ((i - 1 : Nat) : Int) h' (by omega) (by omega)
      simp only [Int.toNat_natCast] at a2
      by_cases c3 : (nth gs i).code ≤ (nth gs (i - 1)).code
      · simp [hlt, s3, sb, a1, a2, w2, c0, c1, c2, c3, hQ, l6Size_iff]; exact bad (by simp [hga, c0, c3])
      cases c4 : sizB (nth gs i).width with
      | false => simp [hlt, s3, sb, a1, a2, w2, c0, c1, c2, c3, c4, hQ, l6Size_iff]; exact bad (by simp [hga, c4])
      | true =>
      cases c5 : sizB (nth gs i).height with
      | false => simp [hlt, s3, sb, a1, a2, w2, c0, c1, c2, c3, c4, c5, hQ, l6Size_iff]; exact bad (by simp [hga, c5])
      | true =>
      cases c6 : sizB (nth gs i).depth with
      | false => simp [hlt, s3, sb, a1, a2, w2, c0, c1, c2, c3, c4, c5, c6, hQ, l6Size_iff]; exact bad (by simp [hga, c6])
      | true =>
      simp [hlt, s3, sb, a1, a2, w1, w2, c0, c1, c2, c3, c4, c5, c6, l6Size_iff]
      exact hK (gs.length - (i + 1)) _ _ (by omega) ⟨rfl, i + 1, rfl, by omega, ⟨by simp, by simp [sb]⟩, all_succ ha (by simp [hga, c4, c5, c6]; omega)⟩
    · cases c4 : sizB (nth gs i).width with
      | false => simp [hlt, s3, sb, a1, c0, c1, c2, c4, hQ, l6Size_iff]; exact bad (by simp [hga, c4])
      | true =>
      cases c5 : sizB (nth gs i).height with
      | false => simp [hlt, s3, sb, a1, c0, c1, c2, c4, c5, hQ, l6Size_iff]; exact bad (by simp [hga, c5])
      | true =>
      cases c6 : sizB (nth gs i).depth with
      | false => simp [hlt, s3, sb, a1, c0, c1, c2, c4, c5, c6, hQ, l6Size_iff]; exact bad (by simp [hga, c6])
      | true =>
      simp [hlt, s3, sb, a1, w1, c0, c1, c2, c4, c5, c6, l6Size_iff]
      exact hK (gs.length - (i + 1)) _ _ (by omega) ⟨rfl, i + 1, rfl, by omega, ⟨by simp, by simp [sb]⟩, all_succ ha (by simp [hga, c4, c5, c6]; omega)⟩
  · obtain rfl : i = gs.length := by omega
    have hg : glyphsB gs = true := ha
    have gn : ∀ x, hasG gs x = false → glyphI gs x < 0 := fun x e => (glyphI_lt hg x).2 e
    have gy : ∀ x, hasG gs x = true → ¬ glyphI gs x < 0 := fun x e e2 => by rw [(glyphI_lt hg x).1 e2] at e; cases e
    simp [hE, sb]
    clear hK hE hQ s3
    refine awp_loop2 caM (fun n s h2 => h2 = h' ∧ ∃ (i : Nat), n = ps.length - i ∧ i ≤ ps.length ∧ (s 5 = .int .i64 i ∧ s 100001 = .agg (fcells nm gs ps a b 0 d 0 q r)) ∧ (List.range i).all (pairAt gs ps) = true) ?_ (n := ps.length) ⟨rfl, 0, by simp, by simp, by simp [sb], by simp⟩
    clear sb
    rintro n s h2 ⟨rfl, i, rfl, hi, ⟨s5, sb⟩, hp⟩ K hK hE hQ
    simp only [fcells] at sb
    simp [s5, sb]
    by_cases hlt : i < ps.length
    · have w1 : IntKind.wrap .i64 ((i : Int) + 1) = (i : Int) + 1 := wrap_i64 (by omega) (by omega)
      have a1 := fun k => Pair.ok.toEncOk.iaddr (by omega) none ps k (i : Int) h2 (by omega) (by omega)
      simp only [Int.toNat_natCast] at a1
      have bad : pairAt gs ps i = false → fontB ⟨nm, gs, ps, ⟨a, b, 0, d, 0⟩, q, r⟩ = false := fun e => fontB_false (.inr (.inr (all_bad hlt e)))
      have hpa : pairAt gs ps i = (!(decide (0 < i) && !pairLt (nth ps (i - 1)) (nth ps i)) && hasG gs (nth ps i).left && hasG gs (nth ps i).right &&
        (if (nth ps i).lig = -1 then decide (-6553600 ≤ (nth ps i).kern) && decide ((nth ps i).kern ≤ 6553600) else decide ((nth ps i).kern = 0) && hasG gs (nth ps i).lig)) := rfl
      have gl := fun x => l6Glyph_iff nm gs ps a b 0 d 0 q r x hb
      simp only [fcells] at gl
      have lt_eq : ∀ x y : Pair, pairLt ⟨x.left, x.right, x.lig, x.kern⟩ ⟨y.left, y.right, y.lig, y.kern⟩ = pairLt x y := fun _ _ => rfl
      have go : (0 < i → pairLt (nth ps (i - 1)) (nth ps i) = true) → ∀ (G : Prop), (hasG gs (nth ps i).left = false → glyphI gs (nth ps i).left < 0 → G) → (hasG gs (nth ps i).left = true → ¬ glyphI gs (nth ps i).left < 0 → hasG gs (nth ps i).right = false → glyphI gs (nth ps i).right < 0 → G) →
          (hasG gs (nth ps i).left = true → ¬ glyphI gs (nth ps i).left < 0 → hasG gs (nth ps i).right = true → ¬ glyphI gs (nth ps i).right < 0 → G) → G := fun _ G k1 k2 k3 => by
        cases e1 : hasG gs (nth ps i).left with
        | false => exact k1 e1 (gn _ e1)
        | true => cases e2 : hasG gs (nth ps i).right with
          | false => exact k2 e1 (gy _ e1) e2 (gn _ e2)
          | true => exact k3 e1 (gy _ e1) e2 (gy _ e2)
      by_cases c0 : 0 < i
      · have w2 : IntKind.wrap .i64 ((i : Int) - 1) = ((i - 1 : Nat) : Int) := by rw [wrap_i64 (by omega) (by omega)]; omega
        have a2 := fun k => Pair.ok.toEncOk.iaddr (by omega) none ps k ((i - 1 : Nat) : Int) h2 (by omega) (by omega)
        simp only [Int.toNat_natCast] at a2
        cases c1 : pairLt (nth ps (i - 1)) (nth ps i) with
        | false => simp [hlt, s5, sb, a1, a2, w2, c0, c1, hQ, l6PairLess_iff, lt_eq, gl]; exact bad (by simp [hpa, c0, c1])
        | true =>
        have plt : ∀ u v : Int, pairLt (nth ps (i - 1)) ⟨(nth ps i).left, (nth ps i).right, u, v⟩ = true := fun _ _ => c1
        refine go (fun _ => c1) _ (fun e1 e2 => ?_) (fun e1 e2 e3 e4 => ?_) (fun e1 e2 e3 e4 => ?_)
        · simp [hlt, s5, sb, a1, a2, w2, c0, c1, e2, hQ, l6PairLess_iff, lt_eq, gl]; exact bad (by simp [hpa, e1])
        · simp [hlt, s5, sb, a1, a2, w2, c0, c1, e2, e4, hQ, l6PairLess_iff, lt_eq, gl]; exact bad (by simp [hpa, e3])
        · by_cases c5 : (nth ps i).lig = -1
          · by_cases c6 : (nth ps i).kern < -6553600
            · simp [hlt, s5, sb, a1, a2, w2, c0, c1, plt, e2, e4, c5, c6, hQ, l6PairLess_iff, lt_eq, gl]; exact bad (by simp [hpa, c5]; omega)
            by_cases c7 : 6553600 < (nth ps i).kern
            · simp [hlt, s5, sb, a1, a2, w2, c0, c1, plt, e2, e4, c5, c6, c7, hQ, l6PairLess_iff, lt_eq, gl]; exact bad (by simp [hpa, c5]; omega)
            simp [hlt, s5, sb, a1, a2, w1, w2, c0, c1, plt, e2, e4, c5, c6, c7, l6PairLess_iff, lt_eq, gl]
            exact hK (ps.length - (i + 1)) _ _ (by omega) ⟨rfl, i + 1, rfl, by omega, ⟨by simp, by simp [sb]⟩, all_succ hp (by simp [hpa, c1, e1, e3, c5]; omega)⟩
          · by_cases c6 : (nth ps i).kern = 0
            case neg => simp [hlt, s5, sb, a1, a2, w2, c0, c1, plt, e2, e4, c5, c6, hQ, l6PairLess_iff, lt_eq, gl]; exact bad (by simp [hpa, c5, c6])
            cases c7 : hasG gs (nth ps i).lig with
            | false => simp [hlt, s5, sb, a1, a2, w2, c0, c1, plt, e2, e4, c5, c6, gn _ c7, hQ, l6PairLess_iff, lt_eq, gl]; exact bad (by simp [hpa, c5, c7])
            | true =>
            simp [hlt, s5, sb, a1, a2, w1, w2, c0, c1, plt, e2, e4, c5, c6, gy _ c7, l6PairLess_iff, lt_eq, gl]
            exact hK (ps.length - (i + 1)) _ _ (by omega) ⟨rfl, i + 1, rfl, by omega, ⟨by simp, by simp [sb]⟩, all_succ hp (by simp [hpa, c1, e1, e3, c5, c6, c7])⟩
      · refine go (fun e => absurd e c0) _ (fun e1 e2 => ?_) (fun e1 e2 e3 e4 => ?_) (fun e1 e2 e3 e4 => ?_)
        · simp [hlt, s5, sb, a1, c0, e2, hQ, gl]; exact bad (by simp [hpa, e1])
        · simp [hlt, s5, sb, a1, c0, e2, e4, hQ, gl]; exact bad (by simp [hpa, e3])
        · by_cases c5 : (nth ps i).lig = -1
          · by_cases c6 : (nth ps i).kern < -6553600
            · simp [hlt, s5, sb, a1, c0, e2, e4, c5, c6, hQ, gl]; exact bad (by simp [hpa, c5]; omega)
            by_cases c7 : 6553600 < (nth ps i).kern
            · simp [hlt, s5, sb, a1, c0, e2, e4, c5, c6, c7, hQ, gl]; exact bad (by simp [hpa, c5]; omega)
            simp [hlt, s5, sb, a1, w1, c0, e2, e4, c5, c6, c7, gl]
            exact hK (ps.length - (i + 1)) _ _ (by omega) ⟨rfl, i + 1, rfl, by omega, ⟨by simp, by simp [sb]⟩, all_succ hp (by simp [hpa, c0, e1, e3, c5]; omega)⟩
          · by_cases c6 : (nth ps i).kern = 0
            case neg => simp [hlt, s5, sb, a1, c0, e2, e4, c5, c6, hQ, gl]; exact bad (by simp [hpa, c5, c6])
            cases c7 : hasG gs (nth ps i).lig with
            | false => simp [hlt, s5, sb, a1, c0, e2, e4, c5, c6, gn _ c7, hQ, gl]; exact bad (by simp [hpa, c5, c7])
            | true =>
            simp [hlt, s5, sb, a1, w1, c0, e2, e4, c5, c6, gy _ c7, gl]
            exact hK (ps.length - (i + 1)) _ _ (by omega) ⟨rfl, i + 1, rfl, by omega, ⟨by simp, by simp [sb]⟩, all_succ hp (by simp [hpa, c0, e1, e3, c5, c6, c7])⟩
    · obtain rfl : i = ps.length := by omega
      have : fontB ⟨nm, gs, ps, ⟨a, b, 0, d, 0⟩, q, r⟩ = true := by rw [fontB_eq, hd, hg, show pairsB gs ps = true from hp]; rfl
      simp [hE, this]
end Go.Proofs.Ytbajchkpehdolaa
