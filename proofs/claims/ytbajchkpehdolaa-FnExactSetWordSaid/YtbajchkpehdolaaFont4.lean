/- Contracts: FontOk of the program. Maps whose keys are whole numbers. -/
import Derived.Test.YtbajchkpehdolaaFont3
namespace Go.Proofs.Ytbajchkpehdolaa
open Go Go.Bm Go.Proofs
set_option linter.all false

/-! ### maps -/
def kI (v : AV) (k : Int) : AV × AV := (.int .i64 k, v)
theorem findA_int (v : AV) (x : Int) : ∀ (ks : List Int) (i : Nat), findA (.int .i64 x) (ks.map (kI v)) i = some (if x ∈ ks then some (i + ks.idxOf x, v) else none)
  | [], _ => rfl
  | k :: ks, i => by
    by_cases e : x = k
    · subst e
      simp [findA, kI, keyEq]
    · have e' : ¬ k = x := fun h => e h.symm
      have := findA_int v x ks (i + 1)
      simp only [List.map_cons, findA, kI, keyEq, if_true]
      rw [show (x == k) = false by simpa using e]
      rw [this]
      have e2 : (k == x) = false := by simpa using e'
      by_cases m : x ∈ ks
      · simp [e, m, List.idxOf_cons, e2]; omega
      · simp [e, m]
theorem mget_int {h : AH} {b : Nat} {ks : List Int} (g : h.get b = some (.map (ks.map (kI (.bool true))))) (x : Int) : mgetA (.int .i64) false (.bool false) (.mp b) (.int .i64 x) h = some (.bool (decide (x ∈ ks)), h) := by
  simp only [mgetA, g, findA_int]
  by_cases e : x ∈ ks <;> simp [e, AV.hasKT]
theorem mset_int {h : AH} {b : Nat} {ks : List Int} {v : AV} (hv : v.clo = true) (g : h.get b = some (.map (ks.map (kI v)))) {x : Int} (hx : x ∉ ks) : msetA (.int .i64) (.mp b) (.int .i64 x) v h = some (.tup [], h.upd b (some (.map ((ks ++ [x]).map (kI v))))) := by
  simp only [msetA, g, findA_int]
  simp [hx, AV.hasKT, hv, kI]

theorem code_new {gs : List Glyph} {i : Nat} (hi : i < gs.length) (h : (List.range (i + 1)).all (glyphAt gs) = true) : (nth gs i).code ∉ codes (gs.take i) := by
  intro hm
  obtain ⟨j, hj, e⟩ := List.getElem_of_mem hm
  have hj' : j < i := by simp [codes] at hj; omega
  have hr := rising_of (show i + 1 ≤ gs.length by omega) h j i hj' (by simp [codes]; omega)
  have ee : ∀ k, k < i + 1 → nth (codes (gs.take (i + 1))) k = (nth gs k).code := fun k hk => by
    have h1 : k < (gs.take (i + 1)).length := by rw [List.length_take]; omega
    rw [codes, map_nth _ _ h1, nth_eq h1, nth_eq (show k < gs.length by omega)]
    simp
  rw [ee j (by omega), ee i (by omega)] at hr
  have : (nth gs j).code = (nth gs i).code := by
    rw [← e, nth_eq (show j < gs.length by omega)]; simp [codes]
  omega
theorem codes_succ {gs : List Glyph} {i : Nat} (hi : i < gs.length) : codes (gs.take (i + 1)) = codes (gs.take i) ++ [(nth gs i).code] := by
  have e : gs.take (i + 1) = gs.take i ++ [gs[i]] := (List.take_append_getElem hi).symm
  rw [codes, e, List.map_append, nth_eq hi]; rfl
set_option maxRecDepth 100000 in
theorem FontOk_ok (nm : ByteArray) (gs : List Glyph) (ps : List Pair) (a b c d e q r : Int) (hb : gs.length ≤ 1048576) (hb2 : ps.length ≤ 1048576) (hb3 : nm.size ≤ 1048576) (h : AH) (R : AV → AH → Prop) (hR : ∀ h', h.le h' → R (.bool (fontB ⟨nm, gs, ps, ⟨a, b, c, d, e⟩, q, r⟩)) h') : CA 32 [.agg (fcells nm gs ps a b c d e q r)] h R := by
  refine (ca_iff (af := ac32) rfl).2 ?_
  have head : headB nm ps a b c d e q r = false → R (.bool false) h := fun e1 => by have := hR h (AH.le_refl h); rwa [fontB_false (.inl e1)] at this
  have hh : headB nm ps a b c d e q r = (decide (nm.size ≤ 40) && decide (ps.length ≤ 2000) && glueB ⟨a, b, c, d, e⟩ && decide (0 ≤ a) && decide (c = 0) && decide (e = 0) && sizB q && sizB r) := rfl
  simp [ac32, GlueOk_iff]
  by_cases h1 : (40 : Int) < nm.size
  · simp [h1]; exact head (by simp [hh]; omega)
  by_cases h3 : (2000 : Int) < ps.length
  · simp [h1, h3]; exact head (by simp [hh]; omega)
  cases h6 : glueB ⟨a, b, c, d, e⟩ with
  | false => simp [h1, h3, h6, GlueOk_iff]; exact head (by simp [hh, h6])
  | true =>
  by_cases h7 : a < 0
  · simp [h1, h3, h6, h7, GlueOk_iff]; exact head (by simp [hh]; omega)
  by_cases h8 : c = 0
  case neg => simp [h1, h3, h6, h7, h8, GlueOk_iff]; exact head (by simp [hh, h8])
  subst h8
  by_cases h9 : e = 0
  case neg => simp [h1, h3, h6, h7, h9, GlueOk_iff]; exact head (by simp [hh, h9])
  subst h9
  cases h4 : sizB q with
  | false => simp [h1, h3, h4, h6, h7, FontOk1_iff, GlueOk_iff]; exact head (by simp [hh, h4])
  | true =>
  cases h5 : sizB r with
  | false => simp [h1, h3, h4, h5, h6, h7, FontOk1_iff, GlueOk_iff]; exact head (by simp [hh, h5])
  | true =>
  have hd : headB nm ps a b 0 d 0 q r = true := by rw [hh, h4, h5, h6]; simp; omega
  simp [h1, h3, h4, h5, h6, h7, FontOk1_iff, GlueOk_iff]
  clear head hh
  refine awp_loop2 caM (fun n s h' => ∃ (i : Nat), n = gs.length - i ∧ i ≤ gs.length ∧ (s 3 = .fn 44 [] ∧ s 4 = .mp h.next ∧ s 60 = .fs none (gs.map Glyph.enc) ∧ s 61 = .int .i64 gs.length ∧ s 62 = .int .i64 i ∧ s 100001 = .agg (fcells nm gs ps a b 0 d 0 q r)) ∧ (List.range i).all (glyphAt gs) = true ∧ h.le h' ∧ h'.get h.next = some (.map ((codes (gs.take i)).map (kI (.bool true))))) ?_ (n := gs.length) ⟨0, by simp, by simp, by simp, by simp, AH.le_new h _, by rw [AH.get_new, if_pos rfl]; rfl⟩
  rintro n s h' ⟨i, rfl, hi, ⟨s3, s4, s60, s61, s62, sb⟩, ha, hle, hm⟩ K hK hE hQ
  simp only [fcells] at sb
  simp [s3, s4, s60, s61, s62, sb]
  by_cases hlt : i < gs.length
  · have w1 : IntKind.wrap .i64 ((i : Int) + 1) = (i : Int) + 1 := wrap_i64 (by omega) (by omega)
    have a1 := fun k => Glyph.ok.toEncOk.iaddr (by omega) none gs k (i : Int) h' (by omega) (by omega)
    simp only [Int.toNat_natCast] at a1
    have bad : glyphAt gs i = false → R (.bool false) h' := fun e => by have := hR h' hle; rwa [fontB_false (.inr (.inl (all_bad hlt e)))] at this
    have hga : glyphAt gs i = (decide (0 ≤ (nth gs i).code) && decide ((nth gs i).code ≤ 255) && !(decide (0 < i) && decide ((nth gs i).code ≤ (nth gs (i - 1)).code)) && sizB (nth gs i).width && sizB (nth gs i).height && sizB (nth gs i).depth) := rfl
    have put := fun hn => mset_int (v := .bool true) rfl hm (x := (nth gs i).code) hn
    have hbl := AH.get_lt hm
    have next : ∀ s' : S, glyphAt gs i = true → s' 3 = .fn 44 [] → s' 4 = .mp h.next → s' 60 = .fs none (gs.map Glyph.enc) → s' 61 = .int .i64 gs.length → s' 62 = .int .i64 ((i : Int) + 1) → s' 100001 = .agg (fcells nm gs ps a b 0 d 0 q r) →
        ∀ h2, h2 = h'.upd h.next (some (.map ((codes (gs.take i) ++ [(nth gs i).code]).map (kI (.bool true))))) → K .normal s' h2 := fun s' g t3 t4 t60 t61 t62 tb h2 eh => by
      subst eh
      exact hK (gs.length - (i + 1)) _ _ (by omega) ⟨i + 1, rfl, by omega, ⟨t3, t4, t60, t61, by simpa using t62, tb⟩, all_succ ha g, ⟨hle.1, fun c hc => by rw [AH.get_upd hbl, if_neg (by omega)]; exact hle.2 c hc⟩, by rw [AH.get_upd hbl, if_pos rfl, codes_succ hlt]⟩
    have newc : glyphAt gs i = true → (nth gs i).code ∉ codes (gs.take i) := fun g => code_new hlt (all_succ ha g)
    by_cases c1 : (nth gs i).code < 0
    · simp [hlt, s3, s4, s60, s62, sb, a1, c1, hQ]; exact bad (by simp [hga]; omega)
    by_cases c2 : 255 < (nth gs i).code
    · simp [hlt, s3, s4, s60, s62, sb, a1, c1, c2, hQ]; exact bad (by simp [hga]; omega)
    by_cases c0 : 0 < i
    · have w2 : IntKind.wrap .i64 ((i : Int) - 1) = ((i - 1 : Nat) : Int) := by rw [wrap_i64 (by omega) (by omega)]; omega
      have a2 := fun k => Glyph.ok.toEncOk.iaddr (by omega) none gs k ((i - 1 : Nat) : Int) h' (by omega) (by omega)
      simp only [Int.toNat_natCast] at a2
      by_cases c3 : (nth gs i).code ≤ (nth gs (i - 1)).code
      · simp [hlt, s3, s4, s60, s62, sb, a1, a2, w2, c0, c1, c2, c3, hQ, FontOk1_iff]; exact bad (by simp [hga, c0, c3])
      cases c4 : sizB (nth gs i).width with
      | false => simp [hlt, s3, s4, s60, s62, sb, a1, a2, w2, c0, c1, c2, c3, c4, hQ, FontOk1_iff]; exact bad (by simp [hga, c4])
      | true =>
      cases c5 : sizB (nth gs i).height with
      | false => simp [hlt, s3, s4, s60, s62, sb, a1, a2, w2, c0, c1, c2, c3, c4, c5, hQ, FontOk1_iff]; exact bad (by simp [hga, c5])
      | true =>
      cases c6 : sizB (nth gs i).depth with
      | false => simp [hlt, s3, s4, s60, s62, sb, a1, a2, w2, c0, c1, c2, c3, c4, c5, c6, hQ, FontOk1_iff]; exact bad (by simp [hga, c6])
      | true =>
      have g : glyphAt gs i = true := by simp [hga, c4, c5, c6]; omega
      have p := put (newc g)
      simp [hlt, s3, s4, s60, s62, sb, a1, a2, w1, w2, c0, c1, c2, c3, c4, c5, c6, FontOk1_iff, p]
      exact next _ g (by simp [s3]) (by simp [s4]) (by simp [s60]) (by simp [s61]) (by simp) (by simp [sb]) _ (by simp)
    · cases c4 : sizB (nth gs i).width with
      | false => simp [hlt, s3, s4, s60, s62, sb, a1, c0, c1, c2, c4, hQ, FontOk1_iff]; exact bad (by simp [hga, c4])
      | true =>
      cases c5 : sizB (nth gs i).height with
      | false => simp [hlt, s3, s4, s60, s62, sb, a1, c0, c1, c2, c4, c5, hQ, FontOk1_iff]; exact bad (by simp [hga, c5])
      | true =>
      cases c6 : sizB (nth gs i).depth with
      | false => simp [hlt, s3, s4, s60, s62, sb, a1, c0, c1, c2, c4, c5, c6, hQ, FontOk1_iff]; exact bad (by simp [hga, c6])
      | true =>
      have g : glyphAt gs i = true := by simp [hga, c4, c5, c6]; omega
      have p := put (newc g)
      simp [hlt, s3, s4, s60, s62, sb, a1, w1, c0, c1, c2, c4, c5, c6, FontOk1_iff, p]
      exact next _ g (by simp [s3]) (by simp [s4]) (by simp [s60]) (by simp [s61]) (by simp) (by simp [sb]) _ (by simp)
  · obtain rfl : i = gs.length := by omega
    have hg : glyphsB gs = true := ha
    rw [List.take_length] at hm
    have mg : ∀ x, mgetA (.int .i64) false (.bool false) (.mp h.next) (.int .i64 x) h' = some (.bool (hasG gs x), h') := fun x => by rw [hasG_mem]; exact mget_int hm x
    simp [hE, sb]
    clear hK hE hQ s60 s61 s62 s3
    refine awp_loop2 caM (fun n s h2 => h2 = h' ∧ ∃ (i : Nat), n = ps.length - i ∧ i ≤ ps.length ∧ (s 4 = .mp h.next ∧ s 117 = .fs none (ps.map Pair.enc) ∧ s 118 = .int .i64 ps.length ∧ s 119 = .int .i64 i ∧ s 100001 = .agg (fcells nm gs ps a b 0 d 0 q r)) ∧ (List.range i).all (pairAt gs ps) = true) ?_ (n := ps.length) ⟨rfl, 0, by simp, by simp, by simp [sb, s4], by simp⟩
    clear sb s4
    rintro n s h2 ⟨rfl, i, rfl, hi, ⟨s4, s117, s118, s119, sb⟩, hp⟩ K hK hE hQ
    simp only [fcells] at sb
    simp [s4, s117, s118, s119, sb]
    by_cases hlt : i < ps.length
    · have w1 : IntKind.wrap .i64 ((i : Int) + 1) = (i : Int) + 1 := wrap_i64 (by omega) (by omega)
      have a1 := fun k => Pair.ok.toEncOk.iaddr (by omega) none ps k (i : Int) h2 (by omega) (by omega)
      simp only [Int.toNat_natCast] at a1
      have bad : pairAt gs ps i = false → R (.bool false) h2 := fun e => by have := hR h2 hle; rwa [fontB_false (.inr (.inr (all_bad hlt e)))] at this
      have hpa : pairAt gs ps i = (!(decide (0 < i) && !pairLt (nth ps (i - 1)) (nth ps i)) && hasG gs (nth ps i).left && hasG gs (nth ps i).right &&
        (if (nth ps i).lig = -1 then decide (-6553600 ≤ (nth ps i).kern) && decide ((nth ps i).kern ≤ 6553600) else decide ((nth ps i).kern = 0) && hasG gs (nth ps i).lig)) := rfl
      by_cases c0 : 0 < i
      · have w2 : IntKind.wrap .i64 ((i : Int) - 1) = ((i - 1 : Nat) : Int) := by rw [wrap_i64 (by omega) (by omega)]; omega
        have a2 := fun k => Pair.ok.toEncOk.iaddr (by omega) none ps k ((i - 1 : Nat) : Int) h2 (by omega) (by omega)
        simp only [Int.toNat_natCast] at a2
        have pl : pairLt (nth ps (i - 1)) (nth ps i) = (decide ((nth ps (i - 1)).left < (nth ps i).left) || (decide ((nth ps (i - 1)).left = (nth ps i).left) && decide ((nth ps (i - 1)).right < (nth ps i).right))) := rfl
        by_cases c1 : (nth ps i).left < (nth ps (i - 1)).left
        · simp [hlt, s4, s117, s118, s119, sb, a1, a2, w2, c0, c1, hQ]; exact bad (by simp [hpa, c0, pl]; omega)
        by_cases c2 : (nth ps (i - 1)).left = (nth ps i).left
        · by_cases c3 : (nth ps i).right ≤ (nth ps (i - 1)).right
          · simp [hlt, s4, s117, s118, s119, sb, a1, a2, w2, c0, c1, c2, c3, hQ]; exact bad (by simp [hpa, c0, pl, c2]; omega)
          have hlt1 : pairLt (nth ps (i - 1)) (nth ps i) = true := by simp [pl, c2]; omega
          simp [hlt, s4, s117, s118, s119, sb, a1, a2, w2, c0, c1, c2, c3]
          simp [s4, s117, s118, s119, sb, mg, hQ]
          cases e1 : hasG gs (nth ps i).left with
          | false => simp [e1, sb, hQ]; exact bad (by simp [hpa, e1])
          | true =>
          cases e2 : hasG gs (nth ps i).right with
          | false => simp [e1, e2, s4, sb, mg, hQ]; exact bad (by simp [hpa, e2])
          | true =>
          by_cases c5 : (nth ps i).lig = -1
          · by_cases c6 : (nth ps i).kern < -6553600
            · simp [e1, e2, c5, c6, s4, sb, mg, hQ]; exact bad (by simp [hpa, c5]; omega)
            by_cases c7 : 6553600 < (nth ps i).kern
            · simp [e1, e2, c5, c6, c7, s4, sb, mg, hQ]; exact bad (by simp [hpa, c5]; omega)
            simp [e1, e2, c5, c6, c7, s4, sb, mg, s119, w1]
            exact hK (ps.length - (i + 1)) _ _ (by omega) ⟨rfl, i + 1, rfl, by omega, ⟨by simp [s4], by simp [s117], by simp [s118], by simp, by simp [sb]⟩, all_succ hp (by simp [hpa, hlt1, e1, e2, c5]; omega)⟩
          · cases c7 : hasG gs (nth ps i).lig with
            | false => simp [e1, e2, c5, c7, s4, sb, mg, hQ]; exact bad (by simp [hpa, c5, c7])
            | true =>
            by_cases c6 : (nth ps i).kern = 0
            case neg => simp [e1, e2, c5, c6, c7, s4, sb, mg, hQ]; exact bad (by simp [hpa, c5, c6])
            simp [e1, e2, c5, c6, c7, s4, sb, mg, s119, w1]
            exact hK (ps.length - (i + 1)) _ _ (by omega) ⟨rfl, i + 1, rfl, by omega, ⟨by simp [s4], by simp [s117], by simp [s118], by simp, by simp [sb]⟩, all_succ hp (by simp [hpa, hlt1, e1, e2, c5, c6, c7])⟩
        · have hlt1 : pairLt (nth ps (i - 1)) (nth ps i) = true := by simp [pl, c2]; omega
          simp [hlt, s4, s117, s118, s119, sb, a1, a2, w2, c0, c1, c2]
          simp [s4, s117, s118, s119, sb, mg, hQ]
          cases e1 : hasG gs (nth ps i).left with
          | false => simp [e1, sb, hQ]; exact bad (by simp [hpa, e1])
          | true =>
          cases e2 : hasG gs (nth ps i).right with
          | false => simp [e1, e2, s4, sb, mg, hQ]; exact bad (by simp [hpa, e2])
          | true =>
          by_cases c5 : (nth ps i).lig = -1
          · by_cases c6 : (nth ps i).kern < -6553600
            · simp [e1, e2, c5, c6, s4, sb, mg, hQ]; exact bad (by simp [hpa, c5]; omega)
            by_cases c7 : 6553600 < (nth ps i).kern
            · simp [e1, e2, c5, c6, c7, s4, sb, mg, hQ]; exact bad (by simp [hpa, c5]; omega)
            simp [e1, e2, c5, c6, c7, s4, sb, mg, s119, w1]
            exact hK (ps.length - (i + 1)) _ _ (by omega) ⟨rfl, i + 1, rfl, by omega, ⟨by simp [s4], by simp [s117], by simp [s118], by simp, by simp [sb]⟩, all_succ hp (by simp [hpa, hlt1, e1, e2, c5]; omega)⟩
          · cases c7 : hasG gs (nth ps i).lig with
            | false => simp [e1, e2, c5, c7, s4, sb, mg, hQ]; exact bad (by simp [hpa, c5, c7])
            | true =>
            by_cases c6 : (nth ps i).kern = 0
            case neg => simp [e1, e2, c5, c6, c7, s4, sb, mg, hQ]; exact bad (by simp [hpa, c5, c6])
            simp [e1, e2, c5, c6, c7, s4, sb, mg, s119, w1]
            exact hK (ps.length - (i + 1)) _ _ (by omega) ⟨rfl, i + 1, rfl, by omega, ⟨by simp [s4], by simp [s117], by simp [s118], by simp, by simp [sb]⟩, all_succ hp (by simp [hpa, hlt1, e1, e2, c5, c6, c7])⟩
      · have hlt1 := c0
        simp [hlt, s4, s117, s118, s119, sb, a1, c0]
        simp [s4, s117, s118, s119, sb, mg, hQ]
        cases e1 : hasG gs (nth ps i).left with
        | false => simp [e1, sb, hQ]; exact bad (by simp [hpa, e1])
        | true =>
        cases e2 : hasG gs (nth ps i).right with
        | false => simp [e1, e2, s4, sb, mg, hQ]; exact bad (by simp [hpa, e2])
        | true =>
        by_cases c5 : (nth ps i).lig = -1
        · by_cases c6 : (nth ps i).kern < -6553600
          · simp [e1, e2, c5, c6, s4, sb, mg, hQ]; exact bad (by simp [hpa, c5]; omega)
          by_cases c7 : 6553600 < (nth ps i).kern
          · simp [e1, e2, c5, c6, c7, s4, sb, mg, hQ]; exact bad (by simp [hpa, c5]; omega)
          simp [e1, e2, c5, c6, c7, s4, sb, mg, s119, w1]
          exact hK (ps.length - (i + 1)) _ _ (by omega) ⟨rfl, i + 1, rfl, by omega, ⟨by simp [s4], by simp [s117], by simp [s118], by simp, by simp [sb]⟩, all_succ hp (by simp [hpa, hlt1, e1, e2, c5]; omega)⟩
        · cases c7 : hasG gs (nth ps i).lig with
          | false => simp [e1, e2, c5, c7, s4, sb, mg, hQ]; exact bad (by simp [hpa, c5, c7])
          | true =>
          by_cases c6 : (nth ps i).kern = 0
          case neg => simp [e1, e2, c5, c6, c7, s4, sb, mg, hQ]; exact bad (by simp [hpa, c5, c6])
          simp [e1, e2, c5, c6, c7, s4, sb, mg, s119, w1]
          exact hK (ps.length - (i + 1)) _ _ (by omega) ⟨rfl, i + 1, rfl, by omega, ⟨by simp [s4], by simp [s117], by simp [s118], by simp, by simp [sb]⟩, all_succ hp (by simp [hpa, hlt1, e1, e2, c5, c6, c7])⟩
    · obtain rfl : i = ps.length := by omega
      have e1 : fontB ⟨nm, gs, ps, ⟨a, b, 0, d, 0⟩, q, r⟩ = true := by rw [fontB_eq, hd, hg, show pairsB gs ps = true from hp]; rfl
      have := hR h2 hle
      rw [e1] at this
      simp [hE]
      exact this
theorem FontOk_iff (nm : ByteArray) (gs : List Glyph) (ps : List Pair) (a b c d e q r : Int) (hb : gs.length ≤ 1048576) (hb2 : ps.length ≤ 1048576) (hb3 : nm.size ≤ 1048576) (h : AH) (R : AV → AH → Prop) : acallM CA .frz 32 [.agg (fcells nm gs ps a b c d e q r)] h R ↔ R (.bool (fontB ⟨nm, gs, ps, ⟨a, b, c, d, e⟩, q, r⟩)) h :=
  by
  refine acallM_det ?_
  exact FontOk_ok nm gs ps a b c d e q r hb hb2 hb3 h _ fun h' hle => ⟨hle, _, rfl, rfl, rfl⟩
end Go.Proofs.Ytbajchkpehdolaa
