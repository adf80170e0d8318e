/- Contracts: patterns. -/
import Derived.Test.YtimpbgncgdaofaaDoorB1
namespace Go.Proofs.YtimpbgncgdaofaaDoor
open Go Go.Bm Go.Proofs
set_option linter.all false

theorem patB_no1 {p : Pattern} (h : ¬ (1 ≤ p.letters.size ∧ p.letters.size ≤ 20 ∧ p.marks.length = p.letters.size + 1)) : patB p = false := by
  unfold patB
  by_cases h1 : 1 ≤ p.letters.size
  · by_cases h2 : p.letters.size ≤ 20
    · by_cases h3 : p.marks.length = p.letters.size + 1
      · exact absurd ⟨h1, h2, h3⟩ h
      · simp [h3]
    · simp [h2]
  · simp [h1]
theorem l7PatternOk_iff (l : ByteArray) (ms : List Int) (hs : l.size ≤ 1048576) (hm : ms.length ≤ 1048576) (h : AH) (R : AV → AH → Prop) : CA 24 [.agg [.str l, .fs none (ms.map (encI .i64))]] h R ↔ R (.bool (patB ⟨l, ms⟩)) h := by
  refine ca_pure (af := ac24) rfl ?_
  by_cases b1 : (l.size : Int) < 1
  · simp [ac24, b1, patB_no1 (p := ⟨l, ms⟩) (by simp; omega)]
  by_cases b2 : (20 : Int) < l.size
  · simp [ac24, b1, b2, patB_no1 (p := ⟨l, ms⟩) (by simp; omega)]
  have hw0 : IntKind.wrap .i64 ((l.size : Int) + 1) = (l.size : Int) + 1 := wrap_i64 (by omega) (by omega)
  by_cases b3 : (ms.length : Int) = (l.size : Int) + 1
  case neg => simp [ac24, b1, b2, b3, hw0, (encI_ok .i64).toEncOk.len, patB_no1 (p := ⟨l, ms⟩) (by simp; omega)]
  simp [ac24, b1, b2, b3, hw0, (encI_ok .i64).toEncOk.len]
  refine awp_loop2 caM (fun n st h' => h' = h ∧ ∃ i c : Nat, n = l.size - i ∧ i ≤ l.size ∧ c ≤ i ∧ (st 3 = .int .i64 l.size ∧ st 4 = .int .i64 c ∧ st 5 = .int .i64 i ∧ st 100001 = .agg [.str l, .fs none (ms.map (encI .i64))]) ∧ (∀ k, k < i → chrF l k = true) ∧ (c = 0 ↔ ∀ k, k < i → lowB (byt l k) = false)) ?_ (n := l.size) ⟨rfl, 0, 0, by simp, by simp, by simp, by simp, fun k hk => absurd hk (by omega), by simp⟩
  rintro n st h' ⟨rfl, i, c, rfl, hi, hc, ⟨s3, s4, s5, s1⟩, hl, hcl⟩ K hK hE hQ
  simp [s3, s4, s5]
  by_cases hlt : i < l.size
  · have ij := str_ix l i .i64 h' hlt
    have hwr : IntKind.wrap .i64 ((i : Int) + 1) = (i : Int) + 1 := wrap_i64 (by omega) (by omega)
    have hwc : IntKind.wrap .i64 ((c : Int) + 1) = (c : Int) + 1 := wrap_i64 (by omega) (by omega)
    have hwn : IntKind.wrap .i64 ((l.size : Int) - 1) = (l.size : Int) - 1 := wrap_i64 (by omega) (by omega)
    simp [hlt, s3, s4, s5, s1, ij, l7Low_iff]
    have bad : chrF l i = false → patB ⟨l, ms⟩ = false := fun hb => by simp [patB, rall_false hlt hb]
    cases hb : lowB (byt l i) with
    | true =>
      simp [s3, s4, s5, s1, hwc, hwr]
      exact hK (l.size - (i + 1)) _ _ (by omega) ⟨rfl, i + 1, c + 1, rfl, by omega, by omega, ⟨by simp [s3], by simp, by simp, by simp [s1]⟩, fun k hk => by
        by_cases e : k = i
        · rw [e]; simp [chrF, hb]
        · exact hl k (by omega), ⟨fun e => absurd e (by omega), fun hall => by have := hall i (by omega); rw [hb] at this; cases this⟩⟩
    | false =>
      simp [s3, s4, s5, s1, ij]
      have next : chrF l i = true → (∀ k, k < i + 1 → chrF l k = true) ∧ (c = 0 ↔ ∀ k, k < i + 1 → lowB (byt l k) = false) := fun hg => ⟨fun k hk => by
        by_cases e : k = i
        · rw [e]; exact hg
        · exact hl k (by omega), hcl.trans ⟨fun hall k hk => by
          by_cases e : k = i
          · rw [e]; exact hb
          · exact hall k (by omega), fun hall k hk => hall k (by omega)⟩⟩
      by_cases c1 : ((byt l i).toNat : Int) = 46
      · have c1' : (byt l i).toNat = 46 := by omega
        simp [c1, s3, s4, s5, s1, ij, hwn]
        by_cases c2 : 0 < i
        · simp [c1, c2, s3, s4, s5, s1, hwn]
          by_cases c3 : (i : Int) < (l.size : Int) - 1
          · simp [c1, c2, c3, hQ, bad (by simp [chrF, hb, c1']; omega)]
          · simp [c1, c2, c3, s3, s4, s5, s1, hwr]
            have hg := next (by simp [chrF, hb, c1']; omega)
            exact hK (l.size - (i + 1)) _ _ (by omega) ⟨rfl, i + 1, c, rfl, by omega, by omega, ⟨by simp [s3], by simp [s4], by simp, by simp [s1]⟩, hg.1, hg.2⟩
        · simp [c1, c2, s3, s4, s5, s1, hwr]
          have hg := next (by simp [chrF, hb, c1']; omega)
          exact hK (l.size - (i + 1)) _ _ (by omega) ⟨rfl, i + 1, c, rfl, by omega, by omega, ⟨by simp [s3], by simp [s4], by simp, by simp [s1]⟩, hg.1, hg.2⟩
      · simp [c1, hQ, bad (by simp [chrF, hb]; intro x; omega)]
  · obtain rfl : i = l.size := by omega
    have hchr := rall_true hl
    have hlen : ms.length = l.size + 1 := by omega
    have hany : decide (0 < (c : Int)) = anyB l := by
      unfold anyB
      rw [Bool.eq_iff_iff, decide_eq_true_iff, Bool.not_eq_true', Bool.eq_false_iff, Ne, rall_iff]
      constructor
      · intro h0 hall
        have := hcl.2 (fun k hk => by simpa using hall k hk)
        omega
      · intro hn
        by_cases h0 : c = 0
        · exact absurd (fun k hk => by simpa using (hcl.1 h0) k hk) hn
        · omega
    simp [hE]
    clear hK hE hQ K
    refine awp_loop2 caM (fun n st2 h2 => h2 = h' ∧ ∃ i : Nat, n = l.size + 1 - i ∧ i ≤ l.size + 1 ∧ (st2 3 = .int .i64 l.size ∧ st2 4 = .int .i64 c ∧ st2 6 = .int .i64 i ∧ st2 100001 = .agg [.str l, .fs none (ms.map (encI .i64))]) ∧ ∀ k, k < i → mrkF ms k = true) ?_ (n := l.size + 1) ⟨rfl, 0, by simp, by simp, by simp [s3, s4, s1], fun k hk => absurd hk (by omega)⟩
    clear s3 s4 s5 s1
    rintro n st h' ⟨rfl, i, rfl, hi, ⟨s3, s4, s6, s1⟩, hmk⟩ K hK hE hQ
    simp [s3, s4, s6]
    by_cases hlt : i < ms.length
    · have a1 := (encI_ok .i64).toEncOk.iaddr (by omega) none ms .i64 (i : Int) h' (by omega) (by omega)
      simp only [Int.toNat_natCast] at a1
      have hwr : IntKind.wrap .i64 ((i : Int) + 1) = (i : Int) + 1 := wrap_i64 (by omega) (by omega)
      have bad : mrkF ms i = false → patB ⟨l, ms⟩ = false := fun hb => by simp [patB, rall_false hlt hb]
      simp [show i ≤ l.size by omega, s3, s4, s6, s1, a1]
      by_cases c1 : nth ms i < 0
      · simp [c1, hQ, bad (by simp [mrkF, mrkB]; omega)]
      simp [c1, s3, s4, s6, s1, a1]
      by_cases c2 : 9 < nth ms i
      · simp [c1, c2, hQ, bad (by simp [mrkF, mrkB]; omega)]
      simp [c1, c2, s3, s4, s6, s1, hwr]
      exact hK (l.size + 1 - (i + 1)) _ _ (by omega) ⟨rfl, i + 1, rfl, by omega, ⟨by simp [s3], by simp [s4], by simp, by simp [s1]⟩, fun k hk => by
        by_cases e : k = i
        · rw [e]; simp [mrkF, mrkB]; omega
        · exact hmk k (by omega)⟩
    · have hmr : rall ms.length (mrkF ms) = true := rall_true fun k hk => hmk k (by omega)
      simp [show ¬ i ≤ l.size by omega, hE, s4, patB, hchr, hmr, hlen, ← hany]
      rw [hlen] at hmr
      exact fun _ => ⟨⟨by omega, by omega⟩, hmr⟩
theorem anyB_trim (l : ByteArray) (hs : l.size ≤ 1048576) (hc : ∀ k, k < l.size → chrF l k = true) : anyB l = !decide (trimV l dotS = ⟨#[]⟩) := by
  have tn := trimV_nil (s := l) (.inl ⟨rfl, rfl, rfl⟩ : setOf dotS 46 46) (by omega)
  unfold anyB
  congr 1
  rw [Bool.eq_iff_iff, decide_eq_true_iff, tn, rall_iff]
  constructor
  · intro h k hk
    have h1 := hc k hk
    have h2 := h k hk
    simp [chrF] at h1
    simp at h2
    rw [h2] at h1
    simp at h1
    unfold inR; omega
  · intro h k hk
    have := h k hk
    unfold inR at this
    simp [lowB]; omega
theorem marks1_iff (m : Int) (h : AH) (R : AV → AH → Prop) : CA 54 [.int .i64 m] h R ↔ R (.bool (!mrkB m)) h := by
  refine ca_pure (af := ac54) rfl ?_
  simp [ac54, mrkB]
  by_cases c1 : m < 0
  · simp [c1, show ¬ 0 ≤ m by omega]
  · simp [c1, show 0 ≤ m by omega]
    by_cases c2 : 9 < m
    · simp [c2]
    · simp [c2, show m ≤ 9 by omega]
theorem containsMarks_iff (ms : List Int) (hm : ms.length ≤ 1048576) (h : AH) (R : AV → AH → Prop) : CA 53 [.fs none (ms.map (encI .i64)), .fn 54 []] h R ↔ R (.bool (!rall ms.length (mrkF ms))) h := by
  have idx : ∀ (h : AH) R, CA 69 [.fs none (ms.map (encI .i64)), .fn 54 []] h R ↔ R (.int .i64 (if rall ms.length (mrkF ms) then -1 else ((List.range ms.length).find? fun i => !mrkF ms i).getD 0)) h := by
    intro h R
    refine ca_pure (af := ac69) rfl ?_
    simp [ac69, (encI_ok .i64).toEncOk.len]
    refine awp_loop2 caM (fun n st h' => h' = h ∧ ∃ i : Nat, n = ms.length - i ∧ i ≤ ms.length ∧ (st 0 = .fs none (ms.map (encI .i64)) ∧ st 1 = .fn 54 [] ∧ st 7 = .int .i64 ms.length ∧ st 8 = .int .i64 i) ∧ ∀ k, k < i → mrkF ms k = true) ?_ (n := ms.length) ⟨rfl, 0, by simp, by simp, by simp, fun k hk => absurd hk (by omega)⟩
    rintro n st h' ⟨rfl, i, rfl, hi, ⟨s0, s1, s7, s8⟩, hl⟩ K hK hE hQ
    simp [s0, s1, s7, s8]
    by_cases hlt : i < ms.length
    · have a1 := (encI_ok .i64).toEncOk.iaddr (by omega) none ms .i64 (i : Int) h' (by omega) (by omega)
      simp only [Int.toNat_natCast] at a1
      have hwr : IntKind.wrap .i64 ((i : Int) + 1) = (i : Int) + 1 := wrap_i64 (by omega) (by omega)
      simp [hlt, s0, s1, s7, s8, a1, marks1_iff]
      cases hb : mrkF ms i with
      | true =>
        have hb' : mrkB (nth ms i) = true := hb
        simp [hb', s0, s1, s7, s8, hwr]
        exact hK (ms.length - (i + 1)) _ _ (by omega) ⟨rfl, i + 1, rfl, by omega, ⟨by simp [s0], by simp [s1], by simp [s7], by simp⟩, fun k hk => by
          by_cases e : k = i
          · rw [e]; exact hb
          · exact hl k (by omega)⟩
      | false =>
        have hb' : mrkB (nth ms i) = false := hb
        have hf : ((List.range ms.length).find? fun i => !mrkF ms i) = some i := by
          rw [List.find?_range_eq_some]
          exact ⟨by simp [hb], by simpa using hlt, fun k hk => by simp [hl k hk]⟩
        simp [hb', hQ, rall_false hlt hb, hf]
    · obtain rfl : i = ms.length := by omega
      simp [hE, rall_true hl]
  refine ca_pure (af := ac53) rfl ?_
  simp [ac53, idx]
  cases rall ms.length (mrkF ms) <;> simp
end Go.Proofs.YtimpbgncgdaofaaDoor
