/- Contracts: patterns. -/
import Derived.Test.YteeaefjlpkijkaaDoorEq
import Derived.Test.YteeaefjlpkijkaaDoorBmHd
import Derived.Test.YteeaefjlpkijkaaDoorQ1
namespace Go.Proofs.YteeaefjlpkijkaaDoor
open Go Go.Bm Go.Proofs
set_option linter.all false

def rall (n : Nat) (f : Nat → Bool) : Bool := (List.range n).all f
theorem rall_iff {n : Nat} {f : Nat → Bool} : rall n f = true ↔ ∀ k, k < n → f k = true := by simp [rall]
theorem rall_true {n : Nat} {f : Nat → Bool} (h : ∀ k, k < n → f k = true) : rall n f = true := rall_iff.2 h
theorem rall_false {n k : Nat} {f : Nat → Bool} (hk : k < n) (h : f k = false) : rall n f = false := by
  cases e : rall n f with
  | false => rfl
  | true => rw [rall_iff.1 e k hk] at h; cases h
theorem str_ix (s : ByteArray) (i : Nat) (k : IntKind) (h : AH) (hi : i < s.size) : indexA (.str s) (.int k (i : Int)) h = some (.int .u8 ((byt s i).toNat : Int), h) := by
  simp only [indexA]
  rw [if_pos ⟨by omega, by omega⟩]
  rfl
/-! ### letters and words -/
def lowB (b : UInt8) : Bool := decide (97 ≤ b.toNat) && decide (b.toNat ≤ 122)
theorem l7Low_iff (b : UInt8) (h : AH) (R : AV → AH → Prop) : CA 39 [.int .u8 (b.toNat : Int)] h R ↔ R (.bool (lowB b)) h := by
  refine ca_pure (af := ac39) rfl ?_
  simp [ac39, lowB]
  by_cases h1 : 97 ≤ b.toNat
  · simp [h1, show (97 : Int) ≤ b.toNat by omega]
    by_cases h2 : b.toNat ≤ 122
    · simp [h2, show (b.toNat : Int) ≤ 122 by omega]
    · simp [h2, show ¬ (b.toNat : Int) ≤ 122 by omega]
  · simp [h1, show ¬ (97 : Int) ≤ b.toNat by omega]
/-! ### patterns -/
def chrF (l : ByteArray) (i : Nat) : Bool := lowB (byt l i) || (decide ((byt l i).toNat = 46) && (decide (i = 0) || decide (i + 1 = l.size)))
def mrkB (m : Int) : Bool := decide (0 ≤ m) && decide (m ≤ 9)
def mrkF (ms : List Int) (i : Nat) : Bool := mrkB (nth ms i)
/-- Some letter is no dot. -/
def anyB (l : ByteArray) : Bool := !rall l.size fun i => !lowB (byt l i)
def patB (p : Pattern) : Bool := decide (1 ≤ p.letters.size) && decide (p.letters.size ≤ 20) && decide (p.marks.length = p.letters.size + 1) && rall p.letters.size (chrF p.letters) && rall p.marks.length (mrkF p.marks) && anyB p.letters

theorem patB_no1 {p : Pattern} (h : ¬ (1 ≤ p.letters.size ∧ p.letters.size ≤ 20 ∧ p.marks.length = p.letters.size + 1)) : patB p = false := by
  unfold patB
  by_cases h1 : 1 ≤ p.letters.size
  · by_cases h2 : p.letters.size ≤ 20
    · by_cases h3 : p.marks.length = p.letters.size + 1
      · exact absurd ⟨h1, h2, h3⟩ h
      · simp [h3]
    · simp [h2]
  · simp [h1]
theorem l7PatternOk_iff (l : ByteArray) (ms : List Int) (hs : l.size ≤ 1048576) (hm : ms.length ≤ 1048576) (h : AH) (R : AV → AH → Prop) : CA 31 [.agg [.str l, .fs none (ms.map (encI .i64))]] h R ↔ R (.bool (patB ⟨l, ms⟩)) h := by
  refine ca_pure (af := ac31) rfl ?_
  by_cases b1 : (l.size : Int) < 1
  · simp [ac31, b1, patB_no1 (p := ⟨l, ms⟩) (by simp; omega)]
  by_cases b2 : (20 : Int) < l.size
  · simp [ac31, b1, b2, patB_no1 (p := ⟨l, ms⟩) (by simp; omega)]
  have hw0 : IntKind.wrap .i64 ((l.size : Int) + 1) = (l.size : Int) + 1 := wrap_i64 (by omega) (by omega)
  by_cases b3 : (ms.length : Int) = (l.size : Int) + 1
  case neg => simp [ac31, b1, b2, b3, hw0, (encI_ok .i64).toEncOk.len, patB_no1 (p := ⟨l, ms⟩) (by simp; omega)]
  simp [ac31, b1, b2, b3, hw0, (encI_ok .i64).toEncOk.len]
  refine awp_loop2 caM (fun n st h' => h' = h ∧ ∃ i c : Nat, n = l.size - i ∧ i ≤ l.size ∧ c ≤ i ∧ (st 3 = .int .i64 l.size ∧ st 4 = .int .i64 c ∧ st 5 = .int .i64 i ∧ st 100001 = .agg [.str l, .fs none (ms.map (encI .i64))]) ∧ (∀ k, k < i → chrF l k = true) ∧ (c = 0 ↔ ∀ k, k < i → lowB (byt l k) = false)) ?_ (n := l.size) ⟨rfl, 0, 0, by simp, by simp, by simp, by simp, fun k hk => absurd hk (by omega), by simp⟩
  rintro n st h' ⟨rfl, i, c, rfl, hi, hc, ⟨s3, s4, s5, s1⟩, hl, hcl⟩ K hK hE hQ
  simp [s3, s4, s5]
  by_cases hlt : i < l.size
  · have ij := str_ix l i .i64 h' hlt
    have hwr : IntKind.wrap .i64 ((i : Int) + 1) = (i : Int) + 1 := wrap_i64 (by omega) (by omega)
    have hwc : IntKind.wrap .i64 ((c : Int) + 1) = (c : Int) + 1 := wrap_i64 (by omega) (by omega)
    have hwn : IntKind.wrap .i64 ((l.size : Int) - 1) = (l.size : Int) - 1 := wrap_i64 (by omega) (by omega)
    simp [hlt, s3, s4, s5, s1, ij, l7Low_iff]
    have bad : chrF l i = false → patB ⟨l, ms⟩ = false := fun hb => by simp [patB, rall_false hlt hb]
    cases hb : lowB (byt l i) with
    | true =>
      simp [s3, s4, s5, s1, hwc, hwr]
      exact hK (l.size - (i + 1)) _ _ (by omega) ⟨rfl, i + 1, c + 1, rfl, by omega, by omega, ⟨by simp [s3], by simp, by simp, by simp [s1]⟩, fun k hk => by
        by_cases e : k = i
        · rw [e]; simp [chrF, hb]
        · exact hl k (by omega), ⟨fun e => absurd e (by omega), fun hall => by have := hall i (by omega); rw [hb] at this; cases this⟩⟩
    | false =>
      simp [s3, s4, s5, s1, ij]
      have next : chrF l i = true → (∀ k, k < i + 1 → chrF l k = true) ∧ (c = 0 ↔ ∀ k, k < i + 1 → lowB (byt l k) = false) := fun hg => ⟨fun k hk => by
        by_cases e : k = i
        · rw [e]; exact hg
        · exact hl k (by omega), hcl.trans ⟨fun hall k hk => by
          by_cases e : k = i
          · rw [e]; exact hb
          · exact hall k (by omega), fun hall k hk => hall k (by omega)⟩⟩
      by_cases c1 : ((byt l i).toNat : Int) = 46
      · have c1' : (byt l i).toNat = 46 := by omega
        simp [c1, s3, s4, s5, s1, ij, hwn]
        by_cases c2 : 0 < i
        · simp [c1, c2, s3, s4, s5, s1, hwn]
          by_cases c3 : (i : Int) < (l.size : Int) - 1
          · simp [c1, c2, c3, hQ, bad (by simp [chrF, hb, c1']; omega)]
          · simp [c1, c2, c3, s3, s4, s5, s1, hwr]
            have hg := next (by simp [chrF, hb, c1']; omega)
            exact hK (l.size - (i + 1)) _ _ (by omega) ⟨rfl, i + 1, c, rfl, by omega, by omega, ⟨by simp [s3], by simp [s4], by simp, by simp [s1]⟩, hg.1, hg.2⟩
        · simp [c1, c2, s3, s4, s5, s1, hwr]
          have hg := next (by simp [chrF, hb, c1']; omega)
          exact hK (l.size - (i + 1)) _ _ (by omega) ⟨rfl, i + 1, c, rfl, by omega, by omega, ⟨by simp [s3], by simp [s4], by simp, by simp [s1]⟩, hg.1, hg.2⟩
      · simp [c1, hQ, bad (by simp [chrF, hb]; intro x; omega)]
  · obtain rfl : i = l.size := by omega
    have hchr := rall_true hl
    have hlen : ms.length = l.size + 1 := by omega
    have hany : decide (0 < (c : Int)) = anyB l := by
      unfold anyB
      rw [Bool.eq_iff_iff, decide_eq_true_iff, Bool.not_eq_true', Bool.eq_false_iff, Ne, rall_iff]
      constructor
      · intro h0 hall
        have := hcl.2 (fun k hk => by simpa using hall k hk)
        omega
      · intro hn
        by_cases h0 : c = 0
        · exact absurd (fun k hk => by simpa using (hcl.1 h0) k hk) hn
        · omega
    simp [hE]
    clear hK hE hQ K
    refine awp_loop2 caM (fun n st2 h2 => h2 = h' ∧ ∃ i : Nat, n = l.size + 1 - i ∧ i ≤ l.size + 1 ∧ (st2 3 = .int .i64 l.size ∧ st2 4 = .int .i64 c ∧ st2 6 = .int .i64 i ∧ st2 100001 = .agg [.str l, .fs none (ms.map (encI .i64))]) ∧ ∀ k, k < i → mrkF ms k = true) ?_ (n := l.size + 1) ⟨rfl, 0, by simp, by simp, by simp [s3, s4, s1], fun k hk => absurd hk (by omega)⟩
    clear s3 s4 s5 s1
    rintro n st h' ⟨rfl, i, rfl, hi, ⟨s3, s4, s6, s1⟩, hmk⟩ K hK hE hQ
    simp [s3, s4, s6]
    by_cases hlt : i < ms.length
    · have a1 := (encI_ok .i64).toEncOk.iaddr (by omega) none ms .i64 (i : Int) h' (by omega) (by omega)
      simp only [Int.toNat_natCast] at a1
      have hwr : IntKind.wrap .i64 ((i : Int) + 1) = (i : Int) + 1 := wrap_i64 (by omega) (by omega)
      have bad : mrkF ms i = false → patB ⟨l, ms⟩ = false := fun hb => by simp [patB, rall_false hlt hb]
      simp [show i ≤ l.size by omega, s3, s4, s6, s1, a1]
      by_cases c1 : nth ms i < 0
      · simp [c1, hQ, bad (by simp [mrkF, mrkB]; omega)]
      simp [c1, s3, s4, s6, s1, a1]
      by_cases c2 : 9 < nth ms i
      · simp [c1, c2, hQ, bad (by simp [mrkF, mrkB]; omega)]
      simp [c1, c2, s3, s4, s6, s1, hwr]
      exact hK (l.size + 1 - (i + 1)) _ _ (by omega) ⟨rfl, i + 1, rfl, by omega, ⟨by simp [s3], by simp [s4], by simp, by simp [s1]⟩, fun k hk => by
        by_cases e : k = i
        · rw [e]; simp [mrkF, mrkB]; omega
        · exact hmk k (by omega)⟩
    · have hmr : rall ms.length (mrkF ms) = true := rall_true fun k hk => hmk k (by omega)
      simp [show ¬ i ≤ l.size by omega, hE, s4, patB, hchr, hmr, hlen, ← hany]
      rw [hlen] at hmr
      exact fun _ => ⟨⟨by omega, by omega⟩, hmr⟩
theorem anyB_trim (l : ByteArray) (hs : l.size ≤ 1048576) (hc : ∀ k, k < l.size → chrF l k = true) : anyB l = !decide (trimV l dotS = ⟨#[]⟩) := by
  have tn := trimV_nil (s := l) (.inl ⟨rfl, rfl, rfl⟩ : setOf dotS 46 46) (by omega)
  unfold anyB
  congr 1
  rw [Bool.eq_iff_iff, decide_eq_true_iff, tn, rall_iff]
  constructor
  · intro h k hk
    have h1 := hc k hk
    have h2 := h k hk
    simp [chrF] at h1
    simp at h2
    rw [h2] at h1
    simp at h1
    unfold inR; omega
  · intro h k hk
    have := h k hk
    unfold inR at this
    simp [lowB]; omega
theorem marks1_iff (m : Int) (h : AH) (R : AV → AH → Prop) : CA 15 [.int .i64 m] h R ↔ R (.bool (!mrkB m)) h := by
  refine ca_pure (af := ac15) rfl ?_
  simp [ac15, mrkB]
  by_cases c1 : m < 0
  · simp [c1, show ¬ 0 ≤ m by omega]
  · simp [c1, show 0 ≤ m by omega]
    by_cases c2 : 9 < m
    · simp [c2]
    · simp [c2, show m ≤ 9 by omega]
theorem containsMarks_iff (ms : List Int) (hm : ms.length ≤ 1048576) (h : AH) (R : AV → AH → Prop) : CA 14 [.fs none (ms.map (encI .i64)), .fn 15 []] h R ↔ R (.bool (!rall ms.length (mrkF ms))) h := by
  have idx : ∀ (h : AH) R, CA 27 [.fs none (ms.map (encI .i64)), .fn 15 []] h R ↔ R (.int .i64 (if rall ms.length (mrkF ms) then -1 else ((List.range ms.length).find? fun i => !mrkF ms i).getD 0)) h := by
    intro h R
    refine ca_pure (af := ac27) rfl ?_
    simp [ac27, (encI_ok .i64).toEncOk.len]
    refine awp_loop2 caM (fun n st h' => h' = h ∧ ∃ i : Nat, n = ms.length - i ∧ i ≤ ms.length ∧ (st 0 = .fs none (ms.map (encI .i64)) ∧ st 1 = .fn 15 [] ∧ st 7 = .int .i64 ms.length ∧ st 8 = .int .i64 i) ∧ ∀ k, k < i → mrkF ms k = true) ?_ (n := ms.length) ⟨rfl, 0, by simp, by simp, by simp, fun k hk => absurd hk (by omega)⟩
    rintro n st h' ⟨rfl, i, rfl, hi, ⟨s0, s1, s7, s8⟩, hl⟩ K hK hE hQ
    simp [s0, s1, s7, s8]
    by_cases hlt : i < ms.length
    · have a1 := (encI_ok .i64).toEncOk.iaddr (by omega) none ms .i64 (i : Int) h' (by omega) (by omega)
      simp only [Int.toNat_natCast] at a1
      have hwr : IntKind.wrap .i64 ((i : Int) + 1) = (i : Int) + 1 := wrap_i64 (by omega) (by omega)
      simp [hlt, s0, s1, s7, s8, a1, marks1_iff]
      cases hb : mrkF ms i with
      | true =>
        have hb' : mrkB (nth ms i) = true := hb
        simp [hb', s0, s1, s7, s8, hwr]
        exact hK (ms.length - (i + 1)) _ _ (by omega) ⟨rfl, i + 1, rfl, by omega, ⟨by simp [s0], by simp [s1], by simp [s7], by simp⟩, fun k hk => by
          by_cases e : k = i
          · rw [e]; exact hb
          · exact hl k (by omega)⟩
      | false =>
        have hb' : mrkB (nth ms i) = false := hb
        have hf : ((List.range ms.length).find? fun i => !mrkF ms i) = some i := by
          rw [List.find?_range_eq_some]
          exact ⟨by simp [hb], by simpa using hlt, fun k hk => by simp [hl k hk]⟩
        simp [hb', hQ, rall_false hlt hb, hf]
    · obtain rfl : i = ms.length := by omega
      simp [hE, rall_true hl]
  refine ca_pure (af := ac14) rfl ?_
  simp [ac14, idx]
  cases rall ms.length (mrkF ms) <;> simp

theorem trim_no (l : ByteArray) (hs : l.size ≤ 1048576) (h : trimV l dotS = ⟨#[]⟩) : anyB l = false := by
  have tn := (trimV_nil (s := l) (.inl ⟨rfl, rfl, rfl⟩ : setOf dotS 46 46) (by omega)).1 h
  unfold anyB
  rw [rall_true fun k hk => by
    have := tn k hk
    unfold inR at this
    simp [lowB]; omega]
  rfl
theorem PatternOk_iff (l : ByteArray) (ms : List Int) (hs : l.size ≤ 1048576) (hm : ms.length ≤ 1048576) (h : AH) (R : AV → AH → Prop) : CA 8 [.agg [.str l, .fs none (ms.map (encI .i64))]] h R ↔ R (.bool (patB ⟨l, ms⟩)) h := by
  refine ca_pure (af := ac8) rfl ?_
  have hset : setOf dotS 46 46 := .inl ⟨rfl, rfl, rfl⟩
  have tr : ∀ (h : AH) R, CA 13 [.str l, .str dotS] h R ↔ R (.str (trimV l dotS)) h := fun h R => trim_iff (f := 13) rfl hset (by omega) h R
  simp only [dotS] at tr
  have at_ := anyB_trim l hs
  have tno := trim_no l hs
  simp only [dotS] at at_ tno
  by_cases b1 : (l.size : Int) < 1
  · simp [ac8, b1, patB_no1 (p := ⟨l, ms⟩) (by simp; omega)]
  by_cases b2 : (20 : Int) < l.size
  · simp [ac8, b1, b2, patB_no1 (p := ⟨l, ms⟩) (by simp; omega)]
  have hw0 : IntKind.wrap .i64 ((l.size : Int) + 1) = (l.size : Int) + 1 := wrap_i64 (by omega) (by omega)
  by_cases b3 : (ms.length : Int) = (l.size : Int) + 1
  case neg => simp [ac8, b1, b2, b3, hw0, (encI_ok .i64).toEncOk.len, patB_no1 (p := ⟨l, ms⟩) (by simp; omega)]
  have hlen : ms.length = l.size + 1 := by omega
  simp [ac8, b1, b2, b3, hw0, (encI_ok .i64).toEncOk.len, tr]
  by_cases b4 : trimV l ⟨#[46]⟩ = ⟨#[]⟩
  · simp [b4, patB, tno b4]
  simp [b4]
  refine awp_loop2 caM (fun n st h' => h' = h ∧ ∃ i : Nat, n = l.size - i ∧ i ≤ l.size ∧ (st 3 = .int .i64 l.size ∧ st 29 = .int .i64 l.size ∧ st 30 = .int .i64 i ∧ st 100001 = .agg [.str l, .fs none (ms.map (encI .i64))]) ∧ ∀ k, k < i → chrF l k = true) ?_ (n := l.size) ⟨rfl, 0, by simp, by simp, by simp, fun k hk => absurd hk (by omega)⟩
  rintro n st h' ⟨rfl, i, rfl, hi, ⟨s3, s29, s30, s1⟩, hl⟩ K hK hE hQ
  simp [s29, s30]
  by_cases hlt : i < l.size
  · have ij := str_ix l i .i64 h' hlt
    have hwr : IntKind.wrap .i64 ((i : Int) + 1) = (i : Int) + 1 := wrap_i64 (by omega) (by omega)
    have hwn : IntKind.wrap .i64 ((l.size : Int) - 1) = (l.size : Int) - 1 := wrap_i64 (by omega) (by omega)
    have bad : chrF l i = false → patB ⟨l, ms⟩ = false := fun hb => by simp [patB, rall_false hlt hb]
    have go : chrF l i = true → ∀ st2 : S, st2 3 = .int .i64 l.size → st2 29 = .int .i64 l.size → st2 30 = .int .i64 ((i : Int) + 1) → st2 100001 = .agg [.str l, .fs none (ms.map (encI .i64))] → K .normal st2 h' := fun hg st2 t3 t29 t30 t1 =>
      hK (l.size - (i + 1)) _ _ (by omega) ⟨rfl, i + 1, rfl, by omega, ⟨t3, t29, by simpa using t30, t1⟩, fun k hk => by
        by_cases e : k = i
        · rw [e]; exact hg
        · exact hl k (by omega)⟩
    simp [hlt, s3, s29, s30, s1, ij]
    by_cases c1 : (97 : Int) ≤ (byt l i).toNat
    · by_cases c2 : ((byt l i).toNat : Int) ≤ 122
      · simp [c1, c2, s3, s29, s30, s1, hwr]
        exact go (by simp [chrF, lowB]; omega) _ (by simp [s3]) (by simp [s29]) (by simp) (by simp [s1])
      · have e46 : ¬ ((byt l i).toNat : Int) = 46 := by omega
        simp [c1, c2, e46, hQ, bad (by simp [chrF, lowB]; omega)]
    · by_cases e46 : ((byt l i).toNat : Int) = 46
      · simp [c1, e46, s3, s29, s30, s1]
        have e46' : (byt l i).toNat = 46 := by omega
        by_cases c3 : i = 0
        · subst c3
          have hw1 : IntKind.wrap .i64 1 = 1 := wrap_i64 (by omega) (by omega)
          simp [c1, e46, s3, s29, s30, s1, hw1]
          exact go (by simp [chrF, lowB]; omega) _ (by simp [s3]) (by simp [s29]) (by simp) (by simp [s1])
        · simp [c1, e46, c3, s3, s29, s30, s1, hwn]
          by_cases c4 : (i : Int) = (l.size : Int) - 1
          · have c4' : ((i : Int) = (l.size : Int) - 1) = True := eq_true c4
            simp [c1, e46, c3, c4', s3, s29, s30, s1, hwr]
            exact go (by simp [chrF, lowB]; omega) _ (by simp [s3]) (by simp [s29]) (by simp) (by simp [s1])
          · simp [c1, e46, c3, c4, hQ, bad (by simp [chrF, lowB]; omega)]
      · simp [c1, e46, hQ, bad (by simp [chrF, lowB]; omega)]
  · obtain rfl : i = l.size := by omega
    have hchr := rall_true hl
    have ha := at_ hl
    simp [hE, s1, containsMarks_iff ms hm, patB, hchr, ha, b4, hlen]
    exact fun _ => ⟨by omega, by omega⟩
end Go.Proofs.YteeaefjlpkijkaaDoor
