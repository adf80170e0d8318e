/- Contracts: words, patterns, exceptions, books, of the program and of the reference. -/
import Derived.Test.YtimpbgncgdaofaaDoorMk
import Derived.Test.YtimpbgncgdaofaaDoorBmHd
namespace Go.Proofs.YtimpbgncgdaofaaDoor
open Go Go.Bm Go.Proofs
set_option linter.all false

def rall (n : Nat) (f : Nat → Bool) : Bool := (List.range n).all f
theorem rall_iff {n : Nat} {f : Nat → Bool} : rall n f = true ↔ ∀ k, k < n → f k = true := by simp [rall]
theorem rall_true {n : Nat} {f : Nat → Bool} (h : ∀ k, k < n → f k = true) : rall n f = true := rall_iff.2 h
theorem rall_false {n k : Nat} {f : Nat → Bool} (hk : k < n) (h : f k = false) : rall n f = false := by
  cases e : rall n f with
  | false => rfl
  | true => rw [rall_iff.1 e k hk] at h; cases h
theorem str_ix (s : ByteArray) (i : Nat) (k : IntKind) (h : AH) (hi : i < s.size) : indexA (.str s) (.int k (i : Int)) h = some (.int .u8 ((byt s i).toNat : Int), h) := by
  simp only [indexA]
  rw [if_pos ⟨by omega, by omega⟩]
  rfl
/-! ### letters and words -/
def lowB (b : UInt8) : Bool := decide (97 ≤ b.toNat) && decide (b.toNat ≤ 122)
theorem l7Low_iff (b : UInt8) (h : AH) (R : AV → AH → Prop) : CA 48 [.int .u8 (b.toNat : Int)] h R ↔ R (.bool (lowB b)) h := by
  refine ca_pure (af := ac48) rfl ?_
  simp [ac48, lowB]
  by_cases h1 : 97 ≤ b.toNat
  · simp [h1, show (97 : Int) ≤ b.toNat by omega]
    by_cases h2 : b.toNat ≤ 122
    · simp [h2, show (b.toNat : Int) ≤ 122 by omega]
    · simp [h2, show ¬ (b.toNat : Int) ≤ 122 by omega]
  · simp [h1, show ¬ (97 : Int) ≤ b.toNat by omega]
def wordB (s : ByteArray) : Bool := decide (1 ≤ s.size) && decide (s.size ≤ 60) && rall s.size fun i => lowB (byt s i)
theorem l7Word_iff (s : ByteArray) (hs : s.size ≤ 1048576) (h : AH) (R : AV → AH → Prop) : CA 34 [.str s] h R ↔ R (.bool (wordB s)) h := by
  refine ca_pure (af := ac34) rfl ?_
  simp [ac34]
  refine awp_loop2 caM (fun n st h' => h' = h ∧ ∃ i : Nat, n = s.size - i ∧ i ≤ s.size ∧ (st 0 = .str s ∧ st 3 = .int .i64 i) ∧ ∀ k, k < i → lowB (byt s k) = true) ?_ (n := s.size) ⟨rfl, 0, by simp, by simp, by simp, fun k hk => absurd hk (by omega)⟩
  rintro n st h' ⟨rfl, i, rfl, hi, ⟨s0, s3⟩, hl⟩ K hK hE hQ
  simp [s0, s3]
  by_cases hlt : i < s.size
  · have ij := str_ix s i .i64 h' hlt
    have hw : IntKind.wrap .i64 ((i : Int) + 1) = (i : Int) + 1 := wrap_i64 (by omega) (by omega)
    simp [hlt, s0, s3, ij, l7Low_iff]
    cases hb : lowB (byt s i) with
    | true =>
      simp [hw, s3]
      exact hK (s.size - (i + 1)) _ _ (by omega) ⟨rfl, i + 1, rfl, by omega, ⟨by simp [s0], by simp⟩, fun k hk => by
        by_cases e : k = i
        · rw [e]; exact hb
        · exact hl k (by omega)⟩
    | false =>
      have : rall s.size (fun i => lowB (byt s i)) = false := rall_false hlt hb
      simp [hQ, wordB, this]
  · obtain rfl : i = s.size := by omega
    have : rall s.size (fun i => lowB (byt s i)) = true := rall_true hl
    simp [hE, wordB, this, s0]
    by_cases h1 : 1 ≤ s.size
    · simp [h1, show (1 : Int) ≤ s.size by omega, s0]
      by_cases h2 : s.size ≤ 60
      · simp [h2, show (s.size : Int) ≤ 60 by omega, wordB, h1, this]
      · simp [h2, show ¬ (s.size : Int) ≤ 60 by omega, wordB]
    · simp [h1, show ¬ (1 : Int) ≤ s.size by omega, wordB]
theorem lowB_iff (b : UInt8) : inR 97 122 b ↔ lowB b = true := by simp [inR, lowB]
theorem lowerWord_iff (s : ByteArray) (hs : s.size ≤ 1048576) (h : AH) (R : AV → AH → Prop) : CA 38 [.str s] h R ↔ R (.bool (wordB s)) h := by
  refine ca_pure (af := ac38) rfl ?_
  have hset : setOf azS 97 122 := .inr ⟨rfl, rfl, rfl⟩
  have tr : ∀ (h : AH) R, CA 52 [.str s, .str azS] h R ↔ R (.str (trimV s azS)) h := fun h R => trim_iff (f := 52) rfl hset (by omega) h R
  simp only [azS] at tr
  simp [ac38]
  by_cases h1 : 1 ≤ s.size
  · simp [h1, show (1 : Int) ≤ s.size by omega]
    by_cases h2 : s.size ≤ 60
    · simp [h2, show (s.size : Int) ≤ 60 by omega, tr, wordB, h1]
      have tn := trimV_nil (s := s) hset (by omega)
      simp only [lowB_iff] at tn
      have e : decide (trimV s azS = ⟨#[]⟩) = rall s.size fun i => lowB (byt s i) := by
        rw [Bool.eq_iff_iff, decide_eq_true_iff, tn, rall_iff]
      simp only [azS] at e
      exact e
    · simp [h2, show ¬ (s.size : Int) ≤ 60 by omega, wordB]
  · simp [h1, show ¬ (1 : Int) ≤ s.size by omega, wordB]
/-! ### exceptions -/
def excF (w : ByteArray) (ps : List Int) (i : Nat) : Bool := decide (1 ≤ nth ps i) && decide (nth ps i < w.size) && (decide (i = 0) || decide (nth ps (i - 1) < nth ps i))
def excB (x : Exception) : Bool := wordB x.word && rall x.places.length (excF x.word x.places)
theorem l7ExceptionOk_iff (w : ByteArray) (ps : List Int) (hs : w.size ≤ 1048576) (hp : ps.length ≤ 1048576) (h : AH) (R : AV → AH → Prop) : CA 25 [.agg [.str w, .fs none (ps.map (encI .i64))]] h R ↔ R (.bool (excB ⟨w, ps⟩)) h := by
  refine ca_pure (af := ac25) rfl ?_
  simp [ac25, l7Word_iff w hs, excB]
  cases hw : wordB w with
  | false => simp
  | true =>
    simp
    refine awp_loop2 caM (fun n st h' => h' = h ∧ ∃ i : Nat, n = ps.length - i ∧ i ≤ ps.length ∧ (st 3 = .int .i64 i ∧ st 100001 = .agg [.str w, .fs none (ps.map (encI .i64))]) ∧ ∀ k, k < i → excF w ps k = true) ?_ (n := ps.length) ⟨rfl, 0, by simp, by simp, by simp, fun k hk => absurd hk (by omega)⟩
    rintro n st h' ⟨rfl, i, rfl, hi, ⟨s3, s1⟩, hl⟩ K hK hE hQ
    simp [s3, s1, (encI_ok .i64).toEncOk.len]
    by_cases hlt : i < ps.length
    · have a1 := (encI_ok .i64).toEncOk.iaddr (by omega) none ps .i64 (i : Int) h' (by omega) (by omega)
      simp only [Int.toNat_natCast] at a1
      have hwr : IntKind.wrap .i64 ((i : Int) + 1) = (i : Int) + 1 := wrap_i64 (by omega) (by omega)
      have bad : excF w ps i = false → rall ps.length (excF w ps) = false := fun hb => rall_false hlt hb
      have next : excF w ps i = true → ∀ k, k < i + 1 → excF w ps k = true := fun hg k hk => by
        by_cases e : k = i
        · rw [e]; exact hg
        · exact hl k (by omega)
      simp [hlt, s3, s1, a1]
      by_cases c1 : nth ps i < 1
      · simp [c1, hQ, hw, bad (by simp [excF]; intros; omega)]
      simp [c1, s3, s1, a1]
      by_cases c2 : (w.size : Int) ≤ nth ps i
      · simp [c2, hQ, hw, bad (by simp [excF]; intros; omega)]
      simp [c2, s3, s1, a1]
      by_cases c3 : 0 < i
      · have hwm : IntKind.wrap .i64 ((i : Int) - 1) = ((i - 1 : Nat) : Int) := by rw [wrap_i64 (by omega) (by omega)]; omega
        have a2 := (encI_ok .i64).toEncOk.iaddr (by omega) none ps .i64 ((i - 1 : Nat) : Int) h' (by omega) (by omega)
        simp only [Int.toNat_natCast] at a2
        simp [c1, c2, c3, s3, s1, a1, hwm, a2]
        by_cases c4 : nth ps i ≤ nth ps (i - 1)
        · simp [c1, c2, c3, c4, hQ, hw, bad (by simp [excF]; intros; omega)]
        · simp [c1, c2, c3, c4, s3, s1, hwr]
          exact hK (ps.length - (i + 1)) _ _ (by omega) ⟨rfl, i + 1, rfl, by omega, ⟨by simp, by simp [s1]⟩, next (by simp [excF]; omega)⟩
      · simp [c1, c2, c3, s3, s1, hwr]
        exact hK (ps.length - (i + 1)) _ _ (by omega) ⟨rfl, i + 1, rfl, by omega, ⟨by simp, by simp [s1]⟩, next (by simp [excF]; omega)⟩
    · obtain rfl : i = ps.length := by omega
      simp [hE, rall_true hl]
theorem exceptionOk_iff (w : ByteArray) (ps : List Int) (hs : w.size ≤ 1048576) (hp : ps.length ≤ 1048576) (h : AH) (R : AV → AH → Prop) : CA 31 [.agg [.str w, .fs none (ps.map (encI .i64))]] h R ↔ R (.bool (excB ⟨w, ps⟩)) h := by
  refine ca_pure (af := ac31) rfl ?_
  simp [ac31, lowerWord_iff w hs, excB]
  cases hw : wordB w with
  | false => simp
  | true =>
    have hw1 : IntKind.wrap .i64 ((w.size : Int) - 1) = (w.size : Int) - 1 := wrap_i64 (by omega) (by omega)
    simp [(encI_ok .i64).toEncOk.len]
    refine awp_loop2 caM (fun n st h' => h' = h ∧ ∃ i : Nat, n = ps.length - i ∧ i ≤ ps.length ∧ (st 10 = .fs none (ps.map (encI .i64)) ∧ st 11 = .int .i64 ps.length ∧ st 12 = .int .i64 i ∧ st 100001 = .agg [.str w, .fs none (ps.map (encI .i64))]) ∧ ∀ k, k < i → excF w ps k = true) ?_ (n := ps.length) ⟨rfl, 0, by simp, by simp, by simp, fun k hk => absurd hk (by omega)⟩
    rintro n st h' ⟨rfl, i, rfl, hi, ⟨s10, s11, s12, s1⟩, hl⟩ K hK hE hQ
    simp [s10, s11, s12]
    by_cases hlt : i < ps.length
    · have a1 := (encI_ok .i64).toEncOk.iaddr (by omega) none ps .i64 (i : Int) h' (by omega) (by omega)
      simp only [Int.toNat_natCast] at a1
      have hwr : IntKind.wrap .i64 ((i : Int) + 1) = (i : Int) + 1 := wrap_i64 (by omega) (by omega)
      have bad : excF w ps i = false → rall ps.length (excF w ps) = false := fun hb => rall_false hlt hb
      have next : excF w ps i = true → ∀ k, k < i + 1 → excF w ps k = true := fun hg k hk => by
        by_cases e : k = i
        · rw [e]; exact hg
        · exact hl k (by omega)
      simp [hlt, s10, s11, s12, s1, a1]
      by_cases c1 : nth ps i < 1
      · simp [c1, hQ, hw, bad (by simp [excF]; intros; omega)]
      simp [c1, s10, s11, s12, s1, a1, hw1]
      by_cases c2 : (w.size : Int) - 1 < nth ps i
      · simp [c1, c2, hQ, hw, bad (by simp [excF]; intros; omega)]
      simp [c1, c2, s10, s11, s12, s1, a1]
      by_cases c3 : 0 < i
      · have hwm : IntKind.wrap .i64 ((i : Int) - 1) = ((i - 1 : Nat) : Int) := by rw [wrap_i64 (by omega) (by omega)]; omega
        have a2 := (encI_ok .i64).toEncOk.iaddr (by omega) none ps .i64 ((i - 1 : Nat) : Int) h' (by omega) (by omega)
        simp only [Int.toNat_natCast] at a2
        simp [c1, c2, c3, s10, s11, s12, s1, a1, hwm, a2]
        by_cases c4 : nth ps i ≤ nth ps (i - 1)
        · simp [c1, c2, c3, c4, hQ, hw, bad (by simp [excF]; intros; omega)]
        · simp [c1, c2, c3, c4, s10, s11, s12, s1, hwr]
          exact hK (ps.length - (i + 1)) _ _ (by omega) ⟨rfl, i + 1, rfl, by omega, ⟨by simp [s10], by simp [s11], by simp, by simp [s1]⟩, next (by simp [excF]; omega)⟩
      · simp [c1, c2, c3, s10, s11, s12, s1, hwr]
        exact hK (ps.length - (i + 1)) _ _ (by omega) ⟨rfl, i + 1, rfl, by omega, ⟨by simp [s10], by simp [s11], by simp, by simp [s1]⟩, next (by simp [excF]; omega)⟩
    · obtain rfl : i = ps.length := by omega
      simp [hE, rall_true hl]
/-! ### patterns -/
def chrF (l : ByteArray) (i : Nat) : Bool := lowB (byt l i) || (decide ((byt l i).toNat = 46) && (decide (i = 0) || decide (i + 1 = l.size)))
def mrkB (m : Int) : Bool := decide (0 ≤ m) && decide (m ≤ 9)
def mrkF (ms : List Int) (i : Nat) : Bool := mrkB (nth ms i)
/-- Some letter is no dot. -/
def anyB (l : ByteArray) : Bool := !rall l.size fun i => !lowB (byt l i)
def patB (p : Pattern) : Bool := decide (1 ≤ p.letters.size) && decide (p.letters.size ≤ 20) && decide (p.marks.length = p.letters.size + 1) && rall p.letters.size (chrF p.letters) && rall p.marks.length (mrkF p.marks) && anyB p.letters
end Go.Proofs.YtimpbgncgdaofaaDoor
