/- Contracts: meanings compared, and what tokens mean. -/
import Derived.Test.YtojmemlbajnhhaaA16
namespace Go.Proofs.Ytojmemlbajnhhaa
open Go Go.Bm Go.Proofs
set_option linter.all false

theorem tok_ne {a b : Token} (h : a ≠ b) : (!decide (a.cat = b.cat) || (!decide (a.char = b.char) || !decide (a.name = b.name))) = true := by
  obtain ⟨a1, a2, a3⟩ := a
  obtain ⟨b1, b2, b3⟩ := b
  simp at h ⊢
  by_cases h1 : a1 = b1
  · by_cases h2 : a2 = b2
    · right; right; exact h h1 h2
    · right; left; exact h2
  · left; exact h1
theorem tok_ne' {a b : Token} (h : a ≠ b) : ¬ (a.cat = b.cat ∧ a.char = b.char ∧ a.name = b.name) := by
  obtain ⟨a1, a2, a3⟩ := a
  obtain ⟨b1, b2, b3⟩ := b
  simp at h ⊢
  exact h
theorem l4Row_iff (p q : List Token) (hp : p.length ≤ 1048576) (hq : q.length ≤ 1048576) (c d : Option Nat) (h : AH) (R : AV → AH → Prop) : CA 131 [.fs c (p.map Token.enc), .fs d (q.map Token.enc)] h R ↔ R (.bool (decide (p = q))) h := by
  refine ca_pure (af := ac131) rfl ?_
  simp [ac131, Token.ok.toEncOk.len]
  by_cases hl : p.length = q.length
  · simp [hl]
    refine awp_loop2 caM (fun n s h' => h' = h ∧ ∃ i : Nat, n = p.length - i ∧ i ≤ p.length ∧ (s 0 = .fs c (p.map Token.enc) ∧ s 1 = .fs d (q.map Token.enc) ∧ s 5 = .int .i64 i) ∧ p.take i = q.take i) ?_ (n := p.length) ⟨rfl, 0, by simp, by simp, by simp, by simp⟩
    rintro n s h' ⟨rfl, i, rfl, hi, ⟨s0, s1, s5⟩, ht⟩ K hK hE hQ
    simp [s0, s1, s5, Token.ok.toEncOk.len]
    by_cases hlt : i < p.length
    · have a1 := Token.ok.toEncOk.iaddr (by omega) c p .i64 (i : Int) h' (by omega) (by omega)
      have a2 := Token.ok.toEncOk.iaddr (by omega) d q .i64 (i : Int) h' (by omega) (by omega)
      simp only [Int.toNat_natCast] at a1 a2
      have hw : IntKind.wrap .i64 ((i : Int) + 1) = (i : Int) + 1 := wrap_i64 (by omega) (by omega)
      simp [hlt, s0, s1, s5, a1, a2]
      by_cases e : nth p i = nth q i
      · simp [e, hw, s0, s1, s5]
        refine hK (p.length - (i + 1)) _ _ (by omega) ⟨rfl, i + 1, rfl, by omega, ⟨by simp [s0], by simp [s1], by simp⟩, by rw [take_succ hlt, take_succ (by omega), ht, e]⟩
      · have hne : p ≠ q := fun e2 => e (by rw [e2])
        have t1 := tok_ne e
        have t2 := tok_ne' e
        simp [t1, t2, hne, hQ]
    · obtain rfl : i = p.length := by omega
      have e : p = q := by rw [List.take_length] at ht; rw [ht, hl, List.take_length]
      simp [hE, hlt, e]
  · have hne : p ≠ q := fun e => hl (by rw [e])
    have hl' : ¬ (p.length : Int) = q.length := by omega
    simp [hl, hl', hne]
theorem equalToks_iff (p q : List Token) (hp : p.length ≤ 1048576) (hq : q.length ≤ 1048576) (c d : Option Nat) (h : AH) (R : AV → AH → Prop) : CA 135 [.fs c (p.map Token.enc), .fs d (q.map Token.enc)] h R ↔ R (.bool (decide (p = q))) h := by
  refine ca_pure (af := ac135) rfl ?_
  simp [ac135, Token.ok.toEncOk.len]
  by_cases hl : p.length = q.length
  · simp [hl, Token.ok.toEncOk.len]
    refine awp_loop2 caM (fun n s h' => h' = h ∧ ∃ i : Nat, n = p.length - i ∧ i ≤ p.length ∧ (s 0 = .fs c (p.map Token.enc) ∧ s 1 = .fs d (q.map Token.enc) ∧ s 12 = .int .i64 p.length ∧ s 13 = .int .i64 i) ∧ p.take i = q.take i) ?_ (n := p.length) ⟨rfl, 0, by simp, by simp, by simp [hl], by simp⟩
    rintro n s h' ⟨rfl, i, rfl, hi, ⟨s0, s1, s12, s13⟩, ht⟩ K hK hE hQ
    simp [s0, s1, s12, s13]
    by_cases hlt : i < p.length
    · have a1 := Token.ok.toEncOk.iaddr (by omega) c p .i64 (i : Int) h' (by omega) (by omega)
      have a2 := Token.ok.toEncOk.iaddr (by omega) d q .i64 (i : Int) h' (by omega) (by omega)
      simp only [Int.toNat_natCast] at a1 a2
      have hw : IntKind.wrap .i64 ((i : Int) + 1) = (i : Int) + 1 := wrap_i64 (by omega) (by omega)
      simp [hlt, s0, s1, s12, s13, a1, a2]
      by_cases e : nth p i = nth q i
      · simp [e, hw, s0, s1, s12, s13]
        refine hK (p.length - (i + 1)) _ _ (by omega) ⟨rfl, i + 1, rfl, by omega, ⟨by simp [s0], by simp [s1], by simp [s12], by simp⟩, by rw [take_succ hlt, take_succ (by omega), ht, e]⟩
      · have hne : p ≠ q := fun e2 => e (by rw [e2])
        have t1 := tok_ne e
        have t2 := tok_ne' e
        simp [t1, t2, hne, hQ]
    · obtain rfl : i = p.length := by omega
      have e : p = q := by rw [List.take_length] at ht; rw [ht, hl, List.take_length]
      simp [hE, hlt, e]
  · have hne : p ≠ q := fun e => hl (by rw [e])
    have hl' : ¬ (p.length : Int) = q.length := by omega
    simp [hl, hl', hne]
/-- What a token means. -/
def meanT (ls : List Level) (t : Token) : Mean := if t.cat = 0 then lookM (nth ls (ls.length - 1)).binds t.name else ⟨2, 0, t, ⟨[], 0, []⟩⟩
theorem l4Mean_iff (ls : List Level) (h1 : 1 ≤ ls.length) (hW : WS Level.W ls ≤ 1048576) (a b : Int) (c : ByteArray) (h : AH) (R : AV → AH → Prop) : acallM CA .frz 130 [.agg [.fs none (ls.map Level.enc)], .agg [.int .i64 a, .int .i64 b, .str c]] h R ↔ R (.agg (meanT ls ⟨a, b, c⟩).enc) h := by
  refine ca_frz (af := ac130) rfl ?_
  have l1 := WS_len Level.W ls
  have lk := l3Look_iff ls h1 (by omega) c (binds_len hW (show ls.length - 1 < ls.length by omega)).1
  simp only [Mean.enc] at lk
  by_cases e : a = 0
  · subst e
    simp [ac130, lk, meanT]
  · simp [ac130, e, meanT]
theorem meanT_le (ls : List Level) (h1 : 1 ≤ ls.length) (hW : WS Level.W ls ≤ 1048576) (t : Token) : (meanT ls t).macro_.pattern.length ≤ 1048576 ∧ (meanT ls t).macro_.body.length ≤ 1048576 := by
  unfold meanT
  split
  · have := lookM_le _ (binds_len hW (show ls.length - 1 < ls.length by omega)).2 t.name
    exact ⟨this.1, this.2.1⟩
  · simp
theorem sameMean_iff (x y : Mean) (h1 : x.macro_.pattern.length ≤ 1048576) (h2 : x.macro_.body.length ≤ 1048576) (h3 : y.macro_.pattern.length ≤ 1048576) (h4 : y.macro_.body.length ≤ 1048576) (h : AH) (R : AV → AH → Prop) : CA 65 [.agg x.enc, .agg y.enc] h R ↔ R (.bool (decide (x = y))) h := by
  refine ca_pure (af := ac65) rfl ?_
  obtain ⟨xk, xn, ⟨xc, xh, xm⟩, ⟨xp, xs, xb⟩⟩ := x
  obtain ⟨yk, yn, ⟨yc, yh, ym⟩, ⟨yp, ys, yb⟩⟩ := y
  simp at h1 h2 h3 h4
  simp [ac65]
  by_cases e1 : xk = yk
  case neg => simp [e1]
  by_cases e2 : xn = yn
  case neg => simp [e1, e2]
  by_cases e3 : xc = yc
  case neg => simp [e1, e2, e3]
  by_cases e4 : xh = yh
  case neg => simp [e1, e2, e3, e4]
  by_cases e5 : xm = ym
  case neg => simp [e1, e2, e3, e4, e5]
  by_cases e6 : xs = ys
  case neg => simp [e1, e2, e3, e4, e5, e6]
  subst e1 e2 e3 e4 e5 e6
  simp [equalToks_iff xp yp h1 h3]
  by_cases e7 : xp = yp
  case neg => simp [e7]
  subst e7
  simp [equalToks_iff xb yb h2 h4]
theorem l4Same_iff (ls : List Level) (hl : 1 ≤ ls.length) (hW : WS Level.W ls ≤ 1048576) (a b : Token) (h : AH) (R : AV → AH → Prop) : CA 62 [.agg [.fs none (ls.map Level.enc)], .agg a.enc, .agg b.enc] h R ↔ R (.bool (decide (meanT ls a = meanT ls b))) h := by
  refine ca_pure (af := ac62) rfl ?_
  obtain ⟨ac, ah, an⟩ := a
  obtain ⟨bc, bh, bn⟩ := b
  obtain ⟨h1, h2⟩ := meanT_le ls hl hW ⟨ac, ah, an⟩
  obtain ⟨h3, h4⟩ := meanT_le ls hl hW ⟨bc, bh, bn⟩
  have m1 := l4Mean_iff ls hl hW ac ah an
  have m2 := l4Mean_iff ls hl hW bc bh bn
  generalize meanT ls ⟨ac, ah, an⟩ = x at *
  generalize meanT ls ⟨bc, bh, bn⟩ = y at *
  obtain ⟨xk, xn, ⟨xc, xh, xm⟩, ⟨xp, xs, xb⟩⟩ := x
  obtain ⟨yk, yn, ⟨yc, yh, ym⟩, ⟨yp, ys, yb⟩⟩ := y
  simp at h1 h2 h3 h4 m1 m2
  simp [ac62, m1, m2]
  by_cases e1 : xk = yk
  case neg => simp [e1]
  by_cases e2 : xn = yn
  case neg => simp [e1, e2]
  by_cases e3 : xc = yc
  case neg => simp [e1, e2, e3]
  by_cases e4 : xh = yh
  case neg => simp [e1, e2, e3, e4]
  by_cases e5 : xm = ym
  case neg => simp [e1, e2, e3, e4, e5]
  by_cases e6 : xs = ys
  case neg => simp [e1, e2, e3, e4, e5, e6]
  subst e1 e2 e3 e4 e5 e6
  simp [l4Row_iff xp yp h1 h3]
  by_cases e7 : xp = yp
  case neg => simp [e7]
  subst e7
  simp [l4Row_iff xb yb h2 h4]
def sameB (ls : List Level) (a b : Token) : Bool := envB ⟨ls⟩ && (tokB a && !decide (a.cat = 16)) && (tokB b && !decide (b.cat = 16)) && decide (meanT ls a = meanT ls b)
theorem l4Plainly_iff (a b : Int) (c : ByteArray) (h : AH) (R : AV → AH → Prop) : CA 61 [.agg [.int .i64 a, .int .i64 b, .str c]] h R ↔ R (.bool (tokB ⟨a, b, c⟩ && !decide (a = 16))) h := by
  refine ca_pure (af := ac61) rfl ?_
  simp [ac61, l2TokenOk_iff]
  cases tokB ⟨a, b, c⟩ <;> simp
theorem specSame_iff (ls : List Level) (hW : Env.W ⟨ls⟩ ≤ 1048576) (a b : Token) (h : AH) (R : AV → AH → Prop) : CA 28 [.agg [.fs none (ls.map Level.enc)], .agg a.enc, .agg b.enc] h R ↔ R (.bool (sameB ls a b)) h := by
  refine ca_pure (af := ac28) rfl ?_
  have hw : WS Level.W ls ≤ 1048576 := hW
  obtain ⟨ac, ah, an⟩ := a
  obtain ⟨bc, bh, bn⟩ := b
  simp [ac28, l3EnvOk_iff _ hW, sameB]
  cases he : envB ⟨ls⟩ with
  | false => simp
  | true =>
    have hl : 1 ≤ ls.length := by simp [envB] at he; omega
    have sm := l4Same_iff ls hl hw ⟨ac, ah, an⟩ ⟨bc, bh, bn⟩
    simp only [Token.enc] at sm
    simp [l4Plainly_iff]
    cases h1 : (tokB ⟨ac, ah, an⟩ && !decide (ac = 16)) with
    | false => simp
    | true =>
      simp
      cases h2 : (tokB ⟨bc, bh, bn⟩ && !decide (bc = 16)) with
      | false => simp [l4Plainly_iff, h2]
      | true => simp [l4Plainly_iff, h2, sm]
end Go.Proofs.Ytojmemlbajnhhaa
