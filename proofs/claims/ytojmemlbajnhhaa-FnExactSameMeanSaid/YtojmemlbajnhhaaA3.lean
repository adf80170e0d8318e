/- Contracts: macros and means. -/
import Derived.Test.YtojmemlbajnhhaaA2
namespace Go.Proofs.Ytojmemlbajnhhaa
open Go Go.Bm Go.Proofs
set_option linter.all false

def noMacB (m : Macro) : Bool := decide (m.pattern = [] ∧ m.slots = 0 ∧ m.body = [])
theorem noMacro_iff (a : List Token) (b : Int) (c : List Token) (h : AH) (R : AV → AH → Prop) : CA 153 [.agg [.fs none (a.map Token.enc), .int .i64 b, .fs none (c.map Token.enc)]] h R ↔ R (.bool (noMacB ⟨a, b, c⟩)) h := by
  refine ca_pure (af := ac153) rfl ?_
  simp [ac153, noMacB, Token.ok.toEncOk.len]
  by_cases h0 : a = [] <;> by_cases h1 : b = 0 <;> simp [h0, h1, Token.ok.toEncOk.len]
theorem l3NoMacro_iff (a : List Token) (b : Int) (c : List Token) (ha : a.length ≤ 1048576) (hc : c.length ≤ 1048576) (h : AH) (R : AV → AH → Prop) : CA 146 [.agg [.fs none (a.map Token.enc), .int .i64 b, .fs none (c.map Token.enc)]] h R ↔ R (.bool (noMacB ⟨a, b, c⟩)) h := by
  refine ca_pure (af := ac146) rfl ?_
  have hw : IntKind.wrap .i64 ((a.length : Int) + c.length) = (a.length : Int) + c.length := wrap_i64 (by omega) (by omega)
  have n1 : (a = [] ∧ b = 0 ∧ c = []) ↔ ((a.length : Int) + c.length = 0 ∧ b = 0) := by
    rw [← List.length_eq_zero_iff, ← List.length_eq_zero_iff]; omega
  simp only [noMacB, n1]
  simp [ac146, hw]
  by_cases h0 : (a.length : Int) + c.length = 0 <;> by_cases h1 : b = 0 <;> simp [h0, h1]
/-- The number after the slots of a pattern, counted from n; none: a slot out of turn, or a brace or a doubled sign. -/
def patU : List Token → Int → Option Int
  | [], n => some n
  | t :: ts, n => if t.cat = 16 then (if t.char = n then patU ts (n + 1) else none) else if t.cat = 1 ∨ t.cat = 2 ∨ t.cat = 7 then none else patU ts n
def macroB (m : Macro) : Bool := decide (0 ≤ m.slots ∧ m.slots ≤ 9) && tokensB 100 m.pattern && toksB 2000 m.slots m.body && decide (patU m.pattern 1 = some (m.slots + 1))

theorem macroOk_iff (p : List Token) (b : Int) (q : List Token) (hp : p.length ≤ 1048576) (hq : q.length ≤ 1048576) (h : AH) (R : AV → AH → Prop) : CA 154 [.agg [.fs none (p.map Token.enc), .int .i64 b, .fs none (q.map Token.enc)]] h R ↔ R (.bool (macroB ⟨p, b, q⟩)) h := by
  refine ca_pure (af := ac154) rfl ?_
  simp [ac154, macroB, toksB]
  by_cases h1 : b < 0
  · have : ¬ 0 ≤ b := by omega
    simp [h1, this]
  by_cases h2 : 9 < b
  · have : ¬ b ≤ 9 := by omega
    simp [h1, h2, this]
  have h3 : 0 ≤ b := by omega
  have h4 : b ≤ 9 := by omega
  simp [h1, h2, h3, h4, tokensOk_iff _ _ hp]
  cases t1 : tokensB 100 p <;> simp [tokensOk_iff _ _ hq]
  cases t2 : tokensB 2000 q <;> simp [balanced_iff _ hq]
  cases t3 : balB q <;> simp
  have hl : (p.length : Int) ≤ 100 := by simp [tokensB] at t1; exact t1.1
  refine awp_loop2 caM (fun n s h' => h' = h ∧ ∃ (i : Nat) (d : Int), n = p.length - i ∧ i ≤ p.length ∧ (s 3 = .int .i64 d ∧ s 35 = .fs none (p.map Token.enc) ∧ s 36 = .int .i64 p.length ∧ s 37 = .int .i64 i ∧ s 100001 = .agg [.fs none (p.map Token.enc), .int .i64 b, .fs none (q.map Token.enc)]) ∧ 0 ≤ d ∧ d ≤ i + 1 ∧ patU p 1 = patU (p.drop i) d) ?_ (n := p.length) ⟨rfl, 0, 1, by simp⟩
  rintro n s h' ⟨rfl, i, d, rfl, hi, ⟨e3, e35, e36, e37, e1⟩, hd0, hd1, ht⟩ K hK hE hQ
  simp [e3, e35, e36, e37, e1]
  by_cases hlt : i < p.length
  · have a1 := fun c k => Token.ok.toEncOk.iaddr (by omega) c p k (i : Int) h' (by omega) (by omega)
    have hw : IntKind.wrap .i64 ((i : Int) + 1) = (i : Int) + 1 := wrap_i64 (by omega) (by omega)
    have hw1 : IntKind.wrap .i64 (d + 1) = d + 1 := wrap_i64 (by omega) (by omega)
    rw [drop_eq hlt] at ht
    simp only [patU] at ht
    simp [hlt, e3, e35, e36, e37, e1, a1]
    have go : ∀ d' : Int, 0 ≤ d' → d' ≤ (i : Int) + 2 → patU p 1 = patU (p.drop (i + 1)) d' → ∀ s' : S, s' 3 = .int .i64 d' → s' 35 = .fs none (p.map Token.enc) → s' 36 = .int .i64 p.length → s' 37 = .int .i64 ((i : Int) + 1) → s' 100001 = .agg [.fs none (p.map Token.enc), .int .i64 b, .fs none (q.map Token.enc)] → K .normal s' h' := fun d' a b' e s' e3 e6 e7 e8 e9 =>
      hK (p.length - (i + 1)) _ _ (by omega) ⟨rfl, i + 1, d', rfl, by omega, ⟨e3, e6, e7, by rw [e8]; simp, e9⟩, a, by omega, e⟩
    by_cases c16 : (nth p i).cat = 16
    · by_cases cm : (nth p i).char = d
      · simp [c16, cm] at ht
        simp [e3, e37, c16, cm, hw, hw1]
        exact go _ (by omega) (by omega) ht _ (by simp) (by simp [e35]) (by simp [e36]) (by simp) (by simp [e1])
      · simp [c16, cm] at ht
        simp [e3, c16, cm, hQ, ht]
    · by_cases c1 : (nth p i).cat = 1
      · simp [c1] at ht
        simp [c1, hQ, ht]
      · by_cases c2 : (nth p i).cat = 2
        · simp [c2] at ht
          simp [c2, hQ, ht]
        · by_cases c7 : (nth p i).cat = 7
          · simp [c7] at ht
            simp [c7, hQ, ht]
          · simp [c16, c1, c2, c7] at ht
            simp [c16, c1, c2, c7, e37, hw]
            exact go _ (by omega) (by omega) ht _ (by simp [e3]) (by simp [e35]) (by simp [e36]) (by simp) (by simp [e1])
  · obtain rfl : i = p.length := by omega
    rw [List.drop_length] at ht
    simp [hE, ht, patU]
    have hlq : (q.length : Int) ≤ 2000 := by simp [tokensB] at t2; exact t2.1
    simp [e1]
    refine awp_loop2 caM (fun n s h'' => h'' = h' ∧ ∃ (i : Nat), n = q.length - i ∧ i ≤ q.length ∧ (s 3 = .int .i64 d ∧ s 57 = .fs none (q.map Token.enc) ∧ s 58 = .int .i64 q.length ∧ s 59 = .int .i64 i ∧ s 100001 = .agg [.fs none (p.map Token.enc), .int .i64 b, .fs none (q.map Token.enc)]) ∧ slotsB b (q.take i) = true) ?_ (n := q.length) ⟨rfl, 0, by simp [slotsB, e3, e1]⟩
    clear e3 e1 e35 e36 e37 hK hE
    rintro n s h' ⟨rfl, j, rfl, hj, ⟨e3, e57, e58, e59, e1⟩, hs⟩ K hK hE hQ'
    simp [e3, e57, e58, e59, e1]
    by_cases hlt : j < q.length
    · have a1 := fun c k => Token.ok.toEncOk.iaddr (by omega) c q k (j : Int) h' (by omega) (by omega)
      have hw : IntKind.wrap .i64 ((j : Int) + 1) = (j : Int) + 1 := wrap_i64 (by omega) (by omega)
      simp [hlt, e3, e57, e58, e59, e1, a1]
      have go : slotsB b (q.take (j + 1)) = true → ∀ s' : S, s' 3 = .int .i64 d → s' 57 = .fs none (q.map Token.enc) → s' 58 = .int .i64 q.length → s' 59 = .int .i64 ((j : Int) + 1) → s' 100001 = .agg [.fs none (p.map Token.enc), .int .i64 b, .fs none (q.map Token.enc)] → K .normal s' h' := fun a s' e3 e6 e7 e8 e9 =>
        hK (q.length - (j + 1)) _ _ (by omega) ⟨rfl, j + 1, rfl, by omega, ⟨e3, e6, e7, by rw [e8]; simp, e9⟩, a⟩
      by_cases c16 : (nth q j).cat = 16
      · by_cases cm : b < (nth q j).char
        · have : slotsB b q = false := all_no hlt (by simp [c16, cm])
          simp [c16, cm, e1, hQ', hQ, this, h3, h4]
        · have hs' : slotsB b (q.take (j + 1)) = true := by unfold slotsB at hs ⊢; rw [all_succ hlt, hs]; simp [cm]
          simp [c16, cm, e1, e59, hw]
          exact go hs' _ (by simp [e3]) (by simp [e57]) (by simp [e58]) (by simp) (by simp [e1])
      · have hs' : slotsB b (q.take (j + 1)) = true := by unfold slotsB at hs ⊢; rw [all_succ hlt, hs]; simp [c16]
        simp [c16, e59, hw]
        exact go hs' _ (by simp [e3]) (by simp [e57]) (by simp [e58]) (by simp) (by simp [e1])
    · obtain rfl : j = q.length := by omega
      rw [List.take_length] at hs
      have hw1 : IntKind.wrap .i64 (b + 1) = b + 1 := wrap_i64 (by omega) (by omega)
      simp [hE, hQ, e3, e1, hs, hw1, h3, h4, ht, patU]

theorem l3MacroOk_iff (p : List Token) (b : Int) (q : List Token) (hp : p.length ≤ 1048576) (hq : q.length ≤ 1048576) (h : AH) (R : AV → AH → Prop) : CA 147 [.agg [.fs none (p.map Token.enc), .int .i64 b, .fs none (q.map Token.enc)]] h R ↔ R (.bool (macroB ⟨p, b, q⟩)) h := by
  refine ca_pure (af := ac147) rfl ?_
  simp [ac147, macroB, tokensB]
  by_cases h1 : b < 0
  · have : ¬ 0 ≤ b := by omega
    simp [h1, this]
  by_cases h2 : 9 < b
  · have : ¬ b ≤ 9 := by omega
    simp [h1, h2, this]
  have h3 : 0 ≤ b := by omega
  have h4 : b ≤ 9 := by omega
  simp [h1, h2, h3, h4, Token.ok.toEncOk.len]
  by_cases hl : (p.length : Int) ≤ 100
  case neg =>
    have : 100 < (p.length : Int) := by omega
    simp [hl, this]
  have : ¬ 100 < (p.length : Int) := by omega
  simp [hl, this]
  refine awp_loop2 caM (fun n s h' => h' = h ∧ ∃ (i : Nat) (d : Int), n = p.length - i ∧ i ≤ p.length ∧ (s 3 = .int .i64 d ∧ s 4 = .int .i64 i ∧ s 100001 = .agg [.fs none (p.map Token.enc), .int .i64 b, .fs none (q.map Token.enc)]) ∧ 0 ≤ d ∧ d ≤ i ∧ (p.take i).all tokB = true ∧ patU p 1 = patU (p.drop i) (d + 1)) ?_ (n := p.length) ⟨rfl, 0, 0, by simp⟩
  rintro n s h' ⟨rfl, i, d, rfl, hi, ⟨e3, e4, e1⟩, hd0, hd1, hk, ht⟩ K hK hE hQ
  simp [e3, e4, e1, Token.ok.toEncOk.len]
  by_cases hlt : i < p.length
  · have a1 := fun c k => Token.ok.toEncOk.iaddr (by omega) c p k (i : Int) h' (by omega) (by omega)
    have hw : IntKind.wrap .i64 ((i : Int) + 1) = (i : Int) + 1 := wrap_i64 (by omega) (by omega)
    have hw1 : IntKind.wrap .i64 (d + 1) = d + 1 := wrap_i64 (by omega) (by omega)
    rw [drop_eq hlt] at ht
    simp only [patU] at ht
    simp [hlt, e3, e4, e1, a1, l2TokenOk_iff]
    cases hp : tokB (nth p i) with
    | false => simp [hQ, all_no hlt hp]
    | true =>
    have hk' : (p.take (i + 1)).all tokB = true := by rw [all_succ hlt, hk, hp]; rfl
    have go : ∀ d' : Int, 0 ≤ d' → d' ≤ (i : Int) + 1 → patU p 1 = patU (p.drop (i + 1)) (d' + 1) → ∀ s' : S, s' 3 = .int .i64 d' → s' 4 = .int .i64 ((i : Int) + 1) → s' 100001 = .agg [.fs none (p.map Token.enc), .int .i64 b, .fs none (q.map Token.enc)] → K .normal s' h' := fun d' a b' e s' e3 e8 e9 =>
      hK (p.length - (i + 1)) _ _ (by omega) ⟨rfl, i + 1, d', rfl, by omega, ⟨e3, by rw [e8]; simp, e9⟩, a, by omega, hk', e⟩
    by_cases c1 : (nth p i).cat = 1
    · simp [c1] at ht
      simp [c1, hQ, ht]
    by_cases c2 : (nth p i).cat = 2
    · simp [c2] at ht
      simp [c2, hQ, ht]
    by_cases c7 : (nth p i).cat = 7
    · simp [c7] at ht
      simp [c7, hQ, ht]
    by_cases c16 : (nth p i).cat = 16
    · by_cases cm : (nth p i).char = d + 1
      · simp [c16, cm] at ht
        simp [e3, e4, c16, cm, hw, hw1]
        exact go (d + 1) (by omega) (by omega) ht _ (by simp) (by simp) (by simp [e1])
      · simp [c16, cm] at ht
        simp [e3, c16, cm, hQ, ht, hw1]
    · simp [c16, c1, c2, c7] at ht
      simp [c16, c1, c2, c7, e4, hw]
      exact go _ (by omega) (by omega) ht _ (by simp [e3]) (by simp) (by simp [e1])
  · obtain rfl : i = p.length := by omega
    rw [List.drop_length] at ht
    rw [List.take_length] at hk
    simp [hE, ht, patU, e3, e1, hk]
    by_cases hd : d = b
    · simp [hd, e1, l3Toks_iff _ _ _ hq, h3, h4]
      rw [hk, ht, hd]; simp [patU]
    · have : ¬ d + 1 = b + 1 := by omega
      simp [hd, ht, patU]
/-- A macro's row is not longer than its weight. -/
def noTokB (t : Token) : Bool := decide (t.cat = 0 ∧ t.char = 0 ∧ t.name = ⟨#[]⟩)
def meanB (m : Mean) : Bool :=
  if m.kind = 0 then decide (m.num = 0) && noTokB m.token && noMacB m.macro_
  else if m.kind = 1 then decide (1 ≤ m.num ∧ m.num ≤ 58) && noTokB m.token && noMacB m.macro_
  else if m.kind = 2 then decide (m.num = 0) && charB m.token && noMacB m.macro_
  else if m.kind = 3 then decide (m.num = 0) && noTokB m.token && macroB m.macro_
  else false
theorem MeanOk_iff (a b c d : Int) (e : ByteArray) (p : List Token) (f : Int) (q : List Token) (hp : p.length ≤ 1048576) (hq : q.length ≤ 1048576) (h : AH) (R : AV → AH → Prop) : CA 104 [.agg [.int .i64 a, .int .i64 b, .int .i64 c, .int .i64 d, .str e, .fs none (p.map Token.enc), .int .i64 f, .fs none (q.map Token.enc)]] h R ↔ R (.bool (meanB ⟨a, b, ⟨c, d, e⟩, ⟨p, f, q⟩⟩)) h := by
  refine ca_pure (af := ac104) rfl ?_
  by_cases k0 : a = 0
  · rw [show meanB ⟨a, b, ⟨c, d, e⟩, ⟨p, f, q⟩⟩ = (decide (b = 0) && decide (c = 0 ∧ d = 0 ∧ e = ⟨#[]⟩) && noMacB ⟨p, f, q⟩) from by simp [meanB, k0, noTokB]]
    simp [ac104, k0, noMacro_iff]
    repeat' (first
      | (with_reducible refine condR_splitND ?_ ?_ <;> intro e_ <;> (try simp [*, noMacro_iff]))
      | (with_reducible refine condR_splitD ?_ ?_ <;> intro e_ <;> (try simp [*, noMacro_iff]))
      | (with_reducible refine condR_splitN ?_ ?_ <;> intro e_ <;> (try simp [*, noMacro_iff]))
      | (with_reducible refine condR_split ?_ ?_ <;> intro e_ <;> (try simp [*, noMacro_iff]))
      | (with_reducible refine guardR_splitT ?_ ?_ <;> intro e_ <;> (try simp [*, noMacro_iff]))
      | (with_reducible refine guardR_splitF ?_ ?_ <;> intro e_ <;> (try simp [*, noMacro_iff]))
      | (with_reducible refine guardR_splitNT ?_ ?_ <;> intro e_ <;> (try simp [*, noMacro_iff]))
      | (with_reducible refine guardR_splitNF ?_ ?_ <;> intro e_ <;> (try simp [*, noMacro_iff]))
      | (with_reducible refine guardR_sT ?_ ?_ <;> intro e_ <;> (try simp [*, noMacro_iff]))
      | (with_reducible refine guardR_sF ?_ ?_ <;> intro e_ <;> (try simp [*, noMacro_iff])))
    all_goals (first | (simp_all; done) | omega | grind | skip)
  by_cases k1 : a = 1
  · rw [show meanB ⟨a, b, ⟨c, d, e⟩, ⟨p, f, q⟩⟩ = (decide (1 ≤ b ∧ b ≤ 58) && decide (c = 0 ∧ d = 0 ∧ e = ⟨#[]⟩) && noMacB ⟨p, f, q⟩) from by simp [meanB, k1, noTokB]]
    simp [ac104, k1, noMacro_iff]
    repeat' (first
      | (with_reducible refine condR_splitND ?_ ?_ <;> intro e_ <;> (try simp [*, noMacro_iff]))
      | (with_reducible refine condR_splitD ?_ ?_ <;> intro e_ <;> (try simp [*, noMacro_iff]))
      | (with_reducible refine condR_splitN ?_ ?_ <;> intro e_ <;> (try simp [*, noMacro_iff]))
      | (with_reducible refine condR_split ?_ ?_ <;> intro e_ <;> (try simp [*, noMacro_iff]))
      | (with_reducible refine guardR_splitT ?_ ?_ <;> intro e_ <;> (try simp [*, noMacro_iff]))
      | (with_reducible refine guardR_splitF ?_ ?_ <;> intro e_ <;> (try simp [*, noMacro_iff]))
      | (with_reducible refine guardR_splitNT ?_ ?_ <;> intro e_ <;> (try simp [*, noMacro_iff]))
      | (with_reducible refine guardR_splitNF ?_ ?_ <;> intro e_ <;> (try simp [*, noMacro_iff]))
      | (with_reducible refine guardR_sT ?_ ?_ <;> intro e_ <;> (try simp [*, noMacro_iff]))
      | (with_reducible refine guardR_sF ?_ ?_ <;> intro e_ <;> (try simp [*, noMacro_iff])))
    all_goals (first | (simp_all; done) | omega | grind | skip)
  by_cases k2 : a = 2
  · rw [show meanB ⟨a, b, ⟨c, d, e⟩, ⟨p, f, q⟩⟩ = (decide (b = 0) && charB ⟨c, d, e⟩ && noMacB ⟨p, f, q⟩) from by simp [meanB, k2]]
    simp [ac104, k2, noMacro_iff, isChar_iff]
    repeat' (first
      | (with_reducible refine condR_splitND ?_ ?_ <;> intro e_ <;> (try simp [*, noMacro_iff, isChar_iff]))
      | (with_reducible refine condR_splitD ?_ ?_ <;> intro e_ <;> (try simp [*, noMacro_iff, isChar_iff]))
      | (with_reducible refine condR_splitN ?_ ?_ <;> intro e_ <;> (try simp [*, noMacro_iff, isChar_iff]))
      | (with_reducible refine condR_split ?_ ?_ <;> intro e_ <;> (try simp [*, noMacro_iff, isChar_iff]))
      | (with_reducible refine guardR_splitT ?_ ?_ <;> intro e_ <;> (try simp [*, noMacro_iff, isChar_iff]))
      | (with_reducible refine guardR_splitF ?_ ?_ <;> intro e_ <;> (try simp [*, noMacro_iff, isChar_iff]))
      | (with_reducible refine guardR_splitNT ?_ ?_ <;> intro e_ <;> (try simp [*, noMacro_iff, isChar_iff]))
      | (with_reducible refine guardR_splitNF ?_ ?_ <;> intro e_ <;> (try simp [*, noMacro_iff, isChar_iff]))
      | (with_reducible refine guardR_sT ?_ ?_ <;> intro e_ <;> (try simp [*, noMacro_iff, isChar_iff]))
      | (with_reducible refine guardR_sF ?_ ?_ <;> intro e_ <;> (try simp [*, noMacro_iff, isChar_iff])))
    all_goals (first | (simp_all; done) | omega | grind | skip)
  by_cases k3 : a = 3
  · rw [show meanB ⟨a, b, ⟨c, d, e⟩, ⟨p, f, q⟩⟩ = (decide (b = 0) && decide (c = 0 ∧ d = 0 ∧ e = ⟨#[]⟩) && macroB ⟨p, f, q⟩) from by simp [meanB, k3, noTokB]]
    simp [ac104, k3, noMacro_iff]
    repeat' (first
      | (with_reducible refine condR_splitND ?_ ?_ <;> intro e_ <;> (try simp [*, macroOk_iff _ _ _ hp hq]))
      | (with_reducible refine condR_splitD ?_ ?_ <;> intro e_ <;> (try simp [*, macroOk_iff _ _ _ hp hq]))
      | (with_reducible refine condR_splitN ?_ ?_ <;> intro e_ <;> (try simp [*, macroOk_iff _ _ _ hp hq]))
      | (with_reducible refine condR_split ?_ ?_ <;> intro e_ <;> (try simp [*, macroOk_iff _ _ _ hp hq]))
      | (with_reducible refine guardR_splitT ?_ ?_ <;> intro e_ <;> (try simp [*, macroOk_iff _ _ _ hp hq]))
      | (with_reducible refine guardR_splitF ?_ ?_ <;> intro e_ <;> (try simp [*, macroOk_iff _ _ _ hp hq]))
      | (with_reducible refine guardR_splitNT ?_ ?_ <;> intro e_ <;> (try simp [*, macroOk_iff _ _ _ hp hq]))
      | (with_reducible refine guardR_splitNF ?_ ?_ <;> intro e_ <;> (try simp [*, macroOk_iff _ _ _ hp hq]))
      | (with_reducible refine guardR_sT ?_ ?_ <;> intro e_ <;> (try simp [*, macroOk_iff _ _ _ hp hq]))
      | (with_reducible refine guardR_sF ?_ ?_ <;> intro e_ <;> (try simp [*, macroOk_iff _ _ _ hp hq])))
    all_goals (first | (simp_all; done) | omega | grind | skip)
  rw [show meanB ⟨a, b, ⟨c, d, e⟩, ⟨p, f, q⟩⟩ = false from by simp [meanB, k0, k1, k2, k3]]
  simp [ac104, k0, k1, k2, k3, noMacro_iff]
theorem charB_eq (t : Token) : charB t = (tokB t && !decide (t.cat = 0) && !decide (t.cat = 16)) := by
  unfold tokB
  cases h : charB t
  · unfold nameB slotB
    by_cases h0 : t.cat = 0 <;> by_cases h1 : t.cat = 16 <;> simp [h0, h1]
  · simp [charB] at h ⊢
    omega
theorem l3MeanOk_iff (a b c d : Int) (e : ByteArray) (p : List Token) (f : Int) (q : List Token) (hp : p.length ≤ 1048576) (hq : q.length ≤ 1048576) (h : AH) (R : AV → AH → Prop) : CA 98 [.agg [.int .i64 a, .int .i64 b, .int .i64 c, .int .i64 d, .str e, .fs none (p.map Token.enc), .int .i64 f, .fs none (q.map Token.enc)]] h R ↔ R (.bool (meanB ⟨a, b, ⟨c, d, e⟩, ⟨p, f, q⟩⟩)) h := by
  refine ca_pure (af := ac98) rfl ?_
  by_cases k0 : a = 0
  · rw [show meanB ⟨a, b, ⟨c, d, e⟩, ⟨p, f, q⟩⟩ = (decide (b = 0) && decide (c = 0 ∧ d = 0 ∧ e = ⟨#[]⟩) && noMacB ⟨p, f, q⟩) from by simp [meanB, k0, noTokB]]
    simp [ac98, k0, l3NoMacro_iff _ _ _ hp hq]
    repeat' (first
      | (with_reducible refine condR_splitND ?_ ?_ <;> intro e_ <;> (try simp [*, l3NoMacro_iff _ _ _ hp hq]))
      | (with_reducible refine condR_splitD ?_ ?_ <;> intro e_ <;> (try simp [*, l3NoMacro_iff _ _ _ hp hq]))
      | (with_reducible refine condR_splitN ?_ ?_ <;> intro e_ <;> (try simp [*, l3NoMacro_iff _ _ _ hp hq]))
      | (with_reducible refine condR_split ?_ ?_ <;> intro e_ <;> (try simp [*, l3NoMacro_iff _ _ _ hp hq]))
      | (with_reducible refine guardR_splitT ?_ ?_ <;> intro e_ <;> (try simp [*, l3NoMacro_iff _ _ _ hp hq]))
      | (with_reducible refine guardR_splitF ?_ ?_ <;> intro e_ <;> (try simp [*, l3NoMacro_iff _ _ _ hp hq]))
      | (with_reducible refine guardR_splitNT ?_ ?_ <;> intro e_ <;> (try simp [*, l3NoMacro_iff _ _ _ hp hq]))
      | (with_reducible refine guardR_splitNF ?_ ?_ <;> intro e_ <;> (try simp [*, l3NoMacro_iff _ _ _ hp hq]))
      | (with_reducible refine guardR_sT ?_ ?_ <;> intro e_ <;> (try simp [*, l3NoMacro_iff _ _ _ hp hq]))
      | (with_reducible refine guardR_sF ?_ ?_ <;> intro e_ <;> (try simp [*, l3NoMacro_iff _ _ _ hp hq])))
    all_goals (first | (simp_all; done) | omega | grind | skip)
  by_cases k1 : a = 1
  · rw [show meanB ⟨a, b, ⟨c, d, e⟩, ⟨p, f, q⟩⟩ = (decide (1 ≤ b ∧ b ≤ 58) && decide (c = 0 ∧ d = 0 ∧ e = ⟨#[]⟩) && noMacB ⟨p, f, q⟩) from by simp [meanB, k1, noTokB]]
    simp [ac98, k1, l3NoMacro_iff _ _ _ hp hq]
    repeat' (first
      | (with_reducible refine condR_splitND ?_ ?_ <;> intro e_ <;> (try simp [*, l3NoMacro_iff _ _ _ hp hq]))
      | (with_reducible refine condR_splitD ?_ ?_ <;> intro e_ <;> (try simp [*, l3NoMacro_iff _ _ _ hp hq]))
      | (with_reducible refine condR_splitN ?_ ?_ <;> intro e_ <;> (try simp [*, l3NoMacro_iff _ _ _ hp hq]))
      | (with_reducible refine condR_split ?_ ?_ <;> intro e_ <;> (try simp [*, l3NoMacro_iff _ _ _ hp hq]))
      | (with_reducible refine guardR_splitT ?_ ?_ <;> intro e_ <;> (try simp [*, l3NoMacro_iff _ _ _ hp hq]))
      | (with_reducible refine guardR_splitF ?_ ?_ <;> intro e_ <;> (try simp [*, l3NoMacro_iff _ _ _ hp hq]))
      | (with_reducible refine guardR_splitNT ?_ ?_ <;> intro e_ <;> (try simp [*, l3NoMacro_iff _ _ _ hp hq]))
      | (with_reducible refine guardR_splitNF ?_ ?_ <;> intro e_ <;> (try simp [*, l3NoMacro_iff _ _ _ hp hq]))
      | (with_reducible refine guardR_sT ?_ ?_ <;> intro e_ <;> (try simp [*, l3NoMacro_iff _ _ _ hp hq]))
      | (with_reducible refine guardR_sF ?_ ?_ <;> intro e_ <;> (try simp [*, l3NoMacro_iff _ _ _ hp hq])))
    all_goals (first | (simp_all; done) | omega | grind | skip)
  by_cases k2 : a = 2
  · rw [show meanB ⟨a, b, ⟨c, d, e⟩, ⟨p, f, q⟩⟩ = (decide (b = 0) && charB ⟨c, d, e⟩ && noMacB ⟨p, f, q⟩) from by simp [meanB, k2]]
    simp [ac98, k2, l3NoMacro_iff _ _ _ hp hq, l2TokenOk_iff, charB_eq]
    repeat' (first
      | (with_reducible refine condR_splitND ?_ ?_ <;> intro e_ <;> (try simp [*, l3NoMacro_iff _ _ _ hp hq, l2TokenOk_iff]))
      | (with_reducible refine condR_splitD ?_ ?_ <;> intro e_ <;> (try simp [*, l3NoMacro_iff _ _ _ hp hq, l2TokenOk_iff]))
      | (with_reducible refine condR_splitN ?_ ?_ <;> intro e_ <;> (try simp [*, l3NoMacro_iff _ _ _ hp hq, l2TokenOk_iff]))
      | (with_reducible refine condR_split ?_ ?_ <;> intro e_ <;> (try simp [*, l3NoMacro_iff _ _ _ hp hq, l2TokenOk_iff]))
      | (with_reducible refine guardR_splitT ?_ ?_ <;> intro e_ <;> (try simp [*, l3NoMacro_iff _ _ _ hp hq, l2TokenOk_iff]))
      | (with_reducible refine guardR_splitF ?_ ?_ <;> intro e_ <;> (try simp [*, l3NoMacro_iff _ _ _ hp hq, l2TokenOk_iff]))
      | (with_reducible refine guardR_splitNT ?_ ?_ <;> intro e_ <;> (try simp [*, l3NoMacro_iff _ _ _ hp hq, l2TokenOk_iff]))
      | (with_reducible refine guardR_splitNF ?_ ?_ <;> intro e_ <;> (try simp [*, l3NoMacro_iff _ _ _ hp hq, l2TokenOk_iff]))
      | (with_reducible refine guardR_sT ?_ ?_ <;> intro e_ <;> (try simp [*, l3NoMacro_iff _ _ _ hp hq, l2TokenOk_iff]))
      | (with_reducible refine guardR_sF ?_ ?_ <;> intro e_ <;> (try simp [*, l3NoMacro_iff _ _ _ hp hq, l2TokenOk_iff])))
    all_goals (first | (simp_all; done) | omega | grind | skip)
  by_cases k3 : a = 3
  · rw [show meanB ⟨a, b, ⟨c, d, e⟩, ⟨p, f, q⟩⟩ = (decide (b = 0) && decide (c = 0 ∧ d = 0 ∧ e = ⟨#[]⟩) && macroB ⟨p, f, q⟩) from by simp [meanB, k3, noTokB]]
    simp [ac98, k3, l3NoMacro_iff _ _ _ hp hq]
    repeat' (first
      | (with_reducible refine condR_splitND ?_ ?_ <;> intro e_ <;> (try simp [*, l3MacroOk_iff _ _ _ hp hq]))
      | (with_reducible refine condR_splitD ?_ ?_ <;> intro e_ <;> (try simp [*, l3MacroOk_iff _ _ _ hp hq]))
      | (with_reducible refine condR_splitN ?_ ?_ <;> intro e_ <;> (try simp [*, l3MacroOk_iff _ _ _ hp hq]))
      | (with_reducible refine condR_split ?_ ?_ <;> intro e_ <;> (try simp [*, l3MacroOk_iff _ _ _ hp hq]))
      | (with_reducible refine guardR_splitT ?_ ?_ <;> intro e_ <;> (try simp [*, l3MacroOk_iff _ _ _ hp hq]))
      | (with_reducible refine guardR_splitF ?_ ?_ <;> intro e_ <;> (try simp [*, l3MacroOk_iff _ _ _ hp hq]))
      | (with_reducible refine guardR_splitNT ?_ ?_ <;> intro e_ <;> (try simp [*, l3MacroOk_iff _ _ _ hp hq]))
      | (with_reducible refine guardR_splitNF ?_ ?_ <;> intro e_ <;> (try simp [*, l3MacroOk_iff _ _ _ hp hq]))
      | (with_reducible refine guardR_sT ?_ ?_ <;> intro e_ <;> (try simp [*, l3MacroOk_iff _ _ _ hp hq]))
      | (with_reducible refine guardR_sF ?_ ?_ <;> intro e_ <;> (try simp [*, l3MacroOk_iff _ _ _ hp hq])))
    all_goals (first | (simp_all; done) | omega | grind | skip)
  rw [show meanB ⟨a, b, ⟨c, d, e⟩, ⟨p, f, q⟩⟩ = false from by simp [meanB, k0, k1, k2, k3]]
  simp [ac98, k0, k1, k2, k3, l3NoMacro_iff _ _ _ hp hq]
end Go.Proofs.Ytojmemlbajnhhaa
