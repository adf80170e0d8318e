/- Contracts: rows of tokens. -/
import Derived.Test.YtojmemlbajnhhaaA1
namespace Go.Proofs.Ytojmemlbajnhhaa
open Go Go.Bm Go.Proofs
set_option linter.all false

def tokensB (m : Int) (ts : List Token) : Bool := decide ((ts.length : Int) ≤ m) && ts.all tokB

theorem tokensOk_iff (ts : List Token) (m : Int) (hb : ts.length ≤ 1048576) (h : AH) (c : Option Nat) (R : AV → AH → Prop) : CA 156 [.fs c (ts.map Token.enc), .int .i64 m] h R ↔ R (.bool (tokensB m ts)) h := by
  refine ca_pure (af := ac156) rfl ?_
  simp [ac156, tokensB]
  refine condR_splitD ?_ ?_ <;> intro hl
  · have : ¬ (ts.length : Int) ≤ m := by omega
    simp [this]
  have : (ts.length : Int) ≤ m := by omega
  simp [this]
  refine awp_loop2 caM (fun n s h' => h' = h ∧ ∃ i : Nat, n = ts.length - i ∧ i ≤ ts.length ∧ (s 11 = .fs c (ts.map Token.enc) ∧ s 12 = .int .i64 ts.length ∧ s 13 = .int .i64 i) ∧ (ts.take i).all tokB = true) ?_ (n := ts.length) ⟨rfl, 0, by simp⟩
  rintro n s h' ⟨rfl, i, rfl, hi, ⟨h11, h12, h13⟩, ht⟩ K hK hE hQ
  simp [h11, h12, h13]
  by_cases hlt : i < ts.length
  · have a1 := fun c k => Token.ok.toEncOk.iaddr (by omega) c ts k (i : Int) h' (by omega) (by omega)
    have hw : IntKind.wrap .i64 ((i : Int) + 1) = (i : Int) + 1 := wrap_i64 (by omega) (by omega)
    simp [hlt, h11, h12, h13, a1, TokenOk_iff]
    cases hp : tokB (nth ts i) with
    | false => simp [hQ, all_no hlt hp]
    | true =>
      simp [h13, hw]
      exact hK (ts.length - (i + 1)) _ _ (by omega) ⟨rfl, i + 1, rfl, by omega, by simp [h11, h12], by rw [all_succ hlt, ht, hp]; rfl⟩
  · obtain rfl : i = ts.length := by omega
    rw [List.take_length] at ht
    simp [hE, ht]

/-- What a token adds to the depth. -/
def dep (t : Token) : Int := if t.cat = 1 then 1 else if t.cat = 2 then -1 else 0
/-- The depth behind a list; none: it fell below 0. -/
def balU : List Token → Int → Option Int
  | [], n => some n
  | t :: ts, n => if n + dep t < 0 then none else balU ts (n + dep t)
def balB (ts : List Token) : Bool := decide (balU ts 0 = some 0)

theorem balanced_iff (ts : List Token) (hb : ts.length ≤ 1048576) (h : AH) (c : Option Nat) (R : AV → AH → Prop) : CA 157 [.fs c (ts.map Token.enc)] h R ↔ R (.bool (balB ts)) h := by
  refine ca_pure (af := ac157) rfl ?_
  simp [ac157, balB]
  refine awp_loop2 caM (fun n s h' => h' = h ∧ ∃ (i : Nat) (d : Int), n = ts.length - i ∧ i ≤ ts.length ∧ (s 3 = .int .i64 d ∧ s 6 = .fs c (ts.map Token.enc) ∧ s 7 = .int .i64 ts.length ∧ s 8 = .int .i64 i) ∧ 0 ≤ d ∧ d ≤ i ∧ balU ts 0 = balU (ts.drop i) d) ?_ (n := ts.length) ⟨rfl, 0, 0, by simp⟩
  rintro n s h' ⟨rfl, i, d, rfl, hi, ⟨h3, h6, h7, h8⟩, hd0, hd1, ht⟩ K hK hE hQ
  simp [h3, h6, h7, h8]
  by_cases hlt : i < ts.length
  · have a1 := fun c k => Token.ok.toEncOk.iaddr (by omega) c ts k (i : Int) h' (by omega) (by omega)
    have hw : IntKind.wrap .i64 ((i : Int) + 1) = (i : Int) + 1 := wrap_i64 (by omega) (by omega)
    have hw1 : IntKind.wrap .i64 (d + 1) = d + 1 := wrap_i64 (by omega) (by omega)
    have hw2 : IntKind.wrap .i64 (d - 1) = d - 1 := wrap_i64 (by omega) (by omega)
    rw [drop_eq hlt] at ht
    simp only [balU, dep] at ht
    simp [hlt, h3, h6, h7, h8, a1]
    have go : ∀ d' : Int, 0 ≤ d' → d' ≤ (i : Int) + 1 → balU ts 0 = balU (ts.drop (i + 1)) d' → ∀ s' : S, s' 3 = .int .i64 d' → s' 6 = .fs c (ts.map Token.enc) → s' 7 = .int .i64 ts.length → s' 8 = .int .i64 ((i : Int) + 1) → K .normal s' h' := fun d' a b e s' e3 e6 e7 e8 =>
      hK (ts.length - (i + 1)) _ _ (by omega) ⟨rfl, i + 1, d', rfl, by omega, ⟨e3, e6, e7, by rw [e8]; simp⟩, a, by omega, e⟩
    by_cases c1 : (nth ts i).cat = 1
    · simp [c1, h3, h8, hw, hw1]
      have n1 : ¬ d + 1 < 0 := by omega
      simp [c1, n1] at ht
      simp [n1, h8, hw]
      exact go _ (by omega) (by omega) ht _ (by simp) (by simp [h6]) (by simp [h7]) (by simp)
    · by_cases c2 : (nth ts i).cat = 2
      · simp [c1, c2, h3, h8, hw, hw2]
        simp [c1, c2] at ht
        by_cases n1 : d - 1 < 0
        · rw [if_pos (by omega)] at ht
          simp [n1, hQ, ht]
        · rw [if_neg (by omega)] at ht
          simp [n1, h8, hw]
          exact go (d - 1) (by omega) (by omega) (by rw [ht, Int.sub_eq_add_neg]) _ (by simp) (by simp [h6]) (by simp [h7]) (by simp)
      · simp [c1, c2, h3, h8, hw]
        simp [c1, c2] at ht
        have n1 : ¬ d < 0 := by omega
        simp [n1] at ht
        simp [n1, h8, hw]
        exact go d (by omega) (by omega) ht _ (by simp [h3]) (by simp [h6]) (by simp [h7]) (by simp)
  · obtain rfl : i = ts.length := by omega
    rw [List.drop_length] at ht
    simp [hE, ht, balU, h3]

def listB (ts : List Token) : Bool := ts.all (fun t => !decide (t.cat = 16)) && tokensB 2000 ts && balB ts
theorem listOk_iff (ts : List Token) (hb : ts.length ≤ 1048576) (h : AH) (c : Option Nat) (R : AV → AH → Prop) : CA 107 [.fs c (ts.map Token.enc)] h R ↔ R (.bool (listB ts)) h := by
  refine ca_pure (af := ac107) rfl ?_
  simp [ac107, listB]
  refine awp_loop2 caM (fun n s h' => h' = h ∧ ∃ i : Nat, n = ts.length - i ∧ i ≤ ts.length ∧ (s 0 = .fs c (ts.map Token.enc) ∧ s 5 = .fs c (ts.map Token.enc) ∧ s 6 = .int .i64 ts.length ∧ s 7 = .int .i64 i) ∧ (ts.take i).all (fun t => !decide (t.cat = 16)) = true) ?_ (n := ts.length) ⟨rfl, 0, by simp⟩
  rintro n s h' ⟨rfl, i, rfl, hi, ⟨h0, h5, h6, h7⟩, ht⟩ K hK hE hQ
  simp [h0, h5, h6, h7]
  by_cases hlt : i < ts.length
  · have a1 := fun c k => Token.ok.toEncOk.iaddr (by omega) c ts k (i : Int) h' (by omega) (by omega)
    have hw : IntKind.wrap .i64 ((i : Int) + 1) = (i : Int) + 1 := wrap_i64 (by omega) (by omega)
    simp [hlt, h0, h5, h6, h7, a1]
    by_cases c1 : (nth ts i).cat = 16
    · have := all_no (p := fun t : Token => !decide (t.cat = 16)) hlt (by simp [c1])
      simp [c1, hQ, this]
    · simp [c1, h7, hw]
      exact hK (ts.length - (i + 1)) _ _ (by omega) ⟨rfl, i + 1, rfl, by omega, by simp [h0, h5, h6], by rw [all_succ hlt, ht]; simp [c1]⟩
  · obtain rfl : i = ts.length := by omega
    rw [List.take_length] at ht
    simp [hE, ht, h0, tokensOk_iff _ _ hb]
    cases h1 : tokensB 2000 ts <;> simp [h0, balanced_iff _ hb]
    intro _; simpa using ht

/-- The reference's check: tokens, no slot above most, and balanced. -/
def slotsB (most : Int) (ts : List Token) : Bool := ts.all fun t => !(decide (t.cat = 16) && decide (most < t.char))
def toksB (lim most : Int) (ts : List Token) : Bool := tokensB lim ts && slotsB most ts && balB ts
theorem l3Toks_iff (ts : List Token) (lim most : Int) (hb : ts.length ≤ 1048576) (h : AH) (c : Option Nat) (R : AV → AH → Prop) : CA 101 [.fs c (ts.map Token.enc), .int .i64 lim, .int .i64 most] h R ↔ R (.bool (toksB lim most ts)) h := by
  refine ca_pure (af := ac101) rfl ?_
  simp [ac101, toksB, tokensB]
  refine condR_splitD ?_ ?_ <;> intro hl
  · have : ¬ (ts.length : Int) ≤ lim := by omega
    simp [this]
  have : (ts.length : Int) ≤ lim := by omega
  simp [this]
  refine awp_loop2 caM (fun n s h' => h' = h ∧ ∃ (i : Nat) (d : Int), n = ts.length - i ∧ i ≤ ts.length ∧ (s 0 = .fs c (ts.map Token.enc) ∧ s 2 = .int .i64 most ∧ s 7 = .int .i64 d ∧ s 8 = .int .i64 i) ∧ 0 ≤ d ∧ d ≤ i ∧ balU ts 0 = balU (ts.drop i) d ∧ (ts.take i).all tokB = true ∧ slotsB most (ts.take i) = true) ?_ (n := ts.length) ⟨rfl, 0, 0, by simp [slotsB]⟩
  rintro n s h' ⟨rfl, i, d, rfl, hi, ⟨h0, h2, h7, h8⟩, hd0, hd1, ht, hk, hs⟩ K hK hE hQ
  simp [h0, h2, h7, h8]
  by_cases hlt : i < ts.length
  · have a1 := fun c k => Token.ok.toEncOk.iaddr (by omega) c ts k (i : Int) h' (by omega) (by omega)
    have hw : IntKind.wrap .i64 ((i : Int) + 1) = (i : Int) + 1 := wrap_i64 (by omega) (by omega)
    have hw1 : IntKind.wrap .i64 (d + 1) = d + 1 := wrap_i64 (by omega) (by omega)
    have hw2 : IntKind.wrap .i64 (d - 1) = d - 1 := wrap_i64 (by omega) (by omega)
    rw [drop_eq hlt] at ht
    simp only [balU, dep] at ht
    simp [hlt, h0, h2, h7, h8, a1, l2TokenOk_iff]
    cases hp : tokB (nth ts i) with
    | false => simp [hQ, all_no hlt hp]
    | true =>
    have hk' : (ts.take (i + 1)).all tokB = true := by rw [all_succ hlt, hk, hp]; rfl
    have go : ∀ d' : Int, 0 ≤ d' → d' ≤ (i : Int) + 1 → balU ts 0 = balU (ts.drop (i + 1)) d' → slotsB most (ts.take (i + 1)) = true → ∀ s' : S, s' 0 = .fs c (ts.map Token.enc) → s' 2 = .int .i64 most → s' 7 = .int .i64 d' → s' 8 = .int .i64 ((i : Int) + 1) → K .normal s' h' := fun d' a b e es s' e0 e2 e7 e8 =>
      hK (ts.length - (i + 1)) _ _ (by omega) ⟨rfl, i + 1, d', rfl, by omega, ⟨e0, e2, e7, by rw [e8]; simp⟩, a, by omega, e, hk', es⟩
    by_cases c16 : (nth ts i).cat = 16
    · by_cases cm : most < (nth ts i).char
      · have : slotsB most ts = false := all_no hlt (by simp [c16, cm])
        simp [h0, h2, h8, a1, c16, cm, hQ, this]
      · have hs' : slotsB most (ts.take (i + 1)) = true := by unfold slotsB at hs ⊢; rw [all_succ hlt, hs]; simp [cm]
        simp [h0, h2, h7, h8, a1, c16, cm]
        simp [c16] at ht
        have n1 : ¬ d < 0 := by omega
        simp [n1] at ht
        simp [n1, h8, hw]
        exact go d (by omega) (by omega) ht hs' _ (by simp [h0]) (by simp [h2]) (by simp [h7]) (by simp)
    have hs' : slotsB most (ts.take (i + 1)) = true := by unfold slotsB at hs ⊢; rw [all_succ hlt, hs]; simp [c16]
    simp [h0, h2, h7, h8, a1, c16]
    by_cases c1 : (nth ts i).cat = 1
    · simp [h0, h7, h8, a1, c1, hw1]
      have n1 : ¬ d + 1 < 0 := by omega
      simp [c1, n1] at ht
      simp [n1, h8, hw]
      exact go _ (by omega) (by omega) ht hs' _ (by simp [h0]) (by simp [h2]) (by simp) (by simp)
    · by_cases c2 : (nth ts i).cat = 2
      · simp [h0, h7, h8, a1, c1, c2, hw2]
        simp [c1, c2] at ht
        by_cases n1 : d - 1 < 0
        · rw [if_pos (by omega)] at ht
          simp [n1, hQ, balB, ht]
        · rw [if_neg (by omega)] at ht
          simp [n1, h8, hw]
          exact go (d - 1) (by omega) (by omega) (by rw [ht, Int.sub_eq_add_neg]) hs' _ (by simp [h0]) (by simp [h2]) (by simp) (by simp)
      · simp [h0, h7, h8, a1, c1, c2]
        simp [c1, c2] at ht
        have n1 : ¬ d < 0 := by omega
        simp [n1] at ht
        simp [n1, h8, hw]
        exact go d (by omega) (by omega) ht hs' _ (by simp [h0]) (by simp [h2]) (by simp [h7]) (by simp)
  · obtain rfl : i = ts.length := by omega
    rw [List.drop_length] at ht
    rw [List.take_length] at hk hs
    simp [hE, hk, hs, h7, balB, ht, balU]
/-- A list that holds no slot at all. -/
theorem listB_eq (ts : List Token) : listB ts = toksB 2000 0 ts := by
  unfold listB toksB
  have : ts.all tokB = true → ts.all (fun t => !decide (t.cat = 16)) = slotsB 0 ts := by
    intro hk
    unfold slotsB
    induction ts with
    | nil => rfl
    | cons t ts ih =>
      simp only [List.all_cons, Bool.and_eq_true] at hk ⊢
      rw [ih hk.2]
      congr 1
      have ht := hk.1
      by_cases c : t.cat = 16
      · have : 0 < t.char := by
          simp [tokB, nameB, charB, slotB, c] at ht
          omega
        simp [c, this]
      · simp [c]
  unfold tokensB
  cases hk : ts.all tokB with
  | false => simp
  | true => rw [this hk]; cases slotsB 0 ts <;> simp
end Go.Proofs.Ytojmemlbajnhhaa
