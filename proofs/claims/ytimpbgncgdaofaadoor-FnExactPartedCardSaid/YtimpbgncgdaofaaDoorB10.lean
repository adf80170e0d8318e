/- Plain: a word sought. Contracts: the search. -/
import Derived.Test.YtimpbgncgdaofaaDoorB9
namespace Go.Proofs.YtimpbgncgdaofaaDoor
open Go Go.Bm Go.Proofs
set_option linter.all false

/-! ### the order of words -/
theorem less_irr : ∀ l : List UInt8, Op.bytesLess l l = false
  | [] => rfl
  | a :: l => by simp [Op.bytesLess, less_irr l]
theorem less_trans : ∀ {x y z : List UInt8}, Op.bytesLess x y = true → Op.bytesLess y z = true → Op.bytesLess x z = true
  | [], [], _, h, _ => by simp [Op.bytesLess] at h
  | _ :: _, [], _, h, _ => by simp [Op.bytesLess] at h
  | _, _ :: _, [], _, h => by simp [Op.bytesLess] at h
  | [], _ :: _, _ :: _, _, _ => rfl
  | a :: x, b :: y, c :: z, h1, h2 => by
    simp only [Op.bytesLess, Bool.or_eq_true, decide_eq_true_eq, Bool.and_eq_true, beq_iff_eq] at h1 h2 ⊢
    rcases h1 with h1 | ⟨rfl, h1⟩
    · rcases h2 with h2 | ⟨rfl, h2⟩
      · left; exact UInt8.lt_trans h1 h2
      · left; exact h1
    · rcases h2 with h2 | ⟨rfl, h2⟩
      · left; exact h2
      · right; exact ⟨rfl, less_trans h1 h2⟩
theorem words_less {ws : List Exception} (h : ∀ k, k < ws.length → wrdF ws k = true) : ∀ (j i : Nat), i < j → j < ws.length → Op.bytesLess (nth ws i).word.toList (nth ws j).word.toList = true := by
  intro j
  induction j with
  | zero => intro i h1; omega
  | succ j ih =>
    intro i h1 h2
    have hj := h (j + 1) h2
    simp [wrdF] at hj
    by_cases e : i = j
    · rw [e]; exact hj.2
    · exact less_trans (ih i (by omega) (by omega)) hj.2
/-! ### the place of a word -/
def bsr (p : Nat → Bool) (lo hi : Nat) : Nat := if h : lo < hi then (if p ((lo + hi) / 2) then bsr p ((lo + hi) / 2 + 1) hi else bsr p lo ((lo + hi) / 2)) else lo
termination_by hi - lo
decreasing_by all_goals omega
theorem bsr_spec (p : Nat → Bool) (N : Nat) (mono : ∀ i j, i ≤ j → j < N → p j = true → p i = true) : ∀ (n lo hi : Nat), hi - lo ≤ n → lo ≤ hi → hi ≤ N → (∀ i, i < lo → p i = true) → (∀ i, hi ≤ i → i < N → p i = false) →
    bsr p lo hi ≤ N ∧ (∀ i, i < bsr p lo hi → p i = true) ∧ ∀ i, bsr p lo hi ≤ i → i < N → p i = false := by
  intro n
  induction n with
  | zero =>
    intro lo hi h1 h2 h3 h4 h5
    unfold bsr
    rw [dif_neg (by omega)]
    exact ⟨by omega, h4, fun i hi' => h5 i (by omega)⟩
  | succ n ih =>
    intro lo hi h1 h2 h3 h4 h5
    unfold bsr
    split
    · split
      · rename_i hp
        exact ih _ _ (by omega) (by omega) h3 (fun i hi' => mono i _ (by omega) (by omega) hp) h5
      · rename_i hp
        refine ih _ _ (by omega) (by omega) (by omega) h4 (fun i hi' hiN => ?_)
        cases hpi : p i with
        | false => rfl
        | true => exact absurd (mono _ i hi' hiN hpi) hp
    · exact ⟨by omega, h4, fun i hi' => h5 i (by omega)⟩
def lookP (ws : List Exception) (name : ByteArray) (i : Nat) : Bool := Op.bytesLess (nth ws i).word.toList name.toList
def lookI (ws : List Exception) (name : ByteArray) : Nat := bsr (lookP ws name) 0 ws.length
def lookB (ws : List Exception) (name : ByteArray) : Bool := decide (lookI ws name < ws.length) && decide ((nth ws (lookI ws name)).word = name)
theorem look_mono {ws : List Exception} (h : ∀ k, k < ws.length → wrdF ws k = true) (name : ByteArray) : ∀ i j, i ≤ j → j < ws.length → lookP ws name j = true → lookP ws name i = true := by
  intro i j h1 h2 h3
  by_cases e : i = j
  · rw [e]; exact h3
  · exact less_trans (words_less h j i (by omega) h2) h3
theorem look_spec {ws : List Exception} (h : ∀ k, k < ws.length → wrdF ws k = true) (name : ByteArray) : lookI ws name ≤ ws.length ∧ (∀ i, i < lookI ws name → lookP ws name i = true) ∧ ∀ i, lookI ws name ≤ i → i < ws.length → lookP ws name i = false :=
  bsr_spec _ ws.length (look_mono h name) ws.length 0 ws.length (by omega) (by omega) (Nat.le_refl _) (fun i hi => absurd hi (by omega)) (fun i h1 h2 => absurd h2 (by omega))
/-- Where the word stands, there the search ends. -/
theorem look_at {ws : List Exception} (h : ∀ k, k < ws.length → wrdF ws k = true) {name : ByteArray} {k : Nat} (hk : k < ws.length) (e : (nth ws k).word = name) : lookI ws name = k := by
  obtain ⟨h1, h2, h3⟩ := look_spec h name
  have pk : lookP ws name k = false := by unfold lookP; rw [e]; exact less_irr _
  have hge : lookI ws name ≤ k := by
    by_cases c : k < lookI ws name
    · rw [h2 k c] at pk; cases pk
    · omega
  by_cases c : lookI ws name < k
  · have : lookP ws name (lookI ws name) = true := by
      have hl := words_less h k _ c hk
      rw [e] at hl
      exact hl
    rw [h3 _ (Nat.le_refl _) (by omega)] at this; cases this
  · omega
theorem cmpS_neg (a b : ByteArray) : (cmpS a b < 0) = (Op.bytesLess a.toList b.toList = true) := by
  unfold cmpS
  split
  · rename_i h; simp [h]
  · rename_i h; split <;> simp [h]
theorem cmpS_zero (a b : ByteArray) : (cmpS a b = 0) = (a = b) := by
  unfold cmpS
  split
  · rename_i h
    have : a ≠ b := fun e => by subst e; rw [less_irr] at h; cases h
    simp [this]
  · split <;> rename_i h <;> simp [h]
theorem bsr_le (p : Nat → Bool) : ∀ (n lo hi : Nat), hi - lo ≤ n → lo ≤ hi → lo ≤ bsr p lo hi ∧ bsr p lo hi ≤ hi := by
  intro n
  induction n with
  | zero => intro lo hi h1 h2; unfold bsr; rw [dif_neg (by omega)]; omega
  | succ n ih =>
    intro lo hi h1 h2
    unfold bsr
    split
    · split
      · have := ih ((lo + hi) / 2 + 1) hi (by omega) (by omega); omega
      · have := ih lo ((lo + hi) / 2) (by omega) (by omega); omega
    · omega
theorem lookI_le (ws : List Exception) (name : ByteArray) : lookI ws name ≤ ws.length := (bsr_le _ _ 0 ws.length (Nat.le_refl _) (Nat.zero_le _)).2
/-! ### the search -/
theorem cmpStr_iff (a b : ByteArray) (h : AH) (R : AV → AH → Prop) : CA 59 [.str a, .str b] h R ↔ R (.int .i64 (cmpS a b)) h := (ca_iff (af := cmpAF) rfl).trans (cmpAF_str _ a b h R)
theorem compare_iff (a b : ByteArray) (h : AH) (R : AV → AH → Prop) : CA 45 [.str a, .str b] h R ↔ R (.int .i64 (cmpS a b)) h := by
  refine ca_pure (af := ac45) rfl ?_
  simp [ac45, cmpStr_iff]
theorem hyph1_iff (x : Exception) (b : ByteArray) (h : AH) (R : AV → AH → Prop) : CA 44 [.agg x.enc, .str b] h R ↔ R (.int .i64 (cmpS x.word b)) h := by
  refine ca_pure (af := ac44) rfl ?_
  simp [ac44, compare_iff]
theorem search_iff (ws : List Exception) (hb : ws.length ≤ 1048576) (name : ByteArray) (c : Option Nat) (h : AH) (R : AV → AH → Prop) :
    CA 43 [.fs c (ws.map Exception.enc), .str name, .fn 44 []] h R ↔ R (.tup [.int .i64 (lookI ws name), .bool (lookB ws name)]) h := by
  refine ca_pure (af := ac43) rfl ?_
  simp [ac43, Exception.ok.toEncOk.len]
  refine awp_loop2 caM (fun n s h' => h' = h ∧ ∃ lo hi : Nat, n = hi - lo ∧ lo ≤ hi ∧ hi ≤ ws.length ∧ (s 1 = .str name ∧ s 0 = .fs c (ws.map Exception.enc) ∧ s 2 = .fn 44 [] ∧ s 8 = .int .i64 ws.length ∧ s 9 = .int .i64 lo ∧ s 10 = .int .i64 hi) ∧ bsr (lookP ws name) lo hi = lookI ws name) ?_ (n := ws.length) ⟨rfl, 0, ws.length, by simp, by simp, by simp, by simp, rfl⟩
  rintro n s h' ⟨rfl, lo, hi, rfl, h2, h3, ⟨s1, s0, s2, s8, s9, s10⟩, hbr⟩ K hK hE hQ
  simp [s9, s10]
  by_cases hlt : lo < hi
  · have hw : IntKind.wrap .i64 ((lo : Int) + hi) = (lo : Int) + hi := wrap_i64 (by omega) (by omega)
    obtain ⟨m, hmd⟩ : ∃ m, m = (lo + hi) / 2 := ⟨_, rfl⟩
    have hwu : IntKind.wrap .u64 ((lo : Int) + hi) = (lo : Int) + hi := by simp [IntKind.wrap, IntKind.bits, IntKind.signed]; omega
    have hq : binInt .shr .u64 ((lo : Int) + hi) 1 = some (.int .u64 (m : Int)) := by
      simp only [binInt]
      rw [if_neg (by omega)]
      have : ((lo : Int) + hi).fdiv (2 ^ min (Int.toNat 1) (IntKind.bits .u64)) = (m : Int) := by
        show ((lo : Int) + hi).fdiv 2 = _
        rw [Int.fdiv_eq_ediv_of_nonneg _ (by omega)]
        omega
      rw [this]
    have hw2 : IntKind.wrap .i64 (m : Int) = (m : Int) := wrap_i64 (by omega) (by omega)
    have hm : m < ws.length := by omega
    have ib := Exception.ok.toEncOk.iaddr (by omega) c ws .i64 (m : Int) h' (by omega) (by omega)
    simp only [Int.toNat_natCast] at ib
    have hw3 : IntKind.wrap .i64 ((m : Int) + 1) = (m : Int) + 1 := wrap_i64 (by omega) (by omega)
    rw [bsr, dif_pos hlt, ← hmd] at hbr
    have lk := hyph1_iff (nth ws m)
    simp only [Exception.enc] at lk
    simp [hlt, hw, hwu, hq, hw2, ib, s0, s1, s2, s8, s9, s10, lk, cmpS_neg]
    cases hp : lookP ws name m with
    | true =>
      have hp' : Op.bytesLess (nth ws m).word.toList name.toList = true := hp
      rw [hp, if_pos rfl] at hbr
      simp [hp', hw3]
      exact hK (hi - (m + 1)) _ _ (by omega) ⟨rfl, m + 1, hi, rfl, by omega, by omega, ⟨by simp [s1], by simp [s0], by simp [s2], by simp [s8], by simp, by simp [s10]⟩, hbr⟩
    | false =>
      have hp' : Op.bytesLess (nth ws m).word.toList name.toList = false := hp
      rw [hp, if_neg (by simp)] at hbr
      simp [hp']
      exact hK (m - lo) _ _ (by omega) ⟨rfl, lo, m, rfl, by omega, by omega, ⟨by simp [s1], by simp [s0], by simp [s2], by simp [s8], by simp [s9], by simp⟩, hbr⟩
  · have e : lo = lookI ws name := by rw [← hbr, bsr, dif_neg hlt]
    have hle := lookI_le ws name
    rw [← e] at hle
    simp [hE, hlt, s0, s1, s2, s8, s9]
    by_cases hlb : lo < ws.length
    · have ib := Exception.ok.toEncOk.iaddr (by omega) c ws .i64 (lo : Int) h' (by omega) (by omega)
      simp only [Int.toNat_natCast] at ib
      have lk := hyph1_iff (nth ws lo)
      simp only [Exception.enc] at lk
      simp [hlb, s0, s1, s2, s8, s9, ib, lk, cmpS_zero, lookB, ← e]
    · simp [hlb, lookB, ← e]
end Go.Proofs.YtimpbgncgdaofaaDoor
