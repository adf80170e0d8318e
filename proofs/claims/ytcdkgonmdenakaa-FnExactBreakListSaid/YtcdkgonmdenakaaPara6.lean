/- Contracts: LineOf of the reference; the search for a number in rising numbers. -/
import Derived.Test.YtcdkgonmdenakaaPara5
namespace Go.Proofs.Ytcdkgonmdenakaa
open Go Go.Bm Go.Proofs
set_option linter.all false

theorem mem_brks {l : List (List Node)} {k : Nat} {b : Int} (h : b ∈ brks l k) : 0 ≤ b ∧ b < k := by
  obtain ⟨i, hi, rfl⟩ := List.mem_map.1 h
  have := List.mem_range.1 (List.mem_filter.1 hi).1
  omega
theorem mem_brkL {xs : List Node} {st : Style} {b : Int} (h : b ∈ brkL xs st) : 0 ≤ b ∧ b < (rowL xs st).length ∧ paraB xs st = true := by
  unfold brkL at h
  split at h
  · rename_i hp
    have := mem_brks h
    exact ⟨this.1, this.2, hp⟩
  · cases h
theorem paraB_ok {xs : List Node} {st : Style} (h : paraB xs st = true) : styleB st = true ∧ listB xs = true ∧ (itemsL xs).length ≤ 2000 ∧ (brks (rowL xs st) (rowL xs st).length).length ≤ 300 := by
  simp only [paraB, Bool.and_eq_true, decide_eq_true_eq] at h
  exact ⟨h.1.1.1, h.1.1.2, h.1.2, h.2⟩
theorem brkL_len (xs : List Node) (st : Style) : (brkL xs st).length ≤ 300 := by
  unfold brkL
  split
  · exact (paraB_ok (by assumption)).2.2.2
  · simp
set_option maxRecDepth 100000 in
theorem specLineOf_iff (xs : List Node) (hb : xs.length ≤ 1048576) (st : Style) (a b : Int) (h : AH) (R : AV → AH → Prop) : acallM CA .frz 16 [.fs none (xs.map Node.enc), .agg st.enc, .int .i64 a, .int .i64 b] h R ↔ R (.fs none ((lineA xs st a b).map Node.enc)) h := by
  refine ca_frz (af := ac16) rfl ?_
  have hbl := brkL_len xs st
  simp [ac16, l9Breaks_iff xs hb _ _ _ _ _ _ _ _ _ _ _ _ _ _ _ _ _ _ _ _ _ _ _ st rfl]
  have e0 := l9In_iff (brkL xs st) a (by omega) none
  have e1 := l9In_iff (brkL xs st) b (by omega) none
  unfold lineA
  have line : ∀ a : Int, -1 ≤ a → b ∈ brkL xs st → a < b → ∀ h R, acallM CA .frz 32 [.fs none ((rowL xs st).map (encS Node.enc)), .agg st.enc, .int .i64 a, .int .i64 b] h R ↔ R (.fs none ((lineL (rowL xs st) st (a + 1).toNat b.toNat).map Node.enc)) h := by
    intro a ha c2 c3 h R
    obtain ⟨b0, b1, hp⟩ := mem_brkL c2
    obtain ⟨_, hl, hi, _⟩ := paraB_ok hp
    obtain ⟨_, ho⟩ := listB_ok hl
    have hrl := rowL_len (xs := xs) st
    exact own_frzO Node.ok (xs := lineL (rowL xs st) st (a + 1).toNat b.toNat) (fun R hR => l9Line_ok (rowL xs st) row_ne (by omega) (by have := rowL_tot ho st; omega) _ _ _ _ _ _ _ _ _ _ _ _ _ _ _ _ _ _ _ _ _ _ _ st rfl a b (by omega) c3 b1 h R hR)
  simp only [Style.enc] at line
  by_cases c1 : a = -1
  · subst c1
    by_cases c2 : b ∈ brkL xs st
    · obtain ⟨b0, b1, hp⟩ := mem_brkL c2
      have c3 : ¬ b ≤ -1 := by omega
      have c3' : -1 < b := by omega
      simp [e1, c2, c3, c3', hp, line (-1) (by omega) c2 c3']
    · simp [e1, c2]
  · by_cases c0 : a ∈ brkL xs st
    · by_cases c2 : b ∈ brkL xs st
      · obtain ⟨a0, _, _⟩ := mem_brkL c0
        obtain ⟨b0, b1, hp⟩ := mem_brkL c2
        by_cases c3 : b ≤ a
        · have c3' : ¬ a < b := by omega
          simp [c1, e0, e1, c0, c2, c3, c3']
        · have c3' : a < b := by omega
          simp [c1, e0, e1, c0, c2, c3, c3', hp, line a (by omega) c2 c3']
      · simp [c1, e0, e1, c0, c2]
    · simp [c1, e0, e1, c0]

/-! ### the search -/
def bsr (p : Nat → Bool) (lo hi : Nat) : Nat := if h : lo < hi then (if p ((lo + hi) / 2) then bsr p ((lo + hi) / 2 + 1) hi else bsr p lo ((lo + hi) / 2)) else lo
termination_by hi - lo
decreasing_by all_goals omega
theorem bsr_spec (p : Nat → Bool) (N : Nat) (mono : ∀ i j, i ≤ j → j < N → p j = true → p i = true) : ∀ (n lo hi : Nat), hi - lo ≤ n → lo ≤ hi → hi ≤ N → (∀ i, i < lo → p i = true) → (∀ i, hi ≤ i → i < N → p i = false) →
    bsr p lo hi ≤ N ∧ (∀ i, i < bsr p lo hi → p i = true) ∧ ∀ i, bsr p lo hi ≤ i → i < N → p i = false := by
  intro n
  induction n with
  | zero =>
    intro lo hi h1 h2 h3 h4 h5
    unfold bsr
    rw [dif_neg (by omega)]
    exact ⟨by omega, h4, fun i hi' => h5 i (by omega)⟩
  | succ n ih =>
    intro lo hi h1 h2 h3 h4 h5
    unfold bsr
    split
    · split
      · rename_i hp
        exact ih _ _ (by omega) (by omega) h3 (fun i hi' => mono i _ (by omega) (by omega) hp) h5
      · rename_i hp
        refine ih _ _ (by omega) (by omega) (by omega) h4 (fun i hi' hiN => ?_)
        cases hpi : p i with
        | false => rfl
        | true => exact absurd (mono _ i hi' hiN hpi) hp
    · exact ⟨by omega, h4, fun i hi' => h5 i (by omega)⟩
theorem bsr_le (p : Nat → Bool) : ∀ (n lo hi : Nat), hi - lo ≤ n → lo ≤ hi → lo ≤ bsr p lo hi ∧ bsr p lo hi ≤ hi := by
  intro n
  induction n with
  | zero => intro lo hi h1 h2; unfold bsr; rw [dif_neg (by omega)]; omega
  | succ n ih =>
    intro lo hi h1 h2
    unfold bsr
    split
    · split
      · have := ih ((lo + hi) / 2 + 1) hi (by omega) (by omega); omega
      · have := ih lo ((lo + hi) / 2) (by omega) (by omega); omega
    · omega
/-- Numbers that rise. -/
def Rising (l : List Int) : Prop := ∀ i j, i < j → j < l.length → nth l i < nth l j
def seekI (l : List Int) (x : Int) : Nat := bsr (fun i => decide (nth l i < x)) 0 l.length
def seekB (l : List Int) (x : Int) : Bool := decide (seekI l x < l.length) && decide (nth l (seekI l x) = x)
theorem seekI_le (l : List Int) (x : Int) : seekI l x ≤ l.length := (bsr_le _ l.length 0 l.length (by omega) (by omega)).2
theorem seekB_iff {l : List Int} (hr : Rising l) (x : Int) : seekB l x = decide (x ∈ l) := by
  have sp := bsr_spec (fun i => decide (nth l i < x)) l.length (fun i j hij hj hp => by
    simp only [decide_eq_true_eq] at hp ⊢
    rcases Nat.lt_or_eq_of_le hij with h | rfl
    · have := hr i j h hj; omega
    · exact hp) l.length 0 l.length (by omega) (by omega) (Nat.le_refl _) (fun i h => by omega) (fun i h1 h2 => by omega)
  rw [Bool.eq_iff_iff]
  simp only [seekB, Bool.and_eq_true, decide_eq_true_eq]
  constructor
  · rintro ⟨h1, h2⟩
    rw [← h2]; exact nth_mem h1
  · intro hx
    obtain ⟨j, hj, e⟩ := List.getElem_of_mem hx
    have e' : nth l j = x := by rw [nth_eq hj, e]
    have hge : ¬ j < seekI l x := fun h => by
      have := sp.2.1 j h
      simp only [decide_eq_true_eq] at this; omega
    have hlt : seekI l x < l.length := by omega
    refine ⟨hlt, ?_⟩
    rcases Nat.lt_or_eq_of_le (Nat.le_of_not_lt hge) with h | h
    · have h1 := hr _ j h hj
      have h2 := sp.2.2 (seekI l x) (Nat.le_refl _) hlt
      simp only [decide_eq_false_iff_not] at h2
      omega
    · rw [h]; exact e'
theorem half_eq (a b : Nat) (ha : a ≤ 1048576) (hb : b ≤ 1048576) : bin .shr (.int .u64 (IntKind.wrap .u64 (IntKind.wrap .i64 ((a : Int) + b)))) (.int .u64 1) = some (.int .u64 (((a + b) / 2 : Nat) : Int)) := by
  have w1 : IntKind.wrap .i64 ((a : Int) + b) = ((a + b : Nat) : Int) := by rw [wrap_i64 (by omega) (by omega)]; omega
  have w2 : IntKind.wrap .u64 ((a + b : Nat) : Int) = ((a + b : Nat) : Int) := by
    simp [IntKind.wrap, IntKind.bits, IntKind.signed]; omega
  rw [w1, w2]
  simp only [bin, if_true, binInt]
  rw [if_neg (by omega)]
  have : min (1 : Int).toNat (IntKind.bits .u64) = 1 := rfl
  rw [this]
  congr 2
  simp [Int.fdiv_eq_ediv_of_nonneg]
theorem BinarySearch_iff (l : List Int) (x : Int) (hb : l.length ≤ 1048576) (c : Option Nat) (h : AH) (R : AV → AH → Prop) : CA 51 [.fs c (l.map (encI .i64)), .int .i64 x] h R ↔ R (.tup [.int .i64 (seekI l x), .bool (seekB l x)]) h := by
  refine ca_pure (af := ac51) rfl ?_
  simp [ac51]
  refine awp_loop2 caM (fun n s h' => h' = h ∧ ∃ (lo hi : Nat), n = hi - lo ∧ lo ≤ hi ∧ hi ≤ l.length ∧ (s 0 = .fs c (l.map (encI .i64)) ∧ s 1 = .int .i64 x ∧ s 6 = .int .i64 l.length ∧ s 7 = .int .i64 lo ∧ s 8 = .int .i64 hi) ∧ seekI l x = bsr (fun i => decide (nth l i < x)) lo hi) ?_ (n := l.length) ⟨rfl, 0, l.length, by simp, by simp, by simp, by simp, rfl⟩
  rintro n s h' ⟨rfl, lo, hi, rfl, h1, h2, ⟨s0, s1, s6, s7, s8⟩, hs⟩ K hK hE hQ
  simp [s0, s1, s6, s7, s8]
  by_cases hlt : lo < hi
  · have hf := half_eq lo hi (by omega) (by omega)
    have w1 : IntKind.wrap .i64 (((lo + hi) / 2 : Nat) : Int) = (((lo + hi) / 2 : Nat) : Int) := wrap_i64 (by omega) (by omega)
    have w2 : IntKind.wrap .i64 ((((lo + hi) / 2 : Nat) : Int) + 1) = (((lo + hi) / 2 + 1 : Nat) : Int) := by rw [wrap_i64 (by omega) (by omega)]; omega
    have a1 := fun k => (encI_ok .i64).toEncOk.iaddr (by omega) c l k (((lo + hi) / 2 : Nat) : Int) h' (by omega) (by omega)
    simp only [Int.toNat_natCast] at a1
    rw [bsr, dif_pos hlt] at hs
    have hm1 : lo ≤ (lo + hi) / 2 := by omega
    have hm2 : (lo + hi) / 2 < hi := by omega
    generalize (lo + hi) / 2 = m at *
    simp [hlt, s0, s1, s7, s8, hf, w1, a1, Less_iff]
    by_cases hp : nth l m < x
    · simp [hp] at hs
      simp [hp, w2]
      exact hK (hi - (m + 1)) _ _ (by omega) ⟨rfl, m + 1, hi, rfl, by omega, h2, ⟨by simp [s0], by simp [s1], by simp [s6], by simp, by simp [s8]⟩, hs⟩
    · simp [hp] at hs
      simp [hp]
      exact hK (m - lo) _ _ (by omega) ⟨rfl, lo, m, rfl, by omega, by omega, ⟨by simp [s0], by simp [s1], by simp [s6], by simp [s7], by simp⟩, hs⟩
  · have : seekI l x = lo := by rw [hs, bsr, dif_neg hlt]
    have e : lo = hi := by omega
    have hsb : seekB l x = (decide (lo < l.length) && decide (nth l lo = x)) := by unfold seekB; rw [this]
    simp [hE, hlt, s0, s1, s6, s7, this, hsb]
    by_cases hl : lo < l.length
    · have a1 := fun k => (encI_ok .i64).toEncOk.iaddr (by omega) c l k (lo : Int) h' (by omega) (by omega)
      simp only [Int.toNat_natCast] at a1
      simp [hl, s0, s1, s6, s7, a1, isNaN2_iff]
      by_cases e2 : nth l lo = x
      · simp [e2, this, hsb, hl]
      · simp [e2, s0, s1, s7, a1, isNaN2_iff, this, hsb, hl]
    · simp [hl, this, hsb]
theorem brks_rising (l : List (List Node)) (k : Nat) : Rising (brks l k) := by
  have hp : (brks l k).Pairwise (· < ·) := by
    unfold brks
    rw [List.pairwise_map]
    refine List.Pairwise.filter _ ?_
    exact (List.pairwise_lt_range (n := k)).imp (fun h => by omega)
  intro i j hij hj
  rw [nth_eq (by omega), nth_eq hj]
  exact List.pairwise_iff_getElem.1 hp i j (by omega) hj hij
end Go.Proofs.Ytcdkgonmdenakaa
