/- Plain: numbers that rise, and where one stands among them. Fonts: glyphs, pairs, words. -/
import Derived.Test.YtbajchkpehdolaaDim
import Derived.Test.YtbajchkpehdolaaBmSt
namespace Go.Proofs.Ytbajchkpehdolaa
open Go Go.Bm Go.Proofs
set_option linter.all false

/-! ### the search -/
def bsr (p : Nat → Bool) (lo hi : Nat) : Nat := if h : lo < hi then (if p ((lo + hi) / 2) then bsr p ((lo + hi) / 2 + 1) hi else bsr p lo ((lo + hi) / 2)) else lo
termination_by hi - lo
decreasing_by all_goals omega
theorem bsr_spec (p : Nat → Bool) (N : Nat) (mono : ∀ i j, i ≤ j → j < N → p j = true → p i = true) : ∀ (n lo hi : Nat), hi - lo ≤ n → lo ≤ hi → hi ≤ N → (∀ i, i < lo → p i = true) → (∀ i, hi ≤ i → i < N → p i = false) →
    bsr p lo hi ≤ N ∧ (∀ i, i < bsr p lo hi → p i = true) ∧ ∀ i, bsr p lo hi ≤ i → i < N → p i = false := by
  intro n
  induction n with
  | zero =>
    intro lo hi h1 h2 h3 h4 h5
    unfold bsr
    rw [dif_neg (by omega)]
    exact ⟨by omega, h4, fun i hi' => h5 i (by omega)⟩
  | succ n ih =>
    intro lo hi h1 h2 h3 h4 h5
    unfold bsr
    split
    · split
      · rename_i hp
        exact ih _ _ (by omega) (by omega) h3 (fun i hi' => mono i _ (by omega) (by omega) hp) h5
      · rename_i hp
        refine ih _ _ (by omega) (by omega) (by omega) h4 (fun i hi' hiN => ?_)
        cases hpi : p i with
        | false => rfl
        | true => exact absurd (mono _ i hi' hiN hpi) hp
    · exact ⟨by omega, h4, fun i hi' => h5 i (by omega)⟩
theorem bsr_le (p : Nat → Bool) : ∀ (n lo hi : Nat), hi - lo ≤ n → lo ≤ hi → lo ≤ bsr p lo hi ∧ bsr p lo hi ≤ hi := by
  intro n
  induction n with
  | zero => intro lo hi h1 h2; unfold bsr; rw [dif_neg (by omega)]; omega
  | succ n ih =>
    intro lo hi h1 h2
    unfold bsr
    split
    · split
      · have := ih ((lo + hi) / 2 + 1) hi (by omega) (by omega); omega
      · have := ih lo ((lo + hi) / 2) (by omega) (by omega); omega
    · omega
/-- Numbers that rise. -/
def Rising (l : List Int) : Prop := ∀ i j, i < j → j < l.length → nth l i < nth l j
def seekI (l : List Int) (x : Int) : Nat := bsr (fun i => decide (nth l i < x)) 0 l.length
def seekB (l : List Int) (x : Int) : Bool := decide (seekI l x < l.length) && decide (nth l (seekI l x) = x)
theorem seekI_le (l : List Int) (x : Int) : seekI l x ≤ l.length := (bsr_le _ l.length 0 l.length (by omega) (by omega)).2
theorem seekB_iff {l : List Int} (hr : Rising l) (x : Int) : seekB l x = decide (x ∈ l) := by
  have sp := bsr_spec (fun i => decide (nth l i < x)) l.length (fun i j hij hj hp => by
    simp only [decide_eq_true_eq] at hp ⊢
    rcases Nat.lt_or_eq_of_le hij with h | rfl
    · have := hr i j h hj; omega
    · exact hp) l.length 0 l.length (by omega) (by omega) (Nat.le_refl _) (fun i h => by omega) (fun i h1 h2 => by omega)
  rw [Bool.eq_iff_iff]
  simp only [seekB, Bool.and_eq_true, decide_eq_true_eq]
  constructor
  · rintro ⟨h1, h2⟩
    rw [← h2]; exact nth_mem h1
  · intro hx
    obtain ⟨j, hj, e⟩ := List.getElem_of_mem hx
    have e' : nth l j = x := by rw [nth_eq hj, e]
    have hge : ¬ j < seekI l x := fun h => by
      have := sp.2.1 j h
      simp only [decide_eq_true_eq] at this; omega
    have hlt : seekI l x < l.length := by omega
    refine ⟨hlt, ?_⟩
    rcases Nat.lt_or_eq_of_le (Nat.le_of_not_lt hge) with h | h
    · have h1 := hr _ j h hj
      have h2 := sp.2.2 (seekI l x) (Nat.le_refl _) hlt
      simp only [decide_eq_false_iff_not] at h2
      omega
    · rw [h]; exact e'

theorem map_nth {α β : Type} [Inhabited α] [Inhabited β] (f : α → β) (xs : List α) {i : Nat} (h : i < xs.length) : nth (xs.map f) i = f (nth xs i) := nth_map f h

/-! ### glyphs -/
def codes (gs : List Glyph) : List Int := gs.map fun g => g.code
def hasG (gs : List Glyph) (c : Int) : Bool := gs.any fun g => decide (g.code = c)
theorem hasG_mem (gs : List Glyph) (c : Int) : hasG gs c = decide (c ∈ codes gs) := by
  rw [Bool.eq_iff_iff]
  simp [hasG, codes]
/-- The first glyph of that code. -/
def firstG (gs : List Glyph) (c : Int) : Glyph := (gs.find? fun g => decide (g.code = c)).getD ⟨0, 0, 0, 0⟩
def sizB (n : Int) : Bool := decide (0 ≤ n) && decide (n ≤ 6553600)
/-- The glyph at a place: a code in its range above the one before it, sizes in theirs. -/
def glyphAt (gs : List Glyph) (i : Nat) : Bool := decide (0 ≤ (nth gs i).code) && decide ((nth gs i).code ≤ 255) && !(decide (0 < i) && decide ((nth gs i).code ≤ (nth gs (i - 1)).code)) && sizB (nth gs i).width && sizB (nth gs i).height && sizB (nth gs i).depth
def glyphsB (gs : List Glyph) : Bool := (List.range gs.length).all (glyphAt gs)
theorem glyphs_at {gs : List Glyph} (h : glyphsB gs = true) {i : Nat} (hi : i < gs.length) : glyphAt gs i = true := by
  simp only [glyphsB, List.all_eq_true] at h
  exact h i (List.mem_range.2 hi)
theorem rising_of {gs : List Glyph} {n : Nat} (hn : n ≤ gs.length) (h : (List.range n).all (glyphAt gs) = true) : Rising (codes (gs.take n)) := by
  have step : ∀ i, i + 1 < n → (nth gs i).code < (nth gs (i + 1)).code := by
    intro i hi
    rw [List.all_eq_true] at h
    have := h (i + 1) (List.mem_range.2 hi)
    simp [glyphAt] at this
    omega
  have all : ∀ j i, i < j → j < n → (nth gs i).code < (nth gs j).code := by
    intro j
    induction j with
    | zero => intro i h1; omega
    | succ j ih =>
      intro i h1 h2
      by_cases e : i = j
      · rw [e]; exact step j h2
      · have := ih i (by omega) (by omega); have := step j h2; omega
  intro i j hij hj
  have hl : (codes (gs.take n)).length = n := by simp [codes]; omega
  rw [hl] at hj
  have e : ∀ k, k < n → nth (codes (gs.take n)) k = (nth gs k).code := fun k hk => by
    have h1 : k < (gs.take n).length := by rw [List.length_take]; omega
    rw [codes, map_nth _ _ h1, nth_eq h1, nth_eq (show k < gs.length by omega)]
    simp
  rw [e i (by omega), e j hj]
  exact all j i hij hj
theorem glyphs_rising {gs : List Glyph} (h : glyphsB gs = true) : Rising (codes gs) := by
  have := rising_of (Nat.le_refl gs.length) h
  rwa [List.take_length] at this
theorem codes_len (gs : List Glyph) : (codes gs).length = gs.length := List.length_map _
theorem codes_nth {gs : List Glyph} {i : Nat} (h : i < gs.length) : nth (codes gs) i = (nth gs i).code := nth_map _ h
/-- So there are no more than codes. -/
theorem glyphs_len {gs : List Glyph} (h : glyphsB gs = true) : gs.length ≤ 256 := by
  have hr := glyphs_rising h
  have low : ∀ i, i < gs.length → (i : Int) ≤ (nth gs i).code := by
    intro i
    induction i with
    | zero => intro hi; have := glyphs_at h hi; simp [glyphAt] at this; omega
    | succ i ih =>
      intro hi
      have := ih (by omega)
      have h2 := hr i (i + 1) (by omega) (by rw [codes_len]; exact hi)
      rw [codes_nth hi, codes_nth (show i < gs.length by omega)] at h2
      omega
  by_cases e : gs.length = 0
  · omega
  · have h1 := low (gs.length - 1) (by omega)
    have h2 := glyphs_at h (show gs.length - 1 < gs.length by omega)
    simp [glyphAt] at h2
    omega
/-- Where a code stands: found by the search. -/
def glyphI (gs : List Glyph) (c : Int) : Int := if seekB (codes gs) c = true then (seekI (codes gs) c : Int) else -1
theorem glyphI_neg {gs : List Glyph} (h : glyphsB gs = true) (c : Int) : decide (glyphI gs c < 0) = !hasG gs c := by
  rw [hasG_mem, ← seekB_iff (glyphs_rising h)]
  unfold glyphI
  cases seekB (codes gs) c <;> simp
theorem find_code : ∀ {gs : List Glyph} {c : Int} {i : Nat}, i < gs.length → (nth gs i).code = c → (∀ j, j < i → (nth gs j).code ≠ c) → gs.find? (fun g => decide (g.code = c)) = some (nth gs i)
  | [], _, _, h, _, _ => by simp at h
  | g :: gs, c, 0, h, e, _ => by
    have e' : g.code = c := e
    simp [e', nth_cons_zero]
  | g :: gs, c, i + 1, h, e, hn => by
    have h0 : g.code ≠ c := by have := hn 0 (by omega); rwa [nth_cons_zero] at this
    rw [nth_cons_succ] at e ⊢
    rw [List.find?_cons_of_neg (by simpa using h0)]
    exact find_code (by simpa using h) e fun j hj => by have := hn (j + 1) (by omega); rwa [nth_cons_succ] at this
theorem glyphI_at {gs : List Glyph} (h : glyphsB gs = true) {c : Int} (hc : hasG gs c = true) : 0 ≤ glyphI gs c ∧ glyphI gs c < gs.length ∧ nth gs (glyphI gs c).toNat = firstG gs c := by
  have hb : seekB (codes gs) c = true := by
    rw [hasG_mem, ← seekB_iff (glyphs_rising h)] at hc; exact hc
  have e : glyphI gs c = (seekI (codes gs) c : Nat) := by simp [glyphI, hb]
  have hb2 := hb
  simp only [seekB, Bool.and_eq_true, decide_eq_true_eq] at hb2
  obtain ⟨h1, h2⟩ := hb2
  rw [codes_len] at h1
  rw [codes_nth h1] at h2
  rw [e]
  refine ⟨by omega, by omega, ?_⟩
  rw [Int.toNat_natCast]
  have := find_code h1 h2 (fun j hj => by
    have := glyphs_rising h j (seekI (codes gs) c) hj (by rw [codes_len]; exact h1)
    rw [codes_nth (show j < gs.length by omega), codes_nth h1] at this
    omega)
  rw [firstG, this]; rfl

/-! ### pairs -/
def pairLt (a b : Pair) : Bool := decide (a.left < b.left) || (decide (a.left = b.left) && decide (a.right < b.right))
def pairAt (gs : List Glyph) (ps : List Pair) (i : Nat) : Bool := !(decide (0 < i) && !pairLt (nth ps (i - 1)) (nth ps i)) && hasG gs (nth ps i).left && hasG gs (nth ps i).right &&
  (if (nth ps i).lig = -1 then decide (-6553600 ≤ (nth ps i).kern) && decide ((nth ps i).kern ≤ 6553600) else decide ((nth ps i).kern = 0) && hasG gs (nth ps i).lig)
def pairsB (gs : List Glyph) (ps : List Pair) : Bool := (List.range ps.length).all (pairAt gs ps)
def isP (a b : Int) (p : Pair) : Bool := decide (p.left = a) && decide (p.right = b)
def findP (ps : List Pair) (a b : Int) : Option Pair := ps.find? (isP a b)
theorem pairs_lt {gs : List Glyph} {ps : List Pair} {n : Nat} (hn : n ≤ ps.length) (h : (List.range n).all (pairAt gs ps) = true) : ∀ j i, i < j → j < n → pairLt (nth ps i) (nth ps j) = true := by
  have step : ∀ i, i + 1 < n → pairLt (nth ps i) (nth ps (i + 1)) = true := by
    intro i hi
    rw [List.all_eq_true] at h
    have := h (i + 1) (List.mem_range.2 hi)
    simp only [pairAt, Bool.and_eq_true] at this
    have := this.1.1.1
    simpa using this
  intro j
  induction j with
  | zero => intro i h1; omega
  | succ j ih =>
    intro i h1 h2
    by_cases e : i = j
    · rw [e]; exact step j h2
    · have a := ih i (by omega) (by omega)
      have b := step j h2
      simp [pairLt] at a b ⊢
      omega
def fontB (f : Font) : Bool := decide (f.name.size ≤ 40) && decide (f.pairs.length ≤ 2000) && (fitsB f.space.size && fitsB f.space.plus && fitsB f.space.minus && ordB f.space.plusOrder && ordB f.space.minusOrder) && decide (0 ≤ f.space.size) && decide (f.space.plusOrder = 0) && decide (f.space.minusOrder = 0) && sizB f.quad && sizB f.rise && glyphsB f.glyphs && pairsB f.glyphs f.pairs
end Go.Proofs.Ytbajchkpehdolaa
