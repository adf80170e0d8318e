/- Plain: a word parted. -/
import Derived.Test.YtimpbgncgdaofaaDoorB13
namespace Go.Proofs.YtimpbgncgdaofaaDoor
open Go Go.Bm Go.Proofs
set_option linter.all false

/-- The first k letters, each with a sign ahead of it where a place is. -/
def imp (at_ : List Int) (l : List UInt8) : Nat → List UInt8
  | 0 => []
  | k + 1 => imp at_ l k ++ ((if (k : Int) ∈ at_ then [45] else []) ++ [nth l k])
def dash (at_ : List Int) (k : Nat) : List UInt8 := if (k : Int) ∈ at_ then [45] else []
theorem imp_len (at_ : List Int) (l : List UInt8) : ∀ k, (imp at_ l k).length ≤ 2 * k
  | 0 => by simp [imp]
  | k + 1 => by
    have := imp_len at_ l k
    rw [imp, List.length_append, List.length_append]
    split <;> simp <;> omega
/-- Between two places all is as it stands. -/
theorem imp_run (at_ : List Int) (l : List UInt8) (f : Nat) : ∀ (d : Nat), f + (d + 1) ≤ l.length → (∀ k, f < k → k < f + (d + 1) → ¬ (k : Int) ∈ at_) → imp at_ l (f + (d + 1)) = imp at_ l f ++ dash at_ f ++ (l.take (f + (d + 1))).drop f := by
  intro d
  induction d with
  | zero =>
    intro hl hk
    have e : (l.take (f + 1)).drop f = [nth l f] := by
      rw [take_succ (by omega), List.drop_append_of_le_length (by rw [List.length_take]; omega), List.drop_of_length_le (by rw [List.length_take]; omega)]
      rfl
    rw [Nat.zero_add, e]
    show imp at_ l f ++ ((if (f : Int) ∈ at_ then [45] else []) ++ [nth l f]) = _
    simp [dash]
  | succ d ih =>
    intro hl hk
    have h1 := ih (by omega) (fun k h1 h2 => hk k h1 (by omega))
    have hno := hk (f + (d + 1)) (by omega) (by omega)
    have e : (l.take (f + (d + 1 + 1))).drop f = (l.take (f + (d + 1))).drop f ++ [nth l (f + (d + 1))] := by
      rw [show f + (d + 1 + 1) = f + (d + 1) + 1 by omega, take_succ (by omega), List.drop_append_of_le_length (by rw [List.length_take]; omega)]
    show imp at_ l (f + (d + 1)) ++ ((if ((f + (d + 1) : Nat) : Int) ∈ at_ then [45] else []) ++ [nth l (f + (d + 1))]) = _
    rw [if_neg hno, List.nil_append, h1, e, List.append_assoc]
theorem imp_run' (at_ : List Int) (l : List UInt8) {f t : Nat} (h1 : f < t) (hl : t ≤ l.length) (hk : ∀ k, f < k → k < t → ¬ (k : Int) ∈ at_) : imp at_ l t = imp at_ l f ++ dash at_ f ++ (l.take t).drop f := by
  obtain ⟨d, rfl⟩ : ∃ d, t = f + (d + 1) := ⟨t - f - 1, by omega⟩
  exact imp_run at_ l f d hl hk
/-! ### the places stand in order -/
structure Ord (xs : List Int) (n : Nat) : Prop where
  lt : xs.Pairwise (· < ·)
  rg : ∀ x ∈ xs, 1 ≤ x ∧ x < n
theorem Ord.filter {xs : List Int} {n : Nat} (h : Ord xs n) (p : Int → Bool) : Ord (xs.filter p) n := ⟨h.lt.filter p, fun x hx => h.rg x (List.mem_filter.1 hx).1⟩
theorem odds_ord (ms : List Int) (n : Nat) : ∀ q, q ≤ n → Ord (odds ms q) n ∧ ∀ x ∈ odds ms q, x < q
  | 0, _ => ⟨⟨List.Pairwise.nil, fun x hx => by cases hx⟩, fun x hx => by cases hx⟩
  | q + 1, hq => by
    obtain ⟨h1, h2⟩ := odds_ord ms n q (by omega)
    rw [odds]
    split
    · rename_i hc
      refine ⟨⟨?_, fun x hx => ?_⟩, fun x hx => ?_⟩
      · rw [List.pairwise_append]
        exact ⟨h1.lt, by simp, fun a ha b hb => by rw [List.mem_singleton.1 hb]; exact h2 a ha⟩
      · rcases List.mem_append.1 hx with hx | hx
        · exact h1.rg x hx
        · rw [List.mem_singleton.1 hx]; omega
      · rcases List.mem_append.1 hx with hx | hx
        · have := h2 x hx; omega
        · rw [List.mem_singleton.1 hx]; omega
    · exact ⟨h1, fun x hx => by have := h2 x hx; omega⟩
theorem exc_ord {x : Exception} (h : excB x = true) : Ord x.places x.word.size := by
  simp only [excB, Bool.and_eq_true] at h
  have hf := rall_iff.1 h.2
  have lt : ∀ (j i : Nat), i < j → j < x.places.length → nth x.places i < nth x.places j := by
    intro j
    induction j with
    | zero => intro i h1; omega
    | succ j ih =>
      intro i h1 h2
      have hj := hf (j + 1) h2
      simp [excF] at hj
      by_cases e : i = j
      · rw [e]; exact hj.2
      · have := ih i (by omega) (by omega); omega
  refine ⟨List.pairwise_iff_getElem.2 fun i j hi hj hij => ?_, fun y hy => ?_⟩
  · have := lt j i hij hj
    rwa [nth_eq hi, nth_eq hj] at this
  · obtain ⟨k, hk, rfl⟩ := List.mem_iff_getElem.1 hy
    have hj := hf k hk
    simp [excF] at hj
    rw [nth_eq hk] at hj
    exact hj.1
theorem hyph_ord (ps : List Pattern) (ws : List Exception) (s : ByteArray) (left right : Int) : Ord (hyphL ps ws s left right) s.size := by
  unfold hyphL
  split
  · rename_i hb
    refine Ord.filter ?_ _
    have hlz := lowS_size s
    obtain ⟨hk, _⟩ := marks_book hb
    unfold placesL
    split
    · rename_i hlb
      have h2 : lookI ws (lowS s) < ws.length ∧ (nth ws (lookI ws (lowS s))).word = lowS s := by simpa [lookB] using hlb
      have hwrd : wrdF ws (lookI ws (lowS s)) = true := by
        simp only [bookB, Bool.and_eq_true] at hk
        exact rall_iff.1 hk.2 _ h2.1
      have he : excB (nth ws (lookI ws (lowS s))) = true := by
        simp only [wrdF, Bool.and_eq_true] at hwrd
        exact hwrd.1
      have := exc_ord he
      rw [h2.2, hlz] at this
      exact this
    · rw [hlz]
      exact (odds_ord _ s.size s.size (Nat.le_refl _)).1
  · exact ⟨List.Pairwise.nil, fun x hx => by cases hx⟩
end Go.Proofs.YtimpbgncgdaofaaDoor
