/- Plain: a line. Contracts: the breaks and a line, as the reference has them. -/
import Derived.Test.YtcdkgonmdenakaaPara3
namespace Go.Proofs.Ytcdkgonmdenakaa
open Go Go.Bm Go.Proofs
set_option linter.all false

/-! ### plain -/
def tot (l : List (List Node)) : Nat := (l.map List.length).sum
theorem tot_append (a b : List (List Node)) : tot (a ++ b) = tot a + tot b := by simp [tot]
theorem tot_take (l : List (List Node)) (k : Nat) : tot (l.take k) ≤ tot l := by
  have := tot_append (l.take k) (l.drop k)
  rw [List.take_append_drop] at this; omega
theorem trimR_tot : ∀ (n : Nat) (l : List (List Node)), l.length ≤ n → tot (trimR l) ≤ tot l
  | 0, l, h => by rw [trimR, dif_neg (by omega)]; exact Nat.le_refl _
  | n + 1, l, h => by
    rw [trimR]; split
    · exact Nat.le_trans (trimR_tot n (l.take (l.length - 1)) (by rw [List.length_take]; omega)) (tot_take _ _)
    · exact Nat.le_refl _
theorem starts_tot (xs : List Node) : ∀ {i : Nat}, OkF xs i → tot ((starts xs i).map (itemL xs)) ≤ xs.length - i := by
  intro i h
  induction h with
  | fin => rw [starts_end]; simp [tot]
  | item i hi hk hn _ ih =>
    rw [starts_lt hi, List.map_cons]
    have e : tot (itemL xs i :: (starts xs (i + 1 + (nth xs i).kids.toNat)).map (itemL xs)) = (itemL xs i).length + tot ((starts xs (i + 1 + (nth xs i).kids.toNat)).map (itemL xs)) := by simp [tot]
    have h2 : (itemL xs i).length ≤ 1 + (nth xs i).kids.toNat := by simp [itemL]; omega
    omega
theorem rowL_tot {xs : List Node} (ho : OkF xs 0) (st : Style) : tot (rowL xs st) ≤ xs.length + 3 := by
  have h1 := starts_tot xs ho
  have h2 := trimR_tot _ (itemsL xs) (Nat.le_refl _)
  have h3 : tot (tailR st) = 3 := rfl
  rw [rowL, tot_append, h3]
  have : tot (itemsL xs) ≤ xs.length - 0 := h1
  omega
theorem rowL_len {xs : List Node} (st : Style) : (rowL xs st).length ≤ (itemsL xs).length + 3 := by
  have := trimR_le _ (itemsL xs) (Nat.le_refl _)
  rw [rowL, List.length_append]
  have : (tailR st).length = 3 := rfl
  omega
/-- Where what falls away at the line's beginning ends. -/
def skipD (l : List (List Node)) (i to : Nat) : Nat := if h : i < to ∧ discB (hd1 (nth l i)).kind = true then skipD l (i + 1) to else i
termination_by to - i
decreasing_by omega
theorem skipD_le (l : List (List Node)) : ∀ (n i to : Nat), to - i ≤ n → i ≤ skipD l i to
  | 0, i, to, h => by rw [skipD, dif_neg (by omega)]; exact Nat.le_refl _
  | n + 1, i, to, h => by
    rw [skipD]; split
    · have := skipD_le l n (i + 1) to (by omega); omega
    · exact Nat.le_refl _
/-- What stands between, without hyphens. -/
def midL (l : List (List Node)) (i to : Nat) : List Node := if i < to then (if (hd1 (nth l i)).kind = 8 then [] else nth l i) ++ midL l (i + 1) to else []
termination_by to - i
theorem midL_lt {l : List (List Node)} {i to : Nat} (h : i < to) : midL l i to = (if (hd1 (nth l i)).kind = 8 then [] else nth l i) ++ midL l (i + 1) to := by rw [midL, if_pos h]
theorem midL_end {l : List (List Node)} {i to : Nat} (h : to ≤ i) : midL l i to = [] := by rw [midL, if_neg (by omega)]
theorem midL_len (l : List (List Node)) : ∀ (n i to : Nat), to - i ≤ n → to ≤ l.length → (midL l i to).length ≤ tot (l.drop i)
  | 0, i, to, h, _ => by rw [midL_end (by omega)]; simp
  | n + 1, i, to, h, ht => by
    by_cases hlt : i < to
    · have := midL_len l n (i + 1) to (by omega) ht
      rw [midL_lt hlt, drop_eq (show i < l.length by omega), List.length_append]
      have e : tot (nth l i :: l.drop (i + 1)) = (nth l i).length + tot (l.drop (i + 1)) := by simp [tot]
      have : (if (hd1 (nth l i)).kind = 8 then [] else nth l i).length ≤ (nth l i).length := by split <;> simp
      omega
    · rw [midL_end (by omega)]; simp
theorem tot_drop (l : List (List Node)) (k : Nat) : tot (l.drop k) ≤ tot l := by
  have := tot_append (l.take k) (l.drop k)
  rw [List.take_append_drop] at this; omega
def hyph1 (x : Node) : Node := { x with kind := 1 }
def lineL (l : List (List Node)) (st : Style) (start to : Nat) : List Node :=
  glu st.left :: midL l (skipD l start to) to ++ (if (hd1 (nth l to)).kind = 8 then [hyph1 (hd1 (nth l to))] else []) ++ [glu st.right]
def lineA (xs : List Node) (st : Style) (a b : Int) : List Node :=
  if (a = -1 ∨ a ∈ brkL xs st) ∧ b ∈ brkL xs st ∧ a < b then lineL (rowL xs st) st (a + 1).toNat b.toNat else []

/-! ### the reference -/
theorem lit1I2 (n : Int) (h : AH) : bsliceFA 1 1 [.int .i64 0] [(0, .int .i64 n)] h = some (.fs (some 1) [[.int .i64 n]], h) := lit1I n h
set_option maxRecDepth 100000 in
theorem l9Breaks_iff (xs : List Node) (hb : xs.length ≤ 1048576) (a1 a2 a3 a4 a5 a6 a7 a8 b1 b2 b3 b4 b5 c1 c2 c3 c4 c5 d1 d2 d3 d4 d5 : Int) (st : Style) (hst : st = ⟨a1, a2, a3, a4, a5, a6, a7, a8, ⟨b1, b2, b3, b4, b5⟩, ⟨c1, c2, c3, c4, c5⟩, ⟨d1, d2, d3, d4, d5⟩⟩) (h : AH) (R : AV → AH → Prop) : acallM CA .frz 25 [.fs none (xs.map Node.enc), .agg [.int .i64 a1, .int .i64 a2, .int .i64 a3, .int .i64 a4, .int .i64 a5, .int .i64 a6, .int .i64 a7, .int .i64 a8, .int .i64 b1, .int .i64 b2, .int .i64 b3, .int .i64 b4, .int .i64 b5, .int .i64 c1, .int .i64 c2, .int .i64 c3, .int .i64 c4, .int .i64 c5, .int .i64 d1, .int .i64 d2, .int .i64 d3, .int .i64 d4, .int .i64 d5]] h R ↔
    R (.tup [.fs none ((if paraB xs st = true then rowL xs st else []).map (encS Node.enc)), .fs none ((brkL xs st).map (encI .i64))]) h := by
  refine ca_frz (af := ac25) rfl ?_
  simp [ac25, specStyleOk_iff, specListOk_iff xs hb, specItems_iff xs hb]
  rw [← hst]
  have hp : paraB xs st = (styleB st && listB xs && decide ((itemsL xs).length ≤ 2000) && decide ((brks (rowL xs st) (rowL xs st).length).length ≤ 300)) := rfl
  cases h1 : styleB st with
  | false => simp [h1] at hp; simp [hp, brkL]
  | true =>
  cases h2 : listB xs with
  | false => simp [h1, h2] at hp; simp [hp, brkL, specListOk_iff xs hb, h2]
  | true =>
  simp [h2, specListOk_iff xs hb, specItems_iff xs hb]
  by_cases h3 : 2000 < ((itemsL xs).length : Int)
  · have : ¬ (itemsL xs).length ≤ 2000 := by omega
    simp [h1, h2, this] at hp
    simp [h3, hp, brkL]
  simp [h3, l9Row_iff xs hb h2]
  rw [← hst]
  obtain ⟨_, ho⟩ := listB_ok h2
  have hrl := rowL_len (xs := xs) st
  have hne := fun x hx => row_ne (xs := xs) (st := st) x hx
  have hmp := hp
  simp [h1, h2, show (itemsL xs).length ≤ 2000 by omega] at hp
  clear hmp
  have hbk : brkL xs st = if paraB xs st = true then brks (rowL xs st) (rowL xs st).length else [] := rfl
  generalize rowL xs st = l at *
  refine awp_loop2 caM (fun n s h' => ∃ (i : Nat) (v : AV), n = l.length - i ∧ i ≤ l.length ∧ (s 6 = v ∧ s 7 = .fs none (l.map (encS Node.enc)) ∧ s 8 = .int .i64 i) ∧ Own h 1 (encI .i64) h' v (brks l i)) ?_ (n := l.length) ⟨0, .fs (some 0) [], by simp, by simp, by simp, by simpa [brks] using Own.lit0 (encI_ok .i64).toEncOk (AH.le_refl h)⟩
  rintro n s h' ⟨i, v, rfl, hi, ⟨s6, s7, s8⟩, O⟩ K hK hE hQ
  simp [s6, s7, s8]
  have hbl := brks_len l i
  by_cases hlt : i < l.length
  · have w1 : IntKind.wrap .i64 ((i : Int) + 1) = (i : Int) + 1 := wrap_i64 (by omega) (by omega)
    simp [hlt, s6, s7, s8, l9Is_iff l hne (by omega) i hlt]
    cases hk : isBrk l i with
    | true =>
      obtain ⟨v2, h2, ea, O2, _⟩ := O.append1 (some 1) (i : Int) [.int .i64 (i : Int)] rfl 8 (by omega) (by omega)
      simp [s6, s8, lit1I, ea, w1]
      exact hK (l.length - (i + 1)) _ _ (by omega) ⟨i + 1, v2, rfl, by omega, ⟨by simp, by simp [s7], by simp⟩, by rw [brks_succ, hk]; exact O2⟩
    | false =>
      simp [s8, w1]
      exact hK (l.length - (i + 1)) _ _ (by omega) ⟨i + 1, v, rfl, by omega, ⟨by simp [s6], by simp [s7], by simp⟩, by rw [brks_succ, hk]; exact O⟩
  · obtain rfl : i = l.length := by omega
    simp [hE, s6, O.len]
    by_cases h4 : 300 < ((brks l l.length).length : Int)
    · have : ¬ (brks l l.length).length ≤ 300 := by omega
      simp [this] at hp
      simp [h4, hbk, hp, O.le]
    · simp [show (brks l l.length).length ≤ 300 by omega] at hp
      simp [h4, s7, s6, hbk, hp, O.le]
      rw [O.frz19 (encI_ok .i64)]
theorem specBreakList_iff (xs : List Node) (hb : xs.length ≤ 1048576) (st : Style) (h : AH) (R : AV → AH → Prop) : acallM CA .frz 7 [.fs none (xs.map Node.enc), .agg st.enc] h R ↔ R (.fs none ((brkL xs st).map (encI .i64))) h := by
  refine ca_frz (af := ac7) rfl ?_
  simp [ac7, l9Breaks_iff xs hb _ _ _ _ _ _ _ _ _ _ _ _ _ _ _ _ _ _ _ _ _ _ _ st rfl]
end Go.Proofs.Ytcdkgonmdenakaa
