/- Contracts: Parted, of both; the law. -/
import Derived.Test.YtimpbgncgdaofaaDoorB14
namespace Go.Proofs.YtimpbgncgdaofaaDoor
open Go Go.Bm Go.Proofs
set_option linter.all false

def bs (l : List UInt8) : ByteArray := ⟨l.toArray⟩
theorem bs_append (a b : List UInt8) : bs a ++ bs b = bs (a ++ b) := by
  apply ByteArray.ext
  simp [bs, ByteArray.data_append]
theorem bs_size (a : List UInt8) : (bs a).size = a.length := by simp [bs, ByteArray.size]
theorem bs_extract (s : ByteArray) (f t : Nat) : s.extract f t = bs ((s.toList.take t).drop f) := by
  apply ByteArray.ext
  apply Array.ext'
  rw [extract_toList, Lib.toList_data]
  rfl
/-- Where the part that comes next begins. -/
def fr (xs : List Int) : Nat → Nat
  | 0 => 0
  | j + 1 => (nth xs j).toNat
def sofar (xs : List Int) (l : List UInt8) (j : Nat) : List UInt8 := imp xs l (fr xs j) ++ dash xs (fr xs j)
def partB (ps : List Pattern) (ws : List Exception) (s : ByteArray) (left right : Int) : ByteArray := if marksB ps ws s then bs (imp (hyphL ps ws s left right) s.toList s.size) else ⟨#[]⟩
theorem ord_nth {xs : List Int} {n : Nat} (h : Ord xs n) {j : Nat} (hj : j < xs.length) : 1 ≤ nth xs j ∧ nth xs j < n ∧ nth xs j ∈ xs := by
  have hm : nth xs j ∈ xs := by rw [nth_eq hj]; exact List.getElem_mem hj
  exact ⟨(h.rg _ hm).1, (h.rg _ hm).2, hm⟩
theorem ord_lt {xs : List Int} {n : Nat} (h : Ord xs n) {i j : Nat} (hij : i < j) (hj : j < xs.length) : nth xs i < nth xs j := by
  rw [nth_eq (by omega), nth_eq hj]
  exact List.pairwise_iff_getElem.1 h.lt i j (by omega) hj hij
theorem ord_idx {xs : List Int} {k : Nat} (h : (k : Int) ∈ xs) : ∃ m, m < xs.length ∧ nth xs m = k := by
  obtain ⟨m, hm, e⟩ := List.mem_iff_getElem.1 h
  exact ⟨m, hm, by rw [nth_eq hm]; exact e⟩
theorem fr_lt {xs : List Int} {n : Nat} (h : Ord xs n) {j : Nat} (hj : j < xs.length) : fr xs j < (nth xs j).toNat := by
  cases j with
  | zero => have := ord_nth h hj; simp only [fr]; omega
  | succ j =>
    have := ord_lt h (show j < j + 1 by omega) hj
    have h1 := ord_nth h (show j < xs.length by omega)
    simp only [fr]; omega
theorem fr_last {xs : List Int} {n : Nat} (hn : 1 ≤ n) (h : Ord xs n) {j : Nat} (hj : j ≤ xs.length) : fr xs j < n := by
  cases j with
  | zero => simp only [fr]; omega
  | succ j => have := ord_nth h (show j < xs.length by omega); simp only [fr]; omega
/-- No place lies between. -/
theorem fr_none {xs : List Int} {n : Nat} (h : Ord xs n) {j : Nat} (hj : j ≤ xs.length) {k : Nat} (h1 : fr xs j < k) (h2 : ∀ hj2 : j < xs.length, k < (nth xs j).toNat) : ¬ (k : Int) ∈ xs := by
  intro hk
  obtain ⟨m, hm, e⟩ := ord_idx hk
  by_cases c : m < j
  · obtain ⟨j', rfl⟩ : ∃ j', j = j' + 1 := ⟨j - 1, by omega⟩
    have hle : nth xs m ≤ nth xs j' := by
      by_cases c2 : m = j'
      · rw [c2]; omega
      · have := ord_lt h (show m < j' by omega) (by omega); omega
    have := ord_nth h hm
    simp only [fr] at h1
    omega
  · have hj2 : j < xs.length := by omega
    have := h2 hj2
    have hle : nth xs j ≤ nth xs m := by
      by_cases c2 : j = m
      · rw [c2]; omega
      · have := ord_lt h (show j < m by omega) hm; omega
    omega
theorem sofar_step {xs : List Int} {l : List UInt8} (h : Ord xs l.length) {j : Nat} (hj : j < xs.length) : sofar xs l (j + 1) = sofar xs l j ++ (l.take (nth xs j).toNat).drop (fr xs j) ++ [45] := by
  have h1 := fr_lt h hj
  obtain ⟨n1, n2, n3⟩ := ord_nth h hj
  have e := imp_run' xs l h1 (by omega) fun k k1 k2 => fr_none h (by omega) k1 fun _ => k2
  have hd : dash xs (nth xs j).toNat = [45] := by
    unfold dash
    rw [if_pos (by rw [show (((nth xs j).toNat : Nat) : Int) = nth xs j by omega]; exact n3)]
  show imp xs l (nth xs j).toNat ++ dash xs (nth xs j).toNat = _
  rw [e, hd]
  rfl
theorem sofar_end {xs : List Int} {l : List UInt8} (hl : 1 ≤ l.length) (h : Ord xs l.length) : imp xs l l.length = sofar xs l xs.length ++ (l.take l.length).drop (fr xs xs.length) :=
  imp_run' xs l (fr_last hl h (Nat.le_refl _)) (Nat.le_refl _) fun k k1 k2 => fr_none h (Nat.le_refl _) k1 fun hj => absurd hj (by omega)
theorem sofar_zero {xs : List Int} {n : Nat} (l : List UInt8) (h : Ord xs n) : sofar xs l 0 = [] := by
  unfold sofar dash
  rw [if_neg]
  · rfl
  · intro hm
    have h2 := (h.rg _ hm).1
    rw [show fr xs 0 = 0 from rfl] at h2
    exact absurd h2 (by decide)
theorem sofar_len (xs : List Int) (l : List UInt8) {j n : Nat} (h : fr xs j ≤ n) : (sofar xs l j).length ≤ 2 * n + 1 := by
  have := imp_len xs l (fr xs j)
  unfold sofar dash
  rw [List.length_append]
  split <;> simp <;> omega
set_option maxRecDepth 100000 in
theorem specParted_iff (ps : List Pattern) (ws : List Exception) (s : ByteArray) (left right : Int) (hs : s.size ≤ 1048576) (hW : Book.W ⟨ps, ws⟩ ≤ 1048576) (h : AH) (R : AV → AH → Prop) :
    CA 18 [.agg [.fs none (ps.map Pattern.enc), .fs none (ws.map Exception.enc)], .str s, .int .i64 left, .int .i64 right] h R ↔ R (.str (partB ps ws s left right)) h := by
  refine ca_pure (af := ac18) rfl ?_
  have ho := hyph_ord ps ws s left right
  have hxl := hyphL_len ps ws s left right hs hW
  have hsz := sz_list s
  rw [← hsz] at ho
  simp [ac18, specHyph_iff ps ws s left right hs hW]
  generalize hxs : hyphL ps ws s left right = xs at *
  refine awp_loop2 caM (fun n st h' => h' = h ∧ ∃ j : Nat, n = xs.length - j ∧ j ≤ xs.length ∧ (st 1 = .str s ∧ st 9 = .fs none (xs.map (encI .i64)) ∧ st 10 = .str (bs (sofar xs s.toList j)) ∧ st 11 = .int .i64 (fr xs j) ∧ st 12 = .int .i64 j ∧ st 100004 = .agg [.fs none (ps.map Pattern.enc), .fs none (ws.map Exception.enc)])) ?_ (n := xs.length) ⟨rfl, 0, by simp, by simp, by simp [sofar_zero s.toList ho, fr, bs]⟩
  rintro n st h' ⟨rfl, j, rfl, hj, s1, s9, s10, s11, s12, s4⟩ K hK hE hQ
  simp [s12, s9]
  by_cases hlt : j < xs.length
  · have a1 := (encI_ok .i64).toEncOk.iaddr (by omega) none xs .i64 (j : Int) h' (by omega) (by omega)
    simp only [Int.toNat_natCast] at a1
    have hwr : IntKind.wrap .i64 ((j : Int) + 1) = (j : Int) + 1 := wrap_i64 (by omega) (by omega)
    obtain ⟨n1, n2, n3⟩ := ord_nth ho hlt
    have hfl := fr_lt ho hlt
    have hsl : slstrA (.str s) (some (.int .i64 (fr xs j : Int))) (some (.int .i64 (nth xs j))) h' = some (.str (s.extract (fr xs j) (nth xs j).toNat), h') := by
      simp only [slstrA, bound]
      rw [if_pos ⟨by omega, by omega⟩]
      simp only []
      rw [if_pos ⟨by omega, by omega⟩]
      simp
    rw [bs_extract] at hsl
    have hl1 := sofar_len xs s.toList (j := j) (n := s.size) (by omega)
    have hl2 : ((s.toList.take (nth xs j).toNat).drop (fr xs j)).length ≤ s.size := by rw [List.length_drop, List.length_take]; omega
    have e1 := binStr_add (bs (sofar xs s.toList j)) (bs ((s.toList.take (nth xs j).toNat).drop (fr xs j))) (by rw [bs_size, bs_size]; omega)
    rw [bs_append] at e1
    have e2 := binStr_add (bs (sofar xs s.toList j ++ (s.toList.take (nth xs j).toNat).drop (fr xs j))) (bs [45]) (by rw [bs_size, bs_size, List.length_append]; simp; omega)
    rw [bs_append, ← sofar_step ho hlt] at e2
    have e2' : binStr .add (bs (sofar xs s.toList j ++ (s.toList.take (nth xs j).toNat).drop (fr xs j))) ⟨#[45]⟩ = some (.str (bs (sofar xs s.toList (j + 1)))) := e2
    simp [hlt, s1, s9, s10, s11, s12, s4, a1, hsl, e1, e2', hwr]
    exact hK (xs.length - (j + 1)) _ _ (by omega) ⟨rfl, j + 1, rfl, by omega, by simp [s1], by simp [s9], by simp, by simp [fr]; omega, by simp, by simp [s4]⟩
  · obtain rfl : j = xs.length := by omega
    simp [hE, s4, s1, specMarks_iff ps ws s hs hW]
    cases hb : marksB ps ws s with
    | false =>
      have e : marksL ps ws s = [] := by simp [marksL, hb]
      simp [e, partB, hb]
    | true =>
      obtain ⟨e1, e2⟩ := marksL_true hb
      have hne : ¬ marksL ps ws s = [] := fun e => by rw [e] at e2; simp at e2
      have hne2 : ¬ ((marksL ps ws s).length : Int) = 0 := by omega
      have hpos := (word_size (marks_book hb).2).1
      have hfr := fr_last (by omega) ho (Nat.le_refl xs.length)
      have hsl : slstrA (.str s) (some (.int .i64 (fr xs xs.length : Int))) none h' = some (.str (s.extract (fr xs xs.length) s.size), h') := by
        simp only [slstrA, bound]
        rw [if_pos ⟨by omega, by omega⟩]
        simp
      rw [bs_extract] at hsl
      have hl1 := sofar_len xs s.toList (j := xs.length) (n := s.size) (by omega)
      have e3 := binStr_add (bs (sofar xs s.toList xs.length)) (bs ((s.toList.take s.toList.length).drop (fr xs xs.length))) (by rw [bs_size, bs_size, List.length_drop, List.length_take]; omega)
      rw [bs_append, ← sofar_end (by omega) ho, hsz] at e3
      simp [hne, hne2, s10, s11, s1, hsl, e3, partB, hb, hxs]
end Go.Proofs.YtimpbgncgdaofaaDoor
