/- Contracts: page breaks; rows of whole numbers. -/
import Derived.Test.YtnaainlddcpfgaaLItems
namespace Go.Proofs.Ytnaainlddcpfgaa
open Go Go.Am Go.Proofs
set_option linter.all false

/-! ### rows of whole numbers -/
theorem eqInts_iff {h : AH} {v w : AV} {xs ys : List Int} (H : Rs 1 encI h v xs) (G : Rs 1 encI h w ys) (hb : xs.length ≤ 1099511627776) (R : AV → AH → Prop) :
    CA 28 [v, w] h R ↔ R (.bool (decide (xs = ys))) h := by
  refine ca_pure (af := ac28) rfl ?_
  simp [ac28, H.len, G.len]
  by_cases hl : xs.length = ys.length
  case neg =>
    have : xs ≠ ys := fun e => hl (by rw [e])
    have hl' : ¬ (xs.length : Int) = ys.length := by omega
    simp [hl, hl', this]
  simp [hl]
  refine awp_loop2 ca_mono (fun n s h' => h' = h ∧ ∃ i : Nat, n = xs.length - i ∧ i ≤ xs.length ∧ (s 0 = v ∧ s 1 = w ∧ s 5 = .int .i64 i) ∧ xs.take i = ys.take i) ?_ (n := xs.length) ⟨rfl, 0, by simp⟩
  rintro n s h' ⟨rfl, i, rfl, hi, ⟨h0, h1, h5⟩, ht⟩ K hK hE hQ
  simp [h0, h1, h5, H.len]
  refine condR_splitD ?_ ?_ <;> intro hlt
  · have l2 : i < ys.length := by omega
    (iterate 4 ((try simp [h0, h1, h5, H.iaddr, G.iaddr, H.load1, G.load1, encI]); (try simp (disch := omega) [h0, h1, h5, H.iaddr, G.iaddr, H.load1, G.load1, encI])))
    refine condR_splitND ?_ ?_ <;> intro e
    · (iterate 4 ((try simp [h0, h1, h5, wrap_i64]); (try simp (disch := omega) [h0, h1, h5, wrap_i64])))
      refine hK (xs.length - (i + 1)) _ _ (by omega) ⟨rfl, i + 1, rfl, by omega, by simp [h0, h1], ?_⟩
      rw [take_succ hlt, take_succ (by omega), ht, e]
    · simp [hQ]
      intro he; rw [he] at e; exact e rfl
  · obtain rfl : i = xs.length := by omega
    have : xs = ys := by rw [List.take_length, hl, List.take_length] at ht; exact ht
    simp [hE, this]

def mkI (k n : Nat) : List Int := (List.range n).map fun i => ((k + i : Nat) : Int)
theorem mkI_len (k n : Nat) : (mkI k n).length = n := by simp [mkI]
theorem mkI_succ (k n : Nat) : mkI k (n + 1) = mkI k n ++ [((k + n : Nat) : Int)] := by simp [mkI, List.range_succ]
theorem mkI_nth (k n i : Nat) (hi : i < n) : nth (mkI k n) i = ((k + i : Nat) : Int) := by rw [nth_eq (by rw [mkI_len]; exact hi)]; simp [mkI]

theorem markInts_ok {h0 h : AH} {v : AV} {xs : List Int} (H : Rn h0 1 encI h v xs) (hl0 : h0.le h) (hk : xs.length ≤ 1099511627776) {R : AV → AH → Prop}
    (hR : ∀ h', Rn h0 1 encI h' v (mkI 1 xs.length) → h0.le h' → R (.int .i64 (1 + xs.length : Nat)) h') : CA 29 [v, .int .i64 1] h R := by
  rw [ca_iff (af := ac29) rfl]
  simp [ac29]
  refine awp_loop2 ca_mono (fun n s h' => ∃ (i : Nat) (ys : List Int), n = xs.length - i ∧ i ≤ xs.length ∧ (s 0 = v ∧ s 1 = .int .i64 (1 + i : Nat) ∧ s 5 = .int .i64 i) ∧ Rn h0 1 encI h' v ys ∧ ys.length = xs.length ∧ ys.take i = mkI 1 i ∧ h0.le h') ?_ (n := xs.length) ⟨0, xs, by simp, by simp, by simp, H, rfl, by simp [mkI], hl0⟩
  rintro n s h' ⟨i, ys, rfl, hi, ⟨s0, s1, s5⟩, H', hyl, hyt, hle⟩ K hK hE hQ
  simp [s0, s1, s5, H'.rows.len, hyl]
  refine condR_splitD ?_ ?_ <;> intro hlt
  · have hlt' : i < ys.length := by omega
    have hst := H'.own.store1 i (((1 + i : Nat) : Int)) (.int .i64 ((1 + i : Nat) : Int)) rfl rfl hlt'
    simp only [Int.natCast_add, Int.natCast_one] at hst
    (iterate 4 ((try simp [s0, s1, s5, H'.rows.iaddr, hyl, hst, wrap_i64]); (try simp (disch := omega) [s0, s1, s5, H'.rows.iaddr, hyl, hst, wrap_i64])))
    refine hK (xs.length - (i + 1)) _ _ (by omega) ⟨i + 1, ys.set i ((1 + i : Nat) : Int), rfl, by omega, ⟨by simp [s0], by simp; omega, by simp⟩, by simpa using H'.setR (by simp), by simp [hyl], ?_, by simpa using H'.setR_le hle (by omega)⟩
    rw [take_set hlt', hyt, mkI_succ]
  · obtain rfl : i = xs.length := by omega
    have : ys = mkI 1 xs.length := by rw [← hyl, List.take_length] at hyt; rw [← hyl]; exact hyt
    subst this
    simp [s1, hE]
    exact hR _ H' hle

theorem heldInts_iff {h : AH} {v : AV} (n0 : Nat) (H : Rs 1 encI h v (mkI 1 n0)) (hk : n0 ≤ 1099511627776) (R : AV → AH → Prop) : CA 30 [v, .int .i64 1] h R ↔ R (.int .i64 (1 + n0 : Nat)) h := by
  refine ca_pure (af := ac30) rfl ?_
  have hl := mkI_len 1 n0
  simp [ac30]
  refine awp_loop2 ca_mono (fun n s h' => h' = h ∧ ∃ i : Nat, n = n0 - i ∧ i ≤ n0 ∧ (s 0 = v ∧ s 1 = .int .i64 (1 + i : Nat) ∧ s 5 = .int .i64 i)) ?_ (n := n0) ⟨rfl, 0, by simp⟩
  rintro n s h' ⟨rfl, i, rfl, hi, s0, s1, s5⟩ K hK hE hQ
  simp [s0, s1, s5, H.len, hl]
  refine condR_splitD ?_ ?_ <;> intro hlt
  · have hn := mkI_nth 1 n0 i hlt
    (iterate 4 ((try simp [s0, s1, s5, H.iaddr, H.load1, hl, hn, encI, wrap_i64]); (try simp (disch := omega) [s0, s1, s5, H.iaddr, H.load1, hl, hn, encI, wrap_i64])))
    refine hK (n0 - (i + 1)) _ _ (by omega) ⟨rfl, i + 1, rfl, by omega, by simp [s0], by simp; omega, by simp⟩
  · obtain rfl : i = n0 := by omega
    simp [s1, hE]

/-! ### where a page may break -/
def discB (k : Int) : Bool := decide (k = 3 ∨ k = 2 ∨ k = 4)
theorem l9Discard_iff (x : Nd) (h : AH) (R : AV → AH → Prop) : CA 77 [.agg x.enc] h R ↔ R (.bool (discB x.kind)) h := by
  refine ca_pure (af := ac77) rfl ?_
  simp [ac77, Nd.enc, discB]
  repeat' (first
    | (with_reducible refine condR_splitND ?_ ?_ <;> intro e_ <;> (try simp [*]))
    | (with_reducible refine condR_splitD ?_ ?_ <;> intro e_ <;> (try simp [*]))
    | (with_reducible refine condR_splitN ?_ ?_ <;> intro e_ <;> (try simp [*]))
    | (with_reducible refine condR_split ?_ ?_ <;> intro e_ <;> (try simp [*]))
    | (with_reducible refine guardR_splitT ?_ ?_ <;> intro e_ <;> (try simp [*]))
    | (with_reducible refine guardR_splitF ?_ ?_ <;> intro e_ <;> (try simp [*]))
    | (with_reducible refine guardR_splitNT ?_ ?_ <;> intro e_ <;> (try simp [*]))
    | (with_reducible refine guardR_splitNF ?_ ?_ <;> intro e_ <;> (try simp [*]))
    | (with_reducible refine guardR_sT ?_ ?_ <;> intro e_ <;> (try simp [*]))
    | (with_reducible refine guardR_sF ?_ ?_ <;> intro e_ <;> (try simp [*])))
theorem oDiscard_iff (x : Nd) (h : AH) (R : AV → AH → Prop) : CA 78 [.agg x.enc] h R ↔ R (.bool (discB x.kind)) h := by
  refine ca_pure (af := ac78) rfl ?_
  simp [ac78, Nd.enc, discB]
  repeat' (first
    | (with_reducible refine condR_splitND ?_ ?_ <;> intro e_ <;> (try simp [*]))
    | (with_reducible refine condR_splitD ?_ ?_ <;> intro e_ <;> (try simp [*]))
    | (with_reducible refine condR_splitN ?_ ?_ <;> intro e_ <;> (try simp [*]))
    | (with_reducible refine condR_split ?_ ?_ <;> intro e_ <;> (try simp [*]))
    | (with_reducible refine guardR_splitT ?_ ?_ <;> intro e_ <;> (try simp [*]))
    | (with_reducible refine guardR_splitF ?_ ?_ <;> intro e_ <;> (try simp [*]))
    | (with_reducible refine guardR_splitNT ?_ ?_ <;> intro e_ <;> (try simp [*]))
    | (with_reducible refine guardR_splitNF ?_ ?_ <;> intro e_ <;> (try simp [*]))
    | (with_reducible refine guardR_sT ?_ ?_ <;> intro e_ <;> (try simp [*]))
    | (with_reducible refine guardR_sF ?_ ?_ <;> intro e_ <;> (try simp [*])))
def headN (xss : List (List Nd)) (i : Nat) : Nd := nth (nth xss i) 0
def isB (xss : List (List Nd)) (i : Nat) : Bool := decide (i = xss.length) || (decide ((headN xss i).kind = 3) && (decide (0 < i) && !discB (headN xss (i - 1)).kind)) || (decide ((headN xss i).kind = 4) && decide ((headN xss i).n < 10000))
def priceI (xss : List (List Nd)) (i : Nat) : Int := if i = xss.length then -10000 else if (headN xss i).kind = 4 then (headN xss i).n else 0

set_option maxRecDepth 100000 in
theorem l10Is_iff {h : AH} {v : AV} {vs : List AV} {xss : List (List Nd)} (H : Rss h v vs xss) (hne : ∀ i, i < xss.length → 0 < (nth xss i).length) (hb : xss.length ≤ 1048576) (i : Nat) (hi : i ≤ xss.length) (R : AV → AH → Prop) : CA 53 [v, .int .i64 i] h R ↔ R (.bool (isB xss i)) h := by
  refine ca_pure (af := ac53) rfl ?_
  simp [ac53, H.out.len, H.len]
  by_cases e : i = xss.length
  · simp [e, isB]
  have hlt : i < xss.length := by omega
  have ei : ¬ ((i : Int) = (xss.length : Int)) := by omega
  have Hi := H.inn i hlt
  have hs := rs_slv Hi
  have hn := hne i hlt
  have l1 : i < vs.length := by rw [H.len]; exact hlt
  have hh : nth (nth xss i) 0 = headN xss i := rfl
  (iterate 4 ((try simp [ei, H.out.iaddr, H.out.load1, encV, hs, Hi.iaddr, Hi.load, hn, hh, Nd.enc]); (try simp (disch := omega) [ei, H.out.iaddr, H.out.load1, encV, hs, Hi.iaddr, Hi.load, hn, hh, Nd.enc])))
  by_cases k3 : (headN xss i).kind = 3
  · by_cases h0 : 0 < i
    · have Hj := H.inn (i - 1) (by omega)
      have hsj := rs_slv Hj
      have hnj := hne (i - 1) (by omega)
      have l2 : i - 1 < vs.length := by omega
      have e1 : ((i : Int) - 1).toNat = i - 1 := by omega
      have hhj : nth (nth xss (i - 1)) 0 = headN xss (i - 1) := rfl
      have hd := fun a1 a2 a3 a4 a5 a6 a7 a8 a9 a10 a11 a12 a13 a14 a15 => l9Discard_iff ⟨a1, a2, a3, a4, a5, a6, a7, a8, a9, a10, a11, a12, a13, a14, a15⟩
      simp only [Nd.enc] at hd
      (iterate 4 ((try simp [k3, h0, H.out.iaddr, H.out.load1, encV, wrap_i64, e1, hsj, Hj.iaddr, Hj.load, hnj, hhj, Nd.enc, hd]); (try simp (disch := omega) [k3, h0, H.out.iaddr, H.out.load1, encV, wrap_i64, e1, hsj, Hj.iaddr, Hj.load, hnj, hhj, Nd.enc, hd])))
      simp [isB, e, k3, h0]
    · (iterate 4 ((try simp [k3, h0]); (try simp (disch := omega) [k3, h0])))
      simp [isB, e, k3, h0]
  · by_cases k4 : (headN xss i).kind = 4
    · (iterate 4 ((try simp [k4]); (try simp (disch := omega) [k4])))
      simp [isB, e, k4]
    · (iterate 4 ((try simp [k3, k4]); (try simp (disch := omega) [k3, k4])))
      simp [isB, e, k3, k4]

set_option maxRecDepth 100000 in
theorem oPrice_iff {h : AH} {v : AV} {vs : List AV} {xss : List (List Nd)} (H : Rss h v vs xss) (hne : ∀ i, i < xss.length → 0 < (nth xss i).length) (hb : xss.length ≤ 1048576) (i : Nat) (hi : i ≤ xss.length) (R : AV → AH → Prop) : CA 55 [v, .int .i64 i] h R ↔ R (.tup [.int .i64 (priceI xss i), .bool (isB xss i)]) h := by
  refine ca_pure (af := ac55) rfl ?_
  simp [ac55, H.out.len, H.len]
  by_cases e : i = xss.length
  · simp [e, isB, priceI]
  have hlt : i < xss.length := by omega
  have ei : ¬ ((i : Int) = (xss.length : Int)) := by omega
  have Hi := H.inn i hlt
  have hs := rs_slv Hi
  have hn := hne i hlt
  have l1 : i < vs.length := by rw [H.len]; exact hlt
  have hh : nth (nth xss i) 0 = headN xss i := rfl
  (iterate 4 ((try simp [ei, H.out.iaddr, H.out.load1, encV, hs, Hi.iaddr, Hi.load, hn, hh, Nd.enc]); (try simp (disch := omega) [ei, H.out.iaddr, H.out.load1, encV, hs, Hi.iaddr, Hi.load, hn, hh, Nd.enc])))
  by_cases k3 : (headN xss i).kind = 3
  · by_cases h0 : 0 < i
    · have Hj := H.inn (i - 1) (by omega)
      have hsj := rs_slv Hj
      have hnj := hne (i - 1) (by omega)
      have l2 : i - 1 < vs.length := by omega
      have e1 : ((i : Int) - 1).toNat = i - 1 := by omega
      have hhj : nth (nth xss (i - 1)) 0 = headN xss (i - 1) := rfl
      have hd := fun a1 a2 a3 a4 a5 a6 a7 a8 a9 a10 a11 a12 a13 a14 a15 => oDiscard_iff ⟨a1, a2, a3, a4, a5, a6, a7, a8, a9, a10, a11, a12, a13, a14, a15⟩
      simp only [Nd.enc] at hd
      (iterate 4 ((try simp [k3, h0, H.out.iaddr, H.out.load1, encV, wrap_i64, e1, hsj, Hj.iaddr, Hj.load, hnj, hhj, Nd.enc, hd]); (try simp (disch := omega) [k3, h0, H.out.iaddr, H.out.load1, encV, wrap_i64, e1, hsj, Hj.iaddr, Hj.load, hnj, hhj, Nd.enc, hd])))
      simp [isB, priceI, e, k3, h0]
    · (iterate 4 ((try simp [k3, h0]); (try simp (disch := omega) [k3, h0])))
      simp [isB, priceI, e, k3, h0]
  · by_cases k4 : (headN xss i).kind = 4
    · (iterate 4 ((try simp [k4]); (try simp (disch := omega) [k4])))
      simp [isB, priceI, e, k4]
    · (iterate 4 ((try simp [k3, k4]); (try simp (disch := omega) [k3, k4])))
      simp [isB, priceI, e, k3, k4]

def stackB (xs : List Nd) : Bool := listB xs && decide ((itemsL xs).length ≤ 4000)
theorem items_ne (xs : List Nd) : ∀ i, i < (itemsL xs).length → 0 < (nth (itemsL xs) i).length := by
  intro i hi
  unfold itemsL at hi ⊢
  split
  · rename_i h
    rw [if_pos h] at hi
    rw [nth_eq hi]; simp [itemL]
  · rename_i h
    rw [if_neg h] at hi; simp at hi

theorem oStack_ok {h : AH} {v : AV} {xs : List Nd} (H : Rs 15 Nd.enc h v xs) (hb : xs.length ≤ 1048576) {R : AV → AH → Prop}
    (hR : ∀ v' h' vs, h.le h' → Oss h h' v' vs (itemsL xs) → R (.tup [v', .bool (stackB xs)]) h') : CA 54 [v] h R := by
  rw [ca_iff (af := ac54) rfl]
  have hL := fun R => ListOk_iff H (by omega) R
  simp [ac54, hL]
  cases hli : listB xs with
  | false =>
    simp
    have := hR .nils h [] (AH.le_refl h) ⟨Rn.nils encV_ok h h, by simp [itemsL, hli], fun i hi => by simp [itemsL, hli] at hi, fun i j b hi => by simp [itemsL, hli] at hi, fun i b hi => by simp [itemsL, hli] at hi⟩
    simpa [stackB, hli] using this
  | true =>
    simp
    refine implItems_ok H hb fun v' h' vs hle O => ?_
    have := hR v' h' vs hle O
    have e4 : (((itemsL xs).length : Int) ≤ 4000) = ((itemsL xs).length ≤ 4000) := propext (by omega)
    simp [O.out.rows.len, O.len, e4]
    simpa [stackB, hli] using this
theorem l10Stack_ok {h : AH} {v : AV} {xs : List Nd} (H : Rs 15 Nd.enc h v xs) (hb : xs.length ≤ 1048576) {R : AV → AH → Prop}
    (hR : ∀ v' h' vs, h.le h' → Rss h' v' vs (itemsL xs) → (∀ b, (blk v' = some b ∨ ∃ i, i < (itemsL xs).length ∧ blk (nth vs i) = some b) → h.next ≤ b ∧ b < h'.next) → R (.tup [v', .bool (stackB xs)]) h') : CA 52 [v] h R := by
  rw [ca_iff (af := ac52) rfl]
  simp [ac52]
  refine l8ListOk_ok H fun h1 l1 => ?_
  cases hli : listB xs with
  | false =>
    simp
    have hfr := Rn.fresh (h0 := h) (h := h1) (es := 1) (enc := encV) (xs := []) (n := 0) encV_ok l1 rfl
    have := hR _ _ [] (AH.new_le_of l1 (.cells true [])) ⟨by simpa using hfr.rows, by simp [itemsL, hli], fun i hi => by simp [itemsL, hli] at hi⟩ (fun b hb => by
      rcases hb with hb | ⟨i, hi, _⟩
      · exact ⟨hfr.new b hb, by simpa using hfr.own.lt hb⟩
      · simp [itemsL, hli] at hi)
    simpa [stackB, hli] using this
  | true =>
    simp
    refine l8Items_ok (H.le l1) hb fun v' h' vs hle O hP => ?_
    have := hR v' h' vs (AH.le_trans l1 hle) O (fun b hb => ⟨Nat.le_trans l1.1 (hP b hb).1, (hP b hb).2⟩)
    have e4 : (((itemsL xs).length : Int) ≤ 4000) = ((itemsL xs).length ≤ 4000) := propext (by omega)
    simp [O.out.len, O.len, e4]
    simpa [stackB, hli] using this

/-- What both answer. -/
def breaksTo (xss : List (List Nd)) (i : Nat) : List Int := ((List.range i).filter (isB xss)).map fun i : Nat => (i : Int)
def breaksL (xs : List Nd) : List Int := if stackB xs then breaksTo (itemsL xs) ((itemsL xs).length + 1) else []
theorem breaksTo_succ (xss : List (List Nd)) (i : Nat) : breaksTo xss (i + 1) = if isB xss i then breaksTo xss i ++ [(i : Int)] else breaksTo xss i := by
  unfold breaksTo
  rw [List.range_succ, List.filter_append]
  by_cases h : isB xss i <;> simp [h]
theorem breaksTo_len (xss : List (List Nd)) (i : Nat) : (breaksTo xss i).length ≤ i := by
  unfold breaksTo
  rw [List.length_map]
  have := List.length_filter_le (isB xss) (List.range i)
  simpa using this
end Go.Proofs.Ytnaainlddcpfgaa
