/- Contracts: how deep a list nests, as the program searches. -/
import Derived.Test.YtcdkgonmdenakaaBox2
import Derived.Test.YtcdkgonmdenakaaBmSt
namespace Go.Proofs.Ytcdkgonmdenakaa
open Go Go.Bm Go.Proofs
set_option linter.all false

theorem cut_kids (xs : List Node) (i k : Nat) (x : Node) (r : List Node) (e : xs.drop i = x :: r) : (xs.drop (i + 1)).take (i + 1 + k - (i + 1)) = r.take k := by
  have : xs.drop (i + 1) = r := by rw [← List.drop_drop, e]; rfl
  rw [this]; congr 1; omega
set_option maxRecDepth 100000 in
set_option maxHeartbeats 1000000 in
theorem nested_aux : ∀ (N : Nat) {xs : List Node}, xs.length ≤ N → xs.length ≤ 1048576 → ∀ (d : Int), 0 ≤ d → d ≤ 41 → ∀ (h : AH) (c : Option Nat), CapOk c xs.length → ∀ (R : AV → AH → Prop),
    (CA 39 [.fs c (xs.map Node.enc), .int .i64 d] h R ↔ R (nres (nestU xs d (-1))) h) := by
  intro N
  induction N with
  | zero =>
    intro xs hN hb d hd0 hd1 h c hc R
    obtain rfl : xs = [] := List.eq_nil_of_length_eq_zero (by omega)
    refine ca_pure (af := ac39) rfl ?_
    (iterate 4 ((try simp [ac39]); (try simp (disch := omega) [ac39])))
    refine awp_loop2 caM (fun n s h' => h' = h ∧ n = 0 ∧ (s 0 = .fs c [] ∧ s 7 = .int .i64 0 ∧ s 6 = .int .i64 (-1))) ?_ (n := 0) ⟨rfl, rfl, by simp⟩
    rintro n s h' ⟨rfl, rfl, s0, s7, s6⟩ K hK hE hQ
    (iterate 4 ((try simp [s0, s7, s6, hE]); (try simp (disch := omega) [s0, s7, s6, hE])))
    simp [nestU_nil, nres]
  | succ N ih =>
    intro xs hN hb d hd0 hd1 h c hc R
    refine ca_pure (af := ac39) rfl ?_
    (iterate 4 ((try simp [ac39]); (try simp (disch := omega) [ac39])))
    refine awp_loop2 caM (fun n s h' => h' = h ∧ ∃ (i : Nat) (m : Int), n = xs.length - i ∧ i ≤ xs.length ∧ (s 0 = .fs c (xs.map Node.enc) ∧ s 1 = .int .i64 d ∧ s 7 = .int .i64 i ∧ s 6 = .int .i64 m) ∧ -1 ≤ m ∧ m ≤ 40 ∧ nestU xs d (-1) = nestU (xs.drop i) d m) ?_ (n := xs.length) ⟨rfl, 0, -1, by simp⟩
    rintro n s h' ⟨rfl, i, m, rfl, hi, ⟨s0, s1, s7, s6⟩, hm0, hm1, hne⟩ K hK hE hQ
    simp [s0, s1, s7, s6]
    by_cases hlt : i < xs.length
    · have a1 := fun k => Node.ok.toEncOk.iaddr (by omega) c xs k (i : Int) h' (by omega) (by omega)
      have hd := drop_eq hlt
      have hrl : (xs.drop (i + 1)).length = xs.length - i - 1 := by simp; omega
      rw [hd, nestU_cons, hrl] at hne
      simp only [Int.toNat_natCast] at a1
      revert hne a1
      generalize hx : nth xs i = x
      intro hne a1
      have w1 : IntKind.wrap .i64 ((xs.length : Int) - i) = (xs.length : Int) - i := wrap_i64 (by omega) (by omega)
      have w2 : IntKind.wrap .i64 ((xs.length : Int) - i - 1) = (xs.length : Int) - i - 1 := wrap_i64 (by omega) (by omega)
      have w3 : IntKind.wrap .i64 ((i : Int) + 1) = (i : Int) + 1 := wrap_i64 (by omega) (by omega)
      have w4 : IntKind.wrap .i64 (d + 1) = d + 1 := wrap_i64 (by omega) (by omega)
      (iterate 4 ((try simp [hlt, s0, s1, s7, s6, a1, nodeOk_iff, holds_iff, w1, w2, w3]); (try simp (disch := omega) [hlt, s0, s1, s7, s6, a1, nodeOk_iff, holds_iff, w1, w2, w3])))
      by_cases hok : okB x = true ∧ 0 ≤ x.kids
      case neg =>
        have hb1 : (!okB x || !decide (0 ≤ x.kids)) = true := by
          cases ho : okB x <;> simp
          exact Int.not_le.1 (fun hh => hok ⟨ho, hh⟩)
        rw [if_neg (fun e => hok ⟨e.1, e.2.1⟩)] at hne
        simp [hb1, hne, nres, hQ]
      obtain ⟨hok, hk0⟩ := hok
      (iterate 4 ((try simp [hok, hk0, s0, s7, w1, w2, w3]); (try simp (disch := omega) [hok, hk0, s0, s7, w1, w2, w3])))
      refine condR_splitD ?_ ?_ <;> intro hk1
      · rw [if_neg (fun e => absurd e.2.2 (by omega))] at hne
        simp [hne, nres, hQ]
      rw [if_pos ⟨hok, hk0, by omega⟩] at hne
      (iterate 4 ((try simp [holds_iff]); (try simp (disch := omega) [holds_iff])))
      cases hdp : deepB x.kind with
      | false =>
        rw [hdp] at hne
        simp at hne
        (iterate 4 ((try simp [hE, s7, w3]); (try simp (disch := omega) [hE, s7, w3])))
        refine hK (xs.length - (i + 1)) _ _ (by omega) ⟨rfl, i + 1, m, rfl, by omega, ?_, hm0, hm1, by rw [hne]⟩
        simp [s0, s1, s6]
      | true =>
      rw [hdp, if_pos rfl] at hne
      (iterate 4 ((try simp [s1]); (try simp (disch := omega) [s1])))
      refine condR_splitD ?_ ?_ <;> intro hd40
      · simp [hQ]
        cases hq : nestU xs d (-1) with
        | none => simp [nres]
        | some q =>
          rw [hne] at hq
          rw [Option.bind_eq_some_iff] at hq
          obtain ⟨m', hq1, hq2⟩ := hq
          have l1 := nestU_le _ _ _ _ _ (Nat.le_refl _) hq1
          have l2 := nestU_le _ _ _ _ _ (Nat.le_refl _) hq2
          have : ¬ q ≤ 40 := by omega
          simp [nres, this]
      have e1 : ((i : Int) + 1).toNat = i + 1 := by omega
      have e2 : ((i : Int) + 1 + x.kids).toNat = i + 1 + x.kids.toNat := by omega
      have w5 : IntKind.wrap .i64 ((i : Int) + 1 + x.kids) = (i : Int) + 1 + x.kids := wrap_i64 (by omega) (by omega)
      have w6 : IntKind.wrap .i64 x.kids = x.kids := wrap_i64 (by omega) (by omega)
      have w7 : IntKind.wrap .i64 ((i : Int) + x.kids) = (i : Int) + x.kids := wrap_i64 (by omega) (by omega)
      have w8 : IntKind.wrap .i64 ((i : Int) + x.kids + 1) = (i : Int) + x.kids + 1 := wrap_i64 (by omega) (by omega)
      have hcl : ((xs.drop (i + 1)).take x.kids.toNat).length = x.kids.toNat := by rw [List.length_take, hrl]; omega
      have hs := fs_slice Node.ok.toEncOk c xs hc h' .i64 .i64 ((i : Int) + 1) ((i : Int) + 1 + x.kids) (by omega) (by omega) (by omega)
      rw [e1, e2, cut_kids xs i x.kids.toNat x _ (by rw [hd, hx])] at hs
      have ihc := ih (xs := (xs.drop (i + 1)).take x.kids.toNat) (by omega) (by omega) (d + 1) (by omega) (by omega) h' (c.map (· - (i + 1))) (hc.sub _ _ (by omega))
      (iterate 4 ((try simp [-List.map_take, -List.map_drop, s0, s1, s6, s7, w3, w4, w5, w6, hs, e1, e2, ihc]); (try simp (disch := omega) [-List.map_take, -List.map_drop, s0, s1, s6, s7, w3, w4, w5, w6, hs, e1, e2, ihc])))
      rw [nestU_from ((xs.drop (i + 1)).take x.kids.toNat) (d + 1) (max m d) (by omega)] at hne
      have hnone : nestU ((xs.drop (i + 1)).take x.kids.toNat) (d + 1) (-1) = none → nestU xs d (-1) = none := fun e => by rw [hne, e]; rfl
      have hsome : ∀ q, nestU ((xs.drop (i + 1)).take x.kids.toNat) (d + 1) (-1) = some q → nestU xs d (-1) = nestU ((xs.drop (i + 1)).drop x.kids.toNat) d (max (max m d) q) := fun q e => by rw [hne, e]; rfl
      clear hne
      cases hq : nestU ((xs.drop (i + 1)).take x.kids.toNat) (d + 1) (-1) with
      | none =>
        have hne := hnone hq
        (iterate 4 ((try simp [nres, hq, hQ, hne]); (try simp (disch := omega) [nres, hq, hQ, hne])))
      | some q =>
      have hne := hsome q hq
      by_cases hq40 : q ≤ 40
      · (iterate 4 ((try simp [nres, hq, hq40, s6, s7, w6, w7, w8]); (try simp (disch := omega) [nres, hq, hq40, s6, s7, w6, w7, w8])))
        refine hK (xs.length - (i + 1 + x.kids.toNat)) _ _ (by omega) ⟨rfl, i + 1 + x.kids.toNat, max (max m d) q, rfl, by omega, ⟨?_, ?_, ?_, ?_⟩, by omega, by omega, ?_⟩
        · simp [s0]
        · simp [s1]
        · simp; omega
        · simp; split <;> omega
        · rw [hne, List.drop_drop]
      · (iterate 4 ((try simp [nres, hq, hq40, hQ]); (try simp (disch := omega) [nres, hq, hq40, hQ])))
        cases hr : nestU ((xs.drop (i + 1)).drop x.kids.toNat) d (max (max m d) q) with
        | none => rw [hr] at hne; simp [hne]
        | some r =>
          have l2 := nestU_le _ _ _ _ _ (Nat.le_refl _) hr
          have : ¬ r ≤ 40 := by omega
          rw [hr] at hne
          simp [hne, this]
    · obtain rfl : i = xs.length := by omega
      rw [List.drop_length, nestU_nil] at hne
      simp [hE, s6, hne, nres, hm1]
end Go.Proofs.Ytcdkgonmdenakaa
