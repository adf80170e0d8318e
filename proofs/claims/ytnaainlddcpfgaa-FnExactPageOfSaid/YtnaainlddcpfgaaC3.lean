/- Contracts: what is a list; its items. -/
import Derived.Test.YtnaainlddcpfgaaC2
import Derived.Test.YtnaainlddcpfgaaP1
namespace Go.Proofs.Ytnaainlddcpfgaa
open Go Go.Am Go.Proofs
set_option linter.all false

theorem nodeOk_iff' (a1 a2 a3 a4 a5 a6 a7 a8 a9 a10 a11 a12 a13 a15 : Int) (a14 : ByteArray) (h : AH) (R : AV → AH → Prop) : CA 75 [.agg [.int .i64 a1, .int .i64 a2, .int .i64 a3, .int .i64 a4, .int .i64 a5, .int .i64 a6, .int .i64 a7, .int .i64 a8, .int .i64 a9, .int .i64 a10, .int .i64 a11, .int .i64 a12, .int .i64 a13, .str a14, .int .i64 a15]] h R ↔ R (.bool (okB ⟨a1, a2, a3, a4, a5, a6, a7, a8, a9, a10, a11, a12, a13, a14, a15⟩ && decide (0 ≤ a15))) h := nodeOk_iff ⟨a1, a2, a3, a4, a5, a6, a7, a8, a9, a10, a11, a12, a13, a14, a15⟩ h R
theorem holds_iff' (a1 a2 a3 a4 a5 a6 a7 a8 a9 a10 a11 a12 a13 a15 : Int) (a14 : ByteArray) (h : AH) (R : AV → AH → Prop) : CA 76 [.agg [.int .i64 a1, .int .i64 a2, .int .i64 a3, .int .i64 a4, .int .i64 a5, .int .i64 a6, .int .i64 a7, .int .i64 a8, .int .i64 a9, .int .i64 a10, .int .i64 a11, .int .i64 a12, .int .i64 a13, .str a14, .int .i64 a15]] h R ↔ R (.bool (deepB a1)) h := holds_iff ⟨a1, a2, a3, a4, a5, a6, a7, a8, a9, a10, a11, a12, a13, a14, a15⟩ h R
theorem l8NodeOk_iff' (a1 a2 a3 a4 a5 a6 a7 a8 a9 a10 a11 a12 a13 a15 : Int) (a14 : ByteArray) (h : AH) (R : AV → AH → Prop) : CA 91 [.agg [.int .i64 a1, .int .i64 a2, .int .i64 a3, .int .i64 a4, .int .i64 a5, .int .i64 a6, .int .i64 a7, .int .i64 a8, .int .i64 a9, .int .i64 a10, .int .i64 a11, .int .i64 a12, .int .i64 a13, .str a14, .int .i64 a15]] h R ↔ R (.bool (okB ⟨a1, a2, a3, a4, a5, a6, a7, a8, a9, a10, a11, a12, a13, a14, a15⟩)) h := l8NodeOk_iff ⟨a1, a2, a3, a4, a5, a6, a7, a8, a9, a10, a11, a12, a13, a14, a15⟩ h R
theorem l8Deep_iff' (a1 a2 a3 a4 a5 a6 a7 a8 a9 a10 a11 a12 a13 a15 : Int) (a14 : ByteArray) (h : AH) (R : AV → AH → Prop) : CA 92 [.agg [.int .i64 a1, .int .i64 a2, .int .i64 a3, .int .i64 a4, .int .i64 a5, .int .i64 a6, .int .i64 a7, .int .i64 a8, .int .i64 a9, .int .i64 a10, .int .i64 a11, .int .i64 a12, .int .i64 a13, .str a14, .int .i64 a15]] h R ↔ R (.bool (deepB a1)) h := l8Deep_iff ⟨a1, a2, a3, a4, a5, a6, a7, a8, a9, a10, a11, a12, a13, a14, a15⟩ h R
theorem isBox_iff' (a1 a2 a3 a4 a5 a6 a7 a8 a9 a10 a11 a12 a13 a15 : Int) (a14 : ByteArray) (h : AH) (R : AV → AH → Prop) : CA 68 [.agg [.int .i64 a1, .int .i64 a2, .int .i64 a3, .int .i64 a4, .int .i64 a5, .int .i64 a6, .int .i64 a7, .int .i64 a8, .int .i64 a9, .int .i64 a10, .int .i64 a11, .int .i64 a12, .int .i64 a13, .str a14, .int .i64 a15]] h R ↔ R (.bool (boxB a1)) h := isBox_iff ⟨a1, a2, a3, a4, a5, a6, a7, a8, a9, a10, a11, a12, a13, a14, a15⟩ h R
theorem l8Box_iff' (a1 a2 a3 a4 a5 a6 a7 a8 a9 a10 a11 a12 a13 a15 : Int) (a14 : ByteArray) (h : AH) (R : AV → AH → Prop) : CA 67 [.agg [.int .i64 a1, .int .i64 a2, .int .i64 a3, .int .i64 a4, .int .i64 a5, .int .i64 a6, .int .i64 a7, .int .i64 a8, .int .i64 a9, .int .i64 a10, .int .i64 a11, .int .i64 a12, .int .i64 a13, .str a14, .int .i64 a15]] h R ↔ R (.bool (boxB a1)) h := l8Box_iff ⟨a1, a2, a3, a4, a5, a6, a7, a8, a9, a10, a11, a12, a13, a14, a15⟩ h R
theorem Nd.eta (x : Nd) : (⟨x.kind, x.width, x.height, x.depth, x.shift, x.font, x.char, x.n, x.size, x.plus, x.plusO, x.minus, x.minusO, x.text, x.kids⟩ : Nd) = x := rfl

theorem cutv_cut (xs : List Nd) (i k : Nat) (x : Nd) (r : List Nd) (e : xs.drop i = x :: r) : (xs.drop (i + 1)).take (i + 1 + k - (i + 1)) = r.take k := by
  have : xs.drop (i + 1) = r := by rw [← List.drop_drop, e]; rfl
  rw [this]; congr 1; omega

set_option maxRecDepth 100000 in
set_option maxHeartbeats 1000000 in
theorem nested_aux : ∀ (N : Nat) {h : AH} {v : AV} {xs : List Nd}, xs.length ≤ N → Rs 15 Nd.enc h v xs → xs.length ≤ 1099511627776 → ∀ (d : Int), 0 ≤ d → d ≤ 41 → ∀ (R : AV → AH → Prop),
    (CA 51 [v, .int .i64 d] h R ↔ R (nres (nestU xs d (-1))) h) := by
  intro N
  induction N with
  | zero =>
    intro h v xs hN H hb d hd0 hd1 R
    obtain rfl : xs = [] := List.eq_nil_of_length_eq_zero (by omega)
    refine ca_pure (af := ac51) rfl ?_
    (iterate 4 ((try simp [ac51]); (try simp (disch := omega) [ac51])))
    refine awp_loop2 ca_mono (fun n s h' => h' = h ∧ n = 0 ∧ (s 0 = v ∧ s 7 = .int .i64 0 ∧ s 6 = .int .i64 (-1))) ?_ (n := 0) ⟨rfl, rfl, by simp⟩
    rintro n s h' ⟨rfl, rfl, s0, s7, s6⟩ K hK hE hQ
    (iterate 4 ((try simp [s0, s7, s6, H.len, hE]); (try simp (disch := omega) [s0, s7, s6, H.len, hE])))
    simp [nestU_nil, nres]
  | succ N ih =>
    intro h v xs hN H hb d hd0 hd1 R
    refine ca_pure (af := ac51) rfl ?_
    (iterate 4 ((try simp [ac51]); (try simp (disch := omega) [ac51])))
    refine awp_loop2 ca_mono (fun n s h' => h' = h ∧ ∃ (i : Nat) (m : Int), n = xs.length - i ∧ i ≤ xs.length ∧ (s 0 = v ∧ s 1 = .int .i64 d ∧ s 7 = .int .i64 i ∧ s 6 = .int .i64 m) ∧ -1 ≤ m ∧ m ≤ 40 ∧ nestU xs d (-1) = nestU (xs.drop i) d m) ?_ (n := xs.length) ⟨rfl, 0, -1, by simp⟩
    rintro n s h' ⟨rfl, i, m, rfl, hi, ⟨s0, s1, s7, s6⟩, hm0, hm1, hne⟩ K hK hE hQ
    simp [s0, s1, s7, s6, H.len]
    refine condR_splitD ?_ ?_ <;> intro hlt
    · have hd := drop_eq hlt
      have hrl : (xs.drop (i + 1)).length = xs.length - i - 1 := by simp; omega
      rw [hd, nestU_cons, hrl] at hne
      revert hne
      generalize hx : nth xs i = x
      intro hne
      (iterate 4 ((try simp [s0, s1, s7, s6, H.iaddr, H.load, H.len, hx, Nd.enc, Nd.eta, nodeOk_iff', holds_iff', wrap_i64]); (try simp (disch := omega) [s0, s1, s7, s6, H.iaddr, H.load, H.len, hx, Nd.enc, Nd.eta, nodeOk_iff', holds_iff', wrap_i64])))
      by_cases hok : okB x = true ∧ 0 ≤ x.kids
      case neg =>
        have hb1 : (!okB x || !decide (0 ≤ x.kids)) = true := by
          cases ho : okB x <;> simp
          exact Int.not_le.1 (fun hh => hok ⟨ho, hh⟩)
        rw [if_neg (fun e => hok ⟨e.1, e.2.1⟩)] at hne
        simp [hb1, hne, nres, hQ]
      obtain ⟨hok, hk0⟩ := hok
      (iterate 4 ((try simp [hok, hk0, s0, s7, H.len, wrap_i64]); (try simp (disch := omega) [hok, hk0, s0, s7, H.len, wrap_i64])))
      refine condR_splitD ?_ ?_ <;> intro hk1
      · rw [if_neg (fun e => absurd e.2.2 (by omega))] at hne
        simp [hne, nres, hQ]
      rw [if_pos ⟨hok, hk0, by omega⟩] at hne
      (iterate 4 ((try simp [Nd.eta, holds_iff']); (try simp (disch := omega) [Nd.eta, holds_iff'])))
      cases hdp : deepB x.kind with
      | false =>
        rw [hdp] at hne
        simp at hne
        (iterate 4 ((try simp [hE, s7, wrap_i64]); (try simp (disch := omega) [hE, s7, wrap_i64])))
        refine hK (xs.length - (i + 1)) _ _ (by omega) ⟨rfl, i + 1, m, rfl, by omega, ?_, hm0, hm1, by rw [hne]⟩
        simp [s0, s1, s6]
      | true =>
      rw [hdp, if_pos rfl] at hne
      (iterate 4 ((try simp [s1]); (try simp (disch := omega) [s1])))
      refine condR_splitD ?_ ?_ <;> intro hd40
      · simp [hQ]
        cases hq : nestU xs d (-1) with
        | none => simp [nres]
        | some q =>
          rw [hne] at hq
          rw [Option.bind_eq_some_iff] at hq
          obtain ⟨m', hq1, hq2⟩ := hq
          have l1 := nestU_le _ _ _ _ _ (Nat.le_refl _) hq1
          have l2 := nestU_le _ _ _ _ _ (Nat.le_refl _) hq2
          have : ¬ q ≤ 40 := by omega
          simp [nres, this]
      have e1 : ((i : Int) + 1).toNat = i + 1 := by omega
      have e2 : ((i : Int) + 1 + x.kids).toNat = i + 1 + x.kids.toNat := by omega
      have Hc := H.cut (i := i + 1) (j := i + 1 + x.kids.toNat) (by omega) (by omega)
      rw [cutv_cut xs i x.kids.toNat x _ (by rw [hd, hx])] at Hc
      have hcl : ((xs.drop (i + 1)).take x.kids.toNat).length = x.kids.toNat := by rw [List.length_take, hrl]; omega
      have ihc := ih (by omega) Hc (by omega) (d + 1) (by omega) (by omega)
      (iterate 4 ((try simp [s0, s1, s6, s7, wrap_i64, H.slice, e1, e2, ihc]); (try simp (disch := omega) [s0, s1, s6, s7, wrap_i64, H.slice, e1, e2, ihc])))
      rw [nestU_from ((xs.drop (i + 1)).take x.kids.toNat) (d + 1) (max m d) (by omega)] at hne
      have hnone : nestU ((xs.drop (i + 1)).take x.kids.toNat) (d + 1) (-1) = none → nestU xs d (-1) = none := fun e => by rw [hne, e]; rfl
      have hsome : ∀ q, nestU ((xs.drop (i + 1)).take x.kids.toNat) (d + 1) (-1) = some q → nestU xs d (-1) = nestU ((xs.drop (i + 1)).drop x.kids.toNat) d (max (max m d) q) := fun q e => by rw [hne, e]; rfl
      clear hne
      cases hq : nestU ((xs.drop (i + 1)).take x.kids.toNat) (d + 1) (-1) with
      | none =>
        have hne := hnone hq
        (iterate 4 ((try simp [nres, hq, hQ, hne]); (try simp (disch := omega) [nres, hq, hQ, hne])))
      | some q =>
      have hne := hsome q hq
      by_cases hq40 : q ≤ 40
      · (iterate 4 ((try simp [nres, hq, hq40, s6, s7, wrap_i64]); (try simp (disch := omega) [nres, hq, hq40, s6, s7, wrap_i64])))
        refine hK (xs.length - (i + 1 + x.kids.toNat)) _ _ (by omega) ⟨rfl, i + 1 + x.kids.toNat, max (max m d) q, rfl, by omega, ⟨?_, ?_, ?_, ?_⟩, by omega, by omega, ?_⟩
        · simp [s0]
        · simp [s1]
        · simp; omega
        · simp; split <;> omega
        · rw [hne, List.drop_drop]
      · (iterate 4 ((try simp [nres, hq, hq40, hQ]); (try simp (disch := omega) [nres, hq, hq40, hQ])))
        cases hr : nestU ((xs.drop (i + 1)).drop x.kids.toNat) d (max (max m d) q) with
        | none => rw [hr] at hne; simp [hne]
        | some r =>
          have l2 := nestU_le _ _ _ _ _ (Nat.le_refl _) hr
          have : ¬ r ≤ 40 := by omega
          rw [hr] at hne
          simp [hne, this]
    · obtain rfl : i = xs.length := by omega
      rw [List.drop_length, nestU_nil] at hne
      simp [hE, s6, hne, nres, hm1]
end Go.Proofs.Ytnaainlddcpfgaa
