/- The program's BookOk; the law. -/
import Derived.Test.YtimpbgncgdaofaaDoorB3
namespace Go.Proofs.YtimpbgncgdaofaaDoor
open Go Go.Bm Go.Proofs
set_option linter.all false

theorem BookOk_iff (ps : List Pattern) (ws : List Exception) (hW : Book.W ⟨ps, ws⟩ ≤ 1048576) (h : AH) (R : AV → AH → Prop) : CA 10 [.agg [.fs none (ps.map Pattern.enc), .fs none (ws.map Exception.enc)]] h R ↔ R (.bool (bookB ⟨ps, ws⟩)) h := by
  refine ca_pure (af := ac10) rfl ?_
  have w1 : WS Pattern.W ps ≤ 1048576 := by simp only [Book.W] at hW; omega
  have w2 : WS Exception.W ws ≤ 1048576 := by simp only [Book.W] at hW; omega
  have l1 := WS_len Pattern.W ps
  have l2 := WS_len Exception.W ws
  by_cases b1 : (5000 : Int) < ps.length
  · simp [ac10, Pattern.ok.toEncOk.len, b1, bookB, show ¬ ps.length ≤ 5000 by omega]
  by_cases b2 : (5000 : Int) < ws.length
  · simp [ac10, Pattern.ok.toEncOk.len, Exception.ok.toEncOk.len, b1, b2, bookB, show ¬ ws.length ≤ 5000 by omega]
  simp [ac10, Pattern.ok.toEncOk.len, Exception.ok.toEncOk.len, b1, b2, containsPat_iff ps w1]
  cases hps : rall ps.length (patF ps) with
  | false => simp [bookB, hps]
  | true =>
    simp [Exception.ok.toEncOk.len]
    refine awp_loop2 caM (fun n st2 h2 => h2 = h ∧ ∃ i : Nat, n = ws.length - i ∧ i ≤ ws.length ∧ (st2 21 = .fs none (ws.map Exception.enc) ∧ st2 22 = .int .i64 ws.length ∧ st2 23 = .int .i64 i ∧ st2 100001 = .agg [.fs none (ps.map Pattern.enc), .fs none (ws.map Exception.enc)]) ∧ ∀ k, k < i → wrdF ws k = true) ?_ (n := ws.length) ⟨rfl, 0, by simp, by simp, by simp, fun k hk => absurd hk (by omega)⟩
    rintro n st h' ⟨rfl, i, rfl, hi, ⟨s21, s22, s23, s1⟩, hl2⟩ K hK hE hQ
    simp [s21, s22, s23]
    by_cases hlt : i < ws.length
    · have a1 := Exception.ok.toEncOk.iaddr (by omega) none ws .i64 (i : Int) h' (by omega) (by omega)
      simp only [Int.toNat_natCast] at a1
      have hwr : IntKind.wrap .i64 ((i : Int) + 1) = (i : Int) + 1 := wrap_i64 (by omega) (by omega)
      obtain ⟨m1, m2⟩ := exc_le w2 hlt
      have bad : wrdF ws i = false → bookB ⟨ps, ws⟩ = false := fun hb => by simp [bookB, rall_false hlt hb]
      have next : wrdF ws i = true → ∀ k, k < i + 1 → wrdF ws k = true := fun hg k hk => by
        by_cases e : k = i
        · rw [e]; exact hg
        · exact hl2 k (by omega)
      simp [hlt, s21, s22, s23, s1, a1, exceptionOk_iff _ _ m1 m2]
      cases hb : excB (nth ws i) with
      | false => simp [hb, hQ, bad (by simp [wrdF, hb])]
      | true =>
        simp [hb, s21, s22, s23, s1, a1]
        by_cases c3 : 0 < i
        · have hwm : IntKind.wrap .i64 ((i : Int) - 1) = ((i - 1 : Nat) : Int) := by rw [wrap_i64 (by omega) (by omega)]; omega
          have a2 := Exception.ok.toEncOk.iaddr (by omega) none ws .i64 ((i - 1 : Nat) : Int) h' (by omega) (by omega)
          simp only [Int.toNat_natCast] at a2
          simp [hb, c3, s21, s22, s23, s1, a1, hwm, a2, bin_sgeq]
          cases hc : Op.bytesLess (nth ws (i - 1)).word.toList (nth ws i).word.toList with
          | false => simp [hb, c3, hc, hQ, bad (by simp [wrdF, hb, hc]; omega)]
          | true =>
            simp [hb, c3, hc, s21, s22, s23, s1, hwr]
            exact hK (ws.length - (i + 1)) _ _ (by omega) ⟨rfl, i + 1, rfl, by omega, ⟨by simp [s21], by simp [s22], by simp, by simp [s1]⟩, next (by simp [wrdF, hb, hc])⟩
        · simp [hb, c3, s21, s22, s23, s1, hwr]
          exact hK (ws.length - (i + 1)) _ _ (by omega) ⟨rfl, i + 1, rfl, by omega, ⟨by simp [s21], by simp [s22], by simp, by simp [s1]⟩, next (by simp [wrdF, hb]; left; omega)⟩
    · obtain rfl : i = ws.length := by omega
      simp [hE, bookB, hps, rall_true hl2]
      omega
theorem lawBookOk_ok (x : Book) (hx : x.Ok) (h : AH) : CA 3 [.agg x.enc] h (fun v _ => v = .bool true) := by
  obtain ⟨ps, ws⟩ := x
  refine (ca_iff (af := ac3) rfl).2 ?_
  simp [ac3, szBook_iff' _ _ hx, szr_neg]
  by_cases hW : (1048576 : Int) < Book.W ⟨ps, ws⟩
  · simp [hW]
  have hw : Book.W ⟨ps, ws⟩ ≤ 1048576 := by omega
  simp [hW, toBook_iff' _ _ hw, specBookOk_iff _ _ hw, BookOk_iff _ _ hw, eqBook_iff' _ _ _ _ (Nat.le_trans hw (by decide))]
end Go.Proofs.YtimpbgncgdaofaaDoor
