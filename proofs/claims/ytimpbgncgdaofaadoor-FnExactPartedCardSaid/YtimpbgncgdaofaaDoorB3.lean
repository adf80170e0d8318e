/- Contracts: patterns of the program; books of both; the law. -/
import Derived.Test.YtimpbgncgdaofaaDoorB2
namespace Go.Proofs.YtimpbgncgdaofaaDoor
open Go Go.Bm Go.Proofs
set_option linter.all false

theorem trim_no (l : ByteArray) (hs : l.size ≤ 1048576) (h : trimV l dotS = ⟨#[]⟩) : anyB l = false := by
  have tn := (trimV_nil (s := l) (.inl ⟨rfl, rfl, rfl⟩ : setOf dotS 46 46) (by omega)).1 h
  unfold anyB
  rw [rall_true fun k hk => by
    have := tn k hk
    unfold inR at this
    simp [lowB]; omega]
  rfl
theorem PatternOk_iff (l : ByteArray) (ms : List Int) (hs : l.size ≤ 1048576) (hm : ms.length ≤ 1048576) (h : AH) (R : AV → AH → Prop) : CA 30 [.agg [.str l, .fs none (ms.map (encI .i64))]] h R ↔ R (.bool (patB ⟨l, ms⟩)) h := by
  refine ca_pure (af := ac30) rfl ?_
  have hset : setOf dotS 46 46 := .inl ⟨rfl, rfl, rfl⟩
  have tr : ∀ (h : AH) R, CA 52 [.str l, .str dotS] h R ↔ R (.str (trimV l dotS)) h := fun h R => trim_iff (f := 52) rfl hset (by omega) h R
  simp only [dotS] at tr
  have at_ := anyB_trim l hs
  have tno := trim_no l hs
  simp only [dotS] at at_ tno
  by_cases b1 : (l.size : Int) < 1
  · simp [ac30, b1, patB_no1 (p := ⟨l, ms⟩) (by simp; omega)]
  by_cases b2 : (20 : Int) < l.size
  · simp [ac30, b1, b2, patB_no1 (p := ⟨l, ms⟩) (by simp; omega)]
  have hw0 : IntKind.wrap .i64 ((l.size : Int) + 1) = (l.size : Int) + 1 := wrap_i64 (by omega) (by omega)
  by_cases b3 : (ms.length : Int) = (l.size : Int) + 1
  case neg => simp [ac30, b1, b2, b3, hw0, (encI_ok .i64).toEncOk.len, patB_no1 (p := ⟨l, ms⟩) (by simp; omega)]
  have hlen : ms.length = l.size + 1 := by omega
  simp [ac30, b1, b2, b3, hw0, (encI_ok .i64).toEncOk.len, tr]
  by_cases b4 : trimV l ⟨#[46]⟩ = ⟨#[]⟩
  · simp [b4, patB, tno b4]
  simp [b4]
  refine awp_loop2 caM (fun n st h' => h' = h ∧ ∃ i : Nat, n = l.size - i ∧ i ≤ l.size ∧ (st 3 = .int .i64 l.size ∧ st 29 = .int .i64 l.size ∧ st 30 = .int .i64 i ∧ st 100001 = .agg [.str l, .fs none (ms.map (encI .i64))]) ∧ ∀ k, k < i → chrF l k = true) ?_ (n := l.size) ⟨rfl, 0, by simp, by simp, by simp, fun k hk => absurd hk (by omega)⟩
  rintro n st h' ⟨rfl, i, rfl, hi, ⟨s3, s29, s30, s1⟩, hl⟩ K hK hE hQ
  simp [s29, s30]
  by_cases hlt : i < l.size
  · have ij := str_ix l i .i64 h' hlt
    have hwr : IntKind.wrap .i64 ((i : Int) + 1) = (i : Int) + 1 := wrap_i64 (by omega) (by omega)
    have hwn : IntKind.wrap .i64 ((l.size : Int) - 1) = (l.size : Int) - 1 := wrap_i64 (by omega) (by omega)
    have bad : chrF l i = false → patB ⟨l, ms⟩ = false := fun hb => by simp [patB, rall_false hlt hb]
    have go : chrF l i = true → ∀ st2 : S, st2 3 = .int .i64 l.size → st2 29 = .int .i64 l.size → st2 30 = .int .i64 ((i : Int) + 1) → st2 100001 = .agg [.str l, .fs none (ms.map (encI .i64))] → K .normal st2 h' := fun hg st2 t3 t29 t30 t1 =>
      hK (l.size - (i + 1)) _ _ (by omega) ⟨rfl, i + 1, rfl, by omega, ⟨t3, t29, by simpa using t30, t1⟩, fun k hk => by
        by_cases e : k = i
        · rw [e]; exact hg
        · exact hl k (by omega)⟩
    simp [hlt, s3, s29, s30, s1, ij]
    by_cases c1 : (97 : Int) ≤ (byt l i).toNat
    · by_cases c2 : ((byt l i).toNat : Int) ≤ 122
      · simp [c1, c2, s3, s29, s30, s1, hwr]
        exact go (by simp [chrF, lowB]; omega) _ (by simp [s3]) (by simp [s29]) (by simp) (by simp [s1])
      · have e46 : ¬ ((byt l i).toNat : Int) = 46 := by omega
        simp [c1, c2, e46, hQ, bad (by simp [chrF, lowB]; omega)]
    · by_cases e46 : ((byt l i).toNat : Int) = 46
      · simp [c1, e46, s3, s29, s30, s1]
        have e46' : (byt l i).toNat = 46 := by omega
        by_cases c3 : i = 0
        · subst c3
          have hw1 : IntKind.wrap .i64 1 = 1 := wrap_i64 (by omega) (by omega)
          simp [c1, e46, s3, s29, s30, s1, hw1]
          exact go (by simp [chrF, lowB]; omega) _ (by simp [s3]) (by simp [s29]) (by simp) (by simp [s1])
        · simp [c1, e46, c3, s3, s29, s30, s1, hwn]
          by_cases c4 : (i : Int) = (l.size : Int) - 1
          · have c4' : ((i : Int) = (l.size : Int) - 1) = True := eq_true c4
            simp [c1, e46, c3, c4', s3, s29, s30, s1, hwr]
            exact go (by simp [chrF, lowB]; omega) _ (by simp [s3]) (by simp [s29]) (by simp) (by simp [s1])
          · simp [c1, e46, c3, c4, hQ, bad (by simp [chrF, lowB]; omega)]
      · simp [c1, e46, hQ, bad (by simp [chrF, lowB]; omega)]
  · obtain rfl : i = l.size := by omega
    have hchr := rall_true hl
    have ha := at_ hl
    simp [hE, s1, containsMarks_iff ms hm, patB, hchr, ha, b4, hlen]
    exact fun _ => ⟨by omega, by omega⟩
/-! ### books -/
def patF (ps : List Pattern) (i : Nat) : Bool := patB (nth ps i)
def wrdF (ws : List Exception) (i : Nat) : Bool := excB (nth ws i) && (decide (i = 0) || Op.bytesLess (nth ws (i - 1)).word.toList (nth ws i).word.toList)
def bookB (b : Book) : Bool := decide (b.patterns.length ≤ 5000) && decide (b.words.length ≤ 5000) && rall b.patterns.length (patF b.patterns) && rall b.words.length (wrdF b.words)
theorem pat_le {ps : List Pattern} (hW : WS Pattern.W ps ≤ 1048576) {i : Nat} (hi : i < ps.length) : (nth ps i).letters.size ≤ 1048576 ∧ (nth ps i).marks.length ≤ 1048576 := by
  have := WS_nth Pattern.W hi
  simp only [Pattern.W] at this
  omega
theorem exc_le {ws : List Exception} (hW : WS Exception.W ws ≤ 1048576) {i : Nat} (hi : i < ws.length) : (nth ws i).word.size ≤ 1048576 ∧ (nth ws i).places.length ≤ 1048576 := by
  have := WS_nth Exception.W hi
  simp only [Exception.W] at this
  omega
theorem bookOk1_iff (l : ByteArray) (ms : List Int) (hs : l.size ≤ 1048576) (hm : ms.length ≤ 1048576) (h : AH) (R : AV → AH → Prop) : CA 29 [.agg [.str l, .fs none (ms.map (encI .i64))]] h R ↔ R (.bool (!patB ⟨l, ms⟩)) h := by
  refine ca_pure (af := ac29) rfl ?_
  simp [ac29, PatternOk_iff l ms hs hm]
theorem containsPat_iff (ps : List Pattern) (hW : WS Pattern.W ps ≤ 1048576) (h : AH) (R : AV → AH → Prop) : CA 28 [.fs none (ps.map Pattern.enc), .fn 29 []] h R ↔ R (.bool (!rall ps.length (patF ps))) h := by
  have l1 := WS_len Pattern.W ps
  have idx : ∀ (h : AH) R, CA 51 [.fs none (ps.map Pattern.enc), .fn 29 []] h R ↔ R (.int .i64 (if rall ps.length (patF ps) then -1 else ((List.range ps.length).find? fun i => !patF ps i).getD 0)) h := by
    intro h R
    refine ca_pure (af := ac51) rfl ?_
    simp [ac51, Pattern.ok.toEncOk.len]
    refine awp_loop2 caM (fun n st h' => h' = h ∧ ∃ i : Nat, n = ps.length - i ∧ i ≤ ps.length ∧ (st 0 = .fs none (ps.map Pattern.enc) ∧ st 1 = .fn 29 [] ∧ st 7 = .int .i64 ps.length ∧ st 8 = .int .i64 i) ∧ ∀ k, k < i → patF ps k = true) ?_ (n := ps.length) ⟨rfl, 0, by simp, by simp, by simp, fun k hk => absurd hk (by omega)⟩
    rintro n st h' ⟨rfl, i, rfl, hi, ⟨s0, s1, s7, s8⟩, hl⟩ K hK hE hQ
    simp [s0, s1, s7, s8]
    by_cases hlt : i < ps.length
    · have a1 := Pattern.ok.toEncOk.iaddr (by omega) none ps .i64 (i : Int) h' (by omega) (by omega)
      simp only [Int.toNat_natCast] at a1
      have hwr : IntKind.wrap .i64 ((i : Int) + 1) = (i : Int) + 1 := wrap_i64 (by omega) (by omega)
      obtain ⟨m1, m2⟩ := pat_le hW hlt
      simp [hlt, s0, s1, s7, s8, a1, bookOk1_iff _ _ m1 m2]
      cases hb : patF ps i with
      | true =>
        have hb' : patB (nth ps i) = true := hb
        simp [hb', s0, s1, s7, s8, hwr]
        exact hK (ps.length - (i + 1)) _ _ (by omega) ⟨rfl, i + 1, rfl, by omega, ⟨by simp [s0], by simp [s1], by simp [s7], by simp⟩, fun k hk => by
          by_cases e : k = i
          · rw [e]; exact hb
          · exact hl k (by omega)⟩
      | false =>
        have hb' : patB (nth ps i) = false := hb
        have hf : ((List.range ps.length).find? fun i => !patF ps i) = some i := by
          rw [List.find?_range_eq_some]
          exact ⟨by simp [hb], by simpa using hlt, fun k hk => by simp [hl k hk]⟩
        simp [hb', hQ, rall_false hlt hb, hf]
    · obtain rfl : i = ps.length := by omega
      simp [hE, rall_true hl]
  refine ca_pure (af := ac28) rfl ?_
  simp [ac28, idx]
  cases rall ps.length (patF ps) <;> simp
theorem bin_sgeq (a b : ByteArray) : binStr .geq a b = some (.bool (!Op.bytesLess a.toList b.toList)) := rfl
theorem specBookOk_iff (ps : List Pattern) (ws : List Exception) (hW : Book.W ⟨ps, ws⟩ ≤ 1048576) (h : AH) (R : AV → AH → Prop) : CA 8 [.agg [.fs none (ps.map Pattern.enc), .fs none (ws.map Exception.enc)]] h R ↔ R (.bool (bookB ⟨ps, ws⟩)) h := by
  refine ca_pure (af := ac8) rfl ?_
  have w1 : WS Pattern.W ps ≤ 1048576 := by simp only [Book.W] at hW; omega
  have w2 : WS Exception.W ws ≤ 1048576 := by simp only [Book.W] at hW; omega
  have l1 := WS_len Pattern.W ps
  have l2 := WS_len Exception.W ws
  by_cases b1 : (5000 : Int) < ps.length
  · simp [ac8, Pattern.ok.toEncOk.len, b1, bookB, show ¬ ps.length ≤ 5000 by omega]
  by_cases b2 : (5000 : Int) < ws.length
  · simp [ac8, Pattern.ok.toEncOk.len, Exception.ok.toEncOk.len, b1, b2, bookB, show ¬ ws.length ≤ 5000 by omega]
  simp [ac8, Pattern.ok.toEncOk.len, Exception.ok.toEncOk.len, b1, b2]
  refine awp_loop2 caM (fun n st h' => h' = h ∧ ∃ i : Nat, n = ps.length - i ∧ i ≤ ps.length ∧ (st 3 = .int .i64 i ∧ st 100001 = .agg [.fs none (ps.map Pattern.enc), .fs none (ws.map Exception.enc)]) ∧ ∀ k, k < i → patF ps k = true) ?_ (n := ps.length) ⟨rfl, 0, by simp, by simp, by simp, fun k hk => absurd hk (by omega)⟩
  rintro n st h' ⟨rfl, i, rfl, hi, ⟨s3, s1⟩, hl⟩ K hK hE hQ
  simp [s3, s1, Pattern.ok.toEncOk.len]
  by_cases hlt : i < ps.length
  · have a1 := Pattern.ok.toEncOk.iaddr (by omega) none ps .i64 (i : Int) h' (by omega) (by omega)
    simp only [Int.toNat_natCast] at a1
    have hwr : IntKind.wrap .i64 ((i : Int) + 1) = (i : Int) + 1 := wrap_i64 (by omega) (by omega)
    obtain ⟨m1, m2⟩ := pat_le w1 hlt
    simp [hlt, s3, s1, a1, l7PatternOk_iff _ _ m1 m2]
    cases hb : patF ps i with
    | true =>
      have hb' : patB (nth ps i) = true := hb
      simp [hb', s3, s1, hwr]
      exact hK (ps.length - (i + 1)) _ _ (by omega) ⟨rfl, i + 1, rfl, by omega, ⟨by simp, by simp [s1]⟩, fun k hk => by
        by_cases e : k = i
        · rw [e]; exact hb
        · exact hl k (by omega)⟩
    | false =>
      have hb' : patB (nth ps i) = false := hb
      simp [hb', hQ, bookB, rall_false hlt hb]
  · obtain rfl : i = ps.length := by omega
    have hps := rall_true hl
    simp [hE]
    clear hK hE hQ K
    refine awp_loop2 caM (fun n st2 h2 => h2 = h' ∧ ∃ i : Nat, n = ws.length - i ∧ i ≤ ws.length ∧ (st2 4 = .int .i64 i ∧ st2 100001 = .agg [.fs none (ps.map Pattern.enc), .fs none (ws.map Exception.enc)]) ∧ ∀ k, k < i → wrdF ws k = true) ?_ (n := ws.length) ⟨rfl, 0, by simp, by simp, by simp [s1], fun k hk => absurd hk (by omega)⟩
    clear s3 s1
    rintro n st h' ⟨rfl, i, rfl, hi, ⟨s4, s1⟩, hl2⟩ K hK hE hQ
    simp [s4, s1, Exception.ok.toEncOk.len]
    by_cases hlt : i < ws.length
    · have a1 := Exception.ok.toEncOk.iaddr (by omega) none ws .i64 (i : Int) h' (by omega) (by omega)
      simp only [Int.toNat_natCast] at a1
      have hwr : IntKind.wrap .i64 ((i : Int) + 1) = (i : Int) + 1 := wrap_i64 (by omega) (by omega)
      obtain ⟨m1, m2⟩ := exc_le w2 hlt
      have bad : wrdF ws i = false → bookB ⟨ps, ws⟩ = false := fun hb => by simp [bookB, rall_false hlt hb]
      have next : wrdF ws i = true → ∀ k, k < i + 1 → wrdF ws k = true := fun hg k hk => by
        by_cases e : k = i
        · rw [e]; exact hg
        · exact hl2 k (by omega)
      simp [hlt, s4, s1, a1, l7ExceptionOk_iff _ _ m1 m2]
      cases hb : excB (nth ws i) with
      | false => simp [hb, hQ, bad (by simp [wrdF, hb])]
      | true =>
        simp [hb, s4, s1, a1]
        by_cases c3 : 0 < i
        · have hwm : IntKind.wrap .i64 ((i : Int) - 1) = ((i - 1 : Nat) : Int) := by rw [wrap_i64 (by omega) (by omega)]; omega
          have a2 := Exception.ok.toEncOk.iaddr (by omega) none ws .i64 ((i - 1 : Nat) : Int) h' (by omega) (by omega)
          simp only [Int.toNat_natCast] at a2
          simp [hb, c3, s4, s1, a1, hwm, a2, bin_sgeq]
          cases hc : Op.bytesLess (nth ws (i - 1)).word.toList (nth ws i).word.toList with
          | false => simp [hb, c3, hc, hQ, bad (by simp [wrdF, hb, hc]; omega)]
          | true =>
            simp [hb, c3, hc, s4, s1, hwr]
            exact hK (ws.length - (i + 1)) _ _ (by omega) ⟨rfl, i + 1, rfl, by omega, ⟨by simp, by simp [s1]⟩, next (by simp [wrdF, hb, hc])⟩
        · simp [hb, c3, s4, s1, hwr]
          exact hK (ws.length - (i + 1)) _ _ (by omega) ⟨rfl, i + 1, rfl, by omega, ⟨by simp, by simp [s1]⟩, next (by simp [wrdF, hb]; left; omega)⟩
    · obtain rfl : i = ws.length := by omega
      simp [hE, bookB, hps, rall_true hl2]
      omega
end Go.Proofs.YtimpbgncgdaofaaDoor
