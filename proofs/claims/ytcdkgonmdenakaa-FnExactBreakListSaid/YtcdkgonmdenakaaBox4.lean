/- Contracts: the reference's search for how deep a list nests. -/
import Derived.Test.YtcdkgonmdenakaaBox3
namespace Go.Proofs.Ytcdkgonmdenakaa
open Go Go.Bm Go.Proofs
set_option linter.all false

theorem lit1I (n : Int) (h : AH) : bsliceFA 1 1 [.int .i64 0] [(0, .int .i64 n)] h = some (.fs (some 1) [[.int .i64 n]], h) := bsliceF1 1 _ (.int .i64 n) h rfl rfl rfl rfl
def stk (E : List Nat) : List Int := E.reverse.map fun e : Nat => (e : Int)
theorem stk_len (E : List Nat) : (stk E).length = E.length := by simp [stk]
theorem stk_cons (e : Nat) (E : List Nat) : stk (e :: E) = stk E ++ [(e : Int)] := by simp [stk]
theorem stk_top (e : Nat) (E : List Nat) : nth (stk (e :: E)) E.length = (e : Int) := by
  have h : E.length < (stk (e :: E)).length := by rw [stk_len]; simp
  rw [nth_eq h]
  simp [stk]
theorem stk_pop (e : Nat) (E : List Nat) : (stk (e :: E)).take E.length = stk E := by
  rw [stk_cons, List.take_append_of_le_length (by rw [stk_len]; exact Nat.le_refl _), List.take_of_length_le (by rw [stk_len]; exact Nat.le_refl _)]

def lres (n : Nat) (o : Option Int) : Int := if n > 20000 then -1 else match o with
  | some r => r + 1
  | none => -1

theorem chainE_mono {n : Nat} {E : List Nat} {i j : Nat} (h : chainE n i E) (hj : j ≤ limE n E) : chainE n j E := by
  cases E with
  | nil => exact hj
  | cons e E => exact ⟨hj, h.2⟩

theorem runE_end (xs : List Node) : ∀ {E : List Nat} {m : Int}, chainE xs.length xs.length E → runE xs xs.length E m = some m
  | [], m, _ => by simp [runE, nestU_nil]
  | e :: E, m, h => by
    have := chainE_le h.2
    obtain rfl : e = xs.length := Nat.le_antisymm this h.1
    rw [runE_pop]; exact runE_end xs h.2

/-- What holds where a round begins. -/
structure NI (h : AH) (v : AV) (xs : List Node) (i : Nat) (E : List Nat) (m : Int) (s : S) (h' : AH) : Prop where
  s0 : s 0 = v
  s4 : s 4 = .int .i64 (m + 1)
  s5 : s 5 = .int .i64 i
  q : Stk h 1 (encI .i64) h' (s 3) (stk E)
  ch : chainE xs.length i E
  el : E.length ≤ i
  m0 : -1 ≤ m
  m1 : m ≤ 20000
  run : nestU xs 0 (-1) = runE xs i E m

theorem limE_le {n i : Nat} {E : List Nat} (h : chainE n i E) : limE n E ≤ n := by
  cases E with
  | nil => exact Nat.le_refl _
  | cons e E => exact chainE_le h.2
set_option maxRecDepth 100000 in
set_option maxHeartbeats 1000000 in
theorem l8Nest_iff (xs : List Node) (hb : xs.length ≤ 1048576) (c : Option Nat) (h : AH) (R : AV → AH → Prop) : acallM CA .frz 60 [.fs c (xs.map Node.enc)] h R ↔ R (.int .i64 (lres xs.length (nestU xs 0 (-1)))) h := by
  refine ca_frz (af := ac60) rfl ?_
  simp [ac60]
  by_cases hl : 20000 < (xs.length : Int)
  · have hl' : xs.length > 20000 := by omega
    simp [hl, lres]
    omega
  have hl' : ¬ xs.length > 20000 := by omega
  simp [hl]
  have hnone : nestU xs 0 (-1) = none → lres xs.length (nestU xs 0 (-1)) = -1 := fun e => by simp [lres, e]
  refine awp_loop2 caM (fun n s h' => ∃ (i : Nat) (E : List Nat) (m : Int), n = xs.length - i ∧ i ≤ xs.length ∧ NI h (.fs c (xs.map Node.enc)) xs i E m s h') ?_ (n := xs.length) ⟨0, [], -1, by simp, by simp, ⟨by simp, by simp, by simp, by simpa [stk] using Stk.lit0 (encI_ok .i64).toEncOk (AH.le_refl h), Nat.zero_le _, by simp, by omega, by omega, rfl⟩⟩
  rintro n s h' ⟨i, E, m, rfl, hi, N⟩ K hK hE hQ
  simp [N.s0, N.s5]
  by_cases hlt : i < xs.length
  · simp [hlt]
    refine awp_loop2 caM (fun n s h' => ∃ (E : List Nat), n = E.length ∧ NI h (.fs c (xs.map Node.enc)) xs i E m s h') ?_ (n := E.length) ⟨E, rfl, ⟨by simp [N.s0], by simp [N.s4], by simp [N.s5], by simpa using N.q, N.ch, N.el, N.m0, N.m1, N.run⟩⟩
    clear N E
    rintro n s h' ⟨E, rfl, N⟩ K' hK' hE' hQ'
    have hq := N.q.len
    rw [stk_len] at hq
    simp [hq]
    have a1 := fun k => Node.ok.toEncOk.iaddr (by omega) c xs k (i : Int) h' (by omega) (by omega)
    have a2 := fun (k : IntKind) (hE : 0 < E.length) => N.q.iaddr h' k ((E.length - 1 : Nat) : Int) (by omega) (by rw [stk_len]; omega)
    have a3 := fun (hE : 0 < E.length) => N.q.load1 (E.length - 1) 0 (by rw [stk_len]; omega) (by omega)
    have top : 0 < E.length → nth (stk E) (E.length - 1) = (limE xs.length E : Int) := by
      cases E with
      | nil => intro h; cases h
      | cons e E => intro _; exact stk_top e E
    have hLn := limE_le N.ch
    have hel := N.el
    have w0 : 0 < E.length → IntKind.wrap .i64 ((E.length : Int) - 1) = ((E.length - 1 : Nat) : Int) := fun hE => by rw [wrap_i64 (by omega) (by omega)]; omega
    have w1 : IntKind.wrap .i64 ((i : Int) + 1) = (i : Int) + 1 := wrap_i64 (by omega) (by omega)
    have w2 : IntKind.wrap .i64 ((limE xs.length E : Int) - i) = (limE xs.length E : Int) - i := wrap_i64 (by omega) (by omega)
    have w3 : IntKind.wrap .i64 ((limE xs.length E : Int) - i - 1) = (limE xs.length E : Int) - i - 1 := wrap_i64 (by omega) (by omega)
    have w4 : IntKind.wrap .i64 ((E.length : Int) + 1) = (E.length : Int) + 1 := wrap_i64 (by omega) (by omega)
    simp only [Int.toNat_natCast] at a1 a2 a3
    have done : ∀ s2 : S, s2 0 = s 0 → s2 3 = s 3 → s2 4 = s 4 → s2 5 = s 5 → i < limE xs.length E → K' (.exit 2) s2 h' := by
      intro s2 t0 t3 t4 t5 hlim
      rw [N.s0] at t0
      rw [N.s4] at t4
      rw [N.s5] at t5
      have hst := N.run.trans (runE_step xs i _ m N.ch hlim)
      have hm0 := N.m0
      have hm1 := N.m1
      revert hst a1
      generalize hx : nth xs i = x
      intro a1 hst
      simp [hE', t0, t3, t4, t5, a1, hq]
      obtain ⟨L, hLL⟩ : ∃ L, limE xs.length E = L := ⟨_, rfl⟩
      rw [hLL] at hst hlim w2 w3 hLn top
      have hcs : ∀ n : Int, n = ((i + 1 + x.kids.toNat : Nat) : Int) → [AV.int .i64 n] = encI .i64 ((i + 1 + x.kids.toNat : Nat) : Int) := fun n e => by simp [e]
      by_cases h0 : 0 < E.length
      · simp [h0, hq, w0 h0, a2 .i64 h0, a3 h0, top h0, t0, t3, t4, t5, l8NodeOk_iff]
        by_cases hok : okB x = true
        case neg =>
          simp [hok, hQ]
          exact ⟨N.q.le, (hnone (by rw [hst, if_neg (fun e => hok e.1)])).symm⟩
        by_cases hk0 : 0 ≤ x.kids
        case neg =>
          simp [hok, hQ, show x.kids < 0 by omega]
          exact ⟨N.q.le, (hnone (by rw [hst, if_neg (fun e => hk0 e.2.1)])).symm⟩
        simp [hok, hQ, show ¬ x.kids < 0 by omega, w2, w3, t5]
        by_cases hk1 : x.kids ≤ ((L - i - 1 : Nat) : Int)
        case neg =>
          simp [show (L : Int) - i - 1 < x.kids by omega, hQ]
          exact ⟨N.q.le, (hnone (by rw [hst, if_neg (fun e => hk1 e.2.2)])).symm⟩
        rw [if_pos ⟨hok, hk0, hk1⟩] at hst
        have w5 : IntKind.wrap .i64 ((i : Int) + 1 + x.kids) = (i : Int) + 1 + x.kids := wrap_i64 (by omega) (by omega)
        simp [show ¬ ((L : Int) - i - 1 < x.kids) by omega, l8Deep_iff]
        cases hdp : deepB x.kind with
        | false =>
          rw [hdp] at hst
          simp only [Bool.false_eq_true, if_false] at hst
          simp [w1, t5]
          exact hK (xs.length - (i + 1)) _ _ (by omega) ⟨i + 1, E, m, by omega, by omega, ⟨by simp [t0], by simp [t4], by simp, by simpa [t3] using N.q, chainE_mono N.ch (by omega), by omega, hm0, hm1, hst⟩⟩
        | true =>
          rw [hdp, if_pos rfl] at hst
          by_cases hmx : m < (E.length : Int)
          · have hmm : max m (E.length : Int) = E.length := by omega
            rw [hmm] at hst
            simp [hq, w4, t3, t4, t5, hmx, w1, w5]
            by_cases hkp : 0 < x.kids
            · obtain ⟨v2, h2, ea, Q2, _⟩ := N.q.append1 (some 1) _ _ (hcs ((i : Int) + 1 + x.kids) (by omega)) 8 (by rw [stk_len]; omega) (by rw [stk_len]; omega)
              rw [← stk_cons] at Q2
              simp [hkp, t0, t3, t4, t5, w1, w5, lit1I, ea]
              exact hK (xs.length - (i + 1)) _ _ (by omega) ⟨i + 1, (i + 1 + x.kids.toNat) :: E, E.length, by omega, by omega, ⟨by simp [t0], by simp, by simp, by simpa using Q2, ⟨by omega, chainE_mono N.ch (by omega)⟩, by simp; omega, by omega, by omega, hst⟩⟩
            · have hkz : x.kids.toNat = 0 := by omega
              rw [hkz, Nat.add_zero, runE_pop] at hst
              simp [hkp, w1, t5]
              exact hK (xs.length - (i + 1)) _ _ (by omega) ⟨i + 1, E, E.length, by omega, by omega, ⟨by simp [t0], by simp, by simp, by simpa [t3] using N.q, chainE_mono N.ch (by omega), by omega, by omega, by omega, hst⟩⟩
          · have hmm : max m (E.length : Int) = m := by omega
            rw [hmm] at hst
            simp [hq, w4, t3, t4, t5, hmx, w1, w5]
            by_cases hkp : 0 < x.kids
            · obtain ⟨v2, h2, ea, Q2, _⟩ := N.q.append1 (some 1) _ _ (hcs ((i : Int) + 1 + x.kids) (by omega)) 8 (by rw [stk_len]; omega) (by rw [stk_len]; omega)
              rw [← stk_cons] at Q2
              simp [hkp, t0, t3, t4, t5, w1, w5, lit1I, ea]
              exact hK (xs.length - (i + 1)) _ _ (by omega) ⟨i + 1, (i + 1 + x.kids.toNat) :: E, m, by omega, by omega, ⟨by simp [t0], by simp [t4], by simp, by simpa using Q2, ⟨by omega, chainE_mono N.ch (by omega)⟩, by simp; omega, by omega, by omega, hst⟩⟩
            · have hkz : x.kids.toNat = 0 := by omega
              rw [hkz, Nat.add_zero, runE_pop] at hst
              simp [hkp, w1, t5]
              exact hK (xs.length - (i + 1)) _ _ (by omega) ⟨i + 1, E, m, by omega, by omega, ⟨by simp [t0], by simp [t4], by simp, by simpa [t3] using N.q, chainE_mono N.ch (by omega), by omega, by omega, by omega, hst⟩⟩
      · have hL : xs.length = L := by
          cases E with
          | nil => exact hLL
          | cons e E => simp at h0
        rw [hL]
        simp [h0, t0, t3, t4, t5, l8NodeOk_iff]
        by_cases hok : okB x = true
        case neg =>
          simp [hok, hQ]
          exact ⟨N.q.le, (hnone (by rw [hst, if_neg (fun e => hok e.1)])).symm⟩
        by_cases hk0 : 0 ≤ x.kids
        case neg =>
          simp [hok, hQ, show x.kids < 0 by omega]
          exact ⟨N.q.le, (hnone (by rw [hst, if_neg (fun e => hk0 e.2.1)])).symm⟩
        simp [hok, hQ, show ¬ x.kids < 0 by omega, w2, w3, t5]
        by_cases hk1 : x.kids ≤ ((L - i - 1 : Nat) : Int)
        case neg =>
          simp [show (L : Int) - i - 1 < x.kids by omega, hQ]
          exact ⟨N.q.le, (hnone (by rw [hst, if_neg (fun e => hk1 e.2.2)])).symm⟩
        rw [if_pos ⟨hok, hk0, hk1⟩] at hst
        have w5 : IntKind.wrap .i64 ((i : Int) + 1 + x.kids) = (i : Int) + 1 + x.kids := wrap_i64 (by omega) (by omega)
        simp [show ¬ ((L : Int) - i - 1 < x.kids) by omega, l8Deep_iff]
        cases hdp : deepB x.kind with
        | false =>
          rw [hdp] at hst
          simp only [Bool.false_eq_true, if_false] at hst
          simp [w1, t5]
          exact hK (xs.length - (i + 1)) _ _ (by omega) ⟨i + 1, E, m, by omega, by omega, ⟨by simp [t0], by simp [t4], by simp, by simpa [t3] using N.q, chainE_mono N.ch (by omega), by omega, hm0, hm1, hst⟩⟩
        | true =>
          rw [hdp, if_pos rfl] at hst
          by_cases hmx : m < (E.length : Int)
          · have hmm : max m (E.length : Int) = E.length := by omega
            rw [hmm] at hst
            simp [hq, w4, t3, t4, t5, hmx, w1, w5]
            by_cases hkp : 0 < x.kids
            · obtain ⟨v2, h2, ea, Q2, _⟩ := N.q.append1 (some 1) _ _ (hcs ((i : Int) + 1 + x.kids) (by omega)) 8 (by rw [stk_len]; omega) (by rw [stk_len]; omega)
              rw [← stk_cons] at Q2
              simp [hkp, t0, t3, t4, t5, w1, w5, lit1I, ea]
              exact hK (xs.length - (i + 1)) _ _ (by omega) ⟨i + 1, (i + 1 + x.kids.toNat) :: E, E.length, by omega, by omega, ⟨by simp [t0], by simp, by simp, by simpa using Q2, ⟨by omega, chainE_mono N.ch (by omega)⟩, by simp; omega, by omega, by omega, hst⟩⟩
            · have hkz : x.kids.toNat = 0 := by omega
              rw [hkz, Nat.add_zero, runE_pop] at hst
              simp [hkp, w1, t5]
              exact hK (xs.length - (i + 1)) _ _ (by omega) ⟨i + 1, E, E.length, by omega, by omega, ⟨by simp [t0], by simp, by simp, by simpa [t3] using N.q, chainE_mono N.ch (by omega), by omega, by omega, by omega, hst⟩⟩
          · have hmm : max m (E.length : Int) = m := by omega
            rw [hmm] at hst
            simp [hq, w4, t3, t4, t5, hmx, w1, w5]
            by_cases hkp : 0 < x.kids
            · obtain ⟨v2, h2, ea, Q2, _⟩ := N.q.append1 (some 1) _ _ (hcs ((i : Int) + 1 + x.kids) (by omega)) 8 (by rw [stk_len]; omega) (by rw [stk_len]; omega)
              rw [← stk_cons] at Q2
              simp [hkp, t0, t3, t4, t5, w1, w5, lit1I, ea]
              exact hK (xs.length - (i + 1)) _ _ (by omega) ⟨i + 1, (i + 1 + x.kids.toNat) :: E, m, by omega, by omega, ⟨by simp [t0], by simp [t4], by simp, by simpa using Q2, ⟨by omega, chainE_mono N.ch (by omega)⟩, by simp; omega, by omega, by omega, hst⟩⟩
            · have hkz : x.kids.toNat = 0 := by omega
              rw [hkz, Nat.add_zero, runE_pop] at hst
              simp [hkp, w1, t5]
              exact hK (xs.length - (i + 1)) _ _ (by omega) ⟨i + 1, E, m, by omega, by omega, ⟨by simp [t0], by simp [t4], by simp, by simpa [t3] using N.q, chainE_mono N.ch (by omega), by omega, by omega, by omega, hst⟩⟩
    by_cases h0 : 0 < E.length
    · simp [h0, hq, w0 h0, a2 .i64 h0, a3 h0, top h0, N.s5]
      by_cases he : limE xs.length E = i
      · obtain ⟨v', e1, Q1, _⟩ := N.q.cut .i64 ((E.length - 1 : Nat) : Int) (by omega) (by rw [stk_len]; omega) (by rw [stk_len]; omega) h'
        simp [he, hq, w0 h0, e1]
        cases E with
        | nil => cases h0
        | cons e E =>
          have he' : e = i := he
          simp at Q1
          rw [stk_pop] at Q1
          refine hK' E.length _ _ (by simp) ⟨E, rfl, ⟨by simp [N.s0], by simp [N.s4], by simp [N.s5], by simpa using Q1, by rw [← he']; exact N.ch.2, by simp at hel; omega, N.m0, N.m1, ?_⟩⟩
          rw [N.run, he', runE_pop]
      · have hch := N.ch
        have hlim : i < limE xs.length E := by
          cases E with
          | nil => cases h0
          | cons e E => have := hch.1; have : ¬ e = i := he; show i < e; omega
        have he' : ¬ ((limE xs.length E : Int) = i) := by omega
        simp [he']
        exact done _ (by simp) (by simp) (by simp) (by simp) hlim
    · have hL : limE xs.length E = xs.length := by cases E with
        | nil => rfl
        | cons e E => simp at h0
      simp [h0]
      exact done _ (by simp) (by simp) (by simp) (by simp) (by omega)
  · obtain rfl : i = xs.length := by omega
    have e := N.run.trans (runE_end xs N.ch)
    simp [hE, N.s4, e, lres, hl', N.q.le]
    done
end Go.Proofs.Ytcdkgonmdenakaa
