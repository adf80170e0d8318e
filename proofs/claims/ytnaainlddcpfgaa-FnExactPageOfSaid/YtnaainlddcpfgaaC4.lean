/- Contracts: the reference's search for how deep a list nests. -/
import Derived.Test.YtnaainlddcpfgaaC3
namespace Go.Proofs.Ytnaainlddcpfgaa
open Go Go.Am Go.Proofs
set_option linter.all false

def encI (n : Int) : List AV := [.int .i64 n]
theorem encI_ok : EncOk 1 encI := ⟨fun _ => rfl, fun _ => rfl⟩
def stk (E : List Nat) : List Int := E.reverse.map fun e : Nat => (e : Int)
theorem stk_len (E : List Nat) : (stk E).length = E.length := by simp [stk]
theorem stk_cons (e : Nat) (E : List Nat) : stk (e :: E) = stk E ++ [(e : Int)] := by simp [stk]
theorem stk_top (e : Nat) (E : List Nat) : nth (stk (e :: E)) E.length = (e : Int) := by
  have h : E.length < (stk (e :: E)).length := by rw [stk_len]; simp
  rw [nth_eq h]
  simp [stk]
theorem stk_pop (e : Nat) (E : List Nat) : (stk (e :: E)).take E.length = stk E := by
  rw [stk_cons, List.take_append_of_le_length (by rw [stk_len]; exact Nat.le_refl _), List.take_of_length_le (by rw [stk_len]; exact Nat.le_refl _)]

def lres (n : Nat) (o : Option Int) : Int := if n > 20000 then -1 else match o with
  | some r => r + 1
  | none => -1

theorem chainE_mono {n : Nat} {E : List Nat} {i j : Nat} (h : chainE n i E) (hj : j ≤ limE n E) : chainE n j E := by
  cases E with
  | nil => exact hj
  | cons e E => exact ⟨hj, h.2⟩

theorem runE_end (xs : List Nd) : ∀ {E : List Nat} {m : Int}, chainE xs.length xs.length E → runE xs xs.length E m = some m
  | [], m, _ => by simp [runE, nestU_nil]
  | e :: E, m, h => by
    have := chainE_le h.2
    obtain rfl : e = xs.length := Nat.le_antisymm this h.1
    rw [runE_pop]; exact runE_end xs h.2

/-- What holds where a round begins. -/
structure NI (h : AH) (v : AV) (xs : List Nd) (i : Nat) (E : List Nat) (m : Int) (s : S) (h' : AH) : Prop where
  s0 : s 0 = v
  s4 : s 4 = .int .i64 (m + 1)
  s5 : s 5 = .int .i64 i
  le : h.le h'
  q : Rq 1 encI h' (s 3) (stk E)
  new : ∀ b, blk (s 3) = some b → h.next ≤ b
  nc : E = [] ∨ NoCap (s 3)
  ch : chainE xs.length i E
  el : E.length ≤ i
  m0 : -1 ≤ m
  m1 : m ≤ 20000
  run : nestU xs 0 (-1) = runE xs i E m

set_option maxRecDepth 100000 in
set_option maxHeartbeats 1000000 in
theorem l8Nest_ok {h : AH} {v : AV} {xs : List Nd} (H : Rs 15 Nd.enc h v xs) {R : AV → AH → Prop} (hR : ∀ h', h.le h' → R (.int .i64 (lres xs.length (nestU xs 0 (-1)))) h') : CA 70 [v] h R := by
  rw [ca_iff (af := ac70) rfl]
  (iterate 4 ((try simp [ac70, H.len]); (try simp (disch := omega) [ac70, H.len])))
  refine condR_splitD ?_ ?_ <;> intro hl
  · simp
    have := hR h (AH.le_refl h)
    simp only [lres] at this
    rwa [if_pos (by omega)] at this
  have hl' : xs.length ≤ 20000 := by omega
  (iterate 4 ((try simp []); (try simp (disch := omega) [])))
  have hfr := Rn.fresh (h0 := h) (h := h) (es := 1) (enc := encI) (xs := []) (n := 0) encI_ok (AH.le_refl h) rfl
  refine awp_loop2 ca_mono (fun n s h' => ∃ (i : Nat) (E : List Nat) (m : Int), n = xs.length - i ∧ i ≤ xs.length ∧ NI h v xs i E m s h') ?_ (n := xs.length) ⟨0, [], -1, by simp, by simp, ⟨by simp, by simp, by simp, AH.le_new _ _, by simpa [stk] using hfr.own.q, by simpa using hfr.new, .inl rfl, Nat.zero_le _, by simp, by omega, by omega, rfl⟩⟩
  rintro n s h' ⟨i, E, m, rfl, hi, N⟩ K hK hE hQ
  have H' := H.le N.le
  simp [N.s0, N.s5, H.len]
  refine condR_splitD ?_ ?_ <;> intro hlt
  · (iterate 4 ((try simp []); (try simp (disch := omega) [])))
    have hlis : ¬ 20000 < xs.length := by omega
    have hl'' : ¬ (20000 < (xs.length : Int)) := by omega
    refine awp_mono ca_mono _ (Q := fun e s' h' => e = .exit 2 ∧ ∃ E, NI h v xs i E m s' h' ∧ i < limE xs.length E) ?_ ?_
    · clear N E
      rintro e s h' ⟨rfl, E, N, hlim⟩
      have hlim0 := hlim
      have H' := H.le N.le
      have hm0 := N.m0
      have hm1 := N.m1
      have hel := N.el
      generalize hx : nth xs i = x
      cases E with
      | nil =>
        have hL : limE xs.length [] = xs.length := rfl
        have hlen : (stk []).length = 0 := rfl
        have htop : True := trivial
        (iterate 4 ((try simp [N.s0, N.s5, H'.iaddr, H'.load, H'.len, hx, hlen, N.q.rows.len, N.q.rows.iaddr, N.q.rows.load1, htop, encI, Nd.enc, Nd.eta, l8NodeOk_iff', l8Deep_iff', wrap_i64]); (try simp (disch := omega) [N.s0, N.s5, H'.iaddr, H'.load, H'.len, hx, hlen, N.q.rows.len, N.q.rows.iaddr, N.q.rows.load1, htop, encI, Nd.enc, Nd.eta, l8NodeOk_iff', l8Deep_iff', wrap_i64])))
        have hst : nestU xs 0 (-1) = _ := N.run.trans (runE_step xs i _ m N.ch hlim)
        rw [hx, hL] at hst
        by_cases hok : okB x = true
        case neg =>
          have hokf : okB x = false := by simpa using hok
          rw [if_neg (fun e => hok e.1)] at hst
          (iterate 4 ((try simp [hokf, hQ]); (try simp (disch := omega) [hokf, hQ])))
          have := hR _ N.le
          simpa [lres, hl'', hst] using this
        by_cases hk0 : 0 ≤ x.kids
        case neg =>
          rw [if_neg (fun e => hk0 e.2.1)] at hst
          have hk0' : x.kids < 0 := by omega
          (iterate 4 ((try simp [hok, hk0', hQ]); (try simp (disch := omega) [hok, hk0', hQ])))
          have := hR _ N.le
          simpa [lres, hl'', hst] using this
        have hk0' : ¬ x.kids < 0 := by omega
        (iterate 4 ((try simp [hok, hk0', N.s5, wrap_i64]); (try simp (disch := omega) [hok, hk0', N.s5, wrap_i64])))
        refine condR_splitD ?_ ?_ <;> intro hk1
        · rw [if_neg (fun e => absurd e.2.2 (by omega))] at hst
          (iterate 4 ((try simp [hQ]); (try simp (disch := omega) [hQ])))
          have := hR _ N.le
          simpa [lres, hl'', hst] using this
        rw [if_pos ⟨hok, hk0, by omega⟩] at hst
        (iterate 4 ((try simp [Nd.eta, l8Deep_iff']); (try simp (disch := omega) [Nd.eta, l8Deep_iff'])))
        cases hdp : deepB x.kind with
        | false =>
          rw [hdp] at hst
          simp only [Bool.false_eq_true, if_false] at hst
          (iterate 4 ((try simp [N.s5, wrap_i64]); (try simp (disch := omega) [N.s5, wrap_i64])))
          refine hK (xs.length - (i + 1)) _ _ (by omega) ⟨i + 1, _, m, rfl, by omega, ⟨by simp [N.s0], by simp [N.s4], by simp, N.le, by simpa using N.q, by simpa using N.new, by simpa using N.nc, chainE_mono N.ch hlim0, Nat.le_succ_of_le N.el, N.m0, N.m1, hst⟩⟩
        | true =>
        rw [hdp, if_pos rfl] at hst
        (iterate 4 ((try simp [N.s4, N.q.rows.len, hlen, wrap_i64]); (try simp (disch := omega) [N.s4, N.q.rows.len, hlen, wrap_i64])))
        have hE0 : (([] : List Nat).length : Int) = (0 : Int) := rfl
        rw [hE0] at hst
        refine condR_splitD ?_ ?_ <;> intro hmx
        · (iterate 4 ((try simp [N.s4, N.q.rows.len, hlen, wrap_i64]); (try simp (disch := omega) [N.s4, N.q.rows.len, hlen, wrap_i64])))
          refine condR_splitD ?_ ?_ <;> intro hkp
          · skip
            have hcs : [AV.int .i64 ((i : Int) + 1 + x.kids)] = encI ((i + 1 + x.kids.toNat : Nat) : Int) := by simp [encI]; omega
            obtain ⟨v2, h2, ea, ho, hnc, hblk, hn, hf⟩ := N.q.append1 _ _ hcs 8 (by rw [hlen]; omega) (by rw [hlen]; omega)
            rw [← stk_cons] at ho
            (iterate 4 ((try simp [N.s5, bslice1, ea, wrap_i64]); (try simp (disch := omega) [N.s5, bslice1, ea, wrap_i64])))
            have hle2 : h.le h2 := ⟨Nat.le_trans N.le.1 hn, fun c hc => (hf c (Nat.lt_of_lt_of_le hc N.le.1) (fun e => absurd (N.new c e) (by omega))).trans (N.le.2 c hc)⟩
            refine hK (xs.length - (i + 1)) _ _ (by omega) ⟨i + 1, (i + 1 + x.kids.toNat) :: ([] : List Nat), max m (0 : Int), rfl, by omega, ⟨by simp [N.s0], ?_, by simp, hle2, by simpa using ho.q, ?_, .inr (by simpa using hnc), ⟨by omega, chainE_mono N.ch (by rw [hL]; omega)⟩, by simp; try omega, by omega, by omega, hst⟩⟩
            · simp [N.s4]; try omega
            · simp [hblk]; have := N.le.1; omega
          · skip
            have hkz : x.kids.toNat = 0 := by omega
            rw [hkz, Nat.add_zero, runE_pop] at hst
            (iterate 4 ((try simp [N.s5, wrap_i64]); (try simp (disch := omega) [N.s5, wrap_i64])))
            refine hK (xs.length - (i + 1)) _ _ (by omega) ⟨i + 1, ([] : List Nat), max m (0 : Int), rfl, by omega, ⟨by simp [N.s0], ?_, by simp, N.le, by simpa using N.q, by simpa using N.new, by simpa using N.nc, chainE_mono N.ch hlim0, Nat.le_succ_of_le N.el, by omega, by omega, hst⟩⟩
            simp [N.s4]; try omega
        · (iterate 4 ((try simp [N.s4, N.q.rows.len, hlen, wrap_i64]); (try simp (disch := omega) [N.s4, N.q.rows.len, hlen, wrap_i64])))
          refine condR_splitD ?_ ?_ <;> intro hkp
          · skip
            have hcs : [AV.int .i64 ((i : Int) + 1 + x.kids)] = encI ((i + 1 + x.kids.toNat : Nat) : Int) := by simp [encI]; omega
            obtain ⟨v2, h2, ea, ho, hnc, hblk, hn, hf⟩ := N.q.append1 _ _ hcs 8 (by rw [hlen]; omega) (by rw [hlen]; omega)
            rw [← stk_cons] at ho
            (iterate 4 ((try simp [N.s5, bslice1, ea, wrap_i64]); (try simp (disch := omega) [N.s5, bslice1, ea, wrap_i64])))
            have hle2 : h.le h2 := ⟨Nat.le_trans N.le.1 hn, fun c hc => (hf c (Nat.lt_of_lt_of_le hc N.le.1) (fun e => absurd (N.new c e) (by omega))).trans (N.le.2 c hc)⟩
            refine hK (xs.length - (i + 1)) _ _ (by omega) ⟨i + 1, (i + 1 + x.kids.toNat) :: ([] : List Nat), max m (0 : Int), rfl, by omega, ⟨by simp [N.s0], ?_, by simp, hle2, by simpa using ho.q, ?_, .inr (by simpa using hnc), ⟨by omega, chainE_mono N.ch (by rw [hL]; omega)⟩, by simp; try omega, by omega, by omega, hst⟩⟩
            · simp [N.s4]; try omega
            · simp [hblk]; have := N.le.1; omega
          · skip
            have hkz : x.kids.toNat = 0 := by omega
            rw [hkz, Nat.add_zero, runE_pop] at hst
            (iterate 4 ((try simp [N.s5, wrap_i64]); (try simp (disch := omega) [N.s5, wrap_i64])))
            refine hK (xs.length - (i + 1)) _ _ (by omega) ⟨i + 1, ([] : List Nat), max m (0 : Int), rfl, by omega, ⟨by simp [N.s0], ?_, by simp, N.le, by simpa using N.q, by simpa using N.new, by simpa using N.nc, chainE_mono N.ch hlim0, Nat.le_succ_of_le N.el, by omega, by omega, hst⟩⟩
            simp [N.s4]; try omega
      | cons e E =>
        have hL : limE xs.length (e :: E) = e := rfl
        have hlen : (stk (e :: E)).length = E.length + 1 := stk_len (e :: E)
        have htop := stk_top e E
        have hen := chainE_le N.ch.2
        rw [hL] at hlim
        simp only [List.length_cons] at hel
        (iterate 4 ((try simp [N.s0, N.s5, H'.iaddr, H'.load, H'.len, hx, hlen, N.q.rows.len, N.q.rows.iaddr, N.q.rows.load1, htop, encI, Nd.enc, Nd.eta, l8NodeOk_iff', l8Deep_iff', wrap_i64]); (try simp (disch := omega) [N.s0, N.s5, H'.iaddr, H'.load, H'.len, hx, hlen, N.q.rows.len, N.q.rows.iaddr, N.q.rows.load1, htop, encI, Nd.enc, Nd.eta, l8NodeOk_iff', l8Deep_iff', wrap_i64])))
        have hst : nestU xs 0 (-1) = _ := N.run.trans (runE_step xs i _ m N.ch hlim)
        rw [hx, hL] at hst
        by_cases hok : okB x = true
        case neg =>
          have hokf : okB x = false := by simpa using hok
          rw [if_neg (fun e => hok e.1)] at hst
          (iterate 4 ((try simp [hokf, hQ]); (try simp (disch := omega) [hokf, hQ])))
          have := hR _ N.le
          simpa [lres, hl'', hst] using this
        by_cases hk0 : 0 ≤ x.kids
        case neg =>
          rw [if_neg (fun e => hk0 e.2.1)] at hst
          have hk0' : x.kids < 0 := by omega
          (iterate 4 ((try simp [hok, hk0', hQ]); (try simp (disch := omega) [hok, hk0', hQ])))
          have := hR _ N.le
          simpa [lres, hl'', hst] using this
        have hk0' : ¬ x.kids < 0 := by omega
        (iterate 4 ((try simp [hok, hk0', N.s5, wrap_i64]); (try simp (disch := omega) [hok, hk0', N.s5, wrap_i64])))
        refine condR_splitD ?_ ?_ <;> intro hk1
        · rw [if_neg (fun e => absurd e.2.2 (by omega))] at hst
          (iterate 4 ((try simp [hQ]); (try simp (disch := omega) [hQ])))
          have := hR _ N.le
          simpa [lres, hl'', hst] using this
        rw [if_pos ⟨hok, hk0, by omega⟩] at hst
        (iterate 4 ((try simp [Nd.eta, l8Deep_iff']); (try simp (disch := omega) [Nd.eta, l8Deep_iff'])))
        cases hdp : deepB x.kind with
        | false =>
          rw [hdp] at hst
          simp only [Bool.false_eq_true, if_false] at hst
          (iterate 4 ((try simp [N.s5, wrap_i64]); (try simp (disch := omega) [N.s5, wrap_i64])))
          refine hK (xs.length - (i + 1)) _ _ (by omega) ⟨i + 1, _, m, rfl, by omega, ⟨by simp [N.s0], by simp [N.s4], by simp, N.le, by simpa using N.q, by simpa using N.new, by simpa using N.nc, chainE_mono N.ch hlim0, Nat.le_succ_of_le N.el, N.m0, N.m1, hst⟩⟩
        | true =>
        rw [hdp, if_pos rfl] at hst
        (iterate 4 ((try simp [N.s4, N.q.rows.len, hlen, wrap_i64]); (try simp (disch := omega) [N.s4, N.q.rows.len, hlen, wrap_i64])))
        have hE0 : ((e :: E).length : Int) = ((E.length : Int) + 1) := rfl
        rw [hE0] at hst
        refine condR_splitD ?_ ?_ <;> intro hmx
        · (iterate 4 ((try simp [N.s4, N.q.rows.len, hlen, wrap_i64]); (try simp (disch := omega) [N.s4, N.q.rows.len, hlen, wrap_i64])))
          refine condR_splitD ?_ ?_ <;> intro hkp
          · skip
            have hcs : [AV.int .i64 ((i : Int) + 1 + x.kids)] = encI ((i + 1 + x.kids.toNat : Nat) : Int) := by simp [encI]; omega
            obtain ⟨v2, h2, ea, ho, hnc, hblk, hn, hf⟩ := N.q.append1 _ _ hcs 8 (by rw [hlen]; omega) (by rw [hlen]; omega)
            rw [← stk_cons] at ho
            (iterate 4 ((try simp [N.s5, bslice1, ea, wrap_i64]); (try simp (disch := omega) [N.s5, bslice1, ea, wrap_i64])))
            have hle2 : h.le h2 := ⟨Nat.le_trans N.le.1 hn, fun c hc => (hf c (Nat.lt_of_lt_of_le hc N.le.1) (fun e => absurd (N.new c e) (by omega))).trans (N.le.2 c hc)⟩
            refine hK (xs.length - (i + 1)) _ _ (by omega) ⟨i + 1, (i + 1 + x.kids.toNat) :: (e :: E), max m ((E.length : Int) + 1), rfl, by omega, ⟨by simp [N.s0], ?_, by simp, hle2, by simpa using ho.q, ?_, .inr (by simpa using hnc), ⟨by omega, chainE_mono N.ch (by rw [hL]; omega)⟩, by simp; try omega, by omega, by omega, hst⟩⟩
            · simp [N.s4]; try omega
            · simp [hblk]; have := N.le.1; omega
          · skip
            have hkz : x.kids.toNat = 0 := by omega
            rw [hkz, Nat.add_zero, runE_pop] at hst
            (iterate 4 ((try simp [N.s5, wrap_i64]); (try simp (disch := omega) [N.s5, wrap_i64])))
            refine hK (xs.length - (i + 1)) _ _ (by omega) ⟨i + 1, (e :: E), max m ((E.length : Int) + 1), rfl, by omega, ⟨by simp [N.s0], ?_, by simp, N.le, by simpa using N.q, by simpa using N.new, by simpa using N.nc, chainE_mono N.ch hlim0, Nat.le_succ_of_le N.el, by omega, by omega, hst⟩⟩
            simp [N.s4]; try omega
        · (iterate 4 ((try simp [N.s4, N.q.rows.len, hlen, wrap_i64]); (try simp (disch := omega) [N.s4, N.q.rows.len, hlen, wrap_i64])))
          refine condR_splitD ?_ ?_ <;> intro hkp
          · skip
            have hcs : [AV.int .i64 ((i : Int) + 1 + x.kids)] = encI ((i + 1 + x.kids.toNat : Nat) : Int) := by simp [encI]; omega
            obtain ⟨v2, h2, ea, ho, hnc, hblk, hn, hf⟩ := N.q.append1 _ _ hcs 8 (by rw [hlen]; omega) (by rw [hlen]; omega)
            rw [← stk_cons] at ho
            (iterate 4 ((try simp [N.s5, bslice1, ea, wrap_i64]); (try simp (disch := omega) [N.s5, bslice1, ea, wrap_i64])))
            have hle2 : h.le h2 := ⟨Nat.le_trans N.le.1 hn, fun c hc => (hf c (Nat.lt_of_lt_of_le hc N.le.1) (fun e => absurd (N.new c e) (by omega))).trans (N.le.2 c hc)⟩
            refine hK (xs.length - (i + 1)) _ _ (by omega) ⟨i + 1, (i + 1 + x.kids.toNat) :: (e :: E), max m ((E.length : Int) + 1), rfl, by omega, ⟨by simp [N.s0], ?_, by simp, hle2, by simpa using ho.q, ?_, .inr (by simpa using hnc), ⟨by omega, chainE_mono N.ch (by rw [hL]; omega)⟩, by simp; try omega, by omega, by omega, hst⟩⟩
            · simp [N.s4]; try omega
            · simp [hblk]; have := N.le.1; omega
          · skip
            have hkz : x.kids.toNat = 0 := by omega
            rw [hkz, Nat.add_zero, runE_pop] at hst
            (iterate 4 ((try simp [N.s5, wrap_i64]); (try simp (disch := omega) [N.s5, wrap_i64])))
            refine hK (xs.length - (i + 1)) _ _ (by omega) ⟨i + 1, (e :: E), max m ((E.length : Int) + 1), rfl, by omega, ⟨by simp [N.s0], ?_, by simp, N.le, by simpa using N.q, by simpa using N.new, by simpa using N.nc, chainE_mono N.ch hlim0, Nat.le_succ_of_le N.el, by omega, by omega, hst⟩⟩
            simp [N.s4]; try omega
    refine awp_loop2 ca_mono (fun n s h' => ∃ (E : List Nat), n = E.length ∧ NI h v xs i E m s h') ?_ (n := E.length) ⟨E, rfl, ⟨by simp [N.s0], by simp [N.s4], by simp [N.s5], N.le, by simpa using N.q, by simpa using N.new, by simpa using N.nc, N.ch, N.el, N.m0, N.m1, N.run⟩⟩
    clear N E
    rintro n s h' ⟨E, rfl, N⟩ K' hK' hE' hQ'
    simp [N.q.rows.len, stk_len]
    cases E with
    | nil =>
      simp [hE']
      exact ⟨[], ⟨by simp [N.s0], by simp [N.s4], by simp [N.s5], N.le, by simpa using N.q, by simpa using N.new, .inl rfl, N.ch, N.el, N.m0, N.m1, N.run⟩, hlt⟩
    | cons e E =>
      have htop := stk_top e E
      have hsl := stk_len (e :: E)
      have hel := N.el
      simp only [List.length_cons] at hel hsl
      (iterate 4 ((try simp [N.q.rows.len, N.q.rows.iaddr, N.q.rows.load1, N.s5, encI, hsl, htop, wrap_i64]); (try simp (disch := omega) [N.q.rows.len, N.q.rows.iaddr, N.q.rows.load1, N.s5, encI, hsl, htop, wrap_i64])))
      refine condR_splitD ?_ ?_ <;> intro hei
      · (iterate 4 ((try simp [N.q.rows.len, N.q.rows.sliceHi, hsl, wrap_i64]); (try simp (disch := omega) [N.q.rows.len, N.q.rows.sliceHi, hsl, wrap_i64])))
        have hei' : e = i := by omega
        have hnc : NoCap (s 3) := by rcases N.nc with h | h; · cases h
                                     · exact h
        have hq := N.q.cut (j := E.length) (by rw [stk_len]; simp) hnc
        rw [stk_pop] at hq
        refine hK' E.length _ _ (by simp) ⟨E, rfl, ⟨by simp [N.s0], by simp [N.s4], by simp [N.s5], N.le, by simpa using hq, ?_, .inr (by simpa using hnc.cut 0 E.length), by rw [← hei']; exact N.ch.2, by omega, N.m0, N.m1, ?_⟩⟩
        · simp [blk_cutv]; exact N.new
        · rw [N.run, hei', runE_pop]
      · simp [hE']
        have hie := N.ch.1
        exact ⟨e :: E, ⟨by simp [N.s0], by simp [N.s4], by simp [N.s5], N.le, by simpa using N.q, by simpa using N.new, by simpa using N.nc, N.ch, N.el, N.m0, N.m1, N.run⟩, by show i < e; omega⟩
  · simp [hE, N.s4]
    obtain rfl : i = xs.length := by omega
    have := hR _ N.le
    rw [N.run, runE_end xs N.ch] at this
    have hl'' : ¬ (20000 < (xs.length : Int)) := by omega
    have hlis : ¬ 20000 < xs.length := by omega
    simpa [lres, hl'', hlis] using this
end Go.Proofs.Ytnaainlddcpfgaa
