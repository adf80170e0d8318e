/- The law FnExactPageBreaks, over the abstract machine: it answers true. -/
import Derived.Test.YtnaainlddcpfgaaC8
namespace Go.Proofs.Ytnaainlddcpfgaa
open Go Go.Am Go.Proofs
set_option linter.all false

set_option maxHeartbeats 1000000 in
theorem implPageBreaks_ok {h : AH} {v : AV} {xs : List Nd} (H : Rs 15 Nd.enc h v xs) (hb : xs.length ≤ 1048576) {R : AV → AH → Prop}
    (hR : ∀ v' h', h.le h' → Rn h 1 encI h' v' (breaksL xs) → R v' h') : CA 27 [v] h R := by
  rw [ca_iff (af := ac27) rfl]
  simp [ac27]
  refine oStack_ok H hb fun vs0 h1 vs l1 O => ?_
  have hlen := itemsL_len xs
  simp
  cases hsb : stackB xs with
  | false =>
    simp
    exact hR _ _ l1 (by simp only [breaksL, hsb]; exact Rn.nils encI_ok h h1)
  | true =>
  simp
  refine awp_loop2 ca_mono (fun n s h' => ∃ i : Nat, n = (itemsL xs).length + 1 - i ∧ i ≤ (itemsL xs).length + 1 ∧ (s 3 = vs0 ∧ s 6 = .int .i64 (i : Nat)) ∧ h1.le h' ∧ Rn h1 1 encI h' (s 5) (breaksTo (itemsL xs) i)) ?_ (n := (itemsL xs).length + 1) ⟨0, by simp, by simp, by simp, AH.le_refl _, by simpa [breaksTo] using Rn.nils encI_ok h1 h1⟩
  rintro n s h' ⟨i, rfl, hi, ⟨s3, s6⟩, hle, hN⟩ K hK hE hQ
  have S := O.ss.le hle
  simp [s3, s6, S.out.len, S.len]
  refine condR_splitD ?_ ?_ <;> intro hlt
  · have hp := fun R => oPrice_iff S (items_ne xs) (by omega) i (by omega) R
    have hbl := breaksTo_len (itemsL xs) i
    simp [s3, s6, hp]
    cases hbi : isB (itemsL xs) i with
    | false =>
      (iterate 4 ((try simp [s6, wrap_i64]); (try simp (disch := omega) [s6, wrap_i64])))
      refine hK ((itemsL xs).length + 1 - (i + 1)) _ _ (by omega) ⟨i + 1, rfl, by omega, ⟨by simp [s3], by simp⟩, hle, ?_⟩
      rw [breaksTo_succ, hbi]; simpa using hN
    | true =>
      obtain ⟨v2, h2, ea, hle2, hN2, _⟩ := hN.append1 hle (i : Int) [.int .i64 (i : Int)] rfl 8 (by omega) (by omega)
      (iterate 4 ((try simp [s6, bslice1, ea, wrap_i64]); (try simp (disch := omega) [s6, bslice1, ea, wrap_i64])))
      refine hK ((itemsL xs).length + 1 - (i + 1)) _ _ (by omega) ⟨i + 1, rfl, by omega, ⟨by simp [s3], by simp⟩, hle2, ?_⟩
      rw [breaksTo_succ, hbi]; simpa using hN2
  · obtain rfl : i = (itemsL xs).length + 1 := by omega
    simp [hE]
    exact hR _ _ (AH.le_trans l1 hle) (by simp only [breaksL, hsb, if_true]; exact hN.weaken l1)

set_option maxHeartbeats 1000000 in
theorem l10PageBreaks_ok {h : AH} {v : AV} {xs : List Nd} (H : Rs 15 Nd.enc h v xs) (hb : xs.length ≤ 1048576) {R : AV → AH → Prop}
    (hR : ∀ v' h', h.le h' → Rn h 1 encI h' v' (breaksL xs) → R v' h') : CA 26 [v] h R := by
  rw [ca_iff (af := ac26) rfl]
  simp [ac26]
  have hfr := Rn.fresh (h0 := h) (h := h) (es := 1) (enc := encI) (xs := []) (n := 0) encI_ok (AH.le_refl h) rfl
  have hle1 := AH.le_new h (.cells true (([] : List Int).flatMap encI))
  simp only [List.flatMap_nil] at hfr hle1
  refine l10Stack_ok (H.le hle1) hb fun vs0 h1 vs l1 O hP => ?_
  have hlen := itemsL_len xs
  have hfr1 := hfr.le l1
  have hn1 : h.next < h1.next := Nat.lt_of_lt_of_le (Nat.lt_succ_self _) l1.1
  simp
  refine awp_loop2 ca_mono (fun n s h' => ∃ i : Nat, n = (itemsL xs).length + 1 - i ∧ i ≤ (itemsL xs).length + 1 ∧ (s 4 = vs0 ∧ s 5 = .bool (stackB xs) ∧ s 6 = .int .i64 (i : Nat)) ∧ h.le h' ∧ Rss h' vs0 vs (itemsL xs) ∧ (stackB xs = false → i = 0) ∧ Rn h 1 encI h' (s 3) (breaksTo (itemsL xs) i) ∧ (∀ b, blk (s 3) = some b → b = h.next ∨ h1.next ≤ b) ∧ h1.next ≤ h'.next) ?_ (n := (itemsL xs).length + 1) ⟨0, by simp, by simp, by simp, AH.le_trans hle1 l1, O, by simp, by simpa [breaksTo] using hfr1, (fun b hb => by simp [blk] at hb; exact .inl hb.symm), Nat.le_refl _⟩
  rintro n s h' ⟨i, rfl, hi, ⟨s4, s5, s6⟩, hle, S, hz, hN, hpos, hnx⟩ K hK hE hQ
  simp [s5]
  cases hsb : stackB xs with
  | false =>
    obtain rfl := hz hsb
    simp [hE]
    exact hR _ _ hle (by simp only [breaksL, hsb]; simpa [breaksTo] using hN)
  | true =>
  have hlenR := S.out.len
  simp [s4, s6, S.out.len, S.len]
  refine condR_splitD ?_ ?_ <;> intro hlt
  · have hp := fun R => l10Is_iff S (items_ne xs) (by omega) i (by omega) R
    have hbl := breaksTo_len (itemsL xs) i
    simp [s4, s6, hp]
    cases hbi : isB (itemsL xs) i with
    | false =>
      (iterate 4 ((try simp [s6, wrap_i64]); (try simp (disch := omega) [s6, wrap_i64])))
      refine hK ((itemsL xs).length + 1 - (i + 1)) _ _ (by omega) ⟨i + 1, rfl, by omega, ⟨by simp [s4], by simp [s5, hsb], by simp⟩, hle, S, by simp [hsb], ?_, by simpa using hpos, hnx⟩
      rw [breaksTo_succ, hbi]; simpa using hN
    | true =>
      obtain ⟨v2, h2, ea, hle2, hN2, _, hblk, hn2, hf2⟩ := hN.append1 hle (i : Int) [.int .i64 (i : Int)] rfl 8 (by omega) (by omega)
      have S2 : Rss h2 vs0 vs (itemsL xs) := S.frame fun b hb1 => by
        have p := hP b hb1
        have q : (h.new (.cells true [])).next = h.next + 1 := rfl
        exact hf2 b (by omega) fun e => by have := hpos b e; omega
      (iterate 4 ((try simp [s6, bslice1, ea, wrap_i64]); (try simp (disch := omega) [s6, bslice1, ea, wrap_i64])))
      refine hK ((itemsL xs).length + 1 - (i + 1)) _ _ (by omega) ⟨i + 1, rfl, by omega, ⟨by simp [s4], by simp [s5, hsb], by simp⟩, hle2, S2, by simp [hsb], ?_, ?_, Nat.le_trans hnx hn2⟩
      · rw [breaksTo_succ, hbi]; simpa using hN2
      · intro b hb1
        simp [hblk] at hb1
        right; omega
  · obtain rfl : i = (itemsL xs).length + 1 := by omega
    simp [hE]
    exact hR _ _ hle (by simp only [breaksL, hsb, if_true]; exact hN)

theorem breaksL_len (xs : List Nd) : (breaksL xs).length ≤ xs.length + 1 := by
  unfold breaksL
  split
  · have := breaksTo_len (itemsL xs) ((itemsL xs).length + 1)
    have := itemsL_len xs
    omega
  · simp

set_option maxHeartbeats 1000000 in
theorem lawPageBreaks_ok {h : AH} {v : AV} {xs : List Nd} (H : Ra 15 Nd.enc h v xs) (hx : ∀ x ∈ xs, x.text.size ≤ 9223372036854775807) (hl : xs.length ≤ 9223372036854775807) {R : AV → AH → Prop}
    (hR : ∀ h', R (.bool true) h') : CA 6 [v] h R := by
  rw [ca_iff (af := ac6) rfl]
  simp [ac6]
  refine szNodeS_ok H hx hl 1048576 (by omega) (by omega) fun r hr => ?_
  simp
  refine condR_splitD ?_ ?_ <;> intro hr0
  · simp; exact hR _
  have hb : xs.length ≤ 1048576 := by have := sizes_nonneg xs; omega
  have hil := breaksL_len xs
  simp
  refine toNodeS_ok H (by omega) fun v1 h1 l1 N1 => ?_
  simp
  refine l10PageBreaks_ok N1.rows hb fun vw h2 l2 Nw => ?_
  simp
  refine toNodeS_ok (H.le (AH.le_trans l1 l2)) (by omega) fun vx h3 l3 Nx => ?_
  simp
  refine implPageBreaks_ok Nx.rows hb fun vg h4 l4 Ng => ?_
  have Nw4 := Nw.le (AH.le_trans l3 l4)
  have Nx4 := Nx.le l4
  simp [eqInts_iff Ng.rows Nw4.rows (by omega)]
  have l04 : h.le h4 := AH.le_trans l1 (AH.le_trans l2 (AH.le_trans l3 l4))
  refine toNodeS_ok (H.le l04) (by omega) fun vy h5 l5 Ny => ?_
  have Nx5 := Nx4.le l5
  have Ng5 := Ng.le l5
  simp [eqNodeS_iff Nx5.rows Ny.rows (by omega)]
  refine mark1_ok Nx5.own (by omega) fun h6 Mx n6 f6 => ?_
  have gx : ∀ b, blk vg = some b → blk vx ≠ some b := blk_ne Ng Nx.own
  have Ng6 : Rn h3 1 encI h6 vg (breaksL xs) := Ng5.frame fun b hb => f6 b (Ng5.own.lt hb) (gx b hb)
  have l26 : h2.le h6 := mark_le Nx.new (AH.le_trans l3 (AH.le_trans l4 l5)) n6 f6
  have Nw6 := Nw.le l26
  have hk1 : ¬ ((1 : Int) + 15 * xs.length < 0) := by omega
  simp [hk1, eqInts_iff Ng6.rows Nw6.rows (by omega)]
  refine markInts_ok (Ng6.weaken l3) l26 (by omega) fun h7 Mg l27 => ?_
  have l07 : h.le h7 := AH.le_trans (AH.le_trans l1 l2) l27
  have hk2 : ¬ ((1 : Int) + ((breaksL xs).length : Nat) < 0) := by omega
  simp [heldInts_iff _ Mg.rows (by omega), hk2]
  refine toNodeS_ok (H.le l07) (by omega) fun vz h9 l9 Nz => ?_
  simp
  refine implPageBreaks_ok Nz.rows hb fun vs ha la Ns => ?_
  have Nwa := Nw.le (AH.le_trans l27 (AH.le_trans l9 la))
  have Mga := Mg.rows.le (AH.le_trans l9 la)
  simp [eqInts_iff Ns.rows Nwa.rows (by omega), heldInts_iff _ Mga (by omega), hk2]
  exact hR _
end Go.Proofs.Ytnaainlddcpfgaa
