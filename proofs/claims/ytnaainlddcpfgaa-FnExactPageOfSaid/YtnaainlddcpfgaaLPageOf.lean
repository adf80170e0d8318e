/- The law FnExactPageOf, over the abstract machine: it answers true. -/
import Derived.Test.YtnaainlddcpfgaaC9
namespace Go.Proofs.Ytnaainlddcpfgaa
open Go Go.Am Go.Proofs
set_option linter.all false

theorem sheetOk_iff' (a1 a2 a3 a4 a5 a6 a7 a8 : Int) (h : AH) (R : AV → AH → Prop) : CA 81 [.agg [.int .i64 a1, .int .i64 a2, .int .i64 a3, .int .i64 a4, .int .i64 a5, .int .i64 a6, .int .i64 a7, .int .i64 a8]] h R ↔ R (.bool (sheetB ⟨a1, a2, a3, a4, a5, a6, a7, a8⟩)) h := sheetOk_iff ⟨a1, a2, a3, a4, a5, a6, a7, a8⟩ h R
theorem l10SheetOk_iff' (a1 a2 a3 a4 a5 a6 a7 a8 : Int) (h : AH) (R : AV → AH → Prop) : CA 79 [.agg [.int .i64 a1, .int .i64 a2, .int .i64 a3, .int .i64 a4, .int .i64 a5, .int .i64 a6, .int .i64 a7, .int .i64 a8]] h R ↔ R (.bool (sheetB ⟨a1, a2, a3, a4, a5, a6, a7, a8⟩)) h := l10SheetOk_iff ⟨a1, a2, a3, a4, a5, a6, a7, a8⟩ h R
theorem Sh.eta (x : Sh) : (⟨x.height, x.deep, x.size, x.plus, x.plusO, x.minus, x.minusO, x.notes⟩ : Sh) = x := rfl

def argsB (xs : List Nd) (g : Sh) (i t : Int) : Bool := stackB xs && sheetB g && decide (0 ≤ i ∧ i ≤ t ∧ t ≤ (itemsL xs).length)
def pageOfL (xs : List Nd) (g : Sh) (i t : Int) : List Nd := if argsB xs g i t && isB (itemsL xs) t.toNat then pageL (itemsL xs) g i.toNat t.toNat else []

set_option maxRecDepth 100000 in
set_option maxHeartbeats 1000000 in
theorem implPageOf_ok {h : AH} {v : AV} {xs : List Nd} (H : Rs 15 Nd.enc h v xs) (hb : xs.length ≤ 1048576) (g : Sh) (i t : Int) {R : AV → AH → Prop}
    (hR : ∀ v' h', h.le h' → Rn h 15 Nd.enc h' v' (pageOfL xs g i t) → R v' h') : CA 33 [v, .agg g.enc, .int .i64 i, .int .i64 t] h R := by
  rw [ca_iff (af := ac33) rfl]
  simp [ac33, Sh.enc]
  rw [ca_iff (af := ac59) rfl]
  simp [ac59]
  refine oStack_ok H hb fun vl h1 vs l1 O => ?_
  have hlen := itemsL_len xs
  have htot := itemsL_tot xs
  have bad : argsB xs g i t = false → R .nils h1 := fun e => hR _ _ l1 (by simp only [pageOfL, e, Bool.false_and]; exact Rn.nils Nd.ok h h1)
  simp [O.out.rows.len, O.len, sheetOk_iff', Sh.eta]
  cases hst : stackB xs with
  | false => simp; exact bad (by simp [argsB, hst])
  | true =>
  simp [sheetOk_iff', Sh.eta]
  cases hsh : sheetB g with
  | false => simp; exact bad (by simp [argsB, hst, hsh])
  | true =>
  simp
  by_cases h0 : i < 0
  · simp [h0]; exact bad (by simp [argsB, hst, hsh]; omega)
  by_cases h1' : t < i
  · simp [h0, h1']; exact bad (by simp [argsB, hst, hsh]; omega)
  by_cases h2' : ((itemsL xs).length : Int) < t
  · simp [h0, h1', O.out.rows.len, O.len, h2']; exact bad (by simp [argsB, hst, hsh]; omega)
  have hargs : argsB xs g i t = true := by simp [argsB, hst, hsh]; omega
  obtain ⟨a, rfl⟩ := Int.eq_ofNat_of_zero_le (show 0 ≤ i by omega)
  obtain ⟨b, rfl⟩ := Int.eq_ofNat_of_zero_le (show 0 ≤ t by omega)
  have hp := fun R => oPrice_iff O.ss (items_ne xs) (by omega) b (by omega) R
  have h0' : ¬ ((a : Int) < 0) := h0
  have h1'' : ¬ (b < a) := by omega
  have h2'' : ¬ ((itemsL xs).length < b) := by omega
  simp [h0', h1', h1'', O.out.rows.len, O.len, h2', h2'', hp]
  cases hib : isB (itemsL xs) b with
  | false =>
    simp
    exact hR _ _ l1 (by simp only [pageOfL, hargs, Int.toNat_natCast, hib, Bool.and_false]; exact Rn.nils Nd.ok h h1)
  | true =>
  simp
  refine oPage_ok O.ss (items_ne xs) (by omega) (by omega) g a b (by omega) (by omega) fun v' h' l' N => ?_
  simp
  exact hR _ _ (AH.le_trans l1 l') (by simp only [pageOfL, hargs, Int.toNat_natCast, hib, Bool.and_self, if_true]; exact N.weaken l1)

set_option maxRecDepth 100000 in
set_option maxHeartbeats 1000000 in
theorem l10PageOf_ok {h : AH} {v : AV} {xs : List Nd} (H : Rs 15 Nd.enc h v xs) (hb : xs.length ≤ 1048576) (g : Sh) (i t : Int) {R : AV → AH → Prop}
    (hR : ∀ v' h', h.le h' → Rn h 15 Nd.enc h' v' (pageOfL xs g i t) → R v' h') : CA 31 [v, .agg g.enc, .int .i64 i, .int .i64 t] h R := by
  rw [ca_iff (af := ac31) rfl]
  simp [ac31, Sh.enc]
  rw [ca_iff (af := ac56) rfl]
  simp [ac56]
  refine l10Stack_ok H hb fun vl h1 vs l1 O _ => ?_
  have hlen := itemsL_len xs
  have htot := itemsL_tot xs
  have hfr := Rn.fresh (h0 := h) (h := h1) (es := 15) (enc := Nd.enc) (xs := []) (n := 0) Nd.ok l1 rfl
  simp only [List.flatMap_nil] at hfr
  have lfr := AH.new_le_of l1 (.cells true [])
  have bad : argsB xs g i t = false → R (.sl h1.next 0 15 0 (some 0)) (h1.new (.cells true [])) := fun e => hR _ _ lfr (by simp only [pageOfL, e, Bool.false_and]; exact hfr)
  simp [O.out.len, O.len, l10SheetOk_iff', Sh.eta]
  cases hst : stackB xs with
  | false => simp; exact bad (by simp [argsB, hst])
  | true =>
  simp [l10SheetOk_iff', Sh.eta]
  cases hsh : sheetB g with
  | false => simp; exact bad (by simp [argsB, hst, hsh])
  | true =>
  simp
  by_cases h0 : i < 0
  · simp [h0]; exact bad (by simp [argsB, hst, hsh]; omega)
  by_cases h1' : t < i
  · simp [h0, h1']; exact bad (by simp [argsB, hst, hsh]; omega)
  by_cases h2' : ((itemsL xs).length : Int) < t
  · simp [h0, h1', O.out.len, O.len, h2']; exact bad (by simp [argsB, hst, hsh]; omega)
  have hargs : argsB xs g i t = true := by simp [argsB, hst, hsh]; omega
  obtain ⟨a, rfl⟩ := Int.eq_ofNat_of_zero_le (show 0 ≤ i by omega)
  obtain ⟨b, rfl⟩ := Int.eq_ofNat_of_zero_le (show 0 ≤ t by omega)
  have hp := fun R => l10Is_iff O (items_ne xs) (by omega) b (by omega) R
  have h0' : ¬ ((a : Int) < 0) := h0
  have h1'' : ¬ (b < a) := by omega
  have h2'' : ¬ ((itemsL xs).length < b) := by omega
  simp [h0', h1', h1'', O.out.len, O.len, h2', h2'', hp]
  cases hib : isB (itemsL xs) b with
  | false =>
    simp
    exact hR _ _ lfr (by simp only [pageOfL, hargs, Int.toNat_natCast, hib, Bool.and_false]; exact hfr)
  | true =>
  simp
  refine l10Page_ok O (items_ne xs) (by omega) (by omega) g a b (by omega) (by omega) fun v' h' l' N => ?_
  simp
  exact hR _ _ (AH.le_trans l1 l') (by simp only [pageOfL, hargs, Int.toNat_natCast, hib, Bool.and_self, if_true]; exact N.weaken l1)

theorem beg_len (xss : List (List Nd)) (g : Sh) (i t : Nat) (h : i ≤ t) (ht : t ≤ xss.length) : (pageL xss g i t).length ≤ tot xss + 1 := by
  obtain ⟨ba, bt⟩ := beginI_le xss (t - i) i t h
  have a := pg_len xss (beginI xss (t - i) i t) (t - beginI xss (t - i) i t) (by omega)
  have b := tot_le xss (beginI xss (t - i) i t + (t - beginI xss (t - i) i t))
  unfold pageL
  simp only
  split <;> simp <;> omega
theorem pageOfL_len (xs : List Nd) (g : Sh) (i t : Int) : (pageOfL xs g i t).length ≤ xs.length + 1 := by
  unfold pageOfL
  split
  · rename_i e
    simp only [argsB, Bool.and_eq_true, decide_eq_true_eq] at e
    have := beg_len (itemsL xs) g i.toNat t.toNat (by omega) (by omega)
    have := itemsL_tot xs
    omega
  · simp

theorem toSheet_iff' (a1 a2 a3 a4 a5 a6 a7 a8 : Int) (h : AH) (R : AV → AH → Prop) : CA 32 [.agg [.int .i64 a1, .int .i64 a2, .int .i64 a3, .int .i64 a4, .int .i64 a5, .int .i64 a6, .int .i64 a7, .int .i64 a8]] h R ↔ R (.agg [.int .i64 a1, .int .i64 a2, .int .i64 a3, .int .i64 a4, .int .i64 a5, .int .i64 a6, .int .i64 a7, .int .i64 a8]) h := toSheet_iff ⟨a1, a2, a3, a4, a5, a6, a7, a8⟩ h R

set_option maxHeartbeats 1000000 in
theorem lawPageOf_ok {h : AH} {v : AV} {xs : List Nd} (H : Ra 15 Nd.enc h v xs) (hx : ∀ x ∈ xs, x.text.size ≤ 9223372036854775807) (hl : xs.length ≤ 9223372036854775807) (g : Sh) (a b : Int) {R : AV → AH → Prop}
    (hR : ∀ h', R (.bool true) h') : CA 7 [v, .agg g.enc, .int .i64 a, .int .i64 b] h R := by
  rw [ca_iff (af := ac7) rfl]
  simp [ac7, Sh.enc]
  refine szNodeS_ok H hx hl 1048576 (by omega) (by omega) fun r hr => ?_
  simp
  refine condR_splitD ?_ ?_ <;> intro hr0
  · simp; exact hR _
  have hb : xs.length ≤ 1048576 := by have := sizes_nonneg xs; omega
  have hil := pageOfL_len xs g a b
  simp
  refine toNodeS_ok H (by omega) fun v1 h1 l1 N1 => ?_
  refine ⟨l1, ?_⟩
  simp [toSheet_iff']
  refine l10PageOf_ok N1.rows hb g a b fun vw h2 l2 Nw => ?_
  simp [l2]
  refine toNodeS_ok (H.le (AH.le_trans l1 l2)) (by omega) fun vx h3 l3 Nx => ?_
  simp [toSheet_iff']
  refine implPageOf_ok Nx.rows hb g a b fun vg h4 l4 Ng => ?_
  have Nw4 := Nw.le (AH.le_trans l3 l4)
  have Nx4 := Nx.le l4
  simp [eqNodeS_iff Ng.rows Nw4.rows (by omega)]
  have l04 : h.le h4 := AH.le_trans l1 (AH.le_trans l2 (AH.le_trans l3 l4))
  refine toNodeS_ok (H.le l04) (by omega) fun vy h5 l5 Ny => ?_
  have Nx5 := Nx4.le l5
  have Ng5 := Ng.le l5
  simp [eqNodeS_iff Nx5.rows Ny.rows (by omega)]
  refine mark1_ok Nx5.own (by omega) fun h6 Mx n6 f6 => ?_
  have gx : ∀ b, blk vg = some b → blk vx ≠ some b := blk_ne Ng Nx.own
  have Ng6 : Ro 15 Nd.enc h6 vg (pageOfL xs g a b) := Ng5.own.frame fun b hb => f6 b (Ng5.own.lt hb) (gx b hb)
  have l26 : h2.le h6 := mark_le Nx.new (AH.le_trans l3 (AH.le_trans l4 l5)) n6 f6
  have Nw6 := Nw.le l26
  have hk1 : ¬ ((1 : Int) + 15 * xs.length < 0) := by omega
  simp [hk1, eqNodeS_iff Ng6.rows Nw6.rows (by omega)]
  refine mark1_ok Ng6 (by omega) fun h7 Mg n7 f7 => ?_
  have l27 : h2.le h7 := mark_le (fun b hb => Nat.le_trans l3.1 (Ng.new b hb)) l26 n7 f7
  have l07 : h.le h7 := AH.le_trans (AH.le_trans l1 l2) l27
  simp
  refine held1_ok _ Mg.rows (by omega) fun h8 l8 => ?_
  have hk2 : ¬ ((1 : Int) + 15 * (pageOfL xs g a b).length < 0) := by omega
  simp [hk2]
  have l08 := AH.le_trans l07 l8
  refine toNodeS_ok (H.le l08) (by omega) fun vz h9 l9 Nz => ?_
  refine ⟨l9, ?_⟩
  simp [toSheet_iff']
  refine implPageOf_ok Nz.rows hb g a b fun vs ha la Ns => ?_
  have Nwa := Nw.le (AH.le_trans l27 (AH.le_trans l8 (AH.le_trans l9 la)))
  have Mga := Mg.rows.le (AH.le_trans l8 (AH.le_trans l9 la))
  simp [la, eqNodeS_iff Ns.rows Nwa.rows (by omega)]
  refine held1_ok _ Mga (by omega) fun hb' lb => ?_
  simp [hk2]
  exact hR _
end Go.Proofs.Ytnaainlddcpfgaa
