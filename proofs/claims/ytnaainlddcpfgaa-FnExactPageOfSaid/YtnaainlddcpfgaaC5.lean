/- Contracts: lists, items, the inside of a box. -/
import Derived.Test.YtnaainlddcpfgaaC4
namespace Go.Proofs.Ytnaainlddcpfgaa
open Go Go.Am Go.Proofs
set_option linter.all false

theorem nestU_ge {xs : List Nd} {d r : Int} (h : nestU xs d (-1) = some r) : -1 ≤ r := nestU_le _ _ _ _ _ (Nat.le_refl _) h

theorem ListOk_iff {h : AH} {v : AV} {xs : List Nd} (H : Rs 15 Nd.enc h v xs) (hb : xs.length ≤ 1099511627776) (R : AV → AH → Prop) : CA 24 [v] h R ↔ R (.bool (listB xs)) h := by
  refine ca_pure (af := ac24) rfl ?_
  have hn := fun d h0 h1 => nested_aux xs.length (Nat.le_refl _) H hb d h0 h1
  (iterate 4 ((try simp [ac24, H.len]); (try simp (disch := omega) [ac24, H.len])))
  refine condR_splitD ?_ ?_ <;> intro hl
  · have : ¬ xs.length ≤ 20000 := by omega
    have hf : listB xs = false := by unfold listB; rw [decide_eq_false this, Bool.false_and]
    simp [hf]
  · have : xs.length ≤ 20000 := by omega
    simp [hn 0 (by omega) (by omega), nres]
    unfold listB
    rw [decide_eq_true this, Bool.true_and]
    cases nestU xs 0 (-1) with
    | none => simp
    | some r =>
      by_cases hr : r ≤ 40 <;> simp [hr]

theorem l8ListOk_ok {h : AH} {v : AV} {xs : List Nd} (H : Rs 15 Nd.enc h v xs) {R : AV → AH → Prop} (hR : ∀ h', h.le h' → R (.bool (listB xs)) h') : CA 48 [v] h R := by
  rw [ca_iff (af := ac48) rfl]
  (iterate 4 ((try simp [ac48]); (try simp (disch := omega) [ac48])))
  refine l8Nest_ok H fun h' hle => ?_
  have := hR h' hle
  simp only [lres, listB] at this ⊢
  by_cases hl : xs.length ≤ 20000
  · have hl2 : ¬ xs.length > 20000 := by omega
    simp only [hl, hl2, if_false, decide_true, Bool.true_and] at this ⊢
    cases hq : nestU xs 0 (-1) with
    | none => rw [hq] at this; simpa using this
    | some r =>
      have hr := nestU_ge hq
      rw [hq] at this
      have h0 : 0 ≤ r + 1 := by omega
      have e : (r + 1 ≤ 41) = (r ≤ 40) := by apply propext; omega
      simpa [h0, e] using this
  · have hl2 : xs.length > 20000 := by omega
    simp only [hl, hl2, if_true, decide_false, Bool.false_and] at this ⊢
    simpa using this

theorem oneBox_iff {h : AH} {v : AV} {xs : List Nd} (H : Rs 15 Nd.enc h v xs) (hb : xs.length ≤ 1099511627776) (R : AV → AH → Prop) : CA 43 [v] h R ↔ R (.bool (oneB xs)) h := by
  refine ca_pure (af := ac43) rfl ?_
  have hL := fun R => ListOk_iff H hb R
  simp [ac43, hL, oneB]
  cases hl : listB xs with
  | false => simp
  | true =>
    simp [H.len]
    by_cases h0 : 0 < xs.length
    · (iterate 4 ((try simp [h0, H.iaddr, H.load, H.load1, Nd.take_enc, isBox_iff]); (try simp (disch := omega) [h0, H.iaddr, H.load, H.load1, Nd.take_enc, isBox_iff])))
      cases hk : boxB (nth xs 0).kind with
      | false => simp
      | true => (iterate 4 ((try simp [h0, H.len, H.iaddr, H.load1, Nd.enc, wrap_i64]); (try simp (disch := omega) [h0, H.len, H.iaddr, H.load1, Nd.enc, wrap_i64])))
    · simp [h0]

theorem l8OneBox_ok {h : AH} {v : AV} {xs : List Nd} (H : Rs 15 Nd.enc h v xs) (hb : xs.length ≤ 1099511627776) {R : AV → AH → Prop} (hR : ∀ h', h.le h' → R (.bool (oneB xs)) h') : CA 40 [v] h R := by
  rw [ca_iff (af := ac40) rfl]
  simp [ac40, H.len]
  by_cases h0 : 0 < xs.length
  case neg =>
    have := hR h (AH.le_refl h)
    simp [h0]
    simpa [oneB, h0] using this
  simp [h0]
  refine l8ListOk_ok H fun h' hle => ?_
  have H' := H.le hle
  have this := hR h' hle
  cases hl : listB xs with
  | false => simpa [oneB, hl] using this
  | true =>
    (iterate 4 ((try simp [h0, H'.iaddr, H'.load, H'.load1, Nd.take_enc, l8Box_iff]); (try simp (disch := omega) [h0, H'.iaddr, H'.load, H'.load1, Nd.take_enc, l8Box_iff])))
    cases hk : boxB (nth xs 0).kind with
    | false => simpa [oneB, hl, hk] using this
    | true =>
      (iterate 4 ((try simp [h0, H'.len, H'.iaddr, H'.load1, Nd.enc, wrap_i64]); (try simp (disch := omega) [h0, H'.len, H'.iaddr, H'.load1, Nd.enc, wrap_i64])))
      simpa [oneB, hl, hk, h0] using this

theorem l8Starts_ok {h : AH} {v : AV} {xs : List Nd} (H : Rs 15 Nd.enc h v xs) (hb : xs.length ≤ 1048576) (ho : OkF xs 0) {R : AV → AH → Prop}
    (hR : ∀ v' h', h.le h' → Rn h 1 encI h' v' ((starts xs 0).map fun i : Nat => (i : Int)) → R v' h') : CA 41 [v] h R := by
  rw [ca_iff (af := ac41) rfl]
  simp [ac41]
  have hfr := Rn.fresh (h0 := h) (h := h) (es := 1) (enc := encI) (xs := []) (n := 0) encI_ok (AH.le_refl h) rfl
  refine awp_loop2 ca_mono (fun n s h' => ∃ (i : Nat) (pre : List Nat), n = xs.length - i ∧ OkF xs i ∧ (s 0 = v ∧ s 4 = .int .i64 i) ∧ h.le h' ∧ Rn h 1 encI h' (s 3) (pre.map fun i : Nat => (i : Int)) ∧ pre.length ≤ i ∧ starts xs 0 = pre ++ starts xs i) ?_ (n := xs.length) ⟨0, [], by simp, ho, by simp, AH.le_new _ _, by simpa using hfr, by simp, by simp⟩
  rintro n s h' ⟨i, pre, rfl, ho, ⟨s0, s4⟩, hle, hN, hp, hst⟩ K hK hE hQ
  have hi := ho.le
  have H' := H.le hle
  simp [s0, s4, H'.len]
  refine condR_splitD ?_ ?_ <;> intro hlt
  · obtain ⟨hk0, hk1, ho'⟩ := ho.next hlt
    obtain ⟨v2, h2, ea, hle2, hN2, _⟩ := hN.append1 hle (i : Int) [.int .i64 (i : Int)] rfl 8 (by simp; omega) (by simp; omega)
    have H2 := H.le hle2
    (iterate 4 ((try simp [s0, s4, bslice1, ea, H2.iaddr, H2.load1, Nd.enc, wrap_i64]); (try simp (disch := omega) [s0, s4, bslice1, ea, H2.iaddr, H2.load1, Nd.enc, wrap_i64])))
    refine hK (xs.length - (i + 1 + (nth xs i).kids.toNat)) _ _ (by omega) ⟨i + 1 + (nth xs i).kids.toNat, pre ++ [i], rfl, ho', ⟨by simp [s0], by simp; omega⟩, hle2, by simpa using hN2, by simp; omega, ?_⟩
    rw [hst, starts_lt hlt]; simp
  · obtain rfl : i = xs.length := by omega
    rw [starts_end, List.append_nil] at hst
    simp [hE]
    exact hR _ _ hle (by rw [hst]; exact hN)

/-- Slices as elements. -/
def slv (v : AV) : AV := match v with
  | .sl b o e n c => .sl b o e n c
  | _ => .nils
def encV (v : AV) : List AV := [slv v]
theorem encV_ok : EncOk 1 encV := ⟨fun _ => rfl, fun v => by cases v <;> rfl⟩
theorem rs_slv {α : Type} {es : Nat} {enc : α → List AV} {h : AH} {v : AV} {xs : List α} (H : Rs es enc h v xs) : slv v = v := by
  rcases H.at_ with ⟨rfl, _⟩ | ⟨_, _, _, rfl, _⟩ <;> rfl

/-- The item that begins at i. -/
def itemV (v : AV) (xs : List Nd) (i : Nat) : AV := cutv 15 v i (i + 1 + (nth xs i).kids.toNat)
def itemL (xs : List Nd) (i : Nat) : List Nd := nth xs i :: (xs.drop (i + 1)).take (nth xs i).kids.toNat
theorem item_rows {h : AH} {v : AV} {xs : List Nd} (H : Rs 15 Nd.enc h v xs) {i : Nat} (hi : i < xs.length) (hn : i + 1 + (nth xs i).kids.toNat ≤ xs.length) : Rs 15 Nd.enc h (itemV v xs i) (itemL xs i) := by
  have := H.cut (i := i) (j := i + 1 + (nth xs i).kids.toNat) (by omega) hn
  rwa [drop_eq hi, show i + 1 + (nth xs i).kids.toNat - i = (nth xs i).kids.toNat + 1 by omega, List.take_succ_cons] at this

theorem items_ok {h : AH} {v : AV} {xs : List Nd} (H : Rs 15 Nd.enc h v xs) (hb : xs.length ≤ 1048576) (ho : OkF xs 0) {R : AV → AH → Prop}
    (hR : ∀ v' h', h.le h' → Rn h 1 encV h' v' ((starts xs 0).map (itemV v xs)) → R v' h') : CA 44 [v] h R := by
  rw [ca_iff (af := ac44) rfl]
  simp [ac44]
  refine awp_loop2 ca_mono (fun n s h' => ∃ (i : Nat) (pre : List Nat), n = xs.length - i ∧ OkF xs i ∧ (s 0 = v ∧ s 4 = .int .i64 i) ∧ h.le h' ∧ Rn h 1 encV h' (s 3) (pre.map (itemV v xs)) ∧ pre.length ≤ i ∧ starts xs 0 = pre ++ starts xs i) ?_ (n := xs.length) ⟨0, [], by simp, ho, by simp, AH.le_refl _, by simpa using Rn.nils encV_ok h h, by simp, by simp⟩
  rintro n s h' ⟨i, pre, rfl, ho, ⟨s0, s4⟩, hle, hN, hp, hst⟩ K hK hE hQ
  have hi := ho.le
  have H' := H.le hle
  simp [s0, s4, H'.len]
  refine condR_splitD ?_ ?_ <;> intro hlt
  · obtain ⟨hk0, hk1, ho'⟩ := ho.next hlt
    have e1 : ((i : Int) + 1 + (nth xs i).kids).toNat = i + 1 + (nth xs i).kids.toNat := by omega
    have hs := rs_slv (item_rows H' hlt hk1)
    have hc : (itemV v xs i).cells = [itemV v xs i] := by rw [← hs]; cases itemV v xs i <;> rfl
    have h1 : (itemV v xs i).one = true := by rw [← hs]; cases itemV v xs i <;> rfl
    obtain ⟨v2, h2, ea, hle2, hN2, _⟩ := hN.append1 hle (itemV v xs i) [itemV v xs i] (by rw [encV, hs]) 24 (by simp; omega) (by simp; omega)
    (iterate 4 ((try simp [s0, s4, H'.iaddr, H'.load1, Nd.enc, wrap_i64, H'.slice, e1]); (try simp (disch := omega) [s0, s4, H'.iaddr, H'.load1, Nd.enc, wrap_i64, H'.slice, e1])))
    rw [show cutv 15 v i (i + 1 + (nth xs i).kids.toNat) = itemV v xs i from rfl, bslice1 1 _ _ _ rfl (by rw [hc]; rfl) (by rw [hc, List.all_cons, h1]; rfl), hc]
    (iterate 4 ((try simp [ea, s0, wrap_i64]); (try simp (disch := omega) [ea, s0, wrap_i64])))
    refine hK (xs.length - (i + 1 + (nth xs i).kids.toNat)) _ _ (by omega) ⟨i + 1 + (nth xs i).kids.toNat, pre ++ [i], rfl, ho', ⟨by simp [s0], by simp; omega⟩, hle2, by simpa using hN2, by simp; omega, ?_⟩
    rw [hst, starts_lt hlt]; simp
  · obtain rfl : i = xs.length := by omega
    rw [starts_end, List.append_nil] at hst
    simp [hE]
    exact hR _ _ hle (by rw [hst]; exact hN)

theorem clone_ok {h : AH} {v : AV} {xs : List Nd} (H : Rs 15 Nd.enc h v xs) (hb : xs.length ≤ 1048576) {R : AV → AH → Prop}
    (hR : ∀ v' h', h.le h' → Rn h 15 Nd.enc h' v' xs → R v' h') : CA 45 [v] h R := by
  rw [ca_iff (af := ac45) rfl]
  rcases H.at_ with ⟨rfl, rfl⟩ | ⟨b, o, c, rfl, hr⟩
  · simp [ac45]
    exact hR _ _ (AH.le_refl h) (Rn.nils Nd.ok h h)
  · have hfr := Rn.fresh (h0 := h) (h := h) (es := 15) (enc := Nd.enc) (xs := []) (n := 0) Nd.ok (AH.le_refl h) rfl
    have hl1 := AH.le_new h (.cells true (([] : List Nd).flatMap Nd.enc))
    obtain ⟨v2, h2, ea, hle2, hN2, _⟩ := hfr.append hl1 (H.le hl1) 128 (by simp; omega) (by simp; omega)
    simp only [List.flatMap_nil, List.nil_append] at ea hN2
    simp [ac45, ea]
    exact hR _ _ hle2 hN2

theorem gl_enc (x : Nd) (hx : x.kind = 3) : setAll x.enc 1 [AV.int .i64 0] = (gl x).enc := by rw [gl, if_pos hx]; rfl
theorem itemL_fix (xs : List Nd) {i : Nat} (hi : i < xs.length) : fixL xs i = (itemL xs i).set 0 (gl (nth xs i)) ++ fixL xs (i + 1 + (nth xs i).kids.toNat) := by
  rw [fixL_lt hi]; simp [itemL]
theorem itemL_len (xs : List Nd) {i : Nat} (hn : i + 1 + (nth xs i).kids.toNat ≤ xs.length) : (itemL xs i).length = 1 + (nth xs i).kids.toNat := by
  simp [itemL]; omega

/-- What both answer. -/
def insideL (xs : List Nd) : List Nd := if oneB xs then fixL (xs.drop 1) 0 else []

set_option maxHeartbeats 1000000 in
theorem inside_ok {h : AH} {v : AV} {xs : List Nd} (H : Rs 15 Nd.enc h v xs) (hb : xs.length ≤ 1048576) {R : AV → AH → Prop}
    (hR : ∀ v' h', h.le h' → Rn h 15 Nd.enc h' v' (insideL xs) → R v' h') : CA 13 [v] h R := by
  rw [ca_iff (af := ac13) rfl]
  have h1b := fun R => oneBox_iff H (by omega) R
  simp [ac13, h1b]
  cases hone : oneB xs with
  | false =>
    simp
    exact hR _ _ (AH.le_refl h) (by simp only [insideL, hone]; exact Rn.nils Nd.ok h h)
  | true =>
  obtain ⟨h20, h0, hok⟩ := oneB_ok hone
  have Hc := H.cut (i := 1) (j := xs.length) (by omega) (Nat.le_refl _)
  rw [List.take_of_length_le (by simp)] at Hc
  have hyl : (xs.drop 1).length = xs.length - 1 := by simp
  (iterate 4 ((try simp [H.sliceLo]); (try simp (disch := omega) [H.sliceLo])))
  revert Hc hyl hok
  generalize hys : xs.drop 1 = ys
  generalize cutv 15 v 1 xs.length = w
  intro hok Hc hyl
  refine items_ok Hc (by omega) hok fun vi h1 hle1 hNi => ?_
  simp [hNi.rows.len]
  refine awp_loop2 ca_mono (fun n s h' => ∃ (i : Nat) (pre : List Nat) (os : List Nd), n = ys.length - i ∧ OkF ys i ∧ (s 11 = vi ∧ s 12 = .int .i64 ((starts ys 0).length : Nat) ∧ s 13 = .int .i64 (pre.length : Nat)) ∧ h1.le h' ∧ Rn h1 15 Nd.enc h' (s 3) os ∧ pre.length ≤ i ∧ starts ys 0 = pre ++ starts ys i ∧ os ++ fixL ys i = fixL ys 0) ?_ (n := ys.length) ⟨0, [], [], by simp, hok, by simp, AH.le_refl _, by simpa using Rn.nils Nd.ok h1 h1, by simp, by simp, by simp⟩
  rintro n s h' ⟨i, pre, os, rfl, ho, ⟨s11, s12, s13⟩, hle, hN, hpi, hst, hfx⟩ K hK hE hQ
  have hi := ho.le
  have Hi := hNi.rows.le hle
  simp [s11, s12, s13]
  refine condR_splitD ?_ ?_ <;> intro hlt
  · have hlt' : i < ys.length := by
      by_cases e : i < ys.length
      · exact e
      · obtain rfl : i = ys.length := by omega
        rw [starts_end, List.append_nil] at hst
        rw [hst] at hlt; omega
    obtain ⟨hk0, hk1, ho'⟩ := ho.next hlt'
    have hpl : pre.length < ((starts ys 0).map (itemV w ys)).length := by simpa using hlt
    have hnth : nth ((starts ys 0).map (itemV w ys)) pre.length = itemV w ys i := by
      rw [nth_eq hpl]; simp [hst, starts_lt hlt']
    have Hit := item_rows (Hc.le (AH.le_trans hle1 hle)) hlt' hk1
    have hsl := rs_slv Hit
    have hil := itemL_len ys hk1
    (iterate 4 ((try simp [s11, s13, Hi.iaddr, Hi.load1, hnth, encV, hsl]); (try simp (disch := omega) [s11, s13, Hi.iaddr, Hi.load1, hnth, encV, hsl])))
    refine clone_ok Hit (by omega) fun v2 h2 hle2 hN2 => ?_
    have hx0 : nth (itemL ys i) 0 = nth ys i := rfl
    have hol : os.length = i := by
      have := congrArg List.length hfx
      rw [List.length_append, fixL_len ys ho, fixL_len ys hok] at this
      omega
    (iterate 4 ((try simp [hN2.rows.iaddr, hN2.rows.load1, hil, hx0, Nd.enc]); (try simp (disch := omega) [hN2.rows.iaddr, hN2.rows.load1, hil, hx0, Nd.enc])))
    refine condR_splitD ?_ ?_ <;> intro hkd
    · have hst2 := hN2.own.store 0 (gl (nth ys i)) 1 1 (.int .i64 0) (by omega) rfl (by omega) rfl (by rw [hx0]; exact gl_enc _ hkd)
      have hle3 := hN2.setR_le hle2 (ys := (itemL ys i).set 0 (gl (nth ys i))) (by omega)
      have hN3 := hN2.setR (ys := (itemL ys i).set 0 (gl (nth ys i))) (by simp)
      obtain ⟨v4, h4, ea, hle4, hN4, _⟩ := (hN.le hle3).append (AH.le_trans hle hle3) hN3.rows 128 (by simp [hil]; omega) (by simp [hil]; omega)
      (iterate 4 ((try simp [hN2.rows.iaddr, hil, hst2, ea, s13, wrap_i64]); (try simp (disch := omega) [hN2.rows.iaddr, hil, hst2, ea, s13, wrap_i64])))
      refine hK (ys.length - (i + 1 + (nth ys i).kids.toNat)) _ _ (by omega) ⟨i + 1 + (nth ys i).kids.toNat, pre ++ [i], _, rfl, ho', ⟨by simp [s11], by simp [s12], ?_⟩, hle4, by simpa using hN4, by simp; omega, ?_, ?_⟩
      · simp
      · rw [hst, starts_lt hlt']; simp
      · rw [← hfx, itemL_fix ys hlt', List.append_assoc]
    · obtain ⟨v4, h4, ea, hle4, hN4, _⟩ := (hN.le hle2).append (AH.le_trans hle hle2) hN2.rows 128 (by simp [hil]; omega) (by simp [hil]; omega)
      (iterate 4 ((try simp [ea, s13, wrap_i64]); (try simp (disch := omega) [ea, s13, wrap_i64])))
      refine hK (ys.length - (i + 1 + (nth ys i).kids.toNat)) _ _ (by omega) ⟨i + 1 + (nth ys i).kids.toNat, pre ++ [i], _, rfl, ho', ⟨by simp [s11], by simp [s12], ?_⟩, hle4, by simpa using hN4, by simp; omega, ?_, ?_⟩
      · simp
      · rw [hst, starts_lt hlt']; simp
      · have hg : gl (nth ys i) = nth ys i := by simp [gl, hkd]
        rw [← hfx, itemL_fix ys hlt', hg, ← hx0, set_nth (by omega), List.append_assoc]
  · have hie : i = ys.length := by
      by_cases e : i < ys.length
      · rw [hst, starts_lt e] at hlt; simp at hlt
      · omega
    subst hie
    rw [fixL_end, List.append_nil] at hfx
    simp [hE]
    exact hR _ _ (AH.le_trans hle1 hle) (by simp only [insideL, hone, if_true, hys, ← hfx]; exact hN.weaken hle1)

set_option maxHeartbeats 1000000 in
theorem l8Inside_ok {h : AH} {v : AV} {xs : List Nd} (H : Rs 15 Nd.enc h v xs) (hb : xs.length ≤ 1048576) {R : AV → AH → Prop}
    (hR : ∀ v' h', h.le h' → Rn h 15 Nd.enc h' v' (insideL xs) → R v' h') : CA 11 [v] h R := by
  rw [ca_iff (af := ac11) rfl]
  simp [ac11]
  refine l8OneBox_ok H (by omega) fun ha hlea => ?_
  have Ha := H.le hlea
  have hfr := Rn.fresh (h0 := h) (h := ha) (es := 15) (enc := Nd.enc) (xs := []) (n := 0) Nd.ok hlea rfl
  have hleb := AH.new_le_of hlea (.cells true (([] : List Nd).flatMap Nd.enc))
  simp only [List.flatMap_nil] at hfr hleb
  cases hone : oneB xs with
  | false =>
    simp
    exact hR _ _ hleb (by simp only [insideL, hone]; exact hfr)
  | true =>
  obtain ⟨h20, h0, hok⟩ := oneB_ok hone
  have Hc := (H.cut (i := 1) (j := xs.length) (by omega) (Nat.le_refl _)).le hleb
  rw [List.take_of_length_le (by simp)] at Hc
  have hyl : (xs.drop 1).length = xs.length - 1 := by simp
  obtain ⟨u, hc, ea, hlec, hNc, _⟩ := hfr.append hleb Hc 128 (by simp; omega) (by simp; omega)
  simp only [List.nil_append] at hNc
  (iterate 4 ((try simp [H.sliceLo, ea]); (try simp (disch := omega) [H.sliceLo, ea])))
  clear Hc ea
  revert hNc hyl hok
  generalize hys : xs.drop 1 = ys
  intro hok hyl hNc
  refine l8Starts_ok hNc.rows (by omega) hok fun va hd hled hNa => ?_
  have hNu := hNc.le hled
  have hbv : blk va ≠ some (sb u) ∨ ys = [] := by
    rcases hNc.own.at_ with ⟨_, e⟩ | ⟨b, c, rfl, hg, _⟩
    · exact .inr e
    · refine .inl fun e => ?_
      have a := hNa.new _ e
      have b := AH.get_lt hg
      simp only [sb] at a
      omega
  simp
  refine awp_loop2 ca_mono (fun n s h' => ∃ (i : Nat) (pre : List Nat) (zs : List Nd), n = ys.length - i ∧ OkF ys i ∧ (s 3 = u ∧ s 4 = va ∧ s 5 = .int .i64 (pre.length : Nat)) ∧ h.le h' ∧ Rn h 15 Nd.enc h' u zs ∧ Rs 1 encI h' va ((starts ys 0).map fun i : Nat => (i : Int)) ∧ pre.length ≤ i ∧ starts ys 0 = pre ++ starts ys i ∧ zs.length = ys.length ∧ zs.drop i = ys.drop i ∧ zs.take i ++ fixL ys i = fixL ys 0) ?_ (n := ys.length) ⟨0, [], ys, by simp, hok, by simp, AH.le_trans hlec hled, hNu, hNa.rows, by simp, by simp, rfl, rfl, by simp⟩
  rintro n s h' ⟨i, pre, zs, rfl, ho, ⟨s3, s4, s5⟩, hle, hN, Hi, hpi, hst, hzl, hzd, hfx⟩ K hK hE hQ
  have hi := ho.le
  simp [s3, s4, s5, Hi.len]
  refine condR_splitD ?_ ?_ <;> intro hlt
  · have hlt' : i < ys.length := by
      by_cases e : i < ys.length
      · exact e
      · obtain rfl : i = ys.length := by omega
        rw [starts_end, List.append_nil] at hst
        rw [hst] at hlt; omega
    obtain ⟨hk0, hk1, ho'⟩ := ho.next hlt'
    have hpl : pre.length < ((starts ys 0).map fun i : Nat => (i : Int)).length := by simpa using hlt
    have hnth : nth ((starts ys 0).map fun i : Nat => (i : Int)) pre.length = (i : Int) := by
      rw [nth_eq hpl]; simp [hst, starts_lt hlt']
    have hzn : nth zs i = nth ys i := by
      have a := drop_eq (xs := zs) (i := i) (by omega)
      rw [hzd, drop_eq hlt'] at a
      exact (List.cons.inj a).1.symm
    have hzd1 : zs.drop (i + 1) = ys.drop (i + 1) := by rw [← List.drop_drop, hzd, List.drop_drop]
    have hzl' : i < zs.length := by omega
    have hgo : ∀ ws : List Nd, ws = zs.set i (gl (nth ys i)) → ws.length = ys.length ∧ ws.drop (i + 1 + (nth ys i).kids.toNat) = ys.drop (i + 1 + (nth ys i).kids.toNat) ∧ ws.take (i + 1 + (nth ys i).kids.toNat) ++ fixL ys (i + 1 + (nth ys i).kids.toNat) = fixL ys 0 := by
      rintro ws rfl
      have a1 : (zs.set i (gl (nth ys i))).drop (i + 1) = ys.drop (i + 1) := by rw [List.drop_set_of_lt (by omega), hzd1]
      refine ⟨by simp [hzl], by rw [← List.drop_drop, a1, List.drop_drop], ?_⟩
      rw [← hfx, List.take_add, a1, take_set hzl', fixL_lt hlt']
      simp
    (iterate 4 ((try simp [s3, s4, s5, Hi.iaddr, Hi.load1, hnth, encI, hN.rows.iaddr, hN.rows.load1, hzn, hzl, Nd.enc]); (try simp (disch := omega) [s3, s4, s5, Hi.iaddr, Hi.load1, hnth, encI, hN.rows.iaddr, hN.rows.load1, hzn, hzl, Nd.enc])))
    refine condR_splitD ?_ ?_ <;> intro hkd
    · have hst2 := hN.own.store i (gl (nth ys i)) 1 1 (.int .i64 0) hzl' rfl (by omega) rfl (by rw [hzn]; exact gl_enc _ hkd)
      obtain ⟨g1, g2, g3⟩ := hgo _ rfl
      (iterate 4 ((try simp [s3, s4, s5, Hi.iaddr, Hi.load1, hnth, encI, hN.rows.iaddr, hzl, hst2, wrap_i64]); (try simp (disch := omega) [s3, s4, s5, Hi.iaddr, Hi.load1, hnth, encI, hN.rows.iaddr, hzl, hst2, wrap_i64])))
      refine hK (ys.length - (i + 1 + (nth ys i).kids.toNat)) _ _ (by omega) ⟨i + 1 + (nth ys i).kids.toNat, pre ++ [i], zs.set i (gl (nth ys i)), rfl, ho', ⟨by simp [s3], by simp [s4], ?_⟩, hN.setR_le hle (by omega), hN.setR (by simp), ?_, by simp; omega, ?_, g1, g2, g3⟩
      · simp
      · rcases hbv with hbv | hbv
        · exact Hi.setR_ne u hbv _
        · rw [hbv] at hlt'; simp at hlt'
      · rw [hst, starts_lt hlt']; simp
    · have hg : gl (nth ys i) = nth ys i := by simp [gl, hkd]
      obtain ⟨g1, g2, g3⟩ := hgo zs (by rw [hg, ← hzn, set_nth hzl'])
      (iterate 4 ((try simp [s5, wrap_i64]); (try simp (disch := omega) [s5, wrap_i64])))
      refine hK (ys.length - (i + 1 + (nth ys i).kids.toNat)) _ _ (by omega) ⟨i + 1 + (nth ys i).kids.toNat, pre ++ [i], zs, rfl, ho', ⟨by simp [s3], by simp [s4], ?_⟩, hle, hN, Hi, by simp; omega, ?_, g1, g2, g3⟩
      · simp
      · rw [hst, starts_lt hlt']; simp
  · have hie : i = ys.length := by
      by_cases e : i < ys.length
      · rw [hst, starts_lt e] at hlt; simp at hlt
      · omega
    subst hie
    rw [fixL_end, List.append_nil, List.take_of_length_le (by omega)] at hfx
    simp [hE, s3]
    exact hR _ _ hle (by simp only [insideL, hone, if_true, hys, ← hfx]; exact hN)
end Go.Proofs.Ytnaainlddcpfgaa
