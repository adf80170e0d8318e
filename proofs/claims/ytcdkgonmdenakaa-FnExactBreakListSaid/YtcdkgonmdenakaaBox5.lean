/- Contracts: is it a list; where its items begin; the items. -/
import Derived.Test.YtcdkgonmdenakaaBox4
namespace Go.Proofs.Ytcdkgonmdenakaa
open Go Go.Bm Go.Proofs
set_option linter.all false

theorem nestU_ge {xs : List Node} {d r : Int} (h : nestU xs d (-1) = some r) : -1 ≤ r := nestU_le _ _ _ _ _ (Nat.le_refl _) h
theorem ListOk_iff (xs : List Node) (hb : xs.length ≤ 1048576) (c : Option Nat) (hc : CapOk c xs.length) (h : AH) (R : AV → AH → Prop) : CA 22 [.fs c (xs.map Node.enc)] h R ↔ R (.bool (listB xs)) h := by
  refine ca_pure (af := ac22) rfl ?_
  have hn := fun d h0 h1 h R => nested_aux xs.length (Nat.le_refl _) hb d h0 h1 h c hc R
  simp [ac22]
  by_cases hl : 20000 < (xs.length : Int)
  · have : ¬ xs.length ≤ 20000 := by omega
    have hf : listB xs = false := by unfold listB; rw [decide_eq_false this, Bool.false_and]
    simp [hl, hf]
  · have : xs.length ≤ 20000 := by omega
    simp [hl, hn 0 (by omega) (by omega), nres]
    unfold listB
    rw [decide_eq_true this, Bool.true_and]
    cases nestU xs 0 (-1) with
    | none => simp
    | some r =>
      by_cases hr : r ≤ 40 <;> simp [hr]
theorem specListOk_iff (xs : List Node) (hb : xs.length ≤ 1048576) (c : Option Nat) (h : AH) (R : AV → AH → Prop) : CA 41 [.fs c (xs.map Node.enc)] h R ↔ R (.bool (listB xs)) h := by
  refine ca_pure (af := ac41) rfl ?_
  have e : listB xs = (decide (0 ≤ lres xs.length (nestU xs 0 (-1))) && decide (lres xs.length (nestU xs 0 (-1)) ≤ 41)) := by
    unfold listB lres
    by_cases hl : xs.length ≤ 20000
    · have hl2 : ¬ xs.length > 20000 := by omega
      simp only [hl, hl2, if_false, decide_true, Bool.true_and]
      cases hq : nestU xs 0 (-1) with
      | none => simp
      | some r =>
        have hr := nestU_ge hq
        simp [show 0 ≤ r + 1 by omega]
        omega
    · have hl2 : xs.length > 20000 := by omega
      simp [hl, hl2]
  rw [e]
  simp [ac41, l8Nest_iff xs hb]
  by_cases h0 : 0 ≤ lres xs.length (nestU xs 0 (-1)) <;> simp [h0]
def sts (xs : List Node) : List Int := (starts xs 0).map fun i : Nat => (i : Int)
theorem l8Starts_iff (xs : List Node) (hb : xs.length ≤ 1048576) (ho : OkF xs 0) (c : Option Nat) (h : AH) (R : AV → AH → Prop) : acallM CA .frz 61 [.fs c (xs.map Node.enc)] h R ↔ R (.fs none ((sts xs).map (encI .i64))) h := by
  refine ca_frz (af := ac61) rfl ?_
  simp [ac61]
  refine awp_loop2 caM (fun n s h' => ∃ (i : Nat) (pre : List Nat), n = xs.length - i ∧ OkF xs i ∧ (s 0 = .fs c (xs.map Node.enc) ∧ s 4 = .int .i64 i) ∧ Own h 1 (encI .i64) h' (s 3) (pre.map fun i : Nat => (i : Int)) ∧ pre.length ≤ i ∧ starts xs 0 = pre ++ starts xs i) ?_ (n := xs.length) ⟨0, [], by simp, ho, by simp, by simpa using Own.lit0 (encI_ok .i64).toEncOk (AH.le_refl h), by simp, by simp⟩
  rintro n s h' ⟨i, pre, rfl, ho, ⟨s0, s4⟩, O, hp, hst⟩ K hK hE hQ
  have hi := ho.le
  simp [s0, s4]
  by_cases hlt : i < xs.length
  · obtain ⟨hk0, hk1, ho'⟩ := ho.next hlt
    have a1 := fun k h' => Node.ok.toEncOk.iaddr (by omega) c xs k (i : Int) h' (by omega) (by omega)
    simp only [Int.toNat_natCast] at a1
    obtain ⟨v2, h2, ea, O2, _⟩ := O.append1 (some 1) (i : Int) [.int .i64 (i : Int)] rfl 8 (by simp; omega) (by simp; omega)
    have w1 : IntKind.wrap .i64 ((i : Int) + 1) = (i : Int) + 1 := wrap_i64 (by omega) (by omega)
    have w2 : IntKind.wrap .i64 ((i : Int) + 1 + (nth xs i).kids) = (i : Int) + 1 + (nth xs i).kids := wrap_i64 (by omega) (by omega)
    simp [hlt, s0, s4, lit1I, ea, a1, w1, w2]
    exact hK (xs.length - (i + 1 + (nth xs i).kids.toNat)) _ _ (by omega) ⟨i + 1 + (nth xs i).kids.toNat, pre ++ [i], rfl, ho', ⟨by simp [s0], by simp; omega⟩, by simpa using O2, by simp; omega, by rw [hst, starts_lt hlt]; simp⟩
  · obtain rfl : i = xs.length := by omega
    rw [starts_end, List.append_nil] at hst
    simp [hE, O.le]
    have := O.frzD (encI_ok .i64)
    rw [this, sts, hst]
/-- The item that begins at i. -/
def itemL (xs : List Node) (i : Nat) : List Node := nth xs i :: (xs.drop (i + 1)).take (nth xs i).kids.toNat
def itemsL (xs : List Node) : List (List Node) := (starts xs 0).map (itemL xs)
theorem item_cut (xs : List Node) {i : Nat} (hi : i < xs.length) : (xs.drop i).take (i + 1 + (nth xs i).kids.toNat - i) = itemL xs i := by
  rw [drop_eq hi, show i + 1 + (nth xs i).kids.toNat - i = (nth xs i).kids.toNat + 1 by omega, List.take_succ_cons]; rfl
theorem lit1S (l : List (List AV)) (h : AH) : bsliceFA 1 1 [.nils] [(0, .fs none l)] h = some (.fs (some 1) [[.fs none l]], h) := bsliceF1 1 _ (.fs none l) h rfl rfl rfl rfl
theorem items_ok (xs : List Node) (hb : xs.length ≤ 1048576) (ho : OkF xs 0) (h : AH) (R : AV → AH → Prop)
    (hR : ∀ h' v, Own h 1 (encS Node.enc) h' v (itemsL xs) → R v h') : CA 37 [.fs none (xs.map Node.enc)] h R := by
  refine (ca_iff (af := ac37) rfl).2 ?_
  simp [ac37]
  refine awp_loop2 caM (fun n s h' => ∃ (i : Nat) (pre : List Nat), n = xs.length - i ∧ OkF xs i ∧ (s 0 = .fs none (xs.map Node.enc) ∧ s 4 = .int .i64 i) ∧ Own h 1 (encS Node.enc) h' (s 3) (pre.map (itemL xs)) ∧ pre.length ≤ i ∧ starts xs 0 = pre ++ starts xs i) ?_ (n := xs.length) ⟨0, [], by simp, ho, by simp, by simpa using Own.nils (encS_ok Node.enc).toEncOk (AH.le_refl h), by simp, by simp⟩
  rintro n s h' ⟨i, pre, rfl, ho, ⟨s0, s4⟩, O, hp, hst⟩ K hK hE hQ
  have hi := ho.le
  simp [s0, s4]
  by_cases hlt : i < xs.length
  · obtain ⟨hk0, hk1, ho'⟩ := ho.next hlt
    have a1 := fun k h' => Node.ok.toEncOk.iaddr (by omega) none xs k (i : Int) h' (by omega) (by omega)
    have sl := Node.ok.toEncOk.slice xs h' .i64 .i64 (i : Int) ((i : Int) + 1 + (nth xs i).kids) (by omega) (by omega) (by omega)
    have e2 : ((i : Int) + 1 + (nth xs i).kids).toNat = i + 1 + (nth xs i).kids.toNat := by omega
    simp only [Int.toNat_natCast, e2, item_cut xs hlt] at a1 sl
    obtain ⟨v2, h2, ea, O2, _⟩ := O.append1 (some 1) (itemL xs i) [.fs none ((itemL xs i).map Node.enc)] rfl 24 (by simp; omega) (by simp; omega)
    have w1 : IntKind.wrap .i64 ((i : Int) + 1) = (i : Int) + 1 := wrap_i64 (by omega) (by omega)
    have w2 : IntKind.wrap .i64 ((i : Int) + 1 + (nth xs i).kids) = (i : Int) + 1 + (nth xs i).kids := wrap_i64 (by omega) (by omega)
    simp [hlt, s0, s4, lit1S, ea, a1, w1, w2, sl]
    exact hK (xs.length - (i + 1 + (nth xs i).kids.toNat)) _ _ (by omega) ⟨i + 1 + (nth xs i).kids.toNat, pre ++ [i], rfl, ho', ⟨by simp [s0], by simp; omega⟩, by simpa using O2, by simp; omega, by rw [hst, starts_lt hlt]; simp⟩
  · obtain rfl : i = xs.length := by omega
    rw [starts_end, List.append_nil] at hst
    simp [hE]
    exact hR _ _ (by rw [itemsL, hst]; exact O)
theorem items_iff (xs : List Node) (hb : xs.length ≤ 1048576) (ho : OkF xs 0) (h : AH) (R : AV → AH → Prop) : acallM CA .frz 37 [.fs none (xs.map Node.enc)] h R ↔ R (.fs none ((itemsL xs).map (encS Node.enc))) h :=
  own_frzO (encS_ok Node.enc) fun R hR => items_ok xs hb ho h R hR
end Go.Proofs.Ytcdkgonmdenakaa
