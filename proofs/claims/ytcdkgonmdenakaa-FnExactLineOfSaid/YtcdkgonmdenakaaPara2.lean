/- Contracts: the items, the row and its breaks, as the reference has them. -/
import Derived.Test.YtcdkgonmdenakaaPara1
namespace Go.Proofs.Ytcdkgonmdenakaa
open Go Go.Bm Go.Proofs
set_option linter.all false

theorem starts_len (xs : List Node) : ∀ {i : Nat}, OkF xs i → (starts xs i).length ≤ xs.length - i := by
  intro i h
  induction h with
  | fin => rw [starts_end]; simp
  | item i hi hk hn _ ih => rw [starts_lt hi, List.length_cons]; omega
theorem itemsL_len {xs : List Node} (ho : OkF xs 0) : (itemsL xs).length ≤ xs.length := by
  have := starts_len xs ho
  rw [itemsL, List.length_map]; omega
theorem specItems_ok (xs : List Node) (hb : xs.length ≤ 1048576) (h : AH) (R : AV → AH → Prop)
    (hR : ∀ h' v, Stk h 1 (encS Node.enc) h' v (if listB xs = true then itemsL xs else []) → R v h') : CA 42 [.fs none (xs.map Node.enc)] h R := by
  refine (ca_iff (af := ac42) rfl).2 ?_
  simp [ac42, specListOk_iff xs hb]
  cases hl : listB xs with
  | false =>
    simp [hl] at hR ⊢
    exact hR _ _ (Stk.lit0 (encS_ok Node.enc).toEncOk (AH.le_refl h))
  | true =>
  obtain ⟨_, ho⟩ := listB_ok hl
  simp [hl] at hR ⊢
  simp [l8Starts_iff xs hb ho]
  refine awp_loop2 caM (fun n s h' => ∃ (i : Nat) (pre : List Nat), n = xs.length - i ∧ OkF xs i ∧ (s 0 = .fs none (xs.map Node.enc) ∧ s 4 = .fs none ((sts xs).map (encI .i64)) ∧ s 5 = .int .i64 (pre.length : Nat)) ∧ Stk h 1 (encS Node.enc) h' (s 3) (pre.map (itemL xs)) ∧ pre.length ≤ i ∧ starts xs 0 = pre ++ starts xs i) ?_ (n := xs.length) ⟨0, [], by simp, ho, by simp, by simpa using Stk.lit0 (encS_ok Node.enc).toEncOk (AH.le_refl h), by simp, by simp⟩
  rintro n s h' ⟨i, pre, rfl, ho, ⟨s0, s4, s5⟩, O, hp, hst⟩ K hK hE hQ
  have hi := ho.le
  have hsl : (sts xs).length = (starts xs 0).length := List.length_map _
  have hstl := congrArg List.length hst
  rw [List.length_append] at hstl
  simp [s0, s4, s5]
  by_cases hlt : i < xs.length
  · have hlt' : pre.length < (sts xs).length := by rw [hsl, hstl, starts_lt hlt]; simp
    have hnth : nth (sts xs) pre.length = (i : Int) := by
      rw [nth_eq hlt']; simp [sts, hst, starts_lt hlt]
    obtain ⟨hk0, hk1, ho'⟩ := ho.next hlt
    have a0 := fun k => (encI_ok .i64).toEncOk.iaddr (by omega) none (sts xs) k (pre.length : Int) h' (by omega) (by omega)
    have a1 := fun k => Node.ok.toEncOk.iaddr (by omega) none xs k (i : Int) h' (by omega) (by omega)
    have sl := Node.ok.toEncOk.slice xs h' .i64 .i64 (i : Int) ((i : Int) + 1 + (nth xs i).kids) (by omega) (by omega) (by omega)
    have e2 : ((i : Int) + 1 + (nth xs i).kids).toNat = i + 1 + (nth xs i).kids.toNat := by omega
    simp only [Int.toNat_natCast, e2, item_cut xs hlt, hnth] at a0 a1 sl
    have hil : (itemL xs i).length ≤ xs.length := by simp [itemL]; omega
    have ap1 := appendF0 Node.ok.toEncOk 128 (itemL xs i) (by omega) (by omega) h'
    obtain ⟨v2, h2, ea, O2, _⟩ := O.append1 (some 1) (itemL xs i) [.fs none ((itemL xs i).map Node.enc)] rfl 24 (by simp; omega) (by simp; omega)
    have w1 : IntKind.wrap .i64 ((i : Int) + 1) = (i : Int) + 1 := wrap_i64 (by omega) (by omega)
    have w2 : IntKind.wrap .i64 ((i : Int) + 1 + (nth xs i).kids) = (i : Int) + 1 + (nth xs i).kids := wrap_i64 (by omega) (by omega)
    have w3 : IntKind.wrap .i64 ((pre.length : Int) + 1) = (pre.length : Int) + 1 := wrap_i64 (by omega) (by omega)
    have hlt2 : (pre.length : Int) < (sts xs).length := by omega
    simp [hlt', s0, s4, s5, lit1S, ea, a0, a1, w1, w2, w3, sl, ap1]
    exact hK (xs.length - (i + 1 + (nth xs i).kids.toNat)) _ _ (by omega) ⟨i + 1 + (nth xs i).kids.toNat, pre ++ [i], rfl, ho', ⟨by simp [s0], by simp [s4], by simp⟩, by simpa using O2, by simp; omega, by rw [hst, starts_lt hlt]; simp⟩
  · obtain rfl : i = xs.length := by omega
    rw [starts_end, List.append_nil] at hst
    have : ¬ pre.length < (sts xs).length := by rw [hsl, hst]; omega
    simp [hE, this]
    exact hR _ _ (by rw [itemsL, hst]; exact O)
theorem specItems_iff (xs : List Node) (hb : xs.length ≤ 1048576) (h : AH) (R : AV → AH → Prop) : acallM CA .frz 42 [.fs none (xs.map Node.enc)] h R ↔ R (.fs none ((if listB xs = true then itemsL xs else []).map (encS Node.enc))) h :=
  stk_frzO (encS_ok Node.enc) fun R hR => specItems_ok xs hb h R hR
end Go.Proofs.Ytcdkgonmdenakaa
