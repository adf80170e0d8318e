/- The laws of BreakList and of LineOf. -/
import Derived.Test.YtcdkgonmdenakaaPara8
import Derived.Test.YtcdkgonmdenakaaMk
namespace Go.Proofs.Ytcdkgonmdenakaa
open Go Go.Bm Go.Proofs
set_option linter.all false

theorem ct_nodes (xs : List Node) : ctL Node.ct xs = 15 * xs.length := ctL_one 15 xs
set_option maxRecDepth 100000 in
theorem lawBreakList_ok (xs : List Node) (hx : xs.length ≤ maxLen ∧ ∀ y ∈ xs, Node.Ok y) (st : Style) (hs : st.Ok) (h : AH) : CA 3 [.fs none (xs.map Node.enc), .agg st.enc] h (fun v _ => v = .bool true) := by
  refine (ca_iff (af := ac3) rfl).2 ?_
  simp [ac3, szNodeS_iff _ hx, szr_neg]
  by_cases hW : (1048576 : Int) < (WS Node.W xs : Nat)
  · simp [hW]
  have hw : WS Node.W xs ≤ 1048576 := by omega
  have hl := WS_len Node.W xs
  have hlen := brkL_len xs st
  have c1 := ct_nodes xs
  have c3 := ctL_one 1 (brkL xs st)
  have ref : ∀ (h : AH) R, acallM CA .frz 10 [.fs none (xs.map Node.enc), .agg st.enc] h R ↔ R (.fs none ((brkL xs st).map (encI .i64))) h := fun h R => own_frzO (encI_ok .i64) fun R hR => BreakList_ok xs (by omega) st h R hR
  have spc := fun h R => specBreakList_iff xs (by omega) st h R
  simp only [Style.enc] at ref spc
  simp [hW, toNodeS_iff _ hw, toStyle_iff', spc]
  refine toNodeS_new 0 xs hw _ none _ fun h1 y1 F1 N1 => ?_
  have T1 := N1.tw
  have o1 : y1.one = true := Tw.one 2 (x := .fs none (xs.map Node.enc)) rfl T1
  have fb : ∀ {h' : AH}, Tw h' 2 (.fs none (xs.map Node.enc)) y1 F1 → frzV 0 h' DF y1 = some (.fs none (xs.map Node.enc)) := fun t => t.frz 2 (lo := 0) (fun b _ => Nat.zero_le b) 20 (by omega)
  simp [-AV.one, -AV.cells, cells_agg, cells_one, cells_fs, cells_int, cells_str, one_int, one_str, one_nils, one_fs, o1, toStyle_iff']
  have ha : mapO (frzV 0 h1 DF) [y1, .agg st.enc] = some [.fs none (xs.map Node.enc), .agg st.enc] := by simp only [mapO, fb T1]; rfl
  refine own_own (d := 2) (x := .fs none ((brkL xs st).map (encI .i64))) ha (fun h0 R hR => BreakList_ok xs (by omega) st h0 R fun h' y O => by
    obtain ⟨F, N⟩ := O.new_ (encI_flat .i64) 0
    exact hR h' y F N) fun h2 y F2 N2 => ?_
  have o3 : y.one = true := Tw.one 2 (x := .fs none ((brkL xs st).map (encI .i64))) rfl N2.tw
  have T1b := T1.frame _ (h' := h2) fun k hk => N2.le.2 k (T1.lt _ k hk)
  have fm : ∀ {h' : AH} {l : List Int} (v v' : AV), frzV 0 h' DF v = some v' → Tw h' 2 (.fs none (l.map (encI .i64))) y F2 → mapO (frzV 0 h' DF) [y, v] = some [.fs none (l.map (encI .i64)), v'] := by
    intro h' l v v' ev t1
    have e1 := t1.frz 2 (lo := 0) (fun b _ => Nat.zero_le b) 20 (by omega)
    simp only [mapO, ev]
    rw [show frzV 0 h' DF y = some (.fs none (l.map (encI .i64))) from e1]
  have fz : ∀ h' : AH, frzV 0 h' DF (.fs none ((brkL xs st).map (encI .i64))) = some (.fs none ((brkL xs st).map (encI .i64))) := fun h' => by simp
  have eqm : ∀ (h' : AH) R, CA 11 [.fs none ((brkL xs st).map (encI .i64)), .fs none ((brkL xs st).map (encI .i64))] h' R ↔ R (.bool true) h' := fun h' R => by
    have := eqInt64S_iff (brkL xs st) (brkL xs st) (by omega) h' none none R
    simpa using this
  have q1 : ∀ R, acallM CA .bor 11 [y, .fs none ((brkL xs st).map (encI .i64))] h2 R ↔ R (.bool true) h2 := fun R => bor_call (fm _ _ (fz h2) N2.tw) rfl eqm
  have q2 : ∀ R, acallM CA .bor 12 [y1, .fs none (xs.map Node.enc)] h2 R ↔ R (.bool (decide (xs = xs))) h2 := fun R => bor_call (by simp only [mapO, fb T1b]; simp) rfl (fun h' R => eqNodeS_iff xs xs (by omega) h' none none R)
  (iterate 4 ((try simp [-AV.one, -AV.cells, cells_agg, cells_one, cells_fs, cells_int, cells_str, one_int, one_str, one_nils, one_fs, o1, o3, q1, q2, toNodeS_iff _ hw]); (try simp (disch := omega) [-AV.one, -AV.cells, cells_agg, cells_one, cells_fs, cells_int, cells_str, one_int, one_str, one_nils, one_fs, o1, o3, q1, q2, toNodeS_iff _ hw])))
  refine markNodeS_ok 0 T1b N1.nd (by omega) 1 (by omega) (by omega) _ fun h3 T1c n3 k3 => ?_
  have hG : ∀ k ∈ F2, k ∉ F1 := fun k hk hk1 => by
    have := N2.new k hk
    have := T1.lt _ k hk1; omega
  have T3b := N2.tw.frame _ (h' := h3) fun k hk => k3 k (hG k hk)
  have q3 : ∀ R, acallM CA .bor 11 [y, .fs none ((brkL xs st).map (encI .i64))] h3 R ↔ R (.bool true) h3 := fun R => bor_call (fm _ _ (fz h3) T3b) rfl eqm
  have hn1 : ¬ (1 : Int) + (ctL Node.ct xs : Nat) < 0 := by omega
  simp [-AV.one, -AV.cells, cells_agg, cells_one, cells_fs, cells_int, cells_str, one_int, one_str, one_nils, one_fs, o1, o3, q3, hn1]
  refine markInt64S_ok 0 T3b N2.nd (by omega) 1 (by omega) (by omega) _ fun h4 T3c n4 k4 => ?_
  have q4 : ∀ R, acallM CA .bor 15 [y, .int .i64 1] h4 R ↔ R (.int .i64 (1 + (ctL (fun _ => 1) (brkL xs st) : Nat))) h4 := fun R => bor_call (fm _ (.int .i64 1) (by simp) T3c) rfl (fun h' R => heldInt64S_iff (brkL xs st) (by omega) 1 (by omega) (by omega) h' none R)
  have hn2 : ¬ (1 : Int) + (ctL (fun _ => 1) (brkL xs st) : Nat) < 0 := by omega
  (iterate 4 ((try simp [-AV.one, -AV.cells, cells_agg, cells_one, cells_fs, cells_int, cells_str, one_int, one_str, one_nils, one_fs, o1, o3, q4, hn1, hn2, toNodeS_iff _ hw, toStyle_iff', ref, eqm]); (try simp (disch := omega) [-AV.one, -AV.cells, cells_agg, cells_one, cells_fs, cells_int, cells_str, one_int, one_str, one_nils, one_fs, o1, o3, q4, hn1, hn2, toNodeS_iff _ hw, toStyle_iff', ref, eqm])))
theorem lineL_len (l : List (List Node)) (st : Style) (a b : Nat) (hb : b ≤ l.length) (ht : tot l ≤ 1048579) : (lineL l st a b).length ≤ 1048582 := by
  have h1 := midL_len l (b - skipD l a b) (skipD l a b) b (by omega) hb
  have h2 := tot_drop l (skipD l a b)
  unfold lineL
  rw [List.length_append, List.length_append, List.length_cons]
  split <;> simp <;> omega
theorem lineA_len (xs : List Node) (st : Style) (a b : Int) (hl : xs.length ≤ 1048576) : (lineA xs st a b).length ≤ 1048582 := by
  unfold lineA
  split
  · rename_i h
    obtain ⟨b0, b1, hp⟩ := mem_brkL h.2.1
    obtain ⟨_, hl2, hi, _⟩ := paraB_ok hp
    obtain ⟨_, ho⟩ := listB_ok hl2
    exact lineL_len _ st _ _ (by omega) (by have := rowL_tot ho st; omega)
  · simp
end Go.Proofs.Ytcdkgonmdenakaa
