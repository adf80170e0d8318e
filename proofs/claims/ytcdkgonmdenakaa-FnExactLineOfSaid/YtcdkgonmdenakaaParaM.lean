/- The law of LineOf. -/
import Derived.Test.YtcdkgonmdenakaaParaL
namespace Go.Proofs.Ytcdkgonmdenakaa
open Go Go.Bm Go.Proofs
set_option linter.all false

def totW (l : List (List Node)) : Nat := (l.map (WS Node.W)).sum
theorem totW_append (a b : List (List Node)) : totW (a ++ b) = totW a + totW b := by simp [totW]
theorem totW_take (l : List (List Node)) (k : Nat) : totW (l.take k) ≤ totW l := by
  have := totW_append (l.take k) (l.drop k)
  rw [List.take_append_drop] at this; omega
theorem totW_drop (l : List (List Node)) (k : Nat) : totW (l.drop k) ≤ totW l := by
  have := totW_append (l.take k) (l.drop k)
  rw [List.take_append_drop] at this; omega
theorem trimR_totW : ∀ (n : Nat) (l : List (List Node)), l.length ≤ n → totW (trimR l) ≤ totW l
  | 0, l, h => by rw [trimR, dif_neg (by omega)]; exact Nat.le_refl _
  | n + 1, l, h => by
    rw [trimR]; split
    · exact Nat.le_trans (trimR_totW n (l.take (l.length - 1)) (by rw [List.length_take]; omega)) (totW_take _ _)
    · exact Nat.le_refl _
theorem starts_totW (xs : List Node) : ∀ {i : Nat}, OkF xs i → totW ((starts xs i).map (itemL xs)) ≤ WS Node.W (xs.drop i) := by
  intro i h
  induction h with
  | fin => rw [starts_end]; simp [totW]
  | item i hi hk hn _ ih =>
    rw [starts_lt hi, List.map_cons]
    have e : totW (itemL xs i :: (starts xs (i + 1 + (nth xs i).kids.toNat)).map (itemL xs)) = WS Node.W (itemL xs i) + totW ((starts xs (i + 1 + (nth xs i).kids.toNat)).map (itemL xs)) := by simp [totW]
    have h2 : xs.drop i = itemL xs i ++ xs.drop (i + 1 + (nth xs i).kids.toNat) := by
      rw [drop_eq hi, itemL, List.cons_append]
      congr 1
      have e3 : xs.drop (i + 1 + (nth xs i).kids.toNat) = (xs.drop (i + 1)).drop (nth xs i).kids.toNat := by rw [List.drop_drop]
      rw [e3, List.take_append_drop]
    rw [h2, WS_append, e]; omega
theorem rowL_totW {xs : List Node} (ho : OkF xs 0) (st : Style) : totW (rowL xs st) ≤ WS Node.W xs + 3 := by
  have h1 := starts_totW xs ho
  have h2 := trimR_totW _ (itemsL xs) (Nat.le_refl _)
  have h3 : totW (tailR st) = 3 := rfl
  rw [List.drop_zero] at h1
  rw [rowL, totW_append, h3]
  have : totW (itemsL xs) ≤ WS Node.W xs := h1
  omega
theorem midL_W (l : List (List Node)) : ∀ (n i to : Nat), to - i ≤ n → to ≤ l.length → WS Node.W (midL l i to) ≤ totW (l.drop i)
  | 0, i, to, h, _ => by rw [midL_end (by omega), WS_nil]; omega
  | n + 1, i, to, h, ht => by
    by_cases hlt : i < to
    · have := midL_W l n (i + 1) to (by omega) ht
      rw [midL_lt hlt, drop_eq (show i < l.length by omega), WS_append]
      have e : totW (nth l i :: l.drop (i + 1)) = WS Node.W (nth l i) + totW (l.drop (i + 1)) := by simp [totW]
      have : WS Node.W (if (hd1 (nth l i)).kind = 8 then [] else nth l i) ≤ WS Node.W (nth l i) := by
        split
        · rw [WS_nil]; omega
        · omega
      omega
    · rw [midL_end (by omega), WS_nil]; omega
theorem mem_totW {l : List (List Node)} : ∀ {x : List Node}, x ∈ l → WS Node.W x ≤ totW l := by
  induction l with
  | nil => intro x h; cases h
  | cons y l ih =>
    intro x h
    have e : totW (y :: l) = WS Node.W y + totW l := by simp [totW]
    rcases List.mem_cons.1 h with rfl | h
    · omega
    · have := ih h; omega
theorem lineL_W (l : List (List Node)) (hne : ∀ x ∈ l, 0 < x.length) (st : Style) (a b : Nat) (hb : b < l.length) : WS Node.W (lineL l st a b) ≤ 2 * totW l + 3 := by
  have h1 := midL_W l (b - skipD l a b) (skipD l a b) b (by omega) (by omega)
  have h2 := totW_drop l (skipD l a b)
  have h3 := mem_totW (nth_mem hb)
  have h4 : 1 + Node.W (hd1 (nth l b)) ≤ WS Node.W (nth l b) := by
    have e := nth_ne hne hb
    have d := drop_eq e
    rw [List.drop_zero] at d
    rw [d, WS_cons]
    show 1 + Node.W (nth (nth l b) 0) ≤ _
    omega
  have w1 : ∀ g, WS Node.W [glu g] = 1 := fun _ => rfl
  have w2 : WS Node.W [hyph1 (hd1 (nth l b))] = 1 + Node.W (hd1 (nth l b)) := by rw [WS_cons, WS_nil]; rfl
  unfold lineL
  rw [WS_append, WS_append, WS_cons, w1]
  have w3 : Node.W (glu st.left) = 0 := rfl
  rw [w3]
  split
  · rw [w2]; omega
  · rw [WS_nil]; omega
theorem lineA_W (xs : List Node) (st : Style) (a b : Int) : WS Node.W (lineA xs st a b) ≤ 2 * WS Node.W xs + 9 := by
  unfold lineA
  split
  · rename_i h
    obtain ⟨b0, b1, hp⟩ := mem_brkL h.2.1
    obtain ⟨_, hl2, hi, _⟩ := paraB_ok hp
    obtain ⟨_, ho⟩ := listB_ok hl2
    have := lineL_W (rowL xs st) row_ne st (a + 1).toNat b.toNat (by omega)
    have := rowL_totW ho st
    omega
  · rw [WS_nil]; omega
set_option maxRecDepth 100000 in
theorem lawLineOf_ok (xs : List Node) (hx : xs.length ≤ maxLen ∧ ∀ y ∈ xs, Node.Ok y) (st : Style) (hs : st.Ok) (a : Int) (ha : -9223372036854775808 ≤ a ∧ a ≤ 9223372036854775807) (b : Int) (hb : -9223372036854775808 ≤ b ∧ b ≤ 9223372036854775807) (h : AH) : CA 4 [.fs none (xs.map Node.enc), .agg st.enc, .int .i64 a, .int .i64 b] h (fun v _ => v = .bool true) := by
  refine (ca_iff (af := ac4) rfl).2 ?_
  simp [ac4, szNodeS_iff _ hx, szr_neg]
  by_cases hW : (1048576 : Int) < (WS Node.W xs : Nat)
  · simp [hW]
  have hw : WS Node.W xs ≤ 1048576 := by omega
  have hl := WS_len Node.W xs
  have hlw := lineA_W xs st a b
  have hll := WS_len Node.W (lineA xs st a b)
  have c1 := ct_nodes xs
  have c3 := ct_nodes (lineA xs st a b)
  have ref : ∀ (h : AH) R, acallM CA .frz 17 [.fs none (xs.map Node.enc), .agg st.enc, .int .i64 a, .int .i64 b] h R ↔ R (.fs none ((lineA xs st a b).map Node.enc)) h := fun h R => own_frzO Node.ok fun R hR => LineOf_ok xs (by omega) st a b h R hR
  have spc := fun h R => specLineOf_iff xs (by omega) st a b h R
  simp only [Style.enc] at ref spc
  simp [hW, toNodeS_iff _ hw, toStyle_iff', spc]
  refine toNodeS_new 0 xs hw _ none _ fun h1 y1 F1 N1 => ?_
  have T1 := N1.tw
  have o1 : y1.one = true := Tw.one 2 (x := .fs none (xs.map Node.enc)) rfl T1
  have fb : ∀ {h' : AH} {y : AV} {F : List Nat} {l : List Node}, Tw h' 2 (.fs none (l.map Node.enc)) y F → frzV 0 h' DF y = some (.fs none (l.map Node.enc)) := fun t => t.frz 2 (lo := 0) (fun b _ => Nat.zero_le b) 20 (by omega)
  simp [-AV.one, -AV.cells, cells_agg, cells_one, cells_fs, cells_int, cells_str, one_int, one_str, one_nils, one_fs, o1, toStyle_iff']
  have hha : mapO (frzV 0 h1 DF) [y1, .agg st.enc, .int .i64 a, .int .i64 b] = some [.fs none (xs.map Node.enc), .agg st.enc, .int .i64 a, .int .i64 b] := by simp only [mapO, fb T1]; rfl
  refine own_own (d := 2) (x := .fs none ((lineA xs st a b).map Node.enc)) hha (fun h0 R hR => LineOf_ok xs (by omega) st a b h0 R fun h' y O => by
    obtain ⟨F, N⟩ := O.new_ Node.flat 0
    exact hR h' y F N) fun h2 y F2 N2 => ?_
  generalize lineA xs st a b = la at *
  have o3 : y.one = true := Tw.one 2 (x := .fs none (la.map Node.enc)) rfl N2.tw
  have T1b := T1.frame _ (h' := h2) fun k hk => N2.le.2 k (T1.lt _ k hk)
  have fm : ∀ {h' : AH} {l : List Node} {y : AV} {F : List Nat} (v v' : AV), frzV 0 h' DF v = some v' → Tw h' 2 (.fs none (l.map Node.enc)) y F → mapO (frzV 0 h' DF) [y, v] = some [.fs none (l.map Node.enc), v'] := by
    intro h' l y F v v' ev t1
    simp only [mapO, ev, fb t1]
  have fz : ∀ (h' : AH) (l : List Node), frzV 0 h' DF (.fs none (l.map Node.enc)) = some (.fs none (l.map Node.enc)) := fun h' l => by simp
  have eqm : ∀ (l : List Node), WS Node.W l ≤ 67108864 → ∀ (h' : AH) R, CA 12 [.fs none (l.map Node.enc), .fs none (l.map Node.enc)] h' R ↔ R (.bool true) h' := fun l hl h' R => by
    have := eqNodeS_iff l l hl h' none none R
    simpa using this
  have q1 : ∀ R, acallM CA .bor 12 [y, .fs none (la.map Node.enc)] h2 R ↔ R (.bool true) h2 := fun R => bor_call (fm _ _ (fz h2 _) N2.tw) rfl (eqm la (by omega))
  have q2 : ∀ R, acallM CA .bor 12 [y1, .fs none (xs.map Node.enc)] h2 R ↔ R (.bool true) h2 := fun R => bor_call (fm _ _ (fz h2 _) T1b) rfl (eqm xs (by omega))
  (iterate 4 ((try simp [-AV.one, -AV.cells, cells_agg, cells_one, cells_fs, cells_int, cells_str, one_int, one_str, one_nils, one_fs, o1, o3, q1, q2, toNodeS_iff _ hw]); (try simp (disch := omega) [-AV.one, -AV.cells, cells_agg, cells_one, cells_fs, cells_int, cells_str, one_int, one_str, one_nils, one_fs, o1, o3, q1, q2, toNodeS_iff _ hw])))
  refine markNodeS_ok 0 T1b N1.nd (by omega) 1 (by omega) (by omega) _ fun h3 T1c n3 k3 => ?_
  have hG : ∀ k ∈ F2, k ∉ F1 := fun k hk hk1 => by
    have := N2.new k hk
    have := T1.lt _ k hk1; omega
  have T3b := N2.tw.frame _ (h' := h3) fun k hk => k3 k (hG k hk)
  have q3 : ∀ R, acallM CA .bor 12 [y, .fs none (la.map Node.enc)] h3 R ↔ R (.bool true) h3 := fun R => bor_call (fm _ _ (fz h3 _) T3b) rfl (eqm la (by omega))
  have hn1 : ¬ (1 : Int) + (ctL Node.ct xs : Nat) < 0 := by omega
  simp [-AV.one, -AV.cells, cells_agg, cells_one, cells_fs, cells_int, cells_str, one_int, one_str, one_nils, one_fs, o1, o3, q3, hn1]
  refine markNodeS_ok 0 T3b N2.nd (by omega) 1 (by omega) (by omega) _ fun h4 T3c n4 k4 => ?_
  have q4 : ∀ R, acallM CA .bor 18 [y, .int .i64 1] h4 R ↔ R (.int .i64 (1 + (ctL Node.ct la : Nat))) h4 := fun R => bor_call (fm _ (.int .i64 1) (by simp) T3c) rfl (fun h' R => heldNodeS_iff la (by omega) 1 (by omega) (by omega) h' none R)
  have hn2 : ¬ (1 : Int) + (ctL Node.ct la : Nat) < 0 := by omega
  (iterate 4 ((try simp [-AV.one, -AV.cells, cells_agg, cells_one, cells_fs, cells_int, cells_str, one_int, one_str, one_nils, one_fs, o1, o3, q4, hn1, hn2, toNodeS_iff _ hw, toStyle_iff', ref, eqm la (by omega)]); (try simp (disch := omega) [-AV.one, -AV.cells, cells_agg, cells_one, cells_fs, cells_int, cells_str, one_int, one_str, one_nils, one_fs, o1, o3, q4, hn1, hn2, toNodeS_iff _ hw, toStyle_iff', ref, eqm la (by omega)])))
end Go.Proofs.Ytcdkgonmdenakaa
