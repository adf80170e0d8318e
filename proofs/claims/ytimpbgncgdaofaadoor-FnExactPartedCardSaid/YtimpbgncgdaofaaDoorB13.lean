/- The law of Hyphens. -/
import Derived.Test.YtimpbgncgdaofaaDoorB12
namespace Go.Proofs.YtimpbgncgdaofaaDoor
open Go Go.Bm Go.Proofs
set_option linter.all false

theorem hyphL_len (ps : List Pattern) (ws : List Exception) (s : ByteArray) (left right : Int) (hs : s.size ≤ 1048576) (hW : Book.W ⟨ps, ws⟩ ≤ 1048576) : (hyphL ps ws s left right).length ≤ 1048576 := by
  have w2 : WS Exception.W ws ≤ 1048576 := by simp only [Book.W] at hW; omega
  unfold hyphL
  split
  · refine Nat.le_trans (List.length_filter_le _ _) ?_
    unfold placesL
    split
    · rename_i hlb
      have hlt2 : lookI ws (lowS s) < ws.length := by simp [lookB] at hlb; exact hlb.1
      exact (exc_le w2 hlt2).2
    · have := odds_len (cut (lowS s).size (marksAll ps (lowS s))) (lowS s).size
      have := lowS_size s
      omega
  · simp
set_option maxRecDepth 100000 in
theorem lawHyphens_ok (x : Book) (hx : x.Ok) (t : ByteArray) (ht : t.size ≤ maxLen) (a : Int) (ha : -9223372036854775808 ≤ a ∧ a ≤ 9223372036854775807) (b : Int) (hb : -9223372036854775808 ≤ b ∧ b ≤ 9223372036854775807) (h : AH) : CA 6 [.agg x.enc, .str t, .int .i64 a, .int .i64 b] h (fun v _ => v = .bool true) := by
  obtain ⟨ps, ws⟩ := x
  refine (ca_iff (af := ac6) rfl).2 ?_
  by_cases hts : (1048576 : Int) < t.size
  · simp [ac6, hts]
  simp [ac6, szBook_iff' _ _ hx, szr_neg, hts]
  by_cases hW : (1048576 : Int) < Book.W ⟨ps, ws⟩
  · simp [hW]
  have hw : Book.W ⟨ps, ws⟩ ≤ 1048576 := by omega
  have hs : t.size ≤ 1048576 := by omega
  have w1 : WS Pattern.W ps ≤ 1048576 := by simp only [Book.W] at hw; omega
  have w2 : WS Exception.W ws ≤ 1048576 := by simp only [Book.W] at hw; omega
  have hlen := hyphL_len ps ws t a b hs hw
  have c1 := ct_pats ps
  have c2 := ct_excs ws
  have c3 := ctL_one 1 (hyphL ps ws t a b)
  have ref : ∀ (h : AH) R, acallM CA .frz 21 [.agg [.fs none (ps.map Pattern.enc), .fs none (ws.map Exception.enc)], .str t, .int .i64 a, .int .i64 b] h R ↔ R (.fs none ((hyphL ps ws t a b).map (encI .i64))) h := fun h R => own_frz (d := 2) (by decide) fun R hR => Hyphens_ok ps ws t a b hs hw h R fun h' y O => by
    obtain ⟨F, N⟩ := O.new_ (encI_flat .i64) 0
    exact hR h' y F N
  simp [hW, toBook_iff' _ _ hw, specHyph_iff ps ws t a b hs hw]
  refine toBook_new 0 ps ws hw _ _ fun h1 y1 y2 F1 N1 => ?_
  have le1 := N1.le
  obtain ⟨_, _, Fa, Fb, e1, e2, T1, _, _, Fc, _, e3, e4, T2, e5, e6⟩ := N1.tw
  cases e1; cases e3; subst e6; rw [List.append_nil] at e4; subst e4; subst e2
  have ndF := List.nodup_append.1 N1.nd
  have o1 : y1.one = true := Tw.one 3 (x := .fs none (ps.map Pattern.enc)) rfl T1
  have o2 : y2.one = true := Tw.one 3 (x := .fs none (ws.map Exception.enc)) rfl T2
  have fb : ∀ {h' : AH}, Tw h' 3 (.fs none (ps.map Pattern.enc)) y1 Fa → Tw h' 3 (.fs none (ws.map Exception.enc)) y2 Fb → frzV 0 h' DF (.agg [y1, y2]) = some (.agg [.fs none (ps.map Pattern.enc), .fs none (ws.map Exception.enc)]) := by
    intro h' t1 t2
    have e1 := t1.frz 3 (lo := 0) (fun b _ => Nat.zero_le b) 19 (by omega)
    have e2 := t2.frz 3 (lo := 0) (fun b _ => Nat.zero_le b) 19 (by omega)
    simp [e1, e2]
  simp [-AV.one, -AV.cells, cells_agg, cells_one, cells_fs, cells_int, cells_str, one_int, one_str, one_nils, one_fs, o1, o2]
  have ha : mapO (frzV 0 h1 DF) [.agg [y1, y2], .str t, .int .i64 a, .int .i64 b] = some [.agg [.fs none (ps.map Pattern.enc), .fs none (ws.map Exception.enc)], .str t, .int .i64 a, .int .i64 b] := by simp only [mapO, fb T1 T2]; rfl
  refine own_own (d := 2) (x := .fs none ((hyphL ps ws t a b).map (encI .i64))) ha (fun h0 R hR => Hyphens_ok ps ws t a b hs hw h0 R fun h' y O => by
    obtain ⟨F, N⟩ := O.new_ (encI_flat .i64) 0
    exact hR h' y F N) fun h2 y F2 N2 => ?_
  have o3 : y.one = true := Tw.one 2 (x := .fs none ((hyphL ps ws t a b).map (encI .i64))) rfl N2.tw
  have T1b := T1.frame _ (h' := h2) fun k hk => N2.le.2 k (T1.lt _ k hk)
  have T2b := T2.frame _ (h' := h2) fun k hk => N2.le.2 k (T2.lt _ k hk)
  have fm : ∀ {h' : AH} {l : List Int} (v v' : AV), frzV 0 h' DF v = some v' → Tw h' 2 (.fs none (l.map (encI .i64))) y F2 → mapO (frzV 0 h' DF) [y, v] = some [.fs none (l.map (encI .i64)), v'] := by
    intro h' l v v' ev t1
    have e1 := t1.frz 2 (lo := 0) (fun b _ => Nat.zero_le b) 20 (by omega)
    simp only [mapO, ev]
    rw [show frzV 0 h' DF y = some (.fs none (l.map (encI .i64))) from e1]
  have fz : ∀ h' : AH, frzV 0 h' DF (.fs none ((hyphL ps ws t a b).map (encI .i64))) = some (.fs none ((hyphL ps ws t a b).map (encI .i64))) := fun h' => by simp
  have eqm : ∀ (h' : AH) R, CA 14 [.fs none ((hyphL ps ws t a b).map (encI .i64)), .fs none ((hyphL ps ws t a b).map (encI .i64))] h' R ↔ R (.bool true) h' := fun h' R => by
    have := eqInt64S_iff (hyphL ps ws t a b) (hyphL ps ws t a b) (by omega) h' none none R
    simpa using this
  have q1 : ∀ R, acallM CA .bor 14 [y, .fs none ((hyphL ps ws t a b).map (encI .i64))] h2 R ↔ R (.bool true) h2 := fun R => bor_call (fm _ _ (fz h2) N2.tw) rfl eqm
  have q2 : ∀ R, acallM CA .bor 11 [.agg [y1, y2], .agg [.fs none (ps.map Pattern.enc), .fs none (ws.map Exception.enc)]] h2 R ↔ R (.bool (decide ((⟨ps, ws⟩ : Book) = ⟨ps, ws⟩))) h2 := fun R => bor_call (by simp only [mapO, fb T1b T2b]; simp) rfl (eqBook_iff' ps ws ps ws (by omega))
  (iterate 4 ((try simp [-AV.one, -AV.cells, cells_agg, cells_one, cells_fs, cells_int, cells_str, one_int, one_str, one_nils, one_fs, o1, o2, o3, q1, q2, toBook_iff' _ _ hw]); (try simp (disch := omega) [-AV.one, -AV.cells, cells_agg, cells_one, cells_fs, cells_int, cells_str, one_int, one_str, one_nils, one_fs, o1, o2, o3, q1, q2, toBook_iff' _ _ hw])))
  refine markBook_ok 0 T1b T2b ndF.1 ndF.2.1 (fun b hb hb2 => ndF.2.2 b hb b hb2 rfl) w1 w2 _ fun h3 k3 => ?_
  have hG : ∀ k ∈ F2, k ∉ Fa ∧ k ∉ Fb := fun k hk => by
    have := N2.new k hk
    exact ⟨fun hk1 => by have := T1.lt _ k hk1; omega, fun hk1 => by have := T2.lt _ k hk1; omega⟩
  have T3b := N2.tw.frame _ (h' := h3) fun k hk => k3 k (hG k hk).1 (hG k hk).2
  have q3 : ∀ R, acallM CA .bor 14 [y, .fs none ((hyphL ps ws t a b).map (encI .i64))] h3 R ↔ R (.bool true) h3 := fun R => bor_call (fm _ _ (fz h3) T3b) rfl eqm
  have hn1 : ¬ (1 : Int) + (ctL Pattern.ct ps : Nat) + (ctL Exception.ct ws : Nat) < 0 := by omega
  simp [-AV.one, -AV.cells, cells_agg, cells_one, cells_fs, cells_int, cells_str, one_int, one_str, one_nils, one_fs, o1, o2, o3, q3, hn1]
  refine markInt64S_ok 0 T3b N2.nd (by omega) 1 (by omega) (by omega) _ fun h4 T3c n4 k4 => ?_
  have q4 : ∀ R, acallM CA .bor 17 [y, .int .i64 1] h4 R ↔ R (.int .i64 (1 + (ctL (fun _ => 1) (hyphL ps ws t a b) : Nat))) h4 := fun R => bor_call (fm _ (.int .i64 1) (by simp) T3c) rfl (fun h' R => heldInt64S_iff (hyphL ps ws t a b) (by omega) 1 (by omega) (by omega) h' none R)
  have hn2 : ¬ (1 : Int) + (ctL (fun _ => 1) (hyphL ps ws t a b) : Nat) < 0 := by omega
  (iterate 4 ((try simp [-AV.one, -AV.cells, cells_agg, cells_one, cells_fs, cells_int, cells_str, one_int, one_str, one_nils, one_fs, o1, o2, o3, q4, hn1, hn2, toBook_iff' _ _ hw, ref, eqm]); (try simp (disch := omega) [-AV.one, -AV.cells, cells_agg, cells_one, cells_fs, cells_int, cells_str, one_int, one_str, one_nils, one_fs, o1, o2, o3, q4, hn1, hn2, toBook_iff' _ _ hw, ref, eqm])))
end Go.Proofs.YtimpbgncgdaofaaDoor
