/- The law of SetWord. -/
import Derived.Test.YtbajchkpehdolaaFont7
namespace Go.Proofs.Ytbajchkpehdolaa
open Go Go.Bm Go.Proofs
set_option linter.all false

theorem TwL.flatF {h : AH} {d : Nat} : ∀ {xs ys : List AV} {F : List Nat}, xs.all scOne = true → TwL (Tw h (d + 1)) xs ys F → F = []
  | [], _, _, _, ⟨_, e⟩ => e
  | x :: xs, _, _, hx, ⟨y, zs, F1, F2, e1, e2, h1, h2⟩ => by
    rw [List.all_cons, Bool.and_eq_true] at hx
    have e3 := TwL.flatF hx.2 h2
    have e4 : F1 = [] := by
      have hs := hx.1
      cases x <;> first | exact h1.2 | (simp [scOne, AV.scal] at hs; done) | (simp [scOne, AV.one] at hs; done)
    rw [e2, e3, e4]; rfl
theorem font_tw {h : AH} {d : Nat} {nm : ByteArray} {gs : List Glyph} {ps : List Pair} {a b c e f q r : Int} {y1 y2 : AV} {F : List Nat}
    (T : TwL (Tw h (d + 2)) [.str nm, .fs none (gs.map Glyph.enc), .fs none (ps.map Pair.enc), .int .i64 a, .int .i64 b, .int .i64 c, .int .i64 e, .int .i64 f, .int .i64 q, .int .i64 r] [.str nm, y1, y2, .int .i64 a, .int .i64 b, .int .i64 c, .int .i64 e, .int .i64 f, .int .i64 q, .int .i64 r] F) :
    ∃ Fa Fb, F = Fa ++ Fb ∧ Tw h (d + 2) (.fs none (gs.map Glyph.enc)) y1 Fa ∧ Tw h (d + 2) (.fs none (ps.map Pair.enc)) y2 Fb := by
  obtain ⟨_, _, G0, _, e0, f0, t0, _, _, Fa, _, e1, f1, T1, _, _, Fb, G3, e2, f2, T2, t3⟩ := T
  cases e0; cases e1; cases e2
  have g0 : G0 = [] := t0.2
  have g3 : G3 = [] := TwL.flatF (xs := [.int .i64 a, .int .i64 b, .int .i64 c, .int .i64 e, .int .i64 f, .int .i64 q, .int .i64 r]) rfl t3
  subst g0 g3 f2 f1 f0
  exact ⟨Fa, Fb, by simp, T1, T2⟩
theorem ct_gly (gs : List Glyph) : ctL Glyph.ct gs = 4 * gs.length := ctL_one 4 gs
theorem ct_pair (ps : List Pair) : ctL Pair.ct ps = 4 * ps.length := ctL_one 4 ps
theorem ct_piece (ps : List Piece) : ctL Piece.ct ps = 2 * ps.length := ctL_one 2 ps
theorem markFont_ok (d : Nat) {nm : ByteArray} {gs : List Glyph} {ps : List Pair} {a b c e f q r : Int} {y z : AV} {h : AH} {F G : List Nat} (H : Tw h (d + 2) (.fs none (gs.map Glyph.enc)) y F) (K : Tw h (d + 2) (.fs none (ps.map Pair.enc)) z G)
    (nF : F.Nodup) (nG : G.Nodup) (dj : ∀ b, b ∈ F → b ∉ G) (hp : gs.length ≤ 1048576) (hq : ps.length ≤ 1048576) (R : AV → AH → Prop)
    (hR : ∀ h', h'.next = h.next → (∀ b, b ∉ F → b ∉ G → h'.get b = h.get b) → R (.int .i64 (1 + (ctL Glyph.ct gs : Nat) + (ctL Pair.ct ps : Nat))) h') : CA 16 [.agg [.str nm, y, z, .int .i64 a, .int .i64 b, .int .i64 c, .int .i64 e, .int .i64 f, .int .i64 q, .int .i64 r], .int .i64 1] h R := by
  have o1 : y.one = true := Tw.one (d + 2) (x := .fs none (gs.map Glyph.enc)) rfl H
  have o2 : z.one = true := Tw.one (d + 2) (x := .fs none (ps.map Pair.enc)) rfl K
  have c1 := ct_gly gs
  have c2 := ct_pair ps
  refine (ca_iff (af := ac16) rfl).2 ?_
  simp [-AV.one, -AV.cells, cells_agg, cells_int, cells_str, cells_one, one_int, one_str, o1, o2, ac16]
  refine markGlyphS_ok d H nF (by omega) 1 (by omega) (by omega) _ fun h2 T1 n2 k2 => ?_
  simp [-AV.one, -AV.cells, cells_agg, cells_int, cells_str, cells_one, one_int, one_str, o1, o2]
  refine markPairS_ok d (K.frame _ fun b hb => k2 b fun hF => dj b hF hb) nG (by omega) _ (by omega) (by omega) _ fun h3 T2 n3 k3 => ?_
  simp
  exact hR h3 (n3.trans n2) fun b hb hb2 => (k3 b hb2).trans (k2 b hb)
set_option maxRecDepth 100000 in
theorem lawSetWord_ok (x : Font) (hx : x.Ok) (w : List Int) (hw : w.length ≤ maxLen ∧ ∀ z ∈ w, 0 ≤ z ∧ z ≤ 255) (h : AH) : CA 4 [.agg x.enc, .fs none (w.map (encI .u8))] h (fun v _ => v = .bool true) := by
  obtain ⟨nm, gs, ps, ⟨a, b, c, d, e⟩, q, r⟩ := x
  refine (ca_iff (af := ac4) rfl).2 ?_
  by_cases hts : (1048576 : Int) < w.length
  · simp [ac4, hts]
  have sz := szFont_iff' nm gs ps a b c d e q r hx
  simp [ac4, sz, szr_neg, hts]
  by_cases hW : (1048576 : Int) < Font.W ⟨nm, gs, ps, ⟨a, b, c, d, e⟩, q, r⟩
  · simp [hW]
  have hw1 : Font.W ⟨nm, gs, ps, ⟨a, b, c, d, e⟩, q, r⟩ ≤ 1048576 := by omega
  have hw2 := hw1
  simp only [Font.W] at hw2
  have spc := specSetWord_iff nm gs ps a b c d e q r w (by omega) (by omega) (by omega) (by omega) hw.2 none
  have tf := toFont_iff' nm gs ps a b c d e q r hw1
  have tb := fun h => toBytes_iff w (by omega) none h
  have go := fun h R hR => SetWord_ok nm gs ps a b c d e q r w (by omega) (by omega) (by omega) (by omega) hw.2 none h R hR
  have ref : ∀ (h : AH) R, acallM CA .frz 14 [.agg (fcells nm gs ps a b c d e q r), .fs none (w.map (encI .u8))] h R ↔ R (.fs none ((setW ⟨nm, gs, ps, ⟨a, b, c, d, e⟩, q, r⟩ w).map Piece.enc)) h := fun h R => own_frzO Piece.ok fun R hR => go h R hR
  have hlen := (setW_ok (f := ⟨nm, gs, ps, ⟨a, b, c, d, e⟩, q, r⟩) (w := w)).1
  generalize setW ⟨nm, gs, ps, ⟨a, b, c, d, e⟩, q, r⟩ w = out at *
  have c1 := ct_gly gs
  have c2 := ct_pair ps
  have c3 := ct_piece out
  have c4 := ctL_one 1 w
  simp only [fcells] at spc ref go
  simp [hW, spc, tf, tb]
  refine toFont_new 0 nm gs ps a b c d e q r hw1 _ _ fun h1 y1 y2 F1 N1 => ?_
  obtain ⟨Fa, Fb, eF, T1, T2⟩ := font_tw (d := 0) N1.tw
  subst eF
  have ndF := List.nodup_append.1 N1.nd
  have o1 : y1.one = true := Tw.one 2 (x := .fs none (gs.map Glyph.enc)) rfl T1
  have o2 : y2.one = true := Tw.one 2 (x := .fs none (ps.map Pair.enc)) rfl T2
  simp [-AV.one, -AV.cells, cells_agg, cells_one, cells_fs, cells_int, cells_str, one_int, one_str, one_nils, one_fs, o1, o2]
  refine toByteS_new 0 w (by omega) _ none _ fun h2 yw Fw N2 => ?_
  have ow : yw.one = true := Tw.one 2 (x := .fs none (w.map (encI .u8))) rfl N2.tw
  have T1b := T1.frame _ (h' := h2) fun k hk => N2.le.2 k (T1.lt _ k hk)
  have T2b := T2.frame _ (h' := h2) fun k hk => N2.le.2 k (T2.lt _ k hk)
  have hwa : ∀ k ∈ Fw, k ∉ Fa ∧ k ∉ Fb := fun k hk => by
    have := N2.new k hk
    exact ⟨fun hk1 => by have := T1.lt _ k hk1; omega, fun hk1 => by have := T2.lt _ k hk1; omega⟩
  have fb : ∀ {h' : AH}, Tw h' 2 (.fs none (gs.map Glyph.enc)) y1 Fa → Tw h' 2 (.fs none (ps.map Pair.enc)) y2 Fb → frzV 0 h' DF (.agg [.str nm, y1, y2, .int .i64 a, .int .i64 b, .int .i64 c, .int .i64 d, .int .i64 e, .int .i64 q, .int .i64 r]) = some (.agg [.str nm, .fs none (gs.map Glyph.enc), .fs none (ps.map Pair.enc), .int .i64 a, .int .i64 b, .int .i64 c, .int .i64 d, .int .i64 e, .int .i64 q, .int .i64 r]) := by
    intro h' t1 t2
    have e1 := t1.frz 2 (lo := 0) (fun b _ => Nat.zero_le b) 19 (by omega)
    have e2 := t2.frz 2 (lo := 0) (fun b _ => Nat.zero_le b) 19 (by omega)
    simp [e1, e2]
  have fw : ∀ {h' : AH}, Tw h' 2 (.fs none (w.map (encI .u8))) yw Fw → frzV 0 h' DF yw = some (.fs none (w.map (encI .u8))) := fun t => t.frz 2 (lo := 0) (fun b _ => Nat.zero_le b) 20 (by omega)
  simp [-AV.one, -AV.cells, cells_agg, cells_one, cells_fs, cells_int, cells_str, one_int, one_str, one_nils, one_fs, o1, o2, ow]
  have ha : mapO (frzV 0 h2 DF) [.agg [.str nm, y1, y2, .int .i64 a, .int .i64 b, .int .i64 c, .int .i64 d, .int .i64 e, .int .i64 q, .int .i64 r], yw] = some [.agg [.str nm, .fs none (gs.map Glyph.enc), .fs none (ps.map Pair.enc), .int .i64 a, .int .i64 b, .int .i64 c, .int .i64 d, .int .i64 e, .int .i64 q, .int .i64 r], .fs none (w.map (encI .u8))] := by simp only [mapO, fb T1b T2b, fw N2.tw]
  refine own_own (d := 2) (x := .fs none (out.map Piece.enc)) ha (fun h0 R hR => go h0 R fun h' y O => by
    obtain ⟨F, N⟩ := O.new_ Piece.flat 0
    exact hR h' y F N) fun h3 y F3 N3 => ?_
  have o3 : y.one = true := Tw.one 2 (x := .fs none (out.map Piece.enc)) rfl N3.tw
  have T1c := T1b.frame _ (h' := h3) fun k hk => N3.le.2 k (T1b.lt _ k hk)
  have T2c := T2b.frame _ (h' := h3) fun k hk => N3.le.2 k (T2b.lt _ k hk)
  have Twc := N2.tw.frame _ (h' := h3) fun k hk => N3.le.2 k (N2.tw.lt _ k hk)
  have fm : ∀ {h' : AH} {l : List Piece} (v v' : AV), frzV 0 h' DF v = some v' → Tw h' 2 (.fs none (l.map Piece.enc)) y F3 → mapO (frzV 0 h' DF) [y, v] = some [.fs none (l.map Piece.enc), v'] := by
    intro h' l v v' ev t1
    have e1 := t1.frz 2 (lo := 0) (fun b _ => Nat.zero_le b) 20 (by omega)
    simp only [mapO, ev]
    rw [show frzV 0 h' DF y = some (.fs none (l.map Piece.enc)) from e1]
  have fz : ∀ h' : AH, frzV 0 h' DF (.fs none (out.map Piece.enc)) = some (.fs none (out.map Piece.enc)) := fun h' => by simp
  have fzb : ∀ h' : AH, frzV 0 h' DF (.fs none (w.map (encI .u8))) = some (.fs none (w.map (encI .u8))) := fun h' => by simp
  have eqm : ∀ (h' : AH) R, CA 15 [.fs none (out.map Piece.enc), .fs none (out.map Piece.enc)] h' R ↔ R (.bool true) h' := fun h' R => by
    have := eqPieceS_iff out out (by omega) h' none none R
    simpa using this
  have eqf : ∀ (h' : AH) R, CA 11 [.agg [.str nm, .fs none (gs.map Glyph.enc), .fs none (ps.map Pair.enc), .int .i64 a, .int .i64 b, .int .i64 c, .int .i64 d, .int .i64 e, .int .i64 q, .int .i64 r], .agg [.str nm, .fs none (gs.map Glyph.enc), .fs none (ps.map Pair.enc), .int .i64 a, .int .i64 b, .int .i64 c, .int .i64 d, .int .i64 e, .int .i64 q, .int .i64 r]] h' R ↔ R (.bool true) h' := fun h' R => by
    have := eqFont_iff' nm gs ps a b c d e q r nm gs ps a b c d e q r (Nat.le_trans hw1 (by decide)) h' R
    simpa using this
  have eqb : ∀ (h' : AH) R, CA 12 [.fs none (w.map (encI .u8)), .fs none (w.map (encI .u8))] h' R ↔ R (.bool true) h' := fun h' R => by
    have := eqByteS_iff w w (by omega) h' none none R
    simpa using this
  have q1 : ∀ R, acallM CA .bor 15 [y, .fs none (out.map Piece.enc)] h3 R ↔ R (.bool true) h3 := fun R => bor_call (fm _ _ (fz h3) N3.tw) rfl eqm
  have q2 : ∀ R, acallM CA .bor 11 [.agg [.str nm, y1, y2, .int .i64 a, .int .i64 b, .int .i64 c, .int .i64 d, .int .i64 e, .int .i64 q, .int .i64 r], .agg [.str nm, .fs none (gs.map Glyph.enc), .fs none (ps.map Pair.enc), .int .i64 a, .int .i64 b, .int .i64 c, .int .i64 d, .int .i64 e, .int .i64 q, .int .i64 r]] h3 R ↔ R (.bool true) h3 := fun R =>
    bor_call (by simp only [mapO, fb T1c T2c]; simp) rfl eqf
  have q2b : ∀ R, acallM CA .bor 12 [yw, .fs none (w.map (encI .u8))] h3 R ↔ R (.bool true) h3 := fun R =>
    bor_call (by simp only [mapO, fw Twc, fzb]) rfl eqb
  (iterate 4 ((try simp [-AV.one, -AV.cells, cells_agg, cells_one, cells_fs, cells_int, cells_str, one_int, one_str, one_nils, one_fs, o1, o2, o3, ow, q1, q2, q2b, tf, tb]); (try simp (disch := omega) [-AV.one, -AV.cells, cells_agg, cells_one, cells_fs, cells_int, cells_str, one_int, one_str, one_nils, one_fs, o1, o2, o3, ow, q1, q2, q2b, tf, tb])))
  refine markFont_ok 0 T1c T2c ndF.1 ndF.2.1 (fun b hb hb2 => ndF.2.2 b hb b hb2 rfl) (by omega) (by omega) _ fun h4 n4 k4 => ?_
  have hG : ∀ k ∈ F3, k ∉ Fa ∧ k ∉ Fb ∧ k ∉ Fw := fun k hk => by
    have := N3.new k hk
    exact ⟨fun hk1 => by have := T1b.lt _ k hk1; omega, fun hk1 => by have := T2b.lt _ k hk1; omega, fun hk1 => by have := N2.tw.lt _ k hk1; omega⟩
  have T4 := N3.tw.frame _ (h' := h4) fun k hk => k4 k (hG k hk).1 (hG k hk).2.1
  have Tw4 := Twc.frame _ (h' := h4) fun k hk => k4 k (hwa k hk).1 (hwa k hk).2
  simp [-AV.one, -AV.cells, cells_agg, cells_one, cells_fs, cells_int, cells_str, one_int, one_str, one_nils, one_fs, o1, o2, o3, ow]
  refine markByteS_ok 0 Tw4 N2.nd (by omega) _ (by omega) (by omega) _ fun h5 Tw5 n5 k5 => ?_
  have T5 := T4.frame _ (h' := h5) fun k hk => k5 k (hG k hk).2.2
  have q3 : ∀ R, acallM CA .bor 15 [y, .fs none (out.map Piece.enc)] h5 R ↔ R (.bool true) h5 := fun R => bor_call (fm _ _ (fz h5) T5) rfl eqm
  have hn1 : ¬ (1 : Int) + (ctL Glyph.ct gs : Nat) + (ctL Pair.ct ps : Nat) + (ctL (fun _ => 1) w : Nat) < 0 := by omega
  simp [-AV.one, -AV.cells, cells_agg, cells_one, cells_fs, cells_int, cells_str, one_int, one_str, one_nils, one_fs, o1, o2, o3, ow, q3, hn1]
  refine markPieceS_ok 0 T5 N3.nd (by omega) 1 (by omega) (by omega) _ fun h6 T6 n6 k6 => ?_
  have q4 : ∀ R, acallM CA .bor 19 [y, .int .i64 1] h6 R ↔ R (.int .i64 (1 + (ctL Piece.ct out : Nat))) h6 := fun R => bor_call (fm _ (.int .i64 1) (by simp) T6) rfl (fun h' R => heldPieceS_iff out (by omega) 1 (by omega) (by omega) h' none R)
  have hn2 : ¬ (1 : Int) + (ctL Piece.ct out : Nat) < 0 := by omega
  (iterate 4 ((try simp [-AV.one, -AV.cells, cells_agg, cells_one, cells_fs, cells_int, cells_str, one_int, one_str, one_nils, one_fs, o1, o2, o3, ow, q4, hn1, hn2, tf, tb, ref, eqm]); (try simp (disch := omega) [-AV.one, -AV.cells, cells_agg, cells_one, cells_fs, cells_int, cells_str, one_int, one_str, one_nils, one_fs, o1, o2, o3, ow, q4, hn1, hn2, tf, tb, ref, eqm])))
end Go.Proofs.Ytbajchkpehdolaa
