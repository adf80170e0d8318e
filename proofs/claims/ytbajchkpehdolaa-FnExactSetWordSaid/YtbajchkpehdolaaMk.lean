/- Marks, and copies of one's own. -/
import Derived.Test.YtbajchkpehdolaaEq
import Derived.Test.YtbajchkpehdolaaBmQ
namespace Go.Proofs.Ytbajchkpehdolaa
open Go Go.Bm Go.Proofs
set_option linter.all false

def Glyph.ct (x : Glyph) : Nat := 4
def Glyph.mk_ (n : Int) (x : Glyph) : Glyph := ⟨n, n + 1, n + 1 + 1, n + 1 + 1 + 1⟩
theorem Glyph.flat : Flat Glyph.enc := fun _ _ _ => TwL.flat _ rfl
def Pair.ct (x : Pair) : Nat := 4
def Pair.mk_ (n : Int) (x : Pair) : Pair := ⟨n, n + 1, n + 1 + 1, n + 1 + 1 + 1⟩
theorem Pair.flat : Flat Pair.enc := fun _ _ _ => TwL.flat _ rfl
def Glue.ct (x : Glue) : Nat := 5
def Glue.mk_ (n : Int) (x : Glue) : Glue := ⟨n, n + 1, n + 1 + 1, n + 1 + 1 + 1, n + 1 + 1 + 1 + 1⟩
theorem Glue.flat : Flat Glue.enc := fun _ _ _ => TwL.flat _ rfl
set_option maxHeartbeats 4000000 in
set_option maxRecDepth 100000 in
theorem markGlyphS_ok (d : Nat) {h : AH} {y : AV} {F : List Nat} {xs : List Glyph} (H : Tw h (d + 2) (.fs none (xs.map Glyph.enc)) y F) (nd : F.Nodup) (hW : xs.length ≤ 67108864) (n : Int) (h0 : 0 ≤ n) (h1 : n + (ctL Glyph.ct xs : Nat) ≤ 1152921504606846976) (R : AV → AH → Prop) (hR : ∀ h', Tw h' (d + 2) (.fs none ((mkL Glyph.mk_ Glyph.ct n xs).map Glyph.enc)) y F → h'.next = h.next → (∀ b, b ∉ F → h'.get b = h.get b) → R (.int .i64 (n + (ctL Glyph.ct xs : Nat))) h') : CA 34 [y, .int .i64 n] h R := by
  refine (ca_iff (af := ac34) rfl).2 ?_
  simp [ac34]
  refine awp_loop2 caM (fun m s h' => ∃ i : Nat, m = xs.length - i ∧ i ≤ xs.length ∧ (s 0 = y ∧ s 1 = .int .i64 (n + (ctL Glyph.ct (xs.take i) : Nat)) ∧ s 5 = .int .i64 i) ∧ Tw h' (d + 2) (.fs none ((mkU Glyph.mk_ Glyph.ct n xs i).map Glyph.enc)) y F ∧ h'.next = h.next ∧ (∀ b, b ∉ F → h'.get b = h.get b)) ?_ (n := xs.length) ⟨0, by simp, by simp, by simp [ctL], by rw [mkU_zero]; exact H, rfl, fun _ _ => rfl⟩
  rintro m s h' ⟨i, rfl, hi, ⟨s0, s1, s5⟩, T, hn, hk⟩ K hK hE hQ
  have hlen := mkU_len Glyph.mk_ Glyph.ct n xs i
  have hl := Tw.lenA T
  simp [s0, s1, s5, hl, hlen]
  by_cases hlt : i < xs.length
  · have A0 := Arr.open_ Glyph.ok.toEncOk (by omega) T nd (i := i) (by omega)
    rw [mkU_nth Glyph.mk_ Glyph.ct n hlt] at A0
    have ia : ∀ h2, iaddrA 4 y (.int .i64 (i : Int)) h2 = some (elt 4 y i 0, h2) := fun h2 => by have := Tw.iaddrA Glyph.ok.toEncOk (by omega) T h2 .i64 (i : Int) (by omega) (by omega); simpa using this
    have hct := ctL_le Glyph.ct hlt
    have hct2 := ctL_take Glyph.ct hlt
    have hsucc := mkU_succ Glyph.mk_ Glyph.ct n hlt
    generalize hc : n + (ctL Glyph.ct (xs.take i) : Nat) = c at *
    have hw : IntKind.wrap .i64 ((i : Int) + 1) = (i : Int) + 1 := wrap_i64 (by omega) (by omega)
    simp [-faddrA, hlt, s0, s1, s5, ia, faddrA_elt]
    simp only [Glyph.ct] at hct hct2
    obtain ⟨g0, e0, A1, q0, k0⟩ := A0.store (off := 0) (x := .int .i64 (c)) rfl rfl rfl rfl rfl
    have w0 : IntKind.wrap .i64 (c + 1) = c + 1 := wrap_i64 (by omega) (by omega)
    simp [e0, w0, -faddrA, ia, faddrA_elt, s0, s1, s5]
    obtain ⟨g1, e1, A2, q1, k1⟩ := A1.store (off := 1) (x := .int .i64 (c + 1)) rfl rfl rfl rfl rfl
    have w1 : IntKind.wrap .i64 (c + 1 + 1) = c + 1 + 1 := wrap_i64 (by omega) (by omega)
    simp [e1, w1, -faddrA, ia, faddrA_elt, s0, s1, s5]
    obtain ⟨g2, e2, A3, q2, k2⟩ := A2.store (off := 2) (x := .int .i64 (c + 1 + 1)) rfl rfl rfl rfl rfl
    have w2 : IntKind.wrap .i64 (c + 1 + 1 + 1) = c + 1 + 1 + 1 := wrap_i64 (by omega) (by omega)
    simp [e2, w2, -faddrA, ia, faddrA_elt, s0, s1, s5]
    obtain ⟨g3, e3, A4, q3, k3⟩ := A3.store (off := 3) (x := .int .i64 (c + 1 + 1 + 1)) rfl rfl rfl rfl rfl
    have w3 : IntKind.wrap .i64 (c + 1 + 1 + 1 + 1) = c + 1 + 1 + 1 + 1 := wrap_i64 (by omega) (by omega)
    simp [e3, w3, -faddrA, ia, faddrA_elt, s0, s1, s5]
    have T2 := (show Arr g3 _ 4 Glyph.enc y _ i (Glyph.enc (Glyph.mk_ c (nth xs i))) F from A4).close
    rw [hsucc] at T2
    simp [hw, s0, s1, s5]
    refine hK (xs.length - (i + 1)) _ _ (by omega) ⟨i + 1, rfl, by omega, ⟨by simp [s0], ?_, by simp⟩, T2, q3.trans (q2.trans (q1.trans (q0.trans (hn)))), fun b hb => (k3 b hb).trans ((k2 b hb).trans ((k1 b hb).trans ((k0 b hb).trans (hk b hb))))⟩
    simp [hct2]
    omega
  · obtain rfl : i = xs.length := by omega
    rw [mkU_all] at T
    rw [List.take_length] at s1
    simp [hE, s1]
    exact hR h' T hn hk
set_option maxHeartbeats 4000000 in
set_option maxRecDepth 100000 in
theorem markPairS_ok (d : Nat) {h : AH} {y : AV} {F : List Nat} {xs : List Pair} (H : Tw h (d + 2) (.fs none (xs.map Pair.enc)) y F) (nd : F.Nodup) (hW : xs.length ≤ 67108864) (n : Int) (h0 : 0 ≤ n) (h1 : n + (ctL Pair.ct xs : Nat) ≤ 1152921504606846976) (R : AV → AH → Prop) (hR : ∀ h', Tw h' (d + 2) (.fs none ((mkL Pair.mk_ Pair.ct n xs).map Pair.enc)) y F → h'.next = h.next → (∀ b, b ∉ F → h'.get b = h.get b) → R (.int .i64 (n + (ctL Pair.ct xs : Nat))) h') : CA 35 [y, .int .i64 n] h R := by
  refine (ca_iff (af := ac35) rfl).2 ?_
  simp [ac35]
  refine awp_loop2 caM (fun m s h' => ∃ i : Nat, m = xs.length - i ∧ i ≤ xs.length ∧ (s 0 = y ∧ s 1 = .int .i64 (n + (ctL Pair.ct (xs.take i) : Nat)) ∧ s 5 = .int .i64 i) ∧ Tw h' (d + 2) (.fs none ((mkU Pair.mk_ Pair.ct n xs i).map Pair.enc)) y F ∧ h'.next = h.next ∧ (∀ b, b ∉ F → h'.get b = h.get b)) ?_ (n := xs.length) ⟨0, by simp, by simp, by simp [ctL], by rw [mkU_zero]; exact H, rfl, fun _ _ => rfl⟩
  rintro m s h' ⟨i, rfl, hi, ⟨s0, s1, s5⟩, T, hn, hk⟩ K hK hE hQ
  have hlen := mkU_len Pair.mk_ Pair.ct n xs i
  have hl := Tw.lenA T
  simp [s0, s1, s5, hl, hlen]
  by_cases hlt : i < xs.length
  · have A0 := Arr.open_ Pair.ok.toEncOk (by omega) T nd (i := i) (by omega)
    rw [mkU_nth Pair.mk_ Pair.ct n hlt] at A0
    have ia : ∀ h2, iaddrA 4 y (.int .i64 (i : Int)) h2 = some (elt 4 y i 0, h2) := fun h2 => by have := Tw.iaddrA Pair.ok.toEncOk (by omega) T h2 .i64 (i : Int) (by omega) (by omega); simpa using this
    have hct := ctL_le Pair.ct hlt
    have hct2 := ctL_take Pair.ct hlt
    have hsucc := mkU_succ Pair.mk_ Pair.ct n hlt
    generalize hc : n + (ctL Pair.ct (xs.take i) : Nat) = c at *
    have hw : IntKind.wrap .i64 ((i : Int) + 1) = (i : Int) + 1 := wrap_i64 (by omega) (by omega)
    simp [-faddrA, hlt, s0, s1, s5, ia, faddrA_elt]
    simp only [Pair.ct] at hct hct2
    obtain ⟨g0, e0, A1, q0, k0⟩ := A0.store (off := 0) (x := .int .i64 (c)) rfl rfl rfl rfl rfl
    have w0 : IntKind.wrap .i64 (c + 1) = c + 1 := wrap_i64 (by omega) (by omega)
    simp [e0, w0, -faddrA, ia, faddrA_elt, s0, s1, s5]
    obtain ⟨g1, e1, A2, q1, k1⟩ := A1.store (off := 1) (x := .int .i64 (c + 1)) rfl rfl rfl rfl rfl
    have w1 : IntKind.wrap .i64 (c + 1 + 1) = c + 1 + 1 := wrap_i64 (by omega) (by omega)
    simp [e1, w1, -faddrA, ia, faddrA_elt, s0, s1, s5]
    obtain ⟨g2, e2, A3, q2, k2⟩ := A2.store (off := 2) (x := .int .i64 (c + 1 + 1)) rfl rfl rfl rfl rfl
    have w2 : IntKind.wrap .i64 (c + 1 + 1 + 1) = c + 1 + 1 + 1 := wrap_i64 (by omega) (by omega)
    simp [e2, w2, -faddrA, ia, faddrA_elt, s0, s1, s5]
    obtain ⟨g3, e3, A4, q3, k3⟩ := A3.store (off := 3) (x := .int .i64 (c + 1 + 1 + 1)) rfl rfl rfl rfl rfl
    have w3 : IntKind.wrap .i64 (c + 1 + 1 + 1 + 1) = c + 1 + 1 + 1 + 1 := wrap_i64 (by omega) (by omega)
    simp [e3, w3, -faddrA, ia, faddrA_elt, s0, s1, s5]
    have T2 := (show Arr g3 _ 4 Pair.enc y _ i (Pair.enc (Pair.mk_ c (nth xs i))) F from A4).close
    rw [hsucc] at T2
    simp [hw, s0, s1, s5]
    refine hK (xs.length - (i + 1)) _ _ (by omega) ⟨i + 1, rfl, by omega, ⟨by simp [s0], ?_, by simp⟩, T2, q3.trans (q2.trans (q1.trans (q0.trans (hn)))), fun b hb => (k3 b hb).trans ((k2 b hb).trans ((k1 b hb).trans ((k0 b hb).trans (hk b hb))))⟩
    simp [hct2]
    omega
  · obtain rfl : i = xs.length := by omega
    rw [mkU_all] at T
    rw [List.take_length] at s1
    simp [hE, s1]
    exact hR h' T hn hk
def Font.ct (x : Font) : Nat := 8 + ctL Glyph.ct x.glyphs + ctL Pair.ct x.pairs
def Font.mk_ (n : Int) (x : Font) : Font := ⟨mtext (n), mkL Glyph.mk_ Glyph.ct (n + 1) x.glyphs, mkL Pair.mk_ Pair.ct (n + 1 + (ctL Glyph.ct x.glyphs : Nat)) x.pairs, ⟨n + 1 + (ctL Glyph.ct x.glyphs : Nat) + (ctL Pair.ct x.pairs : Nat), n + 1 + (ctL Glyph.ct x.glyphs : Nat) + (ctL Pair.ct x.pairs : Nat) + 1, n + 1 + (ctL Glyph.ct x.glyphs : Nat) + (ctL Pair.ct x.pairs : Nat) + 1 + 1, n + 1 + (ctL Glyph.ct x.glyphs : Nat) + (ctL Pair.ct x.pairs : Nat) + 1 + 1 + 1, n + 1 + (ctL Glyph.ct x.glyphs : Nat) + (ctL Pair.ct x.pairs : Nat) + 1 + 1 + 1 + 1⟩, n + 1 + (ctL Glyph.ct x.glyphs : Nat) + (ctL Pair.ct x.pairs : Nat) + 1 + 1 + 1 + 1 + 1, n + 1 + (ctL Glyph.ct x.glyphs : Nat) + (ctL Pair.ct x.pairs : Nat) + 1 + 1 + 1 + 1 + 1 + 1⟩
def Piece.ct (x : Piece) : Nat := 2
def Piece.mk_ (n : Int) (x : Piece) : Piece := ⟨n, n + 1⟩
theorem Piece.flat : Flat Piece.enc := fun _ _ _ => TwL.flat _ rfl
theorem toGlyphS_new (d : Nat) (xs : List Glyph) (hW : xs.length ≤ 1048576) (h : AH) (c : Option Nat) (R : AV → AH → Prop) (hR : ∀ h' y F, New h h' (d + 2) (.fs none (xs.map Glyph.enc)) y F → R y h') : CA 23 [.fs c (xs.map Glyph.enc)] h R :=
  (ca_iff (af := ac23) rfl).2 (tplToR_ok (es := 4) (bytes := 32) (zero := [(.int .i64 0), (.int .i64 0), (.int .i64 0), (.int .i64 0)]) (g := true) (f := 36) Glyph.ok.toEncOk (by omega) (.inl rfl) rfl rfl hW (by omega) (d + 1) h c (fun i hi h1 R hR => (toGlyph_iff (nth xs i) h1 R).2 (hR _ _ [] (flatNewL _ _ (Glyph.flat _ _ _)))) R hR)
theorem toPairS_new (d : Nat) (xs : List Pair) (hW : xs.length ≤ 1048576) (h : AH) (c : Option Nat) (R : AV → AH → Prop) (hR : ∀ h' y F, New h h' (d + 2) (.fs none (xs.map Pair.enc)) y F → R y h') : CA 24 [.fs c (xs.map Pair.enc)] h R :=
  (ca_iff (af := ac24) rfl).2 (tplToR_ok (es := 4) (bytes := 32) (zero := [(.int .i64 0), (.int .i64 0), (.int .i64 0), (.int .i64 0)]) (g := true) (f := 37) Pair.ok.toEncOk (by omega) (.inl rfl) rfl rfl hW (by omega) (d + 1) h c (fun i hi h1 R hR => (toPair_iff (nth xs i) h1 R).2 (hR _ _ [] (flatNewL _ _ (Pair.flat _ _ _)))) R hR)
set_option maxRecDepth 100000 in
theorem toFont_new (d : Nat) (a_name : ByteArray) (a_glyphs : List Glyph) (a_pairs : List Pair) (a_space_size : Int) (a_space_plus : Int) (a_space_plusOrder : Int) (a_space_minus : Int) (a_space_minusOrder : Int) (a_quad : Int) (a_rise : Int) (hW : Font.W ⟨a_name, a_glyphs, a_pairs, ⟨a_space_size, a_space_plus, a_space_plusOrder, a_space_minus, a_space_minusOrder⟩, a_quad, a_rise⟩ ≤ 1048576) (h : AH) (R : AV → AH → Prop) (hR : ∀ h' y_a_glyphs y_a_pairs F, NewL h h' (d + 2) [.str a_name, .fs none (a_glyphs.map Glyph.enc), .fs none (a_pairs.map Pair.enc), .int .i64 a_space_size, .int .i64 a_space_plus, .int .i64 a_space_plusOrder, .int .i64 a_space_minus, .int .i64 a_space_minusOrder, .int .i64 a_quad, .int .i64 a_rise] [.str a_name, y_a_glyphs, y_a_pairs, .int .i64 a_space_size, .int .i64 a_space_plus, .int .i64 a_space_plusOrder, .int .i64 a_space_minus, .int .i64 a_space_minusOrder, .int .i64 a_quad, .int .i64 a_rise] F → R (.agg [.str a_name, y_a_glyphs, y_a_pairs, .int .i64 a_space_size, .int .i64 a_space_plus, .int .i64 a_space_plusOrder, .int .i64 a_space_minus, .int .i64 a_space_minusOrder, .int .i64 a_quad, .int .i64 a_rise]) h') : CA 7 [.agg [.str a_name, .fs none (a_glyphs.map Glyph.enc), .fs none (a_pairs.map Pair.enc), .int .i64 a_space_size, .int .i64 a_space_plus, .int .i64 a_space_plusOrder, .int .i64 a_space_minus, .int .i64 a_space_minusOrder, .int .i64 a_quad, .int .i64 a_rise]] h R := by
  refine (ca_iff (af := ac7) rfl).2 ?_
  simp only [Font.W] at hW
  (iterate 4 ((try simp [ac7, toGlue_iff']); (try simp (disch := omega) [ac7, toGlue_iff'])))
  refine toGlyphS_new (d + 0) a_glyphs (by omega) _ _ _ fun g0 z0 F0 N0 => ?_
  have o0 := N0.one1
  (iterate 4 ((try simp [toGlue_iff', -AV.one, -AV.cells, cells_agg, cells_one, cells_int, cells_str, cells_bool, cells_fs, one_int, one_str, one_bool, one_nils, one_fs, one_sl, o0]); (try simp (disch := omega) [toGlue_iff', -AV.one, -AV.cells, cells_agg, cells_one, cells_int, cells_str, cells_bool, cells_fs, one_int, one_str, one_bool, one_nils, one_fs, one_sl, o0])))
  refine toPairS_new (d + 0) a_pairs (by omega) _ _ _ fun g1 z1 F1 N1 => ?_
  have o1 := N1.one1
  (iterate 4 ((try simp [toGlue_iff', -AV.one, -AV.cells, cells_agg, cells_one, cells_int, cells_str, cells_bool, cells_fs, one_int, one_str, one_bool, one_nils, one_fs, one_sl, o0, o1]); (try simp (disch := omega) [toGlue_iff', -AV.one, -AV.cells, cells_agg, cells_one, cells_int, cells_str, cells_bool, cells_fs, one_int, one_str, one_bool, one_nils, one_fs, one_sl, o0, o1])))
  exact hR _ z0 z1 _ (NewL.append (flatNewL _ _ (TwL.flat _ rfl) : NewL _ _ (d + 2) [.str a_name] [.str a_name] []) (NewL.append N0.one (NewL.append N1.one (flatNewL _ _ (TwL.flat _ rfl) : NewL _ _ (d + 2) [.int .i64 a_space_size, .int .i64 a_space_plus, .int .i64 a_space_plusOrder, .int .i64 a_space_minus, .int .i64 a_space_minusOrder, .int .i64 a_quad, .int .i64 a_rise] [.int .i64 a_space_size, .int .i64 a_space_plus, .int .i64 a_space_plusOrder, .int .i64 a_space_minus, .int .i64 a_space_minusOrder, .int .i64 a_quad, .int .i64 a_rise] []))))
theorem toFont_iff' (a_name : ByteArray) (a_glyphs : List Glyph) (a_pairs : List Pair) (a_space_size : Int) (a_space_plus : Int) (a_space_plusOrder : Int) (a_space_minus : Int) (a_space_minusOrder : Int) (a_quad : Int) (a_rise : Int) (hW : Font.W ⟨a_name, a_glyphs, a_pairs, ⟨a_space_size, a_space_plus, a_space_plusOrder, a_space_minus, a_space_minusOrder⟩, a_quad, a_rise⟩ ≤ 1048576) (h : AH) (R : AV → AH → Prop) : acallM CA .frz 7 [.agg [.str a_name, .fs none (a_glyphs.map Glyph.enc), .fs none (a_pairs.map Pair.enc), .int .i64 a_space_size, .int .i64 a_space_plus, .int .i64 a_space_plusOrder, .int .i64 a_space_minus, .int .i64 a_space_minusOrder, .int .i64 a_quad, .int .i64 a_rise]] h R ↔ R (.agg [.str a_name, .fs none (a_glyphs.map Glyph.enc), .fs none (a_pairs.map Pair.enc), .int .i64 a_space_size, .int .i64 a_space_plus, .int .i64 a_space_plusOrder, .int .i64 a_space_minus, .int .i64 a_space_minusOrder, .int .i64 a_quad, .int .i64 a_rise]) h :=
  own_frz (d := 0 + 2 + 1) (by decide) fun R hR => toFont_new 0 a_name a_glyphs a_pairs a_space_size a_space_plus a_space_plusOrder a_space_minus a_space_minusOrder a_quad a_rise hW h R fun h' y_a_glyphs y_a_pairs F N => hR h' _ F N.agg
set_option maxHeartbeats 4000000 in
set_option maxRecDepth 100000 in
theorem markByteS_ok (d : Nat) {h : AH} {y : AV} {F : List Nat} {xs : List Int} (H : Tw h (d + 2) (.fs none (xs.map (encI .u8))) y F) (nd : F.Nodup) (hW : xs.length ≤ 67108864) (n : Int) (h0 : 0 ≤ n) (h1 : n + (ctL (fun _ => 1) xs : Nat) ≤ 1152921504606846976) (R : AV → AH → Prop) (hR : ∀ h', Tw h' (d + 2) (.fs none ((mkL (fun n _ => IntKind.wrap .u8 n) (fun _ => 1) n xs).map (encI .u8))) y F → h'.next = h.next → (∀ b, b ∉ F → h'.get b = h.get b) → R (.int .i64 (n + (ctL (fun _ => 1) xs : Nat))) h') : CA 17 [y, .int .i64 n] h R := by
  refine (ca_iff (af := ac17) rfl).2 ?_
  simp [ac17]
  refine awp_loop2 caM (fun m s h' => ∃ i : Nat, m = xs.length - i ∧ i ≤ xs.length ∧ (s 0 = y ∧ s 1 = .int .i64 (n + (ctL (fun _ => 1) (xs.take i) : Nat)) ∧ s 5 = .int .i64 i) ∧ Tw h' (d + 2) (.fs none ((mkU (fun n _ => IntKind.wrap .u8 n) (fun _ => 1) n xs i).map (encI .u8))) y F ∧ h'.next = h.next ∧ (∀ b, b ∉ F → h'.get b = h.get b)) ?_ (n := xs.length) ⟨0, by simp, by simp, by simp [ctL], by rw [mkU_zero]; exact H, rfl, fun _ _ => rfl⟩
  rintro m s h' ⟨i, rfl, hi, ⟨s0, s1, s5⟩, T, hn, hk⟩ K hK hE hQ
  have hlen := mkU_len (fun n _ => IntKind.wrap .u8 n) (fun _ => 1) n xs i
  have hl := Tw.lenA T
  simp [s0, s1, s5, hl, hlen]
  by_cases hlt : i < xs.length
  · have A0 := Arr.open_ (encI_ok .u8).toEncOk (by omega) T nd (i := i) (by omega)
    rw [mkU_nth (fun n _ => IntKind.wrap .u8 n) (fun _ => 1) n hlt] at A0
    have ia : ∀ h2, iaddrA 1 y (.int .i64 (i : Int)) h2 = some (elt 1 y i 0, h2) := fun h2 => by have := Tw.iaddrA (encI_ok .u8).toEncOk (by omega) T h2 .i64 (i : Int) (by omega) (by omega); simpa using this
    have hct := ctL_le (fun _ => 1) hlt
    have hct2 := ctL_take (fun _ => 1) hlt
    have hsucc := mkU_succ (fun n _ => IntKind.wrap .u8 n) (fun _ => 1) n hlt
    generalize hc : n + (ctL (fun _ => 1) (xs.take i) : Nat) = c at *
    have hw : IntKind.wrap .i64 ((i : Int) + 1) = (i : Int) + 1 := wrap_i64 (by omega) (by omega)
    simp [-faddrA, hlt, s0, s1, s5, ia, faddrA_elt]
    obtain ⟨g0, e0, A1, q0, k0⟩ := A0.store (off := 0) (x := .int .u8 (IntKind.wrap .u8 (c))) rfl rfl rfl rfl rfl
    have w0 : IntKind.wrap .i64 (c + 1) = c + 1 := wrap_i64 (by omega) (by omega)
    simp [e0, w0, -faddrA, ia, faddrA_elt, s0, s1, s5]
    have T2 := (show Arr g0 _ 1 (encI .u8) y _ i ((encI .u8) (IntKind.wrap .u8 c)) F from A1).close
    rw [hsucc] at T2
    simp [hw, s0, s1, s5]
    refine hK (xs.length - (i + 1)) _ _ (by omega) ⟨i + 1, rfl, by omega, ⟨by simp [s0], ?_, by simp⟩, T2, q0.trans (hn), fun b hb => (k0 b hb).trans (hk b hb)⟩
    simp [hct2]
    omega
  · obtain rfl : i = xs.length := by omega
    rw [mkU_all] at T
    rw [List.take_length] at s1
    simp [hE, s1]
    exact hR h' T hn hk
theorem toByteS_new (d : Nat) (xs : List Int) (hW : xs.length ≤ 1048576) (h : AH) (c : Option Nat) (R : AV → AH → Prop) (hR : ∀ h' y F, New h h' (d + 2) (.fs none (xs.map (encI .u8))) y F → R y h') : CA 8 [.fs c (xs.map (encI .u8))] h R :=
  (ca_iff (af := ac8) rfl).2 (tplToIR_ok (bytes := 1) (z := (.int .u8 0)) (encI_ok .u8) (encI_flat .u8) rfl hW (by omega) d h c R hR)
set_option maxHeartbeats 4000000 in
set_option maxRecDepth 100000 in
theorem markPieceS_ok (d : Nat) {h : AH} {y : AV} {F : List Nat} {xs : List Piece} (H : Tw h (d + 2) (.fs none (xs.map Piece.enc)) y F) (nd : F.Nodup) (hW : xs.length ≤ 67108864) (n : Int) (h0 : 0 ≤ n) (h1 : n + (ctL Piece.ct xs : Nat) ≤ 1152921504606846976) (R : AV → AH → Prop) (hR : ∀ h', Tw h' (d + 2) (.fs none ((mkL Piece.mk_ Piece.ct n xs).map Piece.enc)) y F → h'.next = h.next → (∀ b, b ∉ F → h'.get b = h.get b) → R (.int .i64 (n + (ctL Piece.ct xs : Nat))) h') : CA 18 [y, .int .i64 n] h R := by
  refine (ca_iff (af := ac18) rfl).2 ?_
  simp [ac18]
  refine awp_loop2 caM (fun m s h' => ∃ i : Nat, m = xs.length - i ∧ i ≤ xs.length ∧ (s 0 = y ∧ s 1 = .int .i64 (n + (ctL Piece.ct (xs.take i) : Nat)) ∧ s 5 = .int .i64 i) ∧ Tw h' (d + 2) (.fs none ((mkU Piece.mk_ Piece.ct n xs i).map Piece.enc)) y F ∧ h'.next = h.next ∧ (∀ b, b ∉ F → h'.get b = h.get b)) ?_ (n := xs.length) ⟨0, by simp, by simp, by simp [ctL], by rw [mkU_zero]; exact H, rfl, fun _ _ => rfl⟩
  rintro m s h' ⟨i, rfl, hi, ⟨s0, s1, s5⟩, T, hn, hk⟩ K hK hE hQ
  have hlen := mkU_len Piece.mk_ Piece.ct n xs i
  have hl := Tw.lenA T
  simp [s0, s1, s5, hl, hlen]
  by_cases hlt : i < xs.length
  · have A0 := Arr.open_ Piece.ok.toEncOk (by omega) T nd (i := i) (by omega)
    rw [mkU_nth Piece.mk_ Piece.ct n hlt] at A0
    have ia : ∀ h2, iaddrA 2 y (.int .i64 (i : Int)) h2 = some (elt 2 y i 0, h2) := fun h2 => by have := Tw.iaddrA Piece.ok.toEncOk (by omega) T h2 .i64 (i : Int) (by omega) (by omega); simpa using this
    have hct := ctL_le Piece.ct hlt
    have hct2 := ctL_take Piece.ct hlt
    have hsucc := mkU_succ Piece.mk_ Piece.ct n hlt
    generalize hc : n + (ctL Piece.ct (xs.take i) : Nat) = c at *
    have hw : IntKind.wrap .i64 ((i : Int) + 1) = (i : Int) + 1 := wrap_i64 (by omega) (by omega)
    simp [-faddrA, hlt, s0, s1, s5, ia, faddrA_elt]
    simp only [Piece.ct] at hct hct2
    obtain ⟨g0, e0, A1, q0, k0⟩ := A0.store (off := 0) (x := .int .i64 (c)) rfl rfl rfl rfl rfl
    have w0 : IntKind.wrap .i64 (c + 1) = c + 1 := wrap_i64 (by omega) (by omega)
    simp [e0, w0, -faddrA, ia, faddrA_elt, s0, s1, s5]
    obtain ⟨g1, e1, A2, q1, k1⟩ := A1.store (off := 1) (x := .int .i64 (c + 1)) rfl rfl rfl rfl rfl
    have w1 : IntKind.wrap .i64 (c + 1 + 1) = c + 1 + 1 := wrap_i64 (by omega) (by omega)
    simp [e1, w1, -faddrA, ia, faddrA_elt, s0, s1, s5]
    have T2 := (show Arr g1 _ 2 Piece.enc y _ i (Piece.enc (Piece.mk_ c (nth xs i))) F from A2).close
    rw [hsucc] at T2
    simp [hw, s0, s1, s5]
    refine hK (xs.length - (i + 1)) _ _ (by omega) ⟨i + 1, rfl, by omega, ⟨by simp [s0], ?_, by simp⟩, T2, q1.trans (q0.trans (hn)), fun b hb => (k1 b hb).trans ((k0 b hb).trans (hk b hb))⟩
    simp [hct2]
    omega
  · obtain rfl : i = xs.length := by omega
    rw [mkU_all] at T
    rw [List.take_length] at s1
    simp [hE, s1]
    exact hR h' T hn hk
set_option maxRecDepth 100000 in
theorem heldPieceS_iff (xs : List Piece) (hW : xs.length ≤ 67108864) (n : Int) (h0 : 0 ≤ n) (h1 : n + (ctL Piece.ct xs : Nat) ≤ 1152921504606846976) (h : AH) (c0 : Option Nat) (R : AV → AH → Prop) : CA 19 [.fs c0 ((mkL Piece.mk_ Piece.ct n xs).map Piece.enc), .int .i64 n] h R ↔ R (.int .i64 (n + (ctL Piece.ct xs : Nat))) h := by
  refine ca_pure (af := ac19) rfl ?_
  have hlen := mkL_len Piece.mk_ Piece.ct n xs
  simp [ac19]
  refine awp_loop2 caM (fun m s h' => h' = h ∧ ∃ i : Nat, m = xs.length - i ∧ i ≤ xs.length ∧ (s 0 = .fs c0 ((mkL Piece.mk_ Piece.ct n xs).map Piece.enc) ∧ s 1 = .int .i64 (n + (ctL Piece.ct (xs.take i) : Nat)) ∧ s 5 = .int .i64 i)) ?_ (n := xs.length) ⟨rfl, 0, by simp, by simp, by simp [ctL]⟩
  rintro m s h' ⟨rfl, i, rfl, hi, s0, s1, s5⟩ K hK hE hQ
  simp [s0, s1, s5, Piece.ok.toEncOk.len, hlen]
  by_cases hlt : i < xs.length
  · have hnth := mkL_nth Piece.mk_ Piece.ct n hlt
    have a1 : ∀ kk, iaddrA 2 (.fs c0 ((mkL Piece.mk_ Piece.ct n xs).map Piece.enc)) (.int kk (i : Int)) h' = some (.fp (Piece.enc (nth (mkL Piece.mk_ Piece.ct n xs) i)) 0, h') := fun kk => by have := Piece.ok.toEncOk.iaddr (by omega) c0 (mkL Piece.mk_ Piece.ct n xs) kk (i : Int) h' (by omega) (by omega); simpa only [Int.toNat_natCast] using this
    rw [hnth] at a1
    have hct := ctL_le Piece.ct hlt
    have hct2 := ctL_take Piece.ct hlt
    generalize hc : n + (ctL Piece.ct (xs.take i) : Nat) = c at *
    have hw : IntKind.wrap .i64 ((i : Int) + 1) = (i : Int) + 1 := wrap_i64 (by omega) (by omega)
    simp only [Piece.ct] at hct hct2
    simp only [Piece.mk_] at a1
    simp [hlt, s0, s1, s5, a1]
    have w0 : IntKind.wrap .i64 (c + 1) = c + 1 := wrap_i64 (by omega) (by omega)
    simp [s0, s1, s5, a1, w0]
    have w1 : IntKind.wrap .i64 (c + 1 + 1) = c + 1 + 1 := wrap_i64 (by omega) (by omega)
    simp [s0, s1, s5, a1, w0, w1]
    simp [hw, s0, s1, s5, a1]
    refine hK (xs.length - (i + 1)) _ _ (by omega) ⟨rfl, i + 1, rfl, by omega, by simp [s0], ?_, by simp⟩
    simp [hct2]
    omega
  · obtain rfl : i = xs.length := by omega
    rw [List.take_length] at s1
    simp [hE, s1]
end Go.Proofs.Ytbajchkpehdolaa
