/- The law of Look. -/
import Derived.Test.YtojmemlbajnhhaaA14
namespace Go.Proofs.Ytojmemlbajnhhaa
open Go Go.Bm Go.Proofs
set_option linter.all false

set_option maxRecDepth 100000 in
/-- Marks of a meaning: its two rows. -/
theorem markMean_ok (d : Nat) (a b c e : Int) (t : ByteArray) (y : AV) (f : Int) (z : AV) {p q : List Token} {h : AH} {F G : List Nat} (H : Tw h (d + 2) (.fs none (p.map Token.enc)) y F) (K : Tw h (d + 2) (.fs none (q.map Token.enc)) z G)
    (nF : F.Nodup) (nG : G.Nodup) (dj : ∀ b, b ∈ F → b ∉ G) (hp : WS Token.W p ≤ 67108864) (hq : WS Token.W q ≤ 67108864) (n : Int) (h0 : 0 ≤ n) (h1 : n + (ctL Token.ct p : Nat) + (ctL Token.ct q : Nat) ≤ 1152921504606846976) (R : AV → AH → Prop)
    (hR : ∀ h', Tw h' (d + 2) (.fs none ((mkL Token.mk_ Token.ct n p).map Token.enc)) y F → Tw h' (d + 2) (.fs none ((mkL Token.mk_ Token.ct (n + (ctL Token.ct p : Nat)) q).map Token.enc)) z G → (∀ b, b ∉ F → b ∉ G → h'.get b = h.get b) → R (.int .i64 (n + (ctL Token.ct p : Nat) + (ctL Token.ct q : Nat))) h') :
    CA 20 [.agg [.int .i64 a, .int .i64 b, .int .i64 c, .int .i64 e, .str t, y, .int .i64 f, z], .int .i64 n] h R := by
  have o1 : y.one = true := Tw.one (d + 2) (x := .fs none (p.map Token.enc)) rfl H
  have o2 : z.one = true := Tw.one (d + 2) (x := .fs none (q.map Token.enc)) rfl K
  refine (ca_iff (af := ac20) rfl).2 ?_
  simp [-AV.one, -AV.cells, cells_agg, cells_int, cells_one, one_int, o1, o2, ac20]
  refine (ca_iff (af := ac53) rfl).2 ?_
  simp [-AV.one, -AV.cells, cells_agg, cells_int, cells_one, one_int, o1, o2, ac53]
  refine markTokenS_ok d H nF hp n h0 (by omega) _ fun h2 T1 n2 k2 => ?_
  simp [-AV.one, -AV.cells, cells_agg, cells_int, cells_one, one_int, o1, o2]
  refine markTokenS_ok d (K.frame _ fun b hb => k2 b fun hF => dj b hF hb) nG hq _ (by omega) (by omega) _ fun h3 T2 n3 k3 => ?_
  simp
  exact hR h3 (T1.frame _ fun b hb => k3 b (dj b hb)) T2 fun b hb hb2 => (k3 b hb2).trans (k2 b hb)
theorem heldMean_iff (a b c e : Int) (t : ByteArray) (f : Int) (p q : List Token) (hp : WS Token.W p ≤ 67108864) (hq : WS Token.W q ≤ 67108864) (n : Int) (h0 : 0 ≤ n) (h1 : n + (ctL Token.ct p : Nat) + (ctL Token.ct q : Nat) ≤ 1152921504606846976) (h : AH) (c1 c2 : Option Nat) (R : AV → AH → Prop) :
    CA 21 [.agg [.int .i64 a, .int .i64 b, .int .i64 c, .int .i64 e, .str t, .fs c1 ((mkL Token.mk_ Token.ct n p).map Token.enc), .int .i64 f, .fs c2 ((mkL Token.mk_ Token.ct (n + (ctL Token.ct p : Nat)) q).map Token.enc)], .int .i64 n] h R ↔
    R (.int .i64 (n + (ctL Token.ct p : Nat) + (ctL Token.ct q : Nat))) h := by
  have hn : ¬ n + (ctL Token.ct p : Nat) < 0 := by omega
  have hn2 : ¬ n + (ctL Token.ct p : Nat) + (ctL Token.ct q : Nat) < 0 := by omega
  have h54 : ∀ (h : AH) (R : AV → AH → Prop), CA 54 [.agg [.fs c1 ((mkL Token.mk_ Token.ct n p).map Token.enc), .int .i64 f, .fs c2 ((mkL Token.mk_ Token.ct (n + (ctL Token.ct p : Nat)) q).map Token.enc)], .int .i64 n] h R ↔ R (.int .i64 (n + (ctL Token.ct p : Nat) + (ctL Token.ct q : Nat))) h := by
    intro h R
    refine ca_pure (af := ac54) rfl ?_
    simp [ac54, heldTokenS_iff p hp n h0 (by omega), heldTokenS_iff q hq (n + (ctL Token.ct p : Nat)) (by omega) (by omega), hn, hn2]
  refine ca_pure (af := ac21) rfl ?_
  simp [ac21, h54, hn2]
set_option maxRecDepth 100000 in
theorem lawLook_ok (x : Env) (hx : x.Ok) (t : ByteArray) (ht : t.size ≤ maxLen) (h : AH) : CA 4 [.agg x.enc, .str t] h (fun v _ => v = .bool true) := by
  obtain ⟨ls⟩ := x
  refine (ca_iff (af := ac4) rfl).2 ?_
  by_cases hts : (1048576 : Int) < t.size
  · simp [ac4, hts]
  simp [ac4, szEnv_iff' _ hx, szr_neg, hts]
  by_cases hW : (1048576 : Int) < Env.W ⟨ls⟩
  · simp [hW]
  have hw : Env.W ⟨ls⟩ ≤ 1048576 := by omega
  have hw1 : WS Level.W ls ≤ 1048576 := hw
  have c1 := ct_levels ls
  have lk := specLook_iff ls hw t
  simp only [Mean.enc] at lk
  have ref : ∀ (h : AH) R, acallM CA .frz 17 [.agg [.fs none (ls.map Level.enc)], .str t] h R ↔ R (.agg (lookL ls t).enc) h := fun h R => own_frz (d := 3) (by decide) fun R hR => implLook_ok 0 ls hw t h R fun h' y z F N => hR h' _ F N.agg
  simp only [Mean.enc] at ref
  have mw : (lookL ls t).W ≤ 1048576 := by
    unfold lookL
    split
    · rename_i he
      have hl : 1 ≤ ls.length := by simp [envB] at he; omega
      exact (lookM_le _ (binds_len hw1 (show ls.length - 1 < ls.length by omega)).2 t).2.2
    · decide
  have tw : WS Token.W (lookL ls t).macro_.pattern ≤ 1048576 ∧ WS Token.W (lookL ls t).macro_.body ≤ 1048576 := by simp only [Mean.W, Macro.W] at mw; omega
  have c2 := ct_toks (lookL ls t).macro_.pattern
  have c3 := ct_toks (lookL ls t).macro_.body
  simp [hW, toEnv_iff' _ hw, lk]
  refine toEnv_new 0 ls hw _ _ fun h1 y1 F1 N1 => ?_
  have T1 := N1.tw
  obtain ⟨y1', _, F1', _, e1, e2, T1, e3, e4⟩ := T1
  cases e3; cases e1; subst e4; rw [List.append_nil] at e2; subst e2
  have o1 : y1.one = true := Tw.one 4 (x := .fs none (ls.map Level.enc)) rfl T1
  have b1 := frzEnv (d := 0) (by decide) T1
  simp [-AV.one, -AV.cells, cells_agg, cells_one, cells_fs, cells_int, cells_str, one_int, one_str, one_nils, one_fs, o1]
  have ha : mapO (frzV 0 h1 DF) [.agg [y1], .str t] = some [.agg [.fs none (ls.map Level.enc)], .str t] := by simp only [mapO, b1]; rfl
  refine own_own (d := 3) (x := .agg (lookL ls t).enc) ha (fun h0 R hR => implLook_ok 0 ls hw t h0 R fun h' y z F N => hR h' _ F N.agg) fun h2 yy F2 N2 => ?_
  generalize hm : lookL ls t = mn at *
  obtain ⟨mk, mnm, ⟨mc, mch, mtn⟩, ⟨mp, ms, mb⟩⟩ := mn
  simp only [Mean.enc] at *
  obtain ⟨le2, ⟨_, rfl, _, _, _, _, rfl, rfl, ⟨rfl, rfl⟩, _, _, _, _, rfl, rfl, ⟨rfl, rfl⟩, _, _, _, _, rfl, rfl, ⟨rfl, rfl⟩, _, _, _, _, rfl, rfl, ⟨rfl, rfl⟩, _, _, _, _, rfl, rfl, ⟨rfl, rfl⟩, y, _, G1, _, rfl, rfl, T2, _, _, _, _, rfl, rfl, ⟨rfl, rfl⟩, z, _, G2, _, rfl, rfl, T3, rfl, rfl⟩, nd2, new2⟩ := N2
  simp only [List.append_nil, List.nil_append] at nd2 new2
  have o2 : y.one = true := Tw.one 2 (x := .fs none (mp.map Token.enc)) rfl T2
  have o3 : z.one = true := Tw.one 2 (x := .fs none (mb.map Token.enc)) rfl T3
  have T1b := T1.frame _ (h' := h2) fun k hk => le2.2 k (T1.lt _ k hk)
  have lt1 := T1.lt
  have b3 := frzEnv (d := 0) (by decide) T1b
  have fm : ∀ {h' : AH} {p q : List Token} (v v' : AV), frzV 0 h' DF v = some v' → Tw h' 2 (.fs none (p.map Token.enc)) y G1 → Tw h' 2 (.fs none (q.map Token.enc)) z G2 → mapO (frzV 0 h' DF) [.agg [.int .i64 mk, .int .i64 mnm, .int .i64 mc, .int .i64 mch, .str mtn, y, .int .i64 ms, z], v] = some [.agg [.int .i64 mk, .int .i64 mnm, .int .i64 mc, .int .i64 mch, .str mtn, .fs none (p.map Token.enc), .int .i64 ms, .fs none (q.map Token.enc)], v'] := by
    intro h' p q v v' ev t1 t2
    have e1 := t1.frz 2 (lo := 0) (fun b _ => Nat.zero_le b) 19 (by omega)
    have e2 := t2.frz 2 (lo := 0) (fun b _ => Nat.zero_le b) 19 (by omega)
    simp [e1, e2, ev]
  have eqm : ∀ (h' : AH) R, CA 18 [.agg [.int .i64 mk, .int .i64 mnm, .int .i64 mc, .int .i64 mch, .str mtn, .fs none (mp.map Token.enc), .int .i64 ms, .fs none (mb.map Token.enc)], .agg [.int .i64 mk, .int .i64 mnm, .int .i64 mc, .int .i64 mch, .str mtn, .fs none (mp.map Token.enc), .int .i64 ms, .fs none (mb.map Token.enc)]] h' R ↔ R (.bool true) h' := fun h' R => by
    have := eqMean_iff ⟨mk, mnm, ⟨mc, mch, mtn⟩, ⟨mp, ms, mb⟩⟩ ⟨mk, mnm, ⟨mc, mch, mtn⟩, ⟨mp, ms, mb⟩⟩ (by omega) h' R
    simpa using this
  have fz : ∀ h' : AH, frzV 0 h' DF (.agg [.int .i64 mk, .int .i64 mnm, .int .i64 mc, .int .i64 mch, .str mtn, .fs none (mp.map Token.enc), .int .i64 ms, .fs none (mb.map Token.enc)]) = some (.agg [.int .i64 mk, .int .i64 mnm, .int .i64 mc, .int .i64 mch, .str mtn, .fs none (mp.map Token.enc), .int .i64 ms, .fs none (mb.map Token.enc)]) := fun h' => by simp
  have q1 : ∀ R, acallM CA .bor 18 [.agg [.int .i64 mk, .int .i64 mnm, .int .i64 mc, .int .i64 mch, .str mtn, y, .int .i64 ms, z], .agg [.int .i64 mk, .int .i64 mnm, .int .i64 mc, .int .i64 mch, .str mtn, .fs none (mp.map Token.enc), .int .i64 ms, .fs none (mb.map Token.enc)]] h2 R ↔ R (.bool true) h2 := fun R => bor_call (fm _ _ (fz h2) T2 T3) rfl eqm
  have q2 : ∀ R, acallM CA .bor 15 [.agg [y1], .agg [.fs none (ls.map Level.enc)]] h2 R ↔ R (.bool (decide ((⟨ls⟩ : Env) = ⟨ls⟩))) h2 := fun R => bor_call (by simp only [mapO, b3]; simp) rfl (eqEnv_iff' ls ls (by show WS Level.W ls ≤ _; omega))
  (iterate 4 ((try simp [-AV.one, -AV.cells, cells_agg, cells_one, cells_fs, cells_int, cells_str, one_int, one_str, one_nils, one_fs, o1, o2, o3, q1, q2, toEnv_iff' _ hw]); (try simp (disch := omega) [-AV.one, -AV.cells, cells_agg, cells_one, cells_fs, cells_int, cells_str, one_int, one_str, one_nils, one_fs, o1, o2, o3, q1, q2, toEnv_iff' _ hw])))
  refine markEnv_ok 0 T1b N1.nd (by omega) 1 (by omega) (by omega) _ fun h3 T1c n3 k3 => ?_
  have hG1 : ∀ k ∈ G1, k ∉ F1 := fun k hk hk1 => by have := new2 k (by simp [hk]); have := lt1 k hk1; omega
  have hG2 : ∀ k ∈ G2, k ∉ F1 := fun k hk hk1 => by have := new2 k (by simp [hk]); have := lt1 k hk1; omega
  have T2b := T2.frame _ (h' := h3) fun k hk => k3 k (hG1 k hk)
  have T3b := T3.frame _ (h' := h3) fun k hk => k3 k (hG2 k hk)
  have q3 : ∀ R, acallM CA .bor 18 [.agg [.int .i64 mk, .int .i64 mnm, .int .i64 mc, .int .i64 mch, .str mtn, y, .int .i64 ms, z], .agg [.int .i64 mk, .int .i64 mnm, .int .i64 mc, .int .i64 mch, .str mtn, .fs none (mp.map Token.enc), .int .i64 ms, .fs none (mb.map Token.enc)]] h3 R ↔ R (.bool true) h3 := fun R => bor_call (fm _ _ (fz h3) T2b T3b) rfl eqm
  have hn1 : ¬ (1 : Int) + (ctL Level.ct ls : Nat) < 0 := by omega
  simp [-AV.one, -AV.cells, cells_agg, cells_one, cells_fs, cells_int, cells_str, one_int, one_str, one_nils, one_fs, o1, o2, o3, q3, hn1]
  have nd3 := List.nodup_append.1 nd2
  refine markMean_ok 0 _ _ _ _ _ _ _ _ T2b T3b nd3.1 nd3.2.1 (fun b hb hb2 => nd3.2.2 b hb b hb2 rfl) (by omega) (by omega) 1 (by omega) (by omega) _ fun h4 T2c T3c k4 => ?_
  have q4 : ∀ R, acallM CA .bor 21 [.agg [.int .i64 mk, .int .i64 mnm, .int .i64 mc, .int .i64 mch, .str mtn, y, .int .i64 ms, z], .int .i64 1] h4 R ↔ R (.int .i64 (1 + (ctL Token.ct mp : Nat) + (ctL Token.ct mb : Nat))) h4 := fun R => bor_call (fm _ (.int .i64 1) (by simp) T2c T3c) rfl (fun h' R => heldMean_iff mk mnm mc mch mtn ms mp mb (by omega) (by omega) 1 (by omega) (by omega) h' none none R)
  have hn2 : ¬ (1 : Int) + (ctL Token.ct mp : Nat) + (ctL Token.ct mb : Nat) < 0 := by omega
  (iterate 4 ((try simp [-AV.one, -AV.cells, cells_agg, cells_one, cells_fs, cells_int, cells_str, one_int, one_str, one_nils, one_fs, o1, o2, o3, q4, hn1, hn2, toEnv_iff' _ hw, ref, eqm]); (try simp (disch := omega) [-AV.one, -AV.cells, cells_agg, cells_one, cells_fs, cells_int, cells_str, one_int, one_str, one_nils, one_fs, o1, o2, o3, q4, hn1, hn2, toEnv_iff' _ hw, ref, eqm])))
end Go.Proofs.Ytojmemlbajnhhaa
