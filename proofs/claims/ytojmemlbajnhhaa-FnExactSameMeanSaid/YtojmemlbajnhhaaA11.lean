/- The law of CloseGroup. -/
import Derived.Test.YtojmemlbajnhhaaA10
namespace Go.Proofs.Ytojmemlbajnhhaa
open Go Go.Bm Go.Proofs
set_option linter.all false

theorem ct_toks (xs : List Token) : ctL Token.ct xs ≤ 64 * WS Token.W xs := ctL_leW 64 (fun x => by simp only [Token.ct]; omega) xs
theorem ct_binds (xs : List Bind) : ctL Bind.ct xs ≤ 64 * WS Bind.W xs := ctL_leW 64 (fun x => by
  have h1 := ct_toks x.mean.macro_.pattern
  have h2 := ct_toks x.mean.macro_.body
  simp only [Bind.ct, Bind.W, Mean.W, Macro.W]; omega) xs
theorem ct_tokss (xs : List (List Token)) : ctL (ctL Token.ct) xs ≤ 64 * WS (WS Token.W) xs := ctL_leW 64 (fun x => by have := ct_toks x; omega) xs
theorem ct_levels (xs : List Level) : ctL Level.ct xs ≤ 64 * WS Level.W xs := ctL_leW 64 (fun x => by
  have h1 := ct_binds x.binds
  have h2 := ct_tokss x.toks
  have h3 := ctL_one 1 x.cats
  have h4 := ctL_one 1 x.counts
  have h5 := ctL_one 1 x.lens
  have h6 : ctL Glue.ct x.glues = 5 * x.glues.length := ctL_one 5 x.glues
  simp only [Level.ct, Level.W]; omega) xs
theorem closeL_W (ls : List Level) (hW : WS Level.W ls ≤ 1048576) : WS Level.W (closeL ls) ≤ 1048576 := by
  unfold closeL
  split
  · split
    · exact hW
    · have := WS_append Level.W (ls.take (ls.length - 1)) (ls.drop (ls.length - 1))
      rw [List.take_append_drop] at this
      omega
  · simp [WS]
theorem openL_W (ls : List Level) (hW : WS Level.W ls ≤ 1048576) : WS Level.W (openL ls) ≤ 2097153 := by
  unfold openL
  split
  · split
    · omega
    · rename_i he _
      have hl : ls.length - 1 < ls.length := by simp [envB] at he; omega
      have := WS_nth Level.W hl
      rw [WS_append, WS_cons, WS_nil]
      omega
  · simp [WS]
/-- An environment of one's own, frozen. -/
theorem frzEnv {d : Nat} {h' : AH} {ls : List Level} {y : AV} {F : List Nat} (hd : d + 5 ≤ DF) (T : Tw h' (d + 4) (.fs none (ls.map Level.enc)) y F) : frzV 0 h' DF (.agg [y]) = some (.agg [.fs none (ls.map Level.enc)]) :=
  Tw.frz (d + 5) (x := .agg [.fs none (ls.map Level.enc)]) (fun b _ => Nat.zero_le b) ⟨[y], rfl, y, [], F, [], rfl, rfl, T, rfl, rfl⟩ DF hd
set_option maxRecDepth 100000 in
theorem lawCloseGroup_ok (x : Env) (hx : x.Ok) (h : AH) : CA 5 [.agg x.enc] h (fun v _ => v = .bool true) := by
  obtain ⟨ls⟩ := x
  refine (ca_iff (af := ac5) rfl).2 ?_
  simp [ac5, szEnv_iff' _ hx, szr_neg]
  by_cases hW : (1048576 : Int) < Env.W ⟨ls⟩
  · simp [hW]
  have hw : Env.W ⟨ls⟩ ≤ 1048576 := by omega
  have hw1 : WS Level.W ls ≤ 1048576 := hw
  have hw2 := closeL_W ls hw1
  have c1 := ct_levels ls
  have c2 := ct_levels (closeL ls)
  have ref : ∀ (h : AH) R, acallM CA .frz 23 [.agg [.fs none (ls.map Level.enc)]] h R ↔ R (.tup [.agg [.fs none ((closeL ls).map Level.enc)], .bool (closeB ls)]) h := fun h R => own_frzT (by decide : 0 + 5 ≤ 19) (closeGroup_ok 0 ls hw h)
  simp [hW, toEnv_iff' _ hw, l3CloseGroup_iff _ hw]
  refine toEnv_new 0 ls hw _ _ fun h1 y1 F1 N1 => ?_
  have T1 := N1.tw
  obtain ⟨y1', _, F1', _, e1, e2, T1, e3, e4⟩ := T1
  cases e3; cases e1; subst e4; rw [List.append_nil] at e2; subst e2
  have o1 : y1.one = true := Tw.one 4 (x := .fs none (ls.map Level.enc)) rfl T1
  have b1 := frzEnv (d := 0) (by decide) T1
  simp [-AV.one, -AV.cells, cells_agg, cells_one, one_nils, one_fs, one_bool, cells_fs, cells_bool, o1]
  have ha : mapO (frzV 0 h1 DF) [.agg [y1]] = some [.agg [.fs none (ls.map Level.enc)]] := by simp only [mapO, b1]
  refine own_ownT (d := 5) ha (closeGroup_ok 0 ls hw) fun h2 ys F2 N2 => ?_
  obtain ⟨le2, ⟨w, _, G2, _, rfl, rfl, ⟨_, rfl, y2, _, G3, _, rfl, rfl, T2, rfl, rfl⟩, b, _, _, _, rfl, rfl, ⟨rfl, rfl⟩, rfl, rfl⟩, nd2, new2⟩ := N2
  simp only [List.append_nil] at nd2 new2
  have o2 : y2.one = true := Tw.one 4 (x := .fs none ((closeL ls).map Level.enc)) rfl T2
  have T1b := T1.frame _ (h' := h2) fun k hk => le2.2 k (T1.lt _ k hk)
  have lt1 := T1.lt
  have b2 := frzEnv (d := 0) (by decide) T2
  have b3 := frzEnv (d := 0) (by decide) T1b
  have q1 : ∀ R, acallM CA .bor 15 [.agg [y2], .agg [.fs none ((closeL ls).map Level.enc)]] h2 R ↔ R (.bool (decide ((⟨closeL ls⟩ : Env) = ⟨closeL ls⟩))) h2 := fun R => bor_call (by simp only [mapO, b2]; simp) rfl (eqEnv_iff' (closeL ls) (closeL ls) (by show WS Level.W (closeL ls) ≤ _; omega))
  have q2 : ∀ R, acallM CA .bor 15 [.agg [y1], .agg [.fs none (ls.map Level.enc)]] h2 R ↔ R (.bool (decide ((⟨ls⟩ : Env) = ⟨ls⟩))) h2 := fun R => bor_call (by simp only [mapO, b3]; simp) rfl (eqEnv_iff' ls ls (by show WS Level.W ls ≤ _; omega))
  (iterate 4 ((try simp [-AV.one, -AV.cells, cells_agg, cells_one, one_nils, one_fs, one_bool, cells_fs, cells_bool, o1, o2, q1, q2, toEnv_iff' _ hw]); (try simp (disch := omega) [-AV.one, -AV.cells, cells_agg, cells_one, one_nils, one_fs, one_bool, cells_fs, cells_bool, o1, o2, q1, q2, toEnv_iff' _ hw])))
  refine markEnv_ok 0 T1b N1.nd (by omega) 1 (by omega) (by omega) _ fun h3 T1c n3 k3 => ?_
  have hG : ∀ k ∈ G3, k ∉ F1 := fun k hk hk1 => by have := new2 k hk; have := lt1 k hk1; omega
  have T2b := T2.frame _ (h' := h3) fun k hk => k3 k (hG k hk)
  have b4 := frzEnv (d := 0) (by decide) T2b
  have q3 : ∀ R, acallM CA .bor 15 [.agg [y2], .agg [.fs none ((closeL ls).map Level.enc)]] h3 R ↔ R (.bool (decide ((⟨closeL ls⟩ : Env) = ⟨closeL ls⟩))) h3 := fun R => bor_call (by simp only [mapO, b4]; simp) rfl (eqEnv_iff' (closeL ls) (closeL ls) (by show WS Level.W (closeL ls) ≤ _; omega))
  have hn1 : ¬ (1 : Int) + (ctL Level.ct ls : Nat) < 0 := by omega
  simp [-AV.one, -AV.cells, cells_agg, cells_one, one_nils, one_fs, one_bool, cells_fs, cells_bool, o1, o2, q3, hn1]
  refine markEnv_ok 0 T2b nd2 (by omega) 1 (by omega) (by omega) _ fun h4 T2c n4 k4 => ?_
  have b5 := frzEnv (d := 0) (by decide) T2c
  have q4 : ∀ R, acallM CA .bor 24 [.agg [y2], .int .i64 1] h4 R ↔ R (.int .i64 (1 + (ctL Level.ct (closeL ls) : Nat))) h4 := fun R => bor_call (by simp only [mapO, b5]; simp) rfl (fun h' R => heldEnv_iff (closeL ls) (by omega) 1 (by omega) (by omega) h' none R)
  have hn2 : ¬ (1 : Int) + (ctL Level.ct (closeL ls) : Nat) < 0 := by omega
  (iterate 4 ((try simp [-AV.one, -AV.cells, cells_agg, cells_one, one_nils, one_fs, one_bool, cells_fs, cells_bool, o1, o2, q4, hn1, hn2, toEnv_iff' _ hw, ref, eqEnv_iff' (closeL ls) (closeL ls) (by show WS Level.W (closeL ls) ≤ _; omega)]); (try simp (disch := omega) [-AV.one, -AV.cells, cells_agg, cells_one, one_nils, one_fs, one_bool, cells_fs, cells_bool, o1, o2, q4, hn1, hn2, toEnv_iff' _ hw, ref, eqEnv_iff' (closeL ls) (closeL ls) (by show WS Level.W (closeL ls) ≤ _; omega)])))
end Go.Proofs.Ytojmemlbajnhhaa
