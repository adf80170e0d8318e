/- Contracts: marks of an environment; clones; copies of a meaning. -/
import Derived.Test.YtojmemlbajnhhaaA4
import Derived.Test.YtojmemlbajnhhaaBmS
namespace Go.Proofs.Ytojmemlbajnhhaa
open Go Go.Bm Go.Proofs
set_option linter.all false

theorem markEnv_ok (d : Nat) {h : AH} {y : AV} {F : List Nat} {xs : List Level} (H : Tw h (d + 4) (.fs none (xs.map Level.enc)) y F) (nd : F.Nodup) (hW : WS Level.W xs ≤ 67108864) (n : Int) (h0 : 0 ≤ n) (h1 : n + (ctL Level.ct xs : Nat) ≤ 1152921504606846976) (R : AV → AH → Prop)
    (hR : ∀ h', Tw h' (d + 4) (.fs none ((mkL Level.mk_ Level.ct n xs).map Level.enc)) y F → h'.next = h.next → (∀ b, b ∉ F → h'.get b = h.get b) → R (.int .i64 (n + (ctL Level.ct xs : Nat))) h') : CA 19 [.agg [y], .int .i64 n] h R := by
  have o : y.one = true := Tw.one (d + 4) (x := .fs none (xs.map Level.enc)) rfl H
  refine (ca_iff (af := ac19) rfl).2 ?_
  simp [-AV.one, -AV.cells, cells_agg, o, ac19]
  refine markLevelS_ok d H nd hW n h0 h1 _ fun h' T a b => ?_
  simp
  exact hR h' T a b
theorem heldEnv_iff (xs : List Level) (hW : WS Level.W xs ≤ 67108864) (n : Int) (h0 : 0 ≤ n) (h1 : n + (ctL Level.ct xs : Nat) ≤ 1152921504606846976) (h : AH) (c0 : Option Nat) (R : AV → AH → Prop) : CA 24 [.agg [.fs c0 ((mkL Level.mk_ Level.ct n xs).map Level.enc)], .int .i64 n] h R ↔ R (.int .i64 (n + (ctL Level.ct xs : Nat))) h := by
  refine ca_pure (af := ac24) rfl ?_
  have hn : ¬ n + (ctL Level.ct xs : Nat) < 0 := by omega
  simp [ac24, heldLevelS_iff xs hW n h0 h1, hn]

theorem cloneTokenS_ok (xs : List Token) (hb : xs.length ≤ 1048576) (h : AH) (c : Option Nat) (R : AV → AH → Prop) (hR : ∀ h' y, Own h 3 Token.enc h' y xs → R y h') : CA 109 [.fs c (xs.map Token.enc)] h R :=
  (ca_iff (af := ac109) rfl).2 (tplClone_ok (es := 3) (bytes := 32) (zero := [.int .i64 0, .int .i64 0, .str ⟨#[]⟩]) Token.ok.toEncOk hb (by omega) h c R hR)
theorem cloneInt64S_ok (xs : List Int) (hb : xs.length ≤ 1048576) (h : AH) (c : Option Nat) (R : AV → AH → Prop) (hR : ∀ h' y, Own h 1 (encI .i64) h' y xs → R y h') : CA 125 [.fs c (xs.map (encI .i64))] h R :=
  (ca_iff (af := ac125) rfl).2 (tplClone_ok (es := 1) (bytes := 8) (zero := [.int .i64 0]) (encI_ok .i64).toEncOk hb (by omega) h c R hR)
theorem cloneGlueS_ok (xs : List Glue) (hb : xs.length ≤ 1048576) (h : AH) (c : Option Nat) (R : AV → AH → Prop) (hR : ∀ h' y, Own h 5 Glue.enc h' y xs → R y h') : CA 126 [.fs c (xs.map Glue.enc)] h R :=
  (ca_iff (af := ac126) rfl).2 (tplClone_ok (es := 5) (bytes := 40) (zero := [.int .i64 0, .int .i64 0, .int .i64 0, .int .i64 0, .int .i64 0]) Glue.ok.toEncOk hb (by omega) h c R hR)
theorem cloneBindS_ok (xs : List Bind) (hb : xs.length ≤ 1048576) (h : AH) (c : Option Nat) (R : AV → AH → Prop) (hR : ∀ h' y, Own h 9 Bind.enc h' y xs → R y h') : CA 127 [.fs c (xs.map Bind.enc)] h R :=
  (ca_iff (af := ac127) rfl).2 (tplClone_ok (es := 9) (bytes := 120) (zero := [.str ⟨#[]⟩, .int .i64 0, .int .i64 0, .int .i64 0, .int .i64 0, .str ⟨#[]⟩, .nils, .int .i64 0, .nils]) Bind.ok.toEncOk hb (by omega) h c R hR)
theorem cloneTokenSS_ok (xs : List (List Token)) (hb : xs.length ≤ 1048576) (h : AH) (c : Option Nat) (R : AV → AH → Prop) (hR : ∀ h' y, Own h 1 (encS Token.enc) h' y xs → R y h') : CA 128 [.fs c (xs.map (encS Token.enc))] h R :=
  (ca_iff (af := ac128) rfl).2 (tplClone_ok (es := 1) (bytes := 24) (zero := [.nils]) (encS_ok Token.enc).toEncOk hb (by omega) h c R hR)

/-- A meaning of one's own. -/
theorem ownMean_ok (d : Nat) (a b c e : Int) (t : ByteArray) (p : List Token) (f : Int) (q : List Token) (hp : p.length ≤ 1048576) (hq : q.length ≤ 1048576) (h : AH) (R : AV → AH → Prop)
    (hR : ∀ h' y z F, NewL h h' (d + 2) [.int .i64 a, .int .i64 b, .int .i64 c, .int .i64 e, .str t, .fs none (p.map Token.enc), .int .i64 f, .fs none (q.map Token.enc)] [.int .i64 a, .int .i64 b, .int .i64 c, .int .i64 e, .str t, y, .int .i64 f, z] F → R (.agg [.int .i64 a, .int .i64 b, .int .i64 c, .int .i64 e, .str t, y, .int .i64 f, z]) h') :
    CA 48 [.agg [.int .i64 a, .int .i64 b, .int .i64 c, .int .i64 e, .str t, .fs none (p.map Token.enc), .int .i64 f, .fs none (q.map Token.enc)]] h R := by
  refine (ca_iff (af := ac48) rfl).2 ?_
  simp [ac48]
  refine cloneTokenS_ok p hp _ _ _ fun h1 y O1 => ?_
  simp
  refine cloneTokenS_ok q hq _ _ _ fun h2 z O2 => ?_
  obtain ⟨F1, N1⟩ := O1.new_ Token.flat d
  obtain ⟨F2, N2⟩ := O2.new_ Token.flat d
  have o1 := N1.one1
  have o2 := N2.one1
  (iterate 4 ((try simp [-AV.one, -AV.cells, cells_agg, cells_one, one_int, one_str, one_fs, o1, o2]); (try simp (disch := omega) [-AV.one, -AV.cells, cells_agg, cells_one, one_int, one_str, one_fs, o1, o2])))
  exact hR h2 y z _ (NewL.append (flatNewL _ _ (TwL.flat [.int .i64 a, .int .i64 b, .int .i64 c, .int .i64 e, .str t] rfl)) (NewL.append N1.one (NewL.append (flatNewL _ _ (TwL.flat [.int .i64 f] rfl)) N2.one)))
end Go.Proofs.Ytojmemlbajnhhaa
