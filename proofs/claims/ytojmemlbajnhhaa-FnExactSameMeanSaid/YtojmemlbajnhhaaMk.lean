/- Marks, and copies of one's own. -/
import Derived.Test.YtojmemlbajnhhaaEq
import Derived.Test.YtojmemlbajnhhaaBmQ
namespace Go.Proofs.Ytojmemlbajnhhaa
open Go Go.Bm Go.Proofs
set_option linter.all false

theorem mt_iff (n : Int) (hn : n ≤ 1152921504606846976) (h : AH) (R : AV → AH → Prop) : CA 163 [.int .i64 n] h R ↔ R (.str (mtext n)) h := ca_pure (af := ac163) rfl (tplMT_ok n hn h)
def Token.ct (x : Token) : Nat := 3
def Token.mk_ (n : Int) (x : Token) : Token := ⟨n, n + 1, mtext (n + 1 + 1)⟩
theorem Token.flat : Flat Token.enc := fun _ _ _ => TwL.flat _ rfl
set_option maxRecDepth 100000 in
theorem markTokenS_ok (d : Nat) {h : AH} {y : AV} {F : List Nat} {xs : List Token} (H : Tw h (d + 2) (.fs none (xs.map Token.enc)) y F) (nd : F.Nodup) (hW : WS Token.W xs ≤ 67108864) (n : Int) (h0 : 0 ≤ n) (h1 : n + (ctL Token.ct xs : Nat) ≤ 1152921504606846976) (R : AV → AH → Prop) (hR : ∀ h', Tw h' (d + 2) (.fs none ((mkL Token.mk_ Token.ct n xs).map Token.enc)) y F → h'.next = h.next → (∀ b, b ∉ F → h'.get b = h.get b) → R (.int .i64 (n + (ctL Token.ct xs : Nat))) h') : CA 118 [y, .int .i64 n] h R := by
  refine (ca_iff (af := ac118) rfl).2 ?_
  simp [ac118]
  refine awp_loop2 caM (fun m s h' => ∃ i : Nat, m = xs.length - i ∧ i ≤ xs.length ∧ (s 0 = y ∧ s 1 = .int .i64 (n + (ctL Token.ct (xs.take i) : Nat)) ∧ s 5 = .int .i64 i) ∧ Tw h' (d + 2) (.fs none ((mkU Token.mk_ Token.ct n xs i).map Token.enc)) y F ∧ h'.next = h.next ∧ (∀ b, b ∉ F → h'.get b = h.get b)) ?_ (n := xs.length) ⟨0, by simp, by simp, by simp [ctL], by rw [mkU_zero]; exact H, rfl, fun _ _ => rfl⟩
  rintro m s h' ⟨i, rfl, hi, ⟨s0, s1, s5⟩, T, hn, hk⟩ K hK hE hQ
  have hlen := mkU_len Token.mk_ Token.ct n xs i
  have hl := Tw.lenA T
  simp [s0, s1, s5, hl, hlen]
  by_cases hlt : i < xs.length
  · have A0 := Arr.open_ Token.ok.toEncOk (by omega) T nd (i := i) (by omega)
    rw [mkU_nth Token.mk_ Token.ct n hlt] at A0
    have ia : ∀ h2, iaddrA 3 y (.int .i64 (i : Int)) h2 = some (elt 3 y i 0, h2) := fun h2 => by have := Tw.iaddrA Token.ok.toEncOk (by omega) T h2 .i64 (i : Int) (by omega) (by omega); simpa using this
    have hwl := WS_len Token.W xs
    have hwn := WS_nth Token.W hlt
    simp only [Token.W] at hwn
    have hct := ctL_le Token.ct hlt
    have hct2 := ctL_take Token.ct hlt
    have hsucc := mkU_succ Token.mk_ Token.ct n hlt
    generalize hc : n + (ctL Token.ct (xs.take i) : Nat) = c at *
    have hw : IntKind.wrap .i64 ((i : Int) + 1) = (i : Int) + 1 := wrap_i64 (by omega) (by omega)
    simp [-faddrA, hlt, s0, s1, s5, ia, faddrA_elt]
    simp only [Token.ct] at hct hct2
    obtain ⟨g0, e0, A1, q0, k0⟩ := A0.store (off := 0) (x := .int .i64 (c)) rfl rfl rfl rfl rfl
    have w0 : IntKind.wrap .i64 (c + 1) = c + 1 := wrap_i64 (by omega) (by omega)
    simp [e0, w0, -faddrA, ia, faddrA_elt, s0, s1, s5]
    obtain ⟨g1, e1, A2, q1, k1⟩ := A1.store (off := 1) (x := .int .i64 (c + 1)) rfl rfl rfl rfl rfl
    have w1 : IntKind.wrap .i64 (c + 1 + 1) = c + 1 + 1 := wrap_i64 (by omega) (by omega)
    simp [e1, w1, -faddrA, ia, faddrA_elt, s0, s1, s5]
    simp [mt_iff (c + 1 + 1) (by omega), -faddrA, ia, faddrA_elt, s0, s1, s5]
    obtain ⟨g2, e2, A3, q2, k2⟩ := A2.store (off := 2) (x := .str (mtext (c + 1 + 1))) rfl rfl rfl rfl rfl
    have w2 : IntKind.wrap .i64 (c + 1 + 1 + 1) = c + 1 + 1 + 1 := wrap_i64 (by omega) (by omega)
    simp [e2, w2, -faddrA, ia, faddrA_elt, s0, s1, s5]
    have T2 := (show Arr g2 _ 3 Token.enc y _ i (Token.enc (Token.mk_ c (nth xs i))) F from A3).close
    rw [hsucc] at T2
    simp [hw, s0, s1, s5]
    refine hK (xs.length - (i + 1)) _ _ (by omega) ⟨i + 1, rfl, by omega, ⟨by simp [s0], ?_, by simp⟩, T2, q2.trans (q1.trans (q0.trans (hn))), fun b hb => (k2 b hb).trans ((k1 b hb).trans ((k0 b hb).trans (hk b hb)))⟩
    simp [hct2]
    omega
  · obtain rfl : i = xs.length := by omega
    rw [mkU_all] at T
    rw [List.take_length] at s1
    simp [hE, s1]
    exact hR h' T hn hk
def Macro.ct (x : Macro) : Nat := 1 + ctL Token.ct x.pattern + ctL Token.ct x.body
def Macro.mk_ (n : Int) (x : Macro) : Macro := ⟨mkL Token.mk_ Token.ct (n) x.pattern, n + (ctL Token.ct x.pattern : Nat), mkL Token.mk_ Token.ct (n + (ctL Token.ct x.pattern : Nat) + 1) x.body⟩
def Mean.ct (x : Mean) : Nat := 6 + ctL Token.ct x.macro_.pattern + ctL Token.ct x.macro_.body
def Mean.mk_ (n : Int) (x : Mean) : Mean := ⟨n, n + 1, ⟨n + 1 + 1, n + 1 + 1 + 1, mtext (n + 1 + 1 + 1 + 1)⟩, ⟨mkL Token.mk_ Token.ct (n + 1 + 1 + 1 + 1 + 1) x.macro_.pattern, n + 1 + 1 + 1 + 1 + 1 + (ctL Token.ct x.macro_.pattern : Nat), mkL Token.mk_ Token.ct (n + 1 + 1 + 1 + 1 + 1 + (ctL Token.ct x.macro_.pattern : Nat) + 1) x.macro_.body⟩⟩
def Bind.ct (x : Bind) : Nat := 7 + ctL Token.ct x.mean.macro_.pattern + ctL Token.ct x.mean.macro_.body
def Bind.mk_ (n : Int) (x : Bind) : Bind := ⟨mtext (n), ⟨n + 1, n + 1 + 1, ⟨n + 1 + 1 + 1, n + 1 + 1 + 1 + 1, mtext (n + 1 + 1 + 1 + 1 + 1)⟩, ⟨mkL Token.mk_ Token.ct (n + 1 + 1 + 1 + 1 + 1 + 1) x.mean.macro_.pattern, n + 1 + 1 + 1 + 1 + 1 + 1 + (ctL Token.ct x.mean.macro_.pattern : Nat), mkL Token.mk_ Token.ct (n + 1 + 1 + 1 + 1 + 1 + 1 + (ctL Token.ct x.mean.macro_.pattern : Nat) + 1) x.mean.macro_.body⟩⟩⟩
def Glue.ct (x : Glue) : Nat := 5
def Glue.mk_ (n : Int) (x : Glue) : Glue := ⟨n, n + 1, n + 1 + 1, n + 1 + 1 + 1, n + 1 + 1 + 1 + 1⟩
theorem Glue.flat : Flat Glue.enc := fun _ _ _ => TwL.flat _ rfl
set_option maxRecDepth 100000 in
theorem markInt64S_ok (d : Nat) {h : AH} {y : AV} {F : List Nat} {xs : List Int} (H : Tw h (d + 2) (.fs none (xs.map (encI .i64))) y F) (nd : F.Nodup) (hW : xs.length ≤ 67108864) (n : Int) (h0 : 0 ≤ n) (h1 : n + (ctL (fun _ => 1) xs : Nat) ≤ 1152921504606846976) (R : AV → AH → Prop) (hR : ∀ h', Tw h' (d + 2) (.fs none ((mkL (fun n _ => n) (fun _ => 1) n xs).map (encI .i64))) y F → h'.next = h.next → (∀ b, b ∉ F → h'.get b = h.get b) → R (.int .i64 (n + (ctL (fun _ => 1) xs : Nat))) h') : CA 114 [y, .int .i64 n] h R := by
  refine (ca_iff (af := ac114) rfl).2 ?_
  simp [ac114]
  refine awp_loop2 caM (fun m s h' => ∃ i : Nat, m = xs.length - i ∧ i ≤ xs.length ∧ (s 0 = y ∧ s 1 = .int .i64 (n + (ctL (fun _ => 1) (xs.take i) : Nat)) ∧ s 5 = .int .i64 i) ∧ Tw h' (d + 2) (.fs none ((mkU (fun n _ => n) (fun _ => 1) n xs i).map (encI .i64))) y F ∧ h'.next = h.next ∧ (∀ b, b ∉ F → h'.get b = h.get b)) ?_ (n := xs.length) ⟨0, by simp, by simp, by simp [ctL], by rw [mkU_zero]; exact H, rfl, fun _ _ => rfl⟩
  rintro m s h' ⟨i, rfl, hi, ⟨s0, s1, s5⟩, T, hn, hk⟩ K hK hE hQ
  have hlen := mkU_len (fun n _ => n) (fun _ => 1) n xs i
  have hl := Tw.lenA T
  simp [s0, s1, s5, hl, hlen]
  by_cases hlt : i < xs.length
  · have A0 := Arr.open_ (encI_ok .i64).toEncOk (by omega) T nd (i := i) (by omega)
    rw [mkU_nth (fun n _ => n) (fun _ => 1) n hlt] at A0
    have ia : ∀ h2, iaddrA 1 y (.int .i64 (i : Int)) h2 = some (elt 1 y i 0, h2) := fun h2 => by have := Tw.iaddrA (encI_ok .i64).toEncOk (by omega) T h2 .i64 (i : Int) (by omega) (by omega); simpa using this
    have hct := ctL_le (fun _ => 1) hlt
    have hct2 := ctL_take (fun _ => 1) hlt
    have hsucc := mkU_succ (fun n _ => n) (fun _ => 1) n hlt
    generalize hc : n + (ctL (fun _ => 1) (xs.take i) : Nat) = c at *
    have hw : IntKind.wrap .i64 ((i : Int) + 1) = (i : Int) + 1 := wrap_i64 (by omega) (by omega)
    simp [-faddrA, hlt, s0, s1, s5, ia, faddrA_elt]
    obtain ⟨g0, e0, A1, q0, k0⟩ := A0.store (off := 0) (x := .int .i64 (c)) rfl rfl rfl rfl rfl
    have w0 : IntKind.wrap .i64 (c + 1) = c + 1 := wrap_i64 (by omega) (by omega)
    simp [e0, w0, -faddrA, ia, faddrA_elt, s0, s1, s5]
    have T2 := (show Arr g0 _ 1 (encI .i64) y _ i ((encI .i64) c) F from A1).close
    rw [hsucc] at T2
    simp [hw, s0, s1, s5]
    refine hK (xs.length - (i + 1)) _ _ (by omega) ⟨i + 1, rfl, by omega, ⟨by simp [s0], ?_, by simp⟩, T2, q0.trans (hn), fun b hb => (k0 b hb).trans (hk b hb)⟩
    simp [hct2]
    omega
  · obtain rfl : i = xs.length := by omega
    rw [mkU_all] at T
    rw [List.take_length] at s1
    simp [hE, s1]
    exact hR h' T hn hk
set_option maxRecDepth 100000 in
theorem markBindS_ok (d : Nat) {h : AH} {y : AV} {F : List Nat} {xs : List Bind} (H : Tw h (d + 3) (.fs none (xs.map Bind.enc)) y F) (nd : F.Nodup) (hW : WS Bind.W xs ≤ 67108864) (n : Int) (h0 : 0 ≤ n) (h1 : n + (ctL Bind.ct xs : Nat) ≤ 1152921504606846976) (R : AV → AH → Prop) (hR : ∀ h', Tw h' (d + 3) (.fs none ((mkL Bind.mk_ Bind.ct n xs).map Bind.enc)) y F → h'.next = h.next → (∀ b, b ∉ F → h'.get b = h.get b) → R (.int .i64 (n + (ctL Bind.ct xs : Nat))) h') : CA 115 [y, .int .i64 n] h R := by
  refine (ca_iff (af := ac115) rfl).2 ?_
  simp [ac115]
  refine awp_loop2 caM (fun m s h' => ∃ i : Nat, m = xs.length - i ∧ i ≤ xs.length ∧ (s 0 = y ∧ s 1 = .int .i64 (n + (ctL Bind.ct (xs.take i) : Nat)) ∧ s 5 = .int .i64 i) ∧ Tw h' (d + 3) (.fs none ((mkU Bind.mk_ Bind.ct n xs i).map Bind.enc)) y F ∧ h'.next = h.next ∧ (∀ b, b ∉ F → h'.get b = h.get b)) ?_ (n := xs.length) ⟨0, by simp, by simp, by simp [ctL], by rw [mkU_zero]; exact H, rfl, fun _ _ => rfl⟩
  rintro m s h' ⟨i, rfl, hi, ⟨s0, s1, s5⟩, T, hn, hk⟩ K hK hE hQ
  have hlen := mkU_len Bind.mk_ Bind.ct n xs i
  have hl := Tw.lenA T
  simp [s0, s1, s5, hl, hlen]
  by_cases hlt : i < xs.length
  · have A0 := Arr.open_ Bind.ok.toEncOk (by omega) T nd (i := i) (by omega)
    rw [mkU_nth Bind.mk_ Bind.ct n hlt] at A0
    have ia : ∀ h2, iaddrA 9 y (.int .i64 (i : Int)) h2 = some (elt 9 y i 0, h2) := fun h2 => by have := Tw.iaddrA Bind.ok.toEncOk (by omega) T h2 .i64 (i : Int) (by omega) (by omega); simpa using this
    have hwl := WS_len Bind.W xs
    have hwn := WS_nth Bind.W hlt
    simp only [Bind.W, Macro.W, Mean.W, Token.W] at hwn
    have hct := ctL_le Bind.ct hlt
    have hct2 := ctL_take Bind.ct hlt
    have hsucc := mkU_succ Bind.mk_ Bind.ct n hlt
    generalize hc : n + (ctL Bind.ct (xs.take i) : Nat) = c at *
    have hw : IntKind.wrap .i64 ((i : Int) + 1) = (i : Int) + 1 := wrap_i64 (by omega) (by omega)
    simp [-faddrA, hlt, s0, s1, s5, ia, faddrA_elt]
    simp only [Bind.ct] at hct hct2
    simp [mt_iff (c) (by omega), -faddrA, ia, faddrA_elt, s0, s1, s5]
    obtain ⟨g0, e0, A1, q0, k0⟩ := A0.store (off := 0) (x := .str (mtext (c))) rfl rfl rfl rfl rfl
    have w0 : IntKind.wrap .i64 (c + 1) = c + 1 := wrap_i64 (by omega) (by omega)
    simp [e0, w0, -faddrA, ia, faddrA_elt, s0, s1, s5]
    obtain ⟨g1, e1, A2, q1, k1⟩ := A1.store (off := 1) (x := .int .i64 (c + 1)) rfl rfl rfl rfl rfl
    have w1 : IntKind.wrap .i64 (c + 1 + 1) = c + 1 + 1 := wrap_i64 (by omega) (by omega)
    simp [e1, w1, -faddrA, ia, faddrA_elt, s0, s1, s5]
    obtain ⟨g2, e2, A3, q2, k2⟩ := A2.store (off := 2) (x := .int .i64 (c + 1 + 1)) rfl rfl rfl rfl rfl
    have w2 : IntKind.wrap .i64 (c + 1 + 1 + 1) = c + 1 + 1 + 1 := wrap_i64 (by omega) (by omega)
    simp [e2, w2, -faddrA, ia, faddrA_elt, s0, s1, s5]
    obtain ⟨g3, e3, A4, q3, k3⟩ := A3.store (off := 3) (x := .int .i64 (c + 1 + 1 + 1)) rfl rfl rfl rfl rfl
    have w3 : IntKind.wrap .i64 (c + 1 + 1 + 1 + 1) = c + 1 + 1 + 1 + 1 := wrap_i64 (by omega) (by omega)
    simp [e3, w3, -faddrA, ia, faddrA_elt, s0, s1, s5]
    obtain ⟨g4, e4, A5, q4, k4⟩ := A4.store (off := 4) (x := .int .i64 (c + 1 + 1 + 1 + 1)) rfl rfl rfl rfl rfl
    have w4 : IntKind.wrap .i64 (c + 1 + 1 + 1 + 1 + 1) = c + 1 + 1 + 1 + 1 + 1 := wrap_i64 (by omega) (by omega)
    simp [e4, w4, -faddrA, ia, faddrA_elt, s0, s1, s5]
    simp [mt_iff (c + 1 + 1 + 1 + 1 + 1) (by omega), -faddrA, ia, faddrA_elt, s0, s1, s5]
    obtain ⟨g5, e5, A6, q5, k5⟩ := A5.store (off := 5) (x := .str (mtext (c + 1 + 1 + 1 + 1 + 1))) rfl rfl rfl rfl rfl
    have w5 : IntKind.wrap .i64 (c + 1 + 1 + 1 + 1 + 1 + 1) = c + 1 + 1 + 1 + 1 + 1 + 1 := wrap_i64 (by omega) (by omega)
    simp [e5, w5, -faddrA, ia, faddrA_elt, s0, s1, s5]
    obtain ⟨z6, G6, e6, t6, nd6, in6, back6⟩ := A6.sub (off := 6) rfl
    simp [e6, -faddrA, ia, faddrA_elt, s0, s1, s5]
    refine markTokenS_ok _ t6 nd6 (by omega) _ (by omega) (by omega) _ fun g6 t6' q6 p6 => ?_
    have A7 := back6 g6 _ t6' p6
    have k6 : ∀ b, b ∉ F → g6.get b = g5.get b := fun b hb => p6 b fun hG => hb (in6 b hG)
    simp [-faddrA, ia, faddrA_elt, s0, s1, s5]
    obtain ⟨g7, e7, A8, q7, k7⟩ := A7.store (off := 7) (x := .int .i64 (c + 1 + 1 + 1 + 1 + 1 + 1 + (ctL Token.ct (nth xs i).mean.macro_.pattern : Nat))) rfl rfl rfl rfl rfl
    have w7 : IntKind.wrap .i64 (c + 1 + 1 + 1 + 1 + 1 + 1 + (ctL Token.ct (nth xs i).mean.macro_.pattern : Nat) + 1) = c + 1 + 1 + 1 + 1 + 1 + 1 + (ctL Token.ct (nth xs i).mean.macro_.pattern : Nat) + 1 := wrap_i64 (by omega) (by omega)
    simp [e7, w7, -faddrA, ia, faddrA_elt, s0, s1, s5]
    obtain ⟨z8, G8, e8, t8, nd8, in8, back8⟩ := A8.sub (off := 8) rfl
    simp [e8, -faddrA, ia, faddrA_elt, s0, s1, s5]
    refine markTokenS_ok _ t8 nd8 (by omega) _ (by omega) (by omega) _ fun g8 t8' q8 p8 => ?_
    have A9 := back8 g8 _ t8' p8
    have k8 : ∀ b, b ∉ F → g8.get b = g7.get b := fun b hb => p8 b fun hG => hb (in8 b hG)
    simp [-faddrA, ia, faddrA_elt, s0, s1, s5]
    have T2 := (show Arr g8 _ 9 Bind.enc y _ i (Bind.enc (Bind.mk_ c (nth xs i))) F from A9).close
    rw [hsucc] at T2
    simp [hw, s0, s1, s5]
    refine hK (xs.length - (i + 1)) _ _ (by omega) ⟨i + 1, rfl, by omega, ⟨by simp [s0], ?_, by simp⟩, T2, q8.trans (q7.trans (q6.trans (q5.trans (q4.trans (q3.trans (q2.trans (q1.trans (q0.trans (hn))))))))), fun b hb => (k8 b hb).trans ((k7 b hb).trans ((k6 b hb).trans ((k5 b hb).trans ((k4 b hb).trans ((k3 b hb).trans ((k2 b hb).trans ((k1 b hb).trans ((k0 b hb).trans (hk b hb)))))))))⟩
    simp [hct2]
    omega
  · obtain rfl : i = xs.length := by omega
    rw [mkU_all] at T
    rw [List.take_length] at s1
    simp [hE, s1]
    exact hR h' T hn hk
set_option maxRecDepth 100000 in
theorem markGlueS_ok (d : Nat) {h : AH} {y : AV} {F : List Nat} {xs : List Glue} (H : Tw h (d + 2) (.fs none (xs.map Glue.enc)) y F) (nd : F.Nodup) (hW : xs.length ≤ 67108864) (n : Int) (h0 : 0 ≤ n) (h1 : n + (ctL Glue.ct xs : Nat) ≤ 1152921504606846976) (R : AV → AH → Prop) (hR : ∀ h', Tw h' (d + 2) (.fs none ((mkL Glue.mk_ Glue.ct n xs).map Glue.enc)) y F → h'.next = h.next → (∀ b, b ∉ F → h'.get b = h.get b) → R (.int .i64 (n + (ctL Glue.ct xs : Nat))) h') : CA 116 [y, .int .i64 n] h R := by
  refine (ca_iff (af := ac116) rfl).2 ?_
  simp [ac116]
  refine awp_loop2 caM (fun m s h' => ∃ i : Nat, m = xs.length - i ∧ i ≤ xs.length ∧ (s 0 = y ∧ s 1 = .int .i64 (n + (ctL Glue.ct (xs.take i) : Nat)) ∧ s 5 = .int .i64 i) ∧ Tw h' (d + 2) (.fs none ((mkU Glue.mk_ Glue.ct n xs i).map Glue.enc)) y F ∧ h'.next = h.next ∧ (∀ b, b ∉ F → h'.get b = h.get b)) ?_ (n := xs.length) ⟨0, by simp, by simp, by simp [ctL], by rw [mkU_zero]; exact H, rfl, fun _ _ => rfl⟩
  rintro m s h' ⟨i, rfl, hi, ⟨s0, s1, s5⟩, T, hn, hk⟩ K hK hE hQ
  have hlen := mkU_len Glue.mk_ Glue.ct n xs i
  have hl := Tw.lenA T
  simp [s0, s1, s5, hl, hlen]
  by_cases hlt : i < xs.length
  · have A0 := Arr.open_ Glue.ok.toEncOk (by omega) T nd (i := i) (by omega)
    rw [mkU_nth Glue.mk_ Glue.ct n hlt] at A0
    have ia : ∀ h2, iaddrA 5 y (.int .i64 (i : Int)) h2 = some (elt 5 y i 0, h2) := fun h2 => by have := Tw.iaddrA Glue.ok.toEncOk (by omega) T h2 .i64 (i : Int) (by omega) (by omega); simpa using this
    have hct := ctL_le Glue.ct hlt
    have hct2 := ctL_take Glue.ct hlt
    have hsucc := mkU_succ Glue.mk_ Glue.ct n hlt
    generalize hc : n + (ctL Glue.ct (xs.take i) : Nat) = c at *
    have hw : IntKind.wrap .i64 ((i : Int) + 1) = (i : Int) + 1 := wrap_i64 (by omega) (by omega)
    simp [-faddrA, hlt, s0, s1, s5, ia, faddrA_elt]
    simp only [Glue.ct] at hct hct2
    obtain ⟨g0, e0, A1, q0, k0⟩ := A0.store (off := 0) (x := .int .i64 (c)) rfl rfl rfl rfl rfl
    have w0 : IntKind.wrap .i64 (c + 1) = c + 1 := wrap_i64 (by omega) (by omega)
    simp [e0, w0, -faddrA, ia, faddrA_elt, s0, s1, s5]
    obtain ⟨g1, e1, A2, q1, k1⟩ := A1.store (off := 1) (x := .int .i64 (c + 1)) rfl rfl rfl rfl rfl
    have w1 : IntKind.wrap .i64 (c + 1 + 1) = c + 1 + 1 := wrap_i64 (by omega) (by omega)
    simp [e1, w1, -faddrA, ia, faddrA_elt, s0, s1, s5]
    obtain ⟨g2, e2, A3, q2, k2⟩ := A2.store (off := 2) (x := .int .i64 (c + 1 + 1)) rfl rfl rfl rfl rfl
    have w2 : IntKind.wrap .i64 (c + 1 + 1 + 1) = c + 1 + 1 + 1 := wrap_i64 (by omega) (by omega)
    simp [e2, w2, -faddrA, ia, faddrA_elt, s0, s1, s5]
    obtain ⟨g3, e3, A4, q3, k3⟩ := A3.store (off := 3) (x := .int .i64 (c + 1 + 1 + 1)) rfl rfl rfl rfl rfl
    have w3 : IntKind.wrap .i64 (c + 1 + 1 + 1 + 1) = c + 1 + 1 + 1 + 1 := wrap_i64 (by omega) (by omega)
    simp [e3, w3, -faddrA, ia, faddrA_elt, s0, s1, s5]
    obtain ⟨g4, e4, A5, q4, k4⟩ := A4.store (off := 4) (x := .int .i64 (c + 1 + 1 + 1 + 1)) rfl rfl rfl rfl rfl
    have w4 : IntKind.wrap .i64 (c + 1 + 1 + 1 + 1 + 1) = c + 1 + 1 + 1 + 1 + 1 := wrap_i64 (by omega) (by omega)
    simp [e4, w4, -faddrA, ia, faddrA_elt, s0, s1, s5]
    have T2 := (show Arr g4 _ 5 Glue.enc y _ i (Glue.enc (Glue.mk_ c (nth xs i))) F from A5).close
    rw [hsucc] at T2
    simp [hw, s0, s1, s5]
    refine hK (xs.length - (i + 1)) _ _ (by omega) ⟨i + 1, rfl, by omega, ⟨by simp [s0], ?_, by simp⟩, T2, q4.trans (q3.trans (q2.trans (q1.trans (q0.trans (hn))))), fun b hb => (k4 b hb).trans ((k3 b hb).trans ((k2 b hb).trans ((k1 b hb).trans ((k0 b hb).trans (hk b hb)))))⟩
    simp [hct2]
    omega
  · obtain rfl : i = xs.length := by omega
    rw [mkU_all] at T
    rw [List.take_length] at s1
    simp [hE, s1]
    exact hR h' T hn hk
set_option maxRecDepth 100000 in
theorem markTokenSS_ok (d : Nat) {h : AH} {y : AV} {F : List Nat} {xs : List (List Token)} (H : Tw h (d + 3) (.fs none (xs.map (encS Token.enc))) y F) (nd : F.Nodup) (hW : WS (WS Token.W) xs ≤ 67108864) (n : Int) (h0 : 0 ≤ n) (h1 : n + (ctL (ctL Token.ct) xs : Nat) ≤ 1152921504606846976) (R : AV → AH → Prop) (hR : ∀ h', Tw h' (d + 3) (.fs none ((mkL (mkL Token.mk_ Token.ct) (ctL Token.ct) n xs).map (encS Token.enc))) y F → h'.next = h.next → (∀ b, b ∉ F → h'.get b = h.get b) → R (.int .i64 (n + (ctL (ctL Token.ct) xs : Nat))) h') : CA 117 [y, .int .i64 n] h R := by
  refine (ca_iff (af := ac117) rfl).2 ?_
  simp [ac117]
  refine awp_loop2 caM (fun m s h' => ∃ i : Nat, m = xs.length - i ∧ i ≤ xs.length ∧ (s 0 = y ∧ s 1 = .int .i64 (n + (ctL (ctL Token.ct) (xs.take i) : Nat)) ∧ s 5 = .int .i64 i) ∧ Tw h' (d + 3) (.fs none ((mkU (mkL Token.mk_ Token.ct) (ctL Token.ct) n xs i).map (encS Token.enc))) y F ∧ h'.next = h.next ∧ (∀ b, b ∉ F → h'.get b = h.get b)) ?_ (n := xs.length) ⟨0, by simp, by simp, by simp [ctL], by rw [mkU_zero]; exact H, rfl, fun _ _ => rfl⟩
  rintro m s h' ⟨i, rfl, hi, ⟨s0, s1, s5⟩, T, hn, hk⟩ K hK hE hQ
  have hlen := mkU_len (mkL Token.mk_ Token.ct) (ctL Token.ct) n xs i
  have hl := Tw.lenA T
  simp [s0, s1, s5, hl, hlen]
  by_cases hlt : i < xs.length
  · have A0 := Arr.open_ (encS_ok Token.enc).toEncOk (by omega) T nd (i := i) (by omega)
    rw [mkU_nth (mkL Token.mk_ Token.ct) (ctL Token.ct) n hlt] at A0
    have ia : ∀ h2, iaddrA 1 y (.int .i64 (i : Int)) h2 = some (elt 1 y i 0, h2) := fun h2 => by have := Tw.iaddrA (encS_ok Token.enc).toEncOk (by omega) T h2 .i64 (i : Int) (by omega) (by omega); simpa using this
    have hwl := WS_len (WS Token.W) xs
    have hwn := WS_nth (WS Token.W) hlt
    have hct := ctL_le (ctL Token.ct) hlt
    have hct2 := ctL_take (ctL Token.ct) hlt
    have hsucc := mkU_succ (mkL Token.mk_ Token.ct) (ctL Token.ct) n hlt
    generalize hc : n + (ctL (ctL Token.ct) (xs.take i) : Nat) = c at *
    have hw : IntKind.wrap .i64 ((i : Int) + 1) = (i : Int) + 1 := wrap_i64 (by omega) (by omega)
    simp [-faddrA, hlt, s0, s1, s5, ia, faddrA_elt]
    obtain ⟨z0, G0, e0, t0, nd0, in0, back0⟩ := A0.sub (off := 0) rfl
    simp [e0, -faddrA, ia, faddrA_elt, s0, s1, s5]
    refine markTokenS_ok _ t0 nd0 (by omega) _ (by omega) (by omega) _ fun g0 t0' q0 p0 => ?_
    have A1 := back0 g0 _ t0' p0
    have k0 : ∀ b, b ∉ F → g0.get b = h'.get b := fun b hb => p0 b fun hG => hb (in0 b hG)
    simp [-faddrA, ia, faddrA_elt, s0, s1, s5]
    have T2 := (show Arr g0 _ 1 (encS Token.enc) y _ i ((encS Token.enc) ((mkL Token.mk_ Token.ct) c (nth xs i))) F from A1).close
    rw [hsucc] at T2
    simp [hw, s0, s1, s5]
    refine hK (xs.length - (i + 1)) _ _ (by omega) ⟨i + 1, rfl, by omega, ⟨by simp [s0], ?_, by simp⟩, T2, q0.trans (hn), fun b hb => (k0 b hb).trans (hk b hb)⟩
    simp [hct2]
    omega
  · obtain rfl : i = xs.length := by omega
    rw [mkU_all] at T
    rw [List.take_length] at s1
    simp [hE, s1]
    exact hR h' T hn hk
def Level.ct (x : Level) : Nat := ctL (fun _ => 1) x.cats + ctL Bind.ct x.binds + ctL (fun _ => 1) x.counts + ctL (fun _ => 1) x.lens + ctL Glue.ct x.glues + ctL (ctL Token.ct) x.toks
def Level.mk_ (n : Int) (x : Level) : Level := ⟨mkL (fun n _ => n) (fun _ => 1) (n) x.cats, mkL Bind.mk_ Bind.ct (n + (ctL (fun _ => 1) x.cats : Nat)) x.binds, mkL (fun n _ => n) (fun _ => 1) (n + (ctL (fun _ => 1) x.cats : Nat) + (ctL Bind.ct x.binds : Nat)) x.counts, mkL (fun n _ => n) (fun _ => 1) (n + (ctL (fun _ => 1) x.cats : Nat) + (ctL Bind.ct x.binds : Nat) + (ctL (fun _ => 1) x.counts : Nat)) x.lens, mkL Glue.mk_ Glue.ct (n + (ctL (fun _ => 1) x.cats : Nat) + (ctL Bind.ct x.binds : Nat) + (ctL (fun _ => 1) x.counts : Nat) + (ctL (fun _ => 1) x.lens : Nat)) x.glues, mkL (mkL Token.mk_ Token.ct) (ctL Token.ct) (n + (ctL (fun _ => 1) x.cats : Nat) + (ctL Bind.ct x.binds : Nat) + (ctL (fun _ => 1) x.counts : Nat) + (ctL (fun _ => 1) x.lens : Nat) + (ctL Glue.ct x.glues : Nat)) x.toks⟩
set_option maxRecDepth 100000 in
theorem markLevelS_ok (d : Nat) {h : AH} {y : AV} {F : List Nat} {xs : List Level} (H : Tw h (d + 4) (.fs none (xs.map Level.enc)) y F) (nd : F.Nodup) (hW : WS Level.W xs ≤ 67108864) (n : Int) (h0 : 0 ≤ n) (h1 : n + (ctL Level.ct xs : Nat) ≤ 1152921504606846976) (R : AV → AH → Prop) (hR : ∀ h', Tw h' (d + 4) (.fs none ((mkL Level.mk_ Level.ct n xs).map Level.enc)) y F → h'.next = h.next → (∀ b, b ∉ F → h'.get b = h.get b) → R (.int .i64 (n + (ctL Level.ct xs : Nat))) h') : CA 52 [y, .int .i64 n] h R := by
  refine (ca_iff (af := ac52) rfl).2 ?_
  simp [ac52]
  refine awp_loop2 caM (fun m s h' => ∃ i : Nat, m = xs.length - i ∧ i ≤ xs.length ∧ (s 0 = y ∧ s 1 = .int .i64 (n + (ctL Level.ct (xs.take i) : Nat)) ∧ s 5 = .int .i64 i) ∧ Tw h' (d + 4) (.fs none ((mkU Level.mk_ Level.ct n xs i).map Level.enc)) y F ∧ h'.next = h.next ∧ (∀ b, b ∉ F → h'.get b = h.get b)) ?_ (n := xs.length) ⟨0, by simp, by simp, by simp [ctL], by rw [mkU_zero]; exact H, rfl, fun _ _ => rfl⟩
  rintro m s h' ⟨i, rfl, hi, ⟨s0, s1, s5⟩, T, hn, hk⟩ K hK hE hQ
  have hlen := mkU_len Level.mk_ Level.ct n xs i
  have hl := Tw.lenA T
  simp [s0, s1, s5, hl, hlen]
  by_cases hlt : i < xs.length
  · have A0 := Arr.open_ Level.ok.toEncOk (by omega) T nd (i := i) (by omega)
    rw [mkU_nth Level.mk_ Level.ct n hlt] at A0
    have ia : ∀ h2, iaddrA 6 y (.int .i64 (i : Int)) h2 = some (elt 6 y i 0, h2) := fun h2 => by have := Tw.iaddrA Level.ok.toEncOk (by omega) T h2 .i64 (i : Int) (by omega) (by omega); simpa using this
    have hwl := WS_len Level.W xs
    have hwn := WS_nth Level.W hlt
    simp only [Level.W] at hwn
    have hct := ctL_le Level.ct hlt
    have hct2 := ctL_take Level.ct hlt
    have hsucc := mkU_succ Level.mk_ Level.ct n hlt
    generalize hc : n + (ctL Level.ct (xs.take i) : Nat) = c at *
    have hw : IntKind.wrap .i64 ((i : Int) + 1) = (i : Int) + 1 := wrap_i64 (by omega) (by omega)
    simp [-faddrA, hlt, s0, s1, s5, ia, faddrA_elt]
    simp only [Level.ct] at hct hct2
    obtain ⟨z0, G0, e0, t0, nd0, in0, back0⟩ := A0.sub (off := 0) rfl
    simp [e0, -faddrA, ia, faddrA_elt, s0, s1, s5]
    refine markInt64S_ok _ t0 nd0 (by omega) _ (by omega) (by omega) _ fun g0 t0' q0 p0 => ?_
    have A1 := back0 g0 _ t0' p0
    have k0 : ∀ b, b ∉ F → g0.get b = h'.get b := fun b hb => p0 b fun hG => hb (in0 b hG)
    simp [-faddrA, ia, faddrA_elt, s0, s1, s5]
    obtain ⟨z1, G1, e1, t1, nd1, in1, back1⟩ := A1.sub (off := 1) rfl
    simp [e1, -faddrA, ia, faddrA_elt, s0, s1, s5]
    refine markBindS_ok _ t1 nd1 (by omega) _ (by omega) (by omega) _ fun g1 t1' q1 p1 => ?_
    have A2 := back1 g1 _ t1' p1
    have k1 : ∀ b, b ∉ F → g1.get b = g0.get b := fun b hb => p1 b fun hG => hb (in1 b hG)
    simp [-faddrA, ia, faddrA_elt, s0, s1, s5]
    obtain ⟨z2, G2, e2, t2, nd2, in2, back2⟩ := A2.sub (off := 2) rfl
    simp [e2, -faddrA, ia, faddrA_elt, s0, s1, s5]
    refine markInt64S_ok _ t2 nd2 (by omega) _ (by omega) (by omega) _ fun g2 t2' q2 p2 => ?_
    have A3 := back2 g2 _ t2' p2
    have k2 : ∀ b, b ∉ F → g2.get b = g1.get b := fun b hb => p2 b fun hG => hb (in2 b hG)
    simp [-faddrA, ia, faddrA_elt, s0, s1, s5]
    obtain ⟨z3, G3, e3, t3, nd3, in3, back3⟩ := A3.sub (off := 3) rfl
    simp [e3, -faddrA, ia, faddrA_elt, s0, s1, s5]
    refine markInt64S_ok _ t3 nd3 (by omega) _ (by omega) (by omega) _ fun g3 t3' q3 p3 => ?_
    have A4 := back3 g3 _ t3' p3
    have k3 : ∀ b, b ∉ F → g3.get b = g2.get b := fun b hb => p3 b fun hG => hb (in3 b hG)
    simp [-faddrA, ia, faddrA_elt, s0, s1, s5]
    obtain ⟨z4, G4, e4, t4, nd4, in4, back4⟩ := A4.sub (off := 4) rfl
    simp [e4, -faddrA, ia, faddrA_elt, s0, s1, s5]
    refine markGlueS_ok _ t4 nd4 (by omega) _ (by omega) (by omega) _ fun g4 t4' q4 p4 => ?_
    have A5 := back4 g4 _ t4' p4
    have k4 : ∀ b, b ∉ F → g4.get b = g3.get b := fun b hb => p4 b fun hG => hb (in4 b hG)
    simp [-faddrA, ia, faddrA_elt, s0, s1, s5]
    obtain ⟨z5, G5, e5, t5, nd5, in5, back5⟩ := A5.sub (off := 5) rfl
    simp [e5, -faddrA, ia, faddrA_elt, s0, s1, s5]
    refine markTokenSS_ok _ t5 nd5 (by omega) _ (by omega) (by omega) _ fun g5 t5' q5 p5 => ?_
    have A6 := back5 g5 _ t5' p5
    have k5 : ∀ b, b ∉ F → g5.get b = g4.get b := fun b hb => p5 b fun hG => hb (in5 b hG)
    simp [-faddrA, ia, faddrA_elt, s0, s1, s5]
    have T2 := (show Arr g5 _ 6 Level.enc y _ i (Level.enc (Level.mk_ c (nth xs i))) F from A6).close
    rw [hsucc] at T2
    simp [hw, s0, s1, s5]
    refine hK (xs.length - (i + 1)) _ _ (by omega) ⟨i + 1, rfl, by omega, ⟨by simp [s0], ?_, by simp⟩, T2, q5.trans (q4.trans (q3.trans (q2.trans (q1.trans (q0.trans (hn)))))), fun b hb => (k5 b hb).trans ((k4 b hb).trans ((k3 b hb).trans ((k2 b hb).trans ((k1 b hb).trans ((k0 b hb).trans (hk b hb))))))⟩
    simp [hct2]
    omega
  · obtain rfl : i = xs.length := by omega
    rw [mkU_all] at T
    rw [List.take_length] at s1
    simp [hE, s1]
    exact hR h' T hn hk
def Env.ct (x : Env) : Nat := ctL Level.ct x.levels
def Env.mk_ (n : Int) (x : Env) : Env := ⟨mkL Level.mk_ Level.ct (n) x.levels⟩
theorem toTokenS_new (d : Nat) (xs : List Token) (hW : WS Token.W xs ≤ 1048576) (h : AH) (c : Option Nat) (R : AV → AH → Prop) (hR : ∀ h' y F, New h h' (d + 2) (.fs none (xs.map Token.enc)) y F → R y h') : CA 168 [.fs c (xs.map Token.enc)] h R :=
  (ca_iff (af := ac168) rfl).2 (tplToR_ok (es := 3) (bytes := 32) (zero := [(.int .i64 0), (.int .i64 0), (.str ⟨#[]⟩)]) (g := true) (f := 29) Token.ok.toEncOk (by omega) (.inl rfl) rfl rfl (by have := WS_len Token.W xs; omega) (by omega) (d + 1) h c (fun i hi h1 R hR => (toToken_iff (nth xs i) (by have := WS_nth Token.W hi; omega) h1 R).2 (hR _ _ [] (flatNewL _ _ (Token.flat _ _ _)))) R hR)
set_option maxRecDepth 100000 in
theorem toMacro_new (d : Nat) (a_pattern : List Token) (a_slots : Int) (a_body : List Token) (hW : Macro.W ⟨a_pattern, a_slots, a_body⟩ ≤ 1048576) (h : AH) (R : AV → AH → Prop) (hR : ∀ h' y_a_pattern y_a_body F, NewL h h' (d + 2) [.fs none (a_pattern.map Token.enc), .int .i64 a_slots, .fs none (a_body.map Token.enc)] [y_a_pattern, .int .i64 a_slots, y_a_body] F → R (.agg [y_a_pattern, .int .i64 a_slots, y_a_body]) h') : CA 175 [.agg [.fs none (a_pattern.map Token.enc), .int .i64 a_slots, .fs none (a_body.map Token.enc)]] h R := by
  refine (ca_iff (af := ac175) rfl).2 ?_
  simp only [Macro.W] at hW
  (iterate 4 ((try simp [ac175]); (try simp (disch := omega) [ac175])))
  refine toTokenS_new (d + 0) a_pattern (by omega) _ _ _ fun g0 z0 F0 N0 => ?_
  have o0 := N0.one1
  (iterate 4 ((try simp [-AV.one, -AV.cells, cells_agg, cells_one, cells_int, cells_str, cells_bool, cells_fs, one_int, one_str, one_bool, one_nils, one_fs, one_sl, o0]); (try simp (disch := omega) [-AV.one, -AV.cells, cells_agg, cells_one, cells_int, cells_str, cells_bool, cells_fs, one_int, one_str, one_bool, one_nils, one_fs, one_sl, o0])))
  refine toTokenS_new (d + 0) a_body (by omega) _ _ _ fun g1 z1 F1 N1 => ?_
  have o1 := N1.one1
  (iterate 4 ((try simp [-AV.one, -AV.cells, cells_agg, cells_one, cells_int, cells_str, cells_bool, cells_fs, one_int, one_str, one_bool, one_nils, one_fs, one_sl, o0, o1]); (try simp (disch := omega) [-AV.one, -AV.cells, cells_agg, cells_one, cells_int, cells_str, cells_bool, cells_fs, one_int, one_str, one_bool, one_nils, one_fs, one_sl, o0, o1])))
  exact hR _ z0 z1 _ (NewL.append N0.one (NewL.append (flatNewL _ _ (TwL.flat _ rfl) : NewL _ _ (d + 2) [.int .i64 a_slots] [.int .i64 a_slots] []) N1.one))
theorem toMacro_iff' (a_pattern : List Token) (a_slots : Int) (a_body : List Token) (hW : Macro.W ⟨a_pattern, a_slots, a_body⟩ ≤ 1048576) (h : AH) (R : AV → AH → Prop) : acallM CA .frz 175 [.agg [.fs none (a_pattern.map Token.enc), .int .i64 a_slots, .fs none (a_body.map Token.enc)]] h R ↔ R (.agg [.fs none (a_pattern.map Token.enc), .int .i64 a_slots, .fs none (a_body.map Token.enc)]) h :=
  own_frz (d := 0 + 2 + 1) (by decide) fun R hR => toMacro_new 0 a_pattern a_slots a_body hW h R fun h' y_a_pattern y_a_body F N => hR h' _ F N.agg
set_option maxRecDepth 100000 in
theorem toMean_new (d : Nat) (a_kind : Int) (a_num : Int) (a_token_cat : Int) (a_token_char : Int) (a_token_name : ByteArray) (a_macro__pattern : List Token) (a_macro__slots : Int) (a_macro__body : List Token) (hW : Mean.W ⟨a_kind, a_num, ⟨a_token_cat, a_token_char, a_token_name⟩, ⟨a_macro__pattern, a_macro__slots, a_macro__body⟩⟩ ≤ 1048576) (h : AH) (R : AV → AH → Prop) (hR : ∀ h' y_a_macro__pattern y_a_macro__body F, NewL h h' (d + 2) [.int .i64 a_kind, .int .i64 a_num, .int .i64 a_token_cat, .int .i64 a_token_char, .str a_token_name, .fs none (a_macro__pattern.map Token.enc), .int .i64 a_macro__slots, .fs none (a_macro__body.map Token.enc)] [.int .i64 a_kind, .int .i64 a_num, .int .i64 a_token_cat, .int .i64 a_token_char, .str a_token_name, y_a_macro__pattern, .int .i64 a_macro__slots, y_a_macro__body] F → R (.agg [.int .i64 a_kind, .int .i64 a_num, .int .i64 a_token_cat, .int .i64 a_token_char, .str a_token_name, y_a_macro__pattern, .int .i64 a_macro__slots, y_a_macro__body]) h') : CA 173 [.agg [.int .i64 a_kind, .int .i64 a_num, .int .i64 a_token_cat, .int .i64 a_token_char, .str a_token_name, .fs none (a_macro__pattern.map Token.enc), .int .i64 a_macro__slots, .fs none (a_macro__body.map Token.enc)]] h R := by
  refine (ca_iff (af := ac173) rfl).2 ?_
  simp only [Mean.W] at hW
  (iterate 4 ((try simp [ac173, toToken_iff']); (try simp (disch := omega) [ac173, toToken_iff'])))
  refine toMacro_new (d + 0) a_macro__pattern a_macro__slots a_macro__body (by omega) _ _ fun g0 z0_0 z0_1 F0 N0 => ?_
  have o0 := N0.ones rfl
  simp only [List.all_cons, List.all_nil, Bool.and_eq_true, one_int, one_str, one_bool, true_and, and_true] at o0
  (iterate 4 ((try simp [toToken_iff', -AV.one, -AV.cells, cells_agg, cells_one, cells_int, cells_str, cells_bool, cells_fs, one_int, one_str, one_bool, one_nils, one_fs, one_sl, o0]); (try simp (disch := omega) [toToken_iff', -AV.one, -AV.cells, cells_agg, cells_one, cells_int, cells_str, cells_bool, cells_fs, one_int, one_str, one_bool, one_nils, one_fs, one_sl, o0])))
  exact hR _ z0_0 z0_1 _ (NewL.append (flatNewL _ _ (TwL.flat _ rfl) : NewL _ _ (d + 2) [.int .i64 a_kind, .int .i64 a_num, .int .i64 a_token_cat, .int .i64 a_token_char, .str a_token_name] [.int .i64 a_kind, .int .i64 a_num, .int .i64 a_token_cat, .int .i64 a_token_char, .str a_token_name] []) N0)
theorem toMean_iff' (a_kind : Int) (a_num : Int) (a_token_cat : Int) (a_token_char : Int) (a_token_name : ByteArray) (a_macro__pattern : List Token) (a_macro__slots : Int) (a_macro__body : List Token) (hW : Mean.W ⟨a_kind, a_num, ⟨a_token_cat, a_token_char, a_token_name⟩, ⟨a_macro__pattern, a_macro__slots, a_macro__body⟩⟩ ≤ 1048576) (h : AH) (R : AV → AH → Prop) : acallM CA .frz 173 [.agg [.int .i64 a_kind, .int .i64 a_num, .int .i64 a_token_cat, .int .i64 a_token_char, .str a_token_name, .fs none (a_macro__pattern.map Token.enc), .int .i64 a_macro__slots, .fs none (a_macro__body.map Token.enc)]] h R ↔ R (.agg [.int .i64 a_kind, .int .i64 a_num, .int .i64 a_token_cat, .int .i64 a_token_char, .str a_token_name, .fs none (a_macro__pattern.map Token.enc), .int .i64 a_macro__slots, .fs none (a_macro__body.map Token.enc)]) h :=
  own_frz (d := 0 + 2 + 1) (by decide) fun R hR => toMean_new 0 a_kind a_num a_token_cat a_token_char a_token_name a_macro__pattern a_macro__slots a_macro__body hW h R fun h' y_a_macro__pattern y_a_macro__body F N => hR h' _ F N.agg
set_option maxRecDepth 100000 in
theorem toBind_new (d : Nat) (a_name : ByteArray) (a_mean_kind : Int) (a_mean_num : Int) (a_mean_token_cat : Int) (a_mean_token_char : Int) (a_mean_token_name : ByteArray) (a_mean_macro__pattern : List Token) (a_mean_macro__slots : Int) (a_mean_macro__body : List Token) (hW : Bind.W ⟨a_name, ⟨a_mean_kind, a_mean_num, ⟨a_mean_token_cat, a_mean_token_char, a_mean_token_name⟩, ⟨a_mean_macro__pattern, a_mean_macro__slots, a_mean_macro__body⟩⟩⟩ ≤ 1048576) (h : AH) (R : AV → AH → Prop) (hR : ∀ h' y_a_mean_macro__pattern y_a_mean_macro__body F, NewL h h' (d + 2) [.str a_name, .int .i64 a_mean_kind, .int .i64 a_mean_num, .int .i64 a_mean_token_cat, .int .i64 a_mean_token_char, .str a_mean_token_name, .fs none (a_mean_macro__pattern.map Token.enc), .int .i64 a_mean_macro__slots, .fs none (a_mean_macro__body.map Token.enc)] [.str a_name, .int .i64 a_mean_kind, .int .i64 a_mean_num, .int .i64 a_mean_token_cat, .int .i64 a_mean_token_char, .str a_mean_token_name, y_a_mean_macro__pattern, .int .i64 a_mean_macro__slots, y_a_mean_macro__body] F → R (.agg [.str a_name, .int .i64 a_mean_kind, .int .i64 a_mean_num, .int .i64 a_mean_token_cat, .int .i64 a_mean_token_char, .str a_mean_token_name, y_a_mean_macro__pattern, .int .i64 a_mean_macro__slots, y_a_mean_macro__body]) h') : CA 166 [.agg [.str a_name, .int .i64 a_mean_kind, .int .i64 a_mean_num, .int .i64 a_mean_token_cat, .int .i64 a_mean_token_char, .str a_mean_token_name, .fs none (a_mean_macro__pattern.map Token.enc), .int .i64 a_mean_macro__slots, .fs none (a_mean_macro__body.map Token.enc)]] h R := by
  refine (ca_iff (af := ac166) rfl).2 ?_
  simp only [Bind.W] at hW
  (iterate 4 ((try simp [ac166]); (try simp (disch := omega) [ac166])))
  refine toMean_new (d + 0) a_mean_kind a_mean_num a_mean_token_cat a_mean_token_char a_mean_token_name a_mean_macro__pattern a_mean_macro__slots a_mean_macro__body (by omega) _ _ fun g0 z0_0 z0_1 F0 N0 => ?_
  have o0 := N0.ones rfl
  simp only [List.all_cons, List.all_nil, Bool.and_eq_true, one_int, one_str, one_bool, true_and, and_true] at o0
  (iterate 4 ((try simp [-AV.one, -AV.cells, cells_agg, cells_one, cells_int, cells_str, cells_bool, cells_fs, one_int, one_str, one_bool, one_nils, one_fs, one_sl, o0]); (try simp (disch := omega) [-AV.one, -AV.cells, cells_agg, cells_one, cells_int, cells_str, cells_bool, cells_fs, one_int, one_str, one_bool, one_nils, one_fs, one_sl, o0])))
  exact hR _ z0_0 z0_1 _ (NewL.append (flatNewL _ _ (TwL.flat _ rfl) : NewL _ _ (d + 2) [.str a_name] [.str a_name] []) N0)
theorem toBind_iff' (a_name : ByteArray) (a_mean_kind : Int) (a_mean_num : Int) (a_mean_token_cat : Int) (a_mean_token_char : Int) (a_mean_token_name : ByteArray) (a_mean_macro__pattern : List Token) (a_mean_macro__slots : Int) (a_mean_macro__body : List Token) (hW : Bind.W ⟨a_name, ⟨a_mean_kind, a_mean_num, ⟨a_mean_token_cat, a_mean_token_char, a_mean_token_name⟩, ⟨a_mean_macro__pattern, a_mean_macro__slots, a_mean_macro__body⟩⟩⟩ ≤ 1048576) (h : AH) (R : AV → AH → Prop) : acallM CA .frz 166 [.agg [.str a_name, .int .i64 a_mean_kind, .int .i64 a_mean_num, .int .i64 a_mean_token_cat, .int .i64 a_mean_token_char, .str a_mean_token_name, .fs none (a_mean_macro__pattern.map Token.enc), .int .i64 a_mean_macro__slots, .fs none (a_mean_macro__body.map Token.enc)]] h R ↔ R (.agg [.str a_name, .int .i64 a_mean_kind, .int .i64 a_mean_num, .int .i64 a_mean_token_cat, .int .i64 a_mean_token_char, .str a_mean_token_name, .fs none (a_mean_macro__pattern.map Token.enc), .int .i64 a_mean_macro__slots, .fs none (a_mean_macro__body.map Token.enc)]) h :=
  own_frz (d := 0 + 2 + 1) (by decide) fun R hR => toBind_new 0 a_name a_mean_kind a_mean_num a_mean_token_cat a_mean_token_char a_mean_token_name a_mean_macro__pattern a_mean_macro__slots a_mean_macro__body hW h R fun h' y_a_mean_macro__pattern y_a_mean_macro__body F N => hR h' _ F N.agg
theorem toInt64S_new (d : Nat) (xs : List Int) (hW : xs.length ≤ 1048576) (h : AH) (c : Option Nat) (R : AV → AH → Prop) (hR : ∀ h' y F, New h h' (d + 2) (.fs none (xs.map (encI .i64))) y F → R y h') : CA 149 [.fs c (xs.map (encI .i64))] h R :=
  (ca_iff (af := ac149) rfl).2 (tplToIR_ok (bytes := 8) (z := (.int .i64 0)) (encI_ok .i64) (encI_flat .i64) rfl hW (by omega) d h c R hR)
theorem toBindS_new (d : Nat) (xs : List Bind) (hW : WS Bind.W xs ≤ 1048576) (h : AH) (c : Option Nat) (R : AV → AH → Prop) (hR : ∀ h' y F, New h h' (d + 3) (.fs none (xs.map Bind.enc)) y F → R y h') : CA 150 [.fs c (xs.map Bind.enc)] h R :=
  (ca_iff (af := ac150) rfl).2 (tplToR_ok (es := 9) (bytes := 120) (zero := [(.str ⟨#[]⟩), (.int .i64 0), (.int .i64 0), (.int .i64 0), (.int .i64 0), (.str ⟨#[]⟩), .nils, (.int .i64 0), .nils]) (g := true) (f := 166) Bind.ok.toEncOk (by omega) (.inl rfl) rfl rfl (by have := WS_len Bind.W xs; omega) (by omega) (d + 2) h c (fun i hi h1 R hR => toBind_new d (nth xs i).name (nth xs i).mean.kind (nth xs i).mean.num (nth xs i).mean.token.cat (nth xs i).mean.token.char (nth xs i).mean.token.name (nth xs i).mean.macro_.pattern (nth xs i).mean.macro_.slots (nth xs i).mean.macro_.body (show Bind.W (nth xs i) ≤ 1048576 from by have := WS_nth Bind.W hi; omega) h1 R fun h' _ _ F N => hR h' _ F N) R hR)
theorem toGlueS_new (d : Nat) (xs : List Glue) (hW : xs.length ≤ 1048576) (h : AH) (c : Option Nat) (R : AV → AH → Prop) (hR : ∀ h' y F, New h h' (d + 2) (.fs none (xs.map Glue.enc)) y F → R y h') : CA 151 [.fs c (xs.map Glue.enc)] h R :=
  (ca_iff (af := ac151) rfl).2 (tplToR_ok (es := 5) (bytes := 40) (zero := [(.int .i64 0), (.int .i64 0), (.int .i64 0), (.int .i64 0), (.int .i64 0)]) (g := true) (f := 167) Glue.ok.toEncOk (by omega) (.inl rfl) rfl rfl hW (by omega) (d + 1) h c (fun i hi h1 R hR => (toGlue_iff (nth xs i) h1 R).2 (hR _ _ [] (flatNewL _ _ (Glue.flat _ _ _)))) R hR)
theorem toTokenSS_new (d : Nat) (xs : List (List Token)) (hW : WS (WS Token.W) xs ≤ 1048576) (h : AH) (c : Option Nat) (R : AV → AH → Prop) (hR : ∀ h' y F, New h h' (d + 3) (.fs none (xs.map (encS Token.enc))) y F → R y h') : CA 152 [.fs c (xs.map (encS Token.enc))] h R :=
  (ca_iff (af := ac152) rfl).2 (tplToR_ok (es := 1) (bytes := 24) (zero := [.nils]) (g := false) (f := 168) (encS_ok Token.enc).toEncOk (by omega) (.inr rfl) rfl rfl (by have := WS_len (WS Token.W) xs; omega) (by omega) (d + 2) h c (fun i hi h1 R hR => toTokenS_new d (nth xs i) (by have := WS_nth (WS Token.W) hi; omega) h1 none R fun h' v F N => hR h' v F (by rw [N.cells1]; exact N.one)) R hR)
set_option maxRecDepth 100000 in
theorem toLevel_new (d : Nat) (a_cats : List Int) (a_binds : List Bind) (a_counts : List Int) (a_lens : List Int) (a_glues : List Glue) (a_toks : List (List Token)) (hW : Level.W ⟨a_cats, a_binds, a_counts, a_lens, a_glues, a_toks⟩ ≤ 1048576) (h : AH) (R : AV → AH → Prop) (hR : ∀ h' y_a_cats y_a_binds y_a_counts y_a_lens y_a_glues y_a_toks F, NewL h h' (d + 3) [.fs none (a_cats.map (encI .i64)), .fs none (a_binds.map Bind.enc), .fs none (a_counts.map (encI .i64)), .fs none (a_lens.map (encI .i64)), .fs none (a_glues.map Glue.enc), .fs none (a_toks.map (encS Token.enc))] [y_a_cats, y_a_binds, y_a_counts, y_a_lens, y_a_glues, y_a_toks] F → R (.agg [y_a_cats, y_a_binds, y_a_counts, y_a_lens, y_a_glues, y_a_toks]) h') : CA 102 [.agg [.fs none (a_cats.map (encI .i64)), .fs none (a_binds.map Bind.enc), .fs none (a_counts.map (encI .i64)), .fs none (a_lens.map (encI .i64)), .fs none (a_glues.map Glue.enc), .fs none (a_toks.map (encS Token.enc))]] h R := by
  refine (ca_iff (af := ac102) rfl).2 ?_
  simp only [Level.W] at hW
  (iterate 4 ((try simp [ac102]); (try simp (disch := omega) [ac102])))
  refine toInt64S_new (d + 1) a_cats (by omega) _ _ _ fun g0 z0 F0 N0 => ?_
  have o0 := N0.one1
  (iterate 4 ((try simp [-AV.one, -AV.cells, cells_agg, cells_one, cells_int, cells_str, cells_bool, cells_fs, one_int, one_str, one_bool, one_nils, one_fs, one_sl, o0]); (try simp (disch := omega) [-AV.one, -AV.cells, cells_agg, cells_one, cells_int, cells_str, cells_bool, cells_fs, one_int, one_str, one_bool, one_nils, one_fs, one_sl, o0])))
  refine toBindS_new (d + 0) a_binds (by omega) _ _ _ fun g1 z1 F1 N1 => ?_
  have o1 := N1.one1
  (iterate 4 ((try simp [-AV.one, -AV.cells, cells_agg, cells_one, cells_int, cells_str, cells_bool, cells_fs, one_int, one_str, one_bool, one_nils, one_fs, one_sl, o0, o1]); (try simp (disch := omega) [-AV.one, -AV.cells, cells_agg, cells_one, cells_int, cells_str, cells_bool, cells_fs, one_int, one_str, one_bool, one_nils, one_fs, one_sl, o0, o1])))
  refine toInt64S_new (d + 1) a_counts (by omega) _ _ _ fun g2 z2 F2 N2 => ?_
  have o2 := N2.one1
  (iterate 4 ((try simp [-AV.one, -AV.cells, cells_agg, cells_one, cells_int, cells_str, cells_bool, cells_fs, one_int, one_str, one_bool, one_nils, one_fs, one_sl, o0, o1, o2]); (try simp (disch := omega) [-AV.one, -AV.cells, cells_agg, cells_one, cells_int, cells_str, cells_bool, cells_fs, one_int, one_str, one_bool, one_nils, one_fs, one_sl, o0, o1, o2])))
  refine toInt64S_new (d + 1) a_lens (by omega) _ _ _ fun g3 z3 F3 N3 => ?_
  have o3 := N3.one1
  (iterate 4 ((try simp [-AV.one, -AV.cells, cells_agg, cells_one, cells_int, cells_str, cells_bool, cells_fs, one_int, one_str, one_bool, one_nils, one_fs, one_sl, o0, o1, o2, o3]); (try simp (disch := omega) [-AV.one, -AV.cells, cells_agg, cells_one, cells_int, cells_str, cells_bool, cells_fs, one_int, one_str, one_bool, one_nils, one_fs, one_sl, o0, o1, o2, o3])))
  refine toGlueS_new (d + 1) a_glues (by omega) _ _ _ fun g4 z4 F4 N4 => ?_
  have o4 := N4.one1
  (iterate 4 ((try simp [-AV.one, -AV.cells, cells_agg, cells_one, cells_int, cells_str, cells_bool, cells_fs, one_int, one_str, one_bool, one_nils, one_fs, one_sl, o0, o1, o2, o3, o4]); (try simp (disch := omega) [-AV.one, -AV.cells, cells_agg, cells_one, cells_int, cells_str, cells_bool, cells_fs, one_int, one_str, one_bool, one_nils, one_fs, one_sl, o0, o1, o2, o3, o4])))
  refine toTokenSS_new (d + 0) a_toks (by omega) _ _ _ fun g5 z5 F5 N5 => ?_
  have o5 := N5.one1
  (iterate 4 ((try simp [-AV.one, -AV.cells, cells_agg, cells_one, cells_int, cells_str, cells_bool, cells_fs, one_int, one_str, one_bool, one_nils, one_fs, one_sl, o0, o1, o2, o3, o4, o5]); (try simp (disch := omega) [-AV.one, -AV.cells, cells_agg, cells_one, cells_int, cells_str, cells_bool, cells_fs, one_int, one_str, one_bool, one_nils, one_fs, one_sl, o0, o1, o2, o3, o4, o5])))
  exact hR _ z0 z1 z2 z3 z4 z5 _ (NewL.append N0.one (NewL.append N1.one (NewL.append N2.one (NewL.append N3.one (NewL.append N4.one N5.one)))))
theorem toLevel_iff' (a_cats : List Int) (a_binds : List Bind) (a_counts : List Int) (a_lens : List Int) (a_glues : List Glue) (a_toks : List (List Token)) (hW : Level.W ⟨a_cats, a_binds, a_counts, a_lens, a_glues, a_toks⟩ ≤ 1048576) (h : AH) (R : AV → AH → Prop) : acallM CA .frz 102 [.agg [.fs none (a_cats.map (encI .i64)), .fs none (a_binds.map Bind.enc), .fs none (a_counts.map (encI .i64)), .fs none (a_lens.map (encI .i64)), .fs none (a_glues.map Glue.enc), .fs none (a_toks.map (encS Token.enc))]] h R ↔ R (.agg [.fs none (a_cats.map (encI .i64)), .fs none (a_binds.map Bind.enc), .fs none (a_counts.map (encI .i64)), .fs none (a_lens.map (encI .i64)), .fs none (a_glues.map Glue.enc), .fs none (a_toks.map (encS Token.enc))]) h :=
  own_frz (d := 0 + 3 + 1) (by decide) fun R hR => toLevel_new 0 a_cats a_binds a_counts a_lens a_glues a_toks hW h R fun h' y_a_cats y_a_binds y_a_counts y_a_lens y_a_glues y_a_toks F N => hR h' _ F N.agg
theorem toLevelS_new (d : Nat) (xs : List Level) (hW : WS Level.W xs ≤ 1048576) (h : AH) (c : Option Nat) (R : AV → AH → Prop) (hR : ∀ h' y F, New h h' (d + 4) (.fs none (xs.map Level.enc)) y F → R y h') : CA 43 [.fs c (xs.map Level.enc)] h R :=
  (ca_iff (af := ac43) rfl).2 (tplToR_ok (es := 6) (bytes := 144) (zero := [.nils, .nils, .nils, .nils, .nils, .nils]) (g := true) (f := 102) Level.ok.toEncOk (by omega) (.inl rfl) rfl rfl (by have := WS_len Level.W xs; omega) (by omega) (d + 3) h c (fun i hi h1 R hR => toLevel_new d (nth xs i).cats (nth xs i).binds (nth xs i).counts (nth xs i).lens (nth xs i).glues (nth xs i).toks (show Level.W (nth xs i) ≤ 1048576 from by have := WS_nth Level.W hi; omega) h1 R fun h' _ _ _ _ _ _ F N => hR h' _ F N) R hR)
set_option maxRecDepth 100000 in
theorem toEnv_new (d : Nat) (a_levels : List Level) (hW : Env.W ⟨a_levels⟩ ≤ 1048576) (h : AH) (R : AV → AH → Prop) (hR : ∀ h' y_a_levels F, NewL h h' (d + 4) [.fs none (a_levels.map Level.enc)] [y_a_levels] F → R (.agg [y_a_levels]) h') : CA 13 [.agg [.fs none (a_levels.map Level.enc)]] h R := by
  refine (ca_iff (af := ac13) rfl).2 ?_
  simp only [Env.W] at hW
  (iterate 4 ((try simp [ac13]); (try simp (disch := omega) [ac13])))
  refine toLevelS_new (d + 0) a_levels (by omega) _ _ _ fun g0 z0 F0 N0 => ?_
  have o0 := N0.one1
  (iterate 4 ((try simp [-AV.one, -AV.cells, cells_agg, cells_one, cells_int, cells_str, cells_bool, cells_fs, one_int, one_str, one_bool, one_nils, one_fs, one_sl, o0]); (try simp (disch := omega) [-AV.one, -AV.cells, cells_agg, cells_one, cells_int, cells_str, cells_bool, cells_fs, one_int, one_str, one_bool, one_nils, one_fs, one_sl, o0])))
  exact hR _ z0 _ N0.one
theorem toEnv_iff' (a_levels : List Level) (hW : Env.W ⟨a_levels⟩ ≤ 1048576) (h : AH) (R : AV → AH → Prop) : acallM CA .frz 13 [.agg [.fs none (a_levels.map Level.enc)]] h R ↔ R (.agg [.fs none (a_levels.map Level.enc)]) h :=
  own_frz (d := 0 + 4 + 1) (by decide) fun R hR => toEnv_new 0 a_levels hW h R fun h' y_a_levels F N => hR h' _ F N.agg
set_option maxRecDepth 100000 in
theorem heldTokenS_iff (xs : List Token) (hW : WS Token.W xs ≤ 67108864) (n : Int) (h0 : 0 ≤ n) (h1 : n + (ctL Token.ct xs : Nat) ≤ 1152921504606846976) (h : AH) (c0 : Option Nat) (R : AV → AH → Prop) : CA 119 [.fs c0 ((mkL Token.mk_ Token.ct n xs).map Token.enc), .int .i64 n] h R ↔ R (.int .i64 (n + (ctL Token.ct xs : Nat))) h := by
  refine ca_pure (af := ac119) rfl ?_
  have hlen := mkL_len Token.mk_ Token.ct n xs
  simp [ac119]
  refine awp_loop2 caM (fun m s h' => h' = h ∧ ∃ i : Nat, m = xs.length - i ∧ i ≤ xs.length ∧ (s 0 = .fs c0 ((mkL Token.mk_ Token.ct n xs).map Token.enc) ∧ s 1 = .int .i64 (n + (ctL Token.ct (xs.take i) : Nat)) ∧ s 5 = .int .i64 i)) ?_ (n := xs.length) ⟨rfl, 0, by simp, by simp, by simp [ctL]⟩
  rintro m s h' ⟨rfl, i, rfl, hi, s0, s1, s5⟩ K hK hE hQ
  simp [s0, s1, s5, Token.ok.toEncOk.len, hlen]
  by_cases hlt : i < xs.length
  · have hnth := mkL_nth Token.mk_ Token.ct n hlt
    have a1 : ∀ kk, iaddrA 3 (.fs c0 ((mkL Token.mk_ Token.ct n xs).map Token.enc)) (.int kk (i : Int)) h' = some (.fp (Token.enc (nth (mkL Token.mk_ Token.ct n xs) i)) 0, h') := fun kk => by have := Token.ok.toEncOk.iaddr (by omega) c0 (mkL Token.mk_ Token.ct n xs) kk (i : Int) h' (by omega) (by omega); simpa only [Int.toNat_natCast] using this
    rw [hnth] at a1
    have hct := ctL_le Token.ct hlt
    have hct2 := ctL_take Token.ct hlt
    have hwl := WS_len Token.W xs
    have hwn := WS_nth Token.W hlt
    simp only [Token.W] at hwn
    generalize hc : n + (ctL Token.ct (xs.take i) : Nat) = c at *
    have hw : IntKind.wrap .i64 ((i : Int) + 1) = (i : Int) + 1 := wrap_i64 (by omega) (by omega)
    simp only [Token.ct] at hct hct2
    simp only [Token.mk_] at a1
    simp [hlt, s0, s1, s5, a1]
    have w0 : IntKind.wrap .i64 (c + 1) = c + 1 := wrap_i64 (by omega) (by omega)
    simp [s0, s1, s5, a1, w0]
    have w1 : IntKind.wrap .i64 (c + 1 + 1) = c + 1 + 1 := wrap_i64 (by omega) (by omega)
    simp [s0, s1, s5, a1, w0, w1]
    have w2 : IntKind.wrap .i64 (c + 1 + 1 + 1) = c + 1 + 1 + 1 := wrap_i64 (by omega) (by omega)
    simp [s0, s1, s5, a1, w0, w1, w2, mt_iff (c + 1 + 1) (by omega)]
    simp [hw, s0, s1, s5, a1]
    refine hK (xs.length - (i + 1)) _ _ (by omega) ⟨rfl, i + 1, rfl, by omega, by simp [s0], ?_, by simp⟩
    simp [hct2]
    omega
  · obtain rfl : i = xs.length := by omega
    rw [List.take_length] at s1
    simp [hE, s1]
set_option maxRecDepth 100000 in
theorem heldInt64S_iff (xs : List Int) (hW : xs.length ≤ 67108864) (n : Int) (h0 : 0 ≤ n) (h1 : n + (ctL (fun _ => 1) xs : Nat) ≤ 1152921504606846976) (h : AH) (c0 : Option Nat) (R : AV → AH → Prop) : CA 121 [.fs c0 ((mkL (fun n _ => n) (fun _ => 1) n xs).map (encI .i64)), .int .i64 n] h R ↔ R (.int .i64 (n + (ctL (fun _ => 1) xs : Nat))) h := by
  refine ca_pure (af := ac121) rfl ?_
  have hlen := mkL_len (fun n _ => n) (fun _ => 1) n xs
  simp [ac121]
  refine awp_loop2 caM (fun m s h' => h' = h ∧ ∃ i : Nat, m = xs.length - i ∧ i ≤ xs.length ∧ (s 0 = .fs c0 ((mkL (fun n _ => n) (fun _ => 1) n xs).map (encI .i64)) ∧ s 1 = .int .i64 (n + (ctL (fun _ => 1) (xs.take i) : Nat)) ∧ s 5 = .int .i64 i)) ?_ (n := xs.length) ⟨rfl, 0, by simp, by simp, by simp [ctL]⟩
  rintro m s h' ⟨rfl, i, rfl, hi, s0, s1, s5⟩ K hK hE hQ
  simp [s0, s1, s5, (encI_ok .i64).toEncOk.len, hlen]
  by_cases hlt : i < xs.length
  · have hnth := mkL_nth (fun n _ => n) (fun _ => 1) n hlt
    have a1 : ∀ kk, iaddrA 1 (.fs c0 ((mkL (fun n _ => n) (fun _ => 1) n xs).map (encI .i64))) (.int kk (i : Int)) h' = some (.fp ((encI .i64) (nth (mkL (fun n _ => n) (fun _ => 1) n xs) i)) 0, h') := fun kk => by have := (encI_ok .i64).toEncOk.iaddr (by omega) c0 (mkL (fun n _ => n) (fun _ => 1) n xs) kk (i : Int) h' (by omega) (by omega); simpa only [Int.toNat_natCast] using this
    rw [hnth] at a1
    have hct := ctL_le (fun _ => 1) hlt
    have hct2 := ctL_take (fun _ => 1) hlt
    generalize hc : n + (ctL (fun _ => 1) (xs.take i) : Nat) = c at *
    have hw : IntKind.wrap .i64 ((i : Int) + 1) = (i : Int) + 1 := wrap_i64 (by omega) (by omega)
    simp [hlt, s0, s1, s5, a1]
    have w0 : IntKind.wrap .i64 (c + 1) = c + 1 := wrap_i64 (by omega) (by omega)
    simp [s0, s1, s5, a1, w0]
    simp [hw, s0, s1, s5, a1]
    refine hK (xs.length - (i + 1)) _ _ (by omega) ⟨rfl, i + 1, rfl, by omega, by simp [s0], ?_, by simp⟩
    simp [hct2]
    omega
  · obtain rfl : i = xs.length := by omega
    rw [List.take_length] at s1
    simp [hE, s1]
set_option maxRecDepth 100000 in
theorem heldBindS_iff (xs : List Bind) (hW : WS Bind.W xs ≤ 67108864) (n : Int) (h0 : 0 ≤ n) (h1 : n + (ctL Bind.ct xs : Nat) ≤ 1152921504606846976) (h : AH) (c0 : Option Nat) (R : AV → AH → Prop) : CA 122 [.fs c0 ((mkL Bind.mk_ Bind.ct n xs).map Bind.enc), .int .i64 n] h R ↔ R (.int .i64 (n + (ctL Bind.ct xs : Nat))) h := by
  refine ca_pure (af := ac122) rfl ?_
  have hlen := mkL_len Bind.mk_ Bind.ct n xs
  simp [ac122]
  refine awp_loop2 caM (fun m s h' => h' = h ∧ ∃ i : Nat, m = xs.length - i ∧ i ≤ xs.length ∧ (s 0 = .fs c0 ((mkL Bind.mk_ Bind.ct n xs).map Bind.enc) ∧ s 1 = .int .i64 (n + (ctL Bind.ct (xs.take i) : Nat)) ∧ s 5 = .int .i64 i)) ?_ (n := xs.length) ⟨rfl, 0, by simp, by simp, by simp [ctL]⟩
  rintro m s h' ⟨rfl, i, rfl, hi, s0, s1, s5⟩ K hK hE hQ
  simp [s0, s1, s5, Bind.ok.toEncOk.len, hlen]
  by_cases hlt : i < xs.length
  · have hnth := mkL_nth Bind.mk_ Bind.ct n hlt
    have a1 : ∀ kk, iaddrA 9 (.fs c0 ((mkL Bind.mk_ Bind.ct n xs).map Bind.enc)) (.int kk (i : Int)) h' = some (.fp (Bind.enc (nth (mkL Bind.mk_ Bind.ct n xs) i)) 0, h') := fun kk => by have := Bind.ok.toEncOk.iaddr (by omega) c0 (mkL Bind.mk_ Bind.ct n xs) kk (i : Int) h' (by omega) (by omega); simpa only [Int.toNat_natCast] using this
    rw [hnth] at a1
    have hct := ctL_le Bind.ct hlt
    have hct2 := ctL_take Bind.ct hlt
    have hwl := WS_len Bind.W xs
    have hwn := WS_nth Bind.W hlt
    simp only [Bind.W, Macro.W, Mean.W, Token.W] at hwn
    generalize hc : n + (ctL Bind.ct (xs.take i) : Nat) = c at *
    have hw : IntKind.wrap .i64 ((i : Int) + 1) = (i : Int) + 1 := wrap_i64 (by omega) (by omega)
    simp only [Bind.ct] at hct hct2
    simp only [Bind.mk_] at a1
    simp [hlt, s0, s1, s5, a1]
    have w0 : IntKind.wrap .i64 (c + 1) = c + 1 := wrap_i64 (by omega) (by omega)
    simp [s0, s1, s5, a1, w0, mt_iff (c) (by omega)]
    have w1 : IntKind.wrap .i64 (c + 1 + 1) = c + 1 + 1 := wrap_i64 (by omega) (by omega)
    simp [s0, s1, s5, a1, w0, mt_iff (c) (by omega), w1]
    have w2 : IntKind.wrap .i64 (c + 1 + 1 + 1) = c + 1 + 1 + 1 := wrap_i64 (by omega) (by omega)
    simp [s0, s1, s5, a1, w0, mt_iff (c) (by omega), w1, w2]
    have w3 : IntKind.wrap .i64 (c + 1 + 1 + 1 + 1) = c + 1 + 1 + 1 + 1 := wrap_i64 (by omega) (by omega)
    simp [s0, s1, s5, a1, w0, mt_iff (c) (by omega), w1, w2, w3]
    have w4 : IntKind.wrap .i64 (c + 1 + 1 + 1 + 1 + 1) = c + 1 + 1 + 1 + 1 + 1 := wrap_i64 (by omega) (by omega)
    simp [s0, s1, s5, a1, w0, mt_iff (c) (by omega), w1, w2, w3, w4]
    have w5 : IntKind.wrap .i64 (c + 1 + 1 + 1 + 1 + 1 + 1) = c + 1 + 1 + 1 + 1 + 1 + 1 := wrap_i64 (by omega) (by omega)
    simp [s0, s1, s5, a1, w0, mt_iff (c) (by omega), w1, w2, w3, w4, w5, mt_iff (c + 1 + 1 + 1 + 1 + 1) (by omega)]
    refine (heldTokenS_iff (nth xs i).mean.macro_.pattern (by omega) (c + 1 + 1 + 1 + 1 + 1 + 1) (by omega) (by omega) _ _ _).2 ?_
    have nn6 : ¬ c + 1 + 1 + 1 + 1 + 1 + 1 + (ctL Token.ct (nth xs i).mean.macro_.pattern : Nat) < 0 := by omega
    simp [s0, s1, s5, a1, w0, mt_iff (c) (by omega), w1, w2, w3, w4, w5, mt_iff (c + 1 + 1 + 1 + 1 + 1) (by omega), nn6]
    have w7 : IntKind.wrap .i64 (c + 1 + 1 + 1 + 1 + 1 + 1 + (ctL Token.ct (nth xs i).mean.macro_.pattern : Nat) + 1) = c + 1 + 1 + 1 + 1 + 1 + 1 + (ctL Token.ct (nth xs i).mean.macro_.pattern : Nat) + 1 := wrap_i64 (by omega) (by omega)
    simp [s0, s1, s5, a1, w0, mt_iff (c) (by omega), w1, w2, w3, w4, w5, mt_iff (c + 1 + 1 + 1 + 1 + 1) (by omega), nn6, w7]
    refine (heldTokenS_iff (nth xs i).mean.macro_.body (by omega) (c + 1 + 1 + 1 + 1 + 1 + 1 + (ctL Token.ct (nth xs i).mean.macro_.pattern : Nat) + 1) (by omega) (by omega) _ _ _).2 ?_
    have nn8 : ¬ c + 1 + 1 + 1 + 1 + 1 + 1 + (ctL Token.ct (nth xs i).mean.macro_.pattern : Nat) + 1 + (ctL Token.ct (nth xs i).mean.macro_.body : Nat) < 0 := by omega
    simp [s0, s1, s5, a1, w0, mt_iff (c) (by omega), w1, w2, w3, w4, w5, mt_iff (c + 1 + 1 + 1 + 1 + 1) (by omega), nn6, w7, nn8]
    simp [hw, s0, s1, s5, a1]
    refine hK (xs.length - (i + 1)) _ _ (by omega) ⟨rfl, i + 1, rfl, by omega, by simp [s0], ?_, by simp⟩
    simp [hct2]
    omega
  · obtain rfl : i = xs.length := by omega
    rw [List.take_length] at s1
    simp [hE, s1]
set_option maxRecDepth 100000 in
theorem heldGlueS_iff (xs : List Glue) (hW : xs.length ≤ 67108864) (n : Int) (h0 : 0 ≤ n) (h1 : n + (ctL Glue.ct xs : Nat) ≤ 1152921504606846976) (h : AH) (c0 : Option Nat) (R : AV → AH → Prop) : CA 123 [.fs c0 ((mkL Glue.mk_ Glue.ct n xs).map Glue.enc), .int .i64 n] h R ↔ R (.int .i64 (n + (ctL Glue.ct xs : Nat))) h := by
  refine ca_pure (af := ac123) rfl ?_
  have hlen := mkL_len Glue.mk_ Glue.ct n xs
  simp [ac123]
  refine awp_loop2 caM (fun m s h' => h' = h ∧ ∃ i : Nat, m = xs.length - i ∧ i ≤ xs.length ∧ (s 0 = .fs c0 ((mkL Glue.mk_ Glue.ct n xs).map Glue.enc) ∧ s 1 = .int .i64 (n + (ctL Glue.ct (xs.take i) : Nat)) ∧ s 5 = .int .i64 i)) ?_ (n := xs.length) ⟨rfl, 0, by simp, by simp, by simp [ctL]⟩
  rintro m s h' ⟨rfl, i, rfl, hi, s0, s1, s5⟩ K hK hE hQ
  simp [s0, s1, s5, Glue.ok.toEncOk.len, hlen]
  by_cases hlt : i < xs.length
  · have hnth := mkL_nth Glue.mk_ Glue.ct n hlt
    have a1 : ∀ kk, iaddrA 5 (.fs c0 ((mkL Glue.mk_ Glue.ct n xs).map Glue.enc)) (.int kk (i : Int)) h' = some (.fp (Glue.enc (nth (mkL Glue.mk_ Glue.ct n xs) i)) 0, h') := fun kk => by have := Glue.ok.toEncOk.iaddr (by omega) c0 (mkL Glue.mk_ Glue.ct n xs) kk (i : Int) h' (by omega) (by omega); simpa only [Int.toNat_natCast] using this
    rw [hnth] at a1
    have hct := ctL_le Glue.ct hlt
    have hct2 := ctL_take Glue.ct hlt
    generalize hc : n + (ctL Glue.ct (xs.take i) : Nat) = c at *
    have hw : IntKind.wrap .i64 ((i : Int) + 1) = (i : Int) + 1 := wrap_i64 (by omega) (by omega)
    simp only [Glue.ct] at hct hct2
    simp only [Glue.mk_] at a1
    simp [hlt, s0, s1, s5, a1]
    have w0 : IntKind.wrap .i64 (c + 1) = c + 1 := wrap_i64 (by omega) (by omega)
    simp [s0, s1, s5, a1, w0]
    have w1 : IntKind.wrap .i64 (c + 1 + 1) = c + 1 + 1 := wrap_i64 (by omega) (by omega)
    simp [s0, s1, s5, a1, w0, w1]
    have w2 : IntKind.wrap .i64 (c + 1 + 1 + 1) = c + 1 + 1 + 1 := wrap_i64 (by omega) (by omega)
    simp [s0, s1, s5, a1, w0, w1, w2]
    have w3 : IntKind.wrap .i64 (c + 1 + 1 + 1 + 1) = c + 1 + 1 + 1 + 1 := wrap_i64 (by omega) (by omega)
    simp [s0, s1, s5, a1, w0, w1, w2, w3]
    have w4 : IntKind.wrap .i64 (c + 1 + 1 + 1 + 1 + 1) = c + 1 + 1 + 1 + 1 + 1 := wrap_i64 (by omega) (by omega)
    simp [s0, s1, s5, a1, w0, w1, w2, w3, w4]
    simp [hw, s0, s1, s5, a1]
    refine hK (xs.length - (i + 1)) _ _ (by omega) ⟨rfl, i + 1, rfl, by omega, by simp [s0], ?_, by simp⟩
    simp [hct2]
    omega
  · obtain rfl : i = xs.length := by omega
    rw [List.take_length] at s1
    simp [hE, s1]
set_option maxRecDepth 100000 in
theorem heldTokenSS_iff (xs : List (List Token)) (hW : WS (WS Token.W) xs ≤ 67108864) (n : Int) (h0 : 0 ≤ n) (h1 : n + (ctL (ctL Token.ct) xs : Nat) ≤ 1152921504606846976) (h : AH) (c0 : Option Nat) (R : AV → AH → Prop) : CA 124 [.fs c0 ((mkL (mkL Token.mk_ Token.ct) (ctL Token.ct) n xs).map (encS Token.enc)), .int .i64 n] h R ↔ R (.int .i64 (n + (ctL (ctL Token.ct) xs : Nat))) h := by
  refine ca_pure (af := ac124) rfl ?_
  have hlen := mkL_len (mkL Token.mk_ Token.ct) (ctL Token.ct) n xs
  simp [ac124]
  refine awp_loop2 caM (fun m s h' => h' = h ∧ ∃ i : Nat, m = xs.length - i ∧ i ≤ xs.length ∧ (s 0 = .fs c0 ((mkL (mkL Token.mk_ Token.ct) (ctL Token.ct) n xs).map (encS Token.enc)) ∧ s 1 = .int .i64 (n + (ctL (ctL Token.ct) (xs.take i) : Nat)) ∧ s 5 = .int .i64 i)) ?_ (n := xs.length) ⟨rfl, 0, by simp, by simp, by simp [ctL]⟩
  rintro m s h' ⟨rfl, i, rfl, hi, s0, s1, s5⟩ K hK hE hQ
  simp [s0, s1, s5, (encS_ok Token.enc).toEncOk.len, hlen]
  by_cases hlt : i < xs.length
  · have hnth := mkL_nth (mkL Token.mk_ Token.ct) (ctL Token.ct) n hlt
    have a1 : ∀ kk, iaddrA 1 (.fs c0 ((mkL (mkL Token.mk_ Token.ct) (ctL Token.ct) n xs).map (encS Token.enc))) (.int kk (i : Int)) h' = some (.fp ((encS Token.enc) (nth (mkL (mkL Token.mk_ Token.ct) (ctL Token.ct) n xs) i)) 0, h') := fun kk => by have := (encS_ok Token.enc).toEncOk.iaddr (by omega) c0 (mkL (mkL Token.mk_ Token.ct) (ctL Token.ct) n xs) kk (i : Int) h' (by omega) (by omega); simpa only [Int.toNat_natCast] using this
    rw [hnth] at a1
    have hct := ctL_le (ctL Token.ct) hlt
    have hct2 := ctL_take (ctL Token.ct) hlt
    have hwl := WS_len (WS Token.W) xs
    have hwn := WS_nth (WS Token.W) hlt
    generalize hc : n + (ctL (ctL Token.ct) (xs.take i) : Nat) = c at *
    have hw : IntKind.wrap .i64 ((i : Int) + 1) = (i : Int) + 1 := wrap_i64 (by omega) (by omega)
    simp [hlt, s0, s1, s5, a1]
    refine (heldTokenS_iff (nth xs i) (by omega) (c) (by omega) (by omega) _ _ _).2 ?_
    have nn0 : ¬ c + (ctL Token.ct (nth xs i) : Nat) < 0 := by omega
    simp [s0, s1, s5, a1, nn0]
    simp [hw, s0, s1, s5, a1]
    refine hK (xs.length - (i + 1)) _ _ (by omega) ⟨rfl, i + 1, rfl, by omega, by simp [s0], ?_, by simp⟩
    simp [hct2]
    omega
  · obtain rfl : i = xs.length := by omega
    rw [List.take_length] at s1
    simp [hE, s1]
set_option maxRecDepth 100000 in
theorem heldLevelS_iff (xs : List Level) (hW : WS Level.W xs ≤ 67108864) (n : Int) (h0 : 0 ≤ n) (h1 : n + (ctL Level.ct xs : Nat) ≤ 1152921504606846976) (h : AH) (c0 : Option Nat) (R : AV → AH → Prop) : CA 58 [.fs c0 ((mkL Level.mk_ Level.ct n xs).map Level.enc), .int .i64 n] h R ↔ R (.int .i64 (n + (ctL Level.ct xs : Nat))) h := by
  refine ca_pure (af := ac58) rfl ?_
  have hlen := mkL_len Level.mk_ Level.ct n xs
  simp [ac58]
  refine awp_loop2 caM (fun m s h' => h' = h ∧ ∃ i : Nat, m = xs.length - i ∧ i ≤ xs.length ∧ (s 0 = .fs c0 ((mkL Level.mk_ Level.ct n xs).map Level.enc) ∧ s 1 = .int .i64 (n + (ctL Level.ct (xs.take i) : Nat)) ∧ s 5 = .int .i64 i)) ?_ (n := xs.length) ⟨rfl, 0, by simp, by simp, by simp [ctL]⟩
  rintro m s h' ⟨rfl, i, rfl, hi, s0, s1, s5⟩ K hK hE hQ
  simp [s0, s1, s5, Level.ok.toEncOk.len, hlen]
  by_cases hlt : i < xs.length
  · have hnth := mkL_nth Level.mk_ Level.ct n hlt
    have a1 : ∀ kk, iaddrA 6 (.fs c0 ((mkL Level.mk_ Level.ct n xs).map Level.enc)) (.int kk (i : Int)) h' = some (.fp (Level.enc (nth (mkL Level.mk_ Level.ct n xs) i)) 0, h') := fun kk => by have := Level.ok.toEncOk.iaddr (by omega) c0 (mkL Level.mk_ Level.ct n xs) kk (i : Int) h' (by omega) (by omega); simpa only [Int.toNat_natCast] using this
    rw [hnth] at a1
    have hct := ctL_le Level.ct hlt
    have hct2 := ctL_take Level.ct hlt
    have hwl := WS_len Level.W xs
    have hwn := WS_nth Level.W hlt
    simp only [Level.W] at hwn
    generalize hc : n + (ctL Level.ct (xs.take i) : Nat) = c at *
    have hw : IntKind.wrap .i64 ((i : Int) + 1) = (i : Int) + 1 := wrap_i64 (by omega) (by omega)
    simp only [Level.ct] at hct hct2
    simp only [Level.mk_] at a1
    simp [hlt, s0, s1, s5, a1]
    refine (heldInt64S_iff (nth xs i).cats (by omega) (c) (by omega) (by omega) _ _ _).2 ?_
    have nn0 : ¬ c + (ctL (fun _ => 1) (nth xs i).cats : Nat) < 0 := by omega
    simp [s0, s1, s5, a1, nn0]
    refine (heldBindS_iff (nth xs i).binds (by omega) (c + (ctL (fun _ => 1) (nth xs i).cats : Nat)) (by omega) (by omega) _ _ _).2 ?_
    have nn1 : ¬ c + (ctL (fun _ => 1) (nth xs i).cats : Nat) + (ctL Bind.ct (nth xs i).binds : Nat) < 0 := by omega
    simp [s0, s1, s5, a1, nn0, nn1]
    refine (heldInt64S_iff (nth xs i).counts (by omega) (c + (ctL (fun _ => 1) (nth xs i).cats : Nat) + (ctL Bind.ct (nth xs i).binds : Nat)) (by omega) (by omega) _ _ _).2 ?_
    have nn2 : ¬ c + (ctL (fun _ => 1) (nth xs i).cats : Nat) + (ctL Bind.ct (nth xs i).binds : Nat) + (ctL (fun _ => 1) (nth xs i).counts : Nat) < 0 := by omega
    simp [s0, s1, s5, a1, nn0, nn1, nn2]
    refine (heldInt64S_iff (nth xs i).lens (by omega) (c + (ctL (fun _ => 1) (nth xs i).cats : Nat) + (ctL Bind.ct (nth xs i).binds : Nat) + (ctL (fun _ => 1) (nth xs i).counts : Nat)) (by omega) (by omega) _ _ _).2 ?_
    have nn3 : ¬ c + (ctL (fun _ => 1) (nth xs i).cats : Nat) + (ctL Bind.ct (nth xs i).binds : Nat) + (ctL (fun _ => 1) (nth xs i).counts : Nat) + (ctL (fun _ => 1) (nth xs i).lens : Nat) < 0 := by omega
    simp [s0, s1, s5, a1, nn0, nn1, nn2, nn3]
    refine (heldGlueS_iff (nth xs i).glues (by omega) (c + (ctL (fun _ => 1) (nth xs i).cats : Nat) + (ctL Bind.ct (nth xs i).binds : Nat) + (ctL (fun _ => 1) (nth xs i).counts : Nat) + (ctL (fun _ => 1) (nth xs i).lens : Nat)) (by omega) (by omega) _ _ _).2 ?_
    have nn4 : ¬ c + (ctL (fun _ => 1) (nth xs i).cats : Nat) + (ctL Bind.ct (nth xs i).binds : Nat) + (ctL (fun _ => 1) (nth xs i).counts : Nat) + (ctL (fun _ => 1) (nth xs i).lens : Nat) + (ctL Glue.ct (nth xs i).glues : Nat) < 0 := by omega
    simp [s0, s1, s5, a1, nn0, nn1, nn2, nn3, nn4]
    refine (heldTokenSS_iff (nth xs i).toks (by omega) (c + (ctL (fun _ => 1) (nth xs i).cats : Nat) + (ctL Bind.ct (nth xs i).binds : Nat) + (ctL (fun _ => 1) (nth xs i).counts : Nat) + (ctL (fun _ => 1) (nth xs i).lens : Nat) + (ctL Glue.ct (nth xs i).glues : Nat)) (by omega) (by omega) _ _ _).2 ?_
    have nn5 : ¬ c + (ctL (fun _ => 1) (nth xs i).cats : Nat) + (ctL Bind.ct (nth xs i).binds : Nat) + (ctL (fun _ => 1) (nth xs i).counts : Nat) + (ctL (fun _ => 1) (nth xs i).lens : Nat) + (ctL Glue.ct (nth xs i).glues : Nat) + (ctL (ctL Token.ct) (nth xs i).toks : Nat) < 0 := by omega
    simp [s0, s1, s5, a1, nn0, nn1, nn2, nn3, nn4, nn5]
    simp [hw, s0, s1, s5, a1]
    refine hK (xs.length - (i + 1)) _ _ (by omega) ⟨rfl, i + 1, rfl, by omega, by simp [s0], ?_, by simp⟩
    simp [hct2]
    omega
  · obtain rfl : i = xs.length := by omega
    rw [List.take_length] at s1
    simp [hE, s1]
end Go.Proofs.Ytojmemlbajnhhaa
