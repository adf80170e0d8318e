/- Marks, and copies of one's own. -/
import Derived.Test.YtcdkgonmdenakaaEq
import Derived.Test.YtcdkgonmdenakaaBmQ
namespace Go.Proofs.Ytcdkgonmdenakaa
open Go Go.Bm Go.Proofs
set_option linter.all false

theorem mt_iff (n : Int) (hn : n ≤ 1152921504606846976) (h : AH) (R : AV → AH → Prop) : CA 30 [.int .i64 n] h R ↔ R (.str (mtext n)) h := ca_pure (af := ac30) rfl (tplMT_ok n hn h)
def Glue.ct (x : Glue) : Nat := 5
def Glue.mk_ (n : Int) (x : Glue) : Glue := ⟨n, n + 1, n + 1 + 1, n + 1 + 1 + 1, n + 1 + 1 + 1 + 1⟩
theorem Glue.flat : Flat Glue.enc := fun _ _ _ => TwL.flat _ rfl
def Node.ct (x : Node) : Nat := 15
def Node.mk_ (n : Int) (x : Node) : Node := ⟨n, n + 1, n + 1 + 1, n + 1 + 1 + 1, n + 1 + 1 + 1 + 1, n + 1 + 1 + 1 + 1 + 1, n + 1 + 1 + 1 + 1 + 1 + 1, n + 1 + 1 + 1 + 1 + 1 + 1 + 1, ⟨n + 1 + 1 + 1 + 1 + 1 + 1 + 1 + 1, n + 1 + 1 + 1 + 1 + 1 + 1 + 1 + 1 + 1, n + 1 + 1 + 1 + 1 + 1 + 1 + 1 + 1 + 1 + 1, n + 1 + 1 + 1 + 1 + 1 + 1 + 1 + 1 + 1 + 1 + 1, n + 1 + 1 + 1 + 1 + 1 + 1 + 1 + 1 + 1 + 1 + 1 + 1⟩, mtext (n + 1 + 1 + 1 + 1 + 1 + 1 + 1 + 1 + 1 + 1 + 1 + 1 + 1), n + 1 + 1 + 1 + 1 + 1 + 1 + 1 + 1 + 1 + 1 + 1 + 1 + 1 + 1⟩
theorem Node.flat : Flat Node.enc := fun _ _ _ => TwL.flat _ rfl
set_option maxHeartbeats 4000000 in
set_option maxRecDepth 100000 in
theorem markInt64S_ok (d : Nat) {h : AH} {y : AV} {F : List Nat} {xs : List Int} (H : Tw h (d + 2) (.fs none (xs.map (encI .i64))) y F) (nd : F.Nodup) (hW : xs.length ≤ 67108864) (n : Int) (h0 : 0 ≤ n) (h1 : n + (ctL (fun _ => 1) xs : Nat) ≤ 1152921504606846976) (R : AV → AH → Prop) (hR : ∀ h', Tw h' (d + 2) (.fs none ((mkL (fun n _ => n) (fun _ => 1) n xs).map (encI .i64))) y F → h'.next = h.next → (∀ b, b ∉ F → h'.get b = h.get b) → R (.int .i64 (n + (ctL (fun _ => 1) xs : Nat))) h') : CA 14 [y, .int .i64 n] h R := by
  refine (ca_iff (af := ac14) rfl).2 ?_
  simp [ac14]
  refine awp_loop2 caM (fun m s h' => ∃ i : Nat, m = xs.length - i ∧ i ≤ xs.length ∧ (s 0 = y ∧ s 1 = .int .i64 (n + (ctL (fun _ => 1) (xs.take i) : Nat)) ∧ s 5 = .int .i64 i) ∧ Tw h' (d + 2) (.fs none ((mkU (fun n _ => n) (fun _ => 1) n xs i).map (encI .i64))) y F ∧ h'.next = h.next ∧ (∀ b, b ∉ F → h'.get b = h.get b)) ?_ (n := xs.length) ⟨0, by simp, by simp, by simp [ctL], by rw [mkU_zero]; exact H, rfl, fun _ _ => rfl⟩
  rintro m s h' ⟨i, rfl, hi, ⟨s0, s1, s5⟩, T, hn, hk⟩ K hK hE hQ
  have hlen := mkU_len (fun n _ => n) (fun _ => 1) n xs i
  have hl := Tw.lenA T
  simp [s0, s1, s5, hl, hlen]
  by_cases hlt : i < xs.length
  · have A0 := Arr.open_ (encI_ok .i64).toEncOk (by omega) T nd (i := i) (by omega)
    rw [mkU_nth (fun n _ => n) (fun _ => 1) n hlt] at A0
    have ia : ∀ h2, iaddrA 1 y (.int .i64 (i : Int)) h2 = some (elt 1 y i 0, h2) := fun h2 => by have := Tw.iaddrA (encI_ok .i64).toEncOk (by omega) T h2 .i64 (i : Int) (by omega) (by omega); simpa using this
    have hct := ctL_le (fun _ => 1) hlt
    have hct2 := ctL_take (fun _ => 1) hlt
    have hsucc := mkU_succ (fun n _ => n) (fun _ => 1) n hlt
    generalize hc : n + (ctL (fun _ => 1) (xs.take i) : Nat) = c at *
    have hw : IntKind.wrap .i64 ((i : Int) + 1) = (i : Int) + 1 := wrap_i64 (by omega) (by omega)
    simp [-faddrA, hlt, s0, s1, s5, ia, faddrA_elt]
    obtain ⟨g0, e0, A1, q0, k0⟩ := A0.store (off := 0) (x := .int .i64 (c)) rfl rfl rfl rfl rfl
    have w0 : IntKind.wrap .i64 (c + 1) = c + 1 := wrap_i64 (by omega) (by omega)
    simp [e0, w0, -faddrA, ia, faddrA_elt, s0, s1, s5]
    have T2 := (show Arr g0 _ 1 (encI .i64) y _ i ((encI .i64) c) F from A1).close
    rw [hsucc] at T2
    simp [hw, s0, s1, s5]
    refine hK (xs.length - (i + 1)) _ _ (by omega) ⟨i + 1, rfl, by omega, ⟨by simp [s0], ?_, by simp⟩, T2, q0.trans (hn), fun b hb => (k0 b hb).trans (hk b hb)⟩
    simp [hct2]
    omega
  · obtain rfl : i = xs.length := by omega
    rw [mkU_all] at T
    rw [List.take_length] at s1
    simp [hE, s1]
    exact hR h' T hn hk
set_option maxRecDepth 100000 in
theorem heldInt64S_iff (xs : List Int) (hW : xs.length ≤ 67108864) (n : Int) (h0 : 0 ≤ n) (h1 : n + (ctL (fun _ => 1) xs : Nat) ≤ 1152921504606846976) (h : AH) (c0 : Option Nat) (R : AV → AH → Prop) : CA 15 [.fs c0 ((mkL (fun n _ => n) (fun _ => 1) n xs).map (encI .i64)), .int .i64 n] h R ↔ R (.int .i64 (n + (ctL (fun _ => 1) xs : Nat))) h := by
  refine ca_pure (af := ac15) rfl ?_
  have hlen := mkL_len (fun n _ => n) (fun _ => 1) n xs
  simp [ac15]
  refine awp_loop2 caM (fun m s h' => h' = h ∧ ∃ i : Nat, m = xs.length - i ∧ i ≤ xs.length ∧ (s 0 = .fs c0 ((mkL (fun n _ => n) (fun _ => 1) n xs).map (encI .i64)) ∧ s 1 = .int .i64 (n + (ctL (fun _ => 1) (xs.take i) : Nat)) ∧ s 5 = .int .i64 i)) ?_ (n := xs.length) ⟨rfl, 0, by simp, by simp, by simp [ctL]⟩
  rintro m s h' ⟨rfl, i, rfl, hi, s0, s1, s5⟩ K hK hE hQ
  simp [s0, s1, s5, (encI_ok .i64).toEncOk.len, hlen]
  by_cases hlt : i < xs.length
  · have hnth := mkL_nth (fun n _ => n) (fun _ => 1) n hlt
    have a1 : ∀ kk, iaddrA 1 (.fs c0 ((mkL (fun n _ => n) (fun _ => 1) n xs).map (encI .i64))) (.int kk (i : Int)) h' = some (.fp ((encI .i64) (nth (mkL (fun n _ => n) (fun _ => 1) n xs) i)) 0, h') := fun kk => by have := (encI_ok .i64).toEncOk.iaddr (by omega) c0 (mkL (fun n _ => n) (fun _ => 1) n xs) kk (i : Int) h' (by omega) (by omega); simpa only [Int.toNat_natCast] using this
    rw [hnth] at a1
    have hct := ctL_le (fun _ => 1) hlt
    have hct2 := ctL_take (fun _ => 1) hlt
    generalize hc : n + (ctL (fun _ => 1) (xs.take i) : Nat) = c at *
    have hw : IntKind.wrap .i64 ((i : Int) + 1) = (i : Int) + 1 := wrap_i64 (by omega) (by omega)
    simp [hlt, s0, s1, s5, a1]
    have w0 : IntKind.wrap .i64 (c + 1) = c + 1 := wrap_i64 (by omega) (by omega)
    simp [s0, s1, s5, a1, w0]
    simp [hw, s0, s1, s5, a1]
    refine hK (xs.length - (i + 1)) _ _ (by omega) ⟨rfl, i + 1, rfl, by omega, by simp [s0], ?_, by simp⟩
    simp [hct2]
    omega
  · obtain rfl : i = xs.length := by omega
    rw [List.take_length] at s1
    simp [hE, s1]
set_option maxHeartbeats 4000000 in
set_option maxRecDepth 100000 in
theorem markNodeS_ok (d : Nat) {h : AH} {y : AV} {F : List Nat} {xs : List Node} (H : Tw h (d + 2) (.fs none (xs.map Node.enc)) y F) (nd : F.Nodup) (hW : WS Node.W xs ≤ 67108864) (n : Int) (h0 : 0 ≤ n) (h1 : n + (ctL Node.ct xs : Nat) ≤ 1152921504606846976) (R : AV → AH → Prop) (hR : ∀ h', Tw h' (d + 2) (.fs none ((mkL Node.mk_ Node.ct n xs).map Node.enc)) y F → h'.next = h.next → (∀ b, b ∉ F → h'.get b = h.get b) → R (.int .i64 (n + (ctL Node.ct xs : Nat))) h') : CA 13 [y, .int .i64 n] h R := by
  refine (ca_iff (af := ac13) rfl).2 ?_
  simp [ac13]
  refine awp_loop2 caM (fun m s h' => ∃ i : Nat, m = xs.length - i ∧ i ≤ xs.length ∧ (s 0 = y ∧ s 1 = .int .i64 (n + (ctL Node.ct (xs.take i) : Nat)) ∧ s 5 = .int .i64 i) ∧ Tw h' (d + 2) (.fs none ((mkU Node.mk_ Node.ct n xs i).map Node.enc)) y F ∧ h'.next = h.next ∧ (∀ b, b ∉ F → h'.get b = h.get b)) ?_ (n := xs.length) ⟨0, by simp, by simp, by simp [ctL], by rw [mkU_zero]; exact H, rfl, fun _ _ => rfl⟩
  rintro m s h' ⟨i, rfl, hi, ⟨s0, s1, s5⟩, T, hn, hk⟩ K hK hE hQ
  have hlen := mkU_len Node.mk_ Node.ct n xs i
  have hl := Tw.lenA T
  simp [s0, s1, s5, hl, hlen]
  by_cases hlt : i < xs.length
  · have A0 := Arr.open_ Node.ok.toEncOk (by omega) T nd (i := i) (by omega)
    rw [mkU_nth Node.mk_ Node.ct n hlt] at A0
    have ia : ∀ h2, iaddrA 15 y (.int .i64 (i : Int)) h2 = some (elt 15 y i 0, h2) := fun h2 => by have := Tw.iaddrA Node.ok.toEncOk (by omega) T h2 .i64 (i : Int) (by omega) (by omega); simpa using this
    have hwl := WS_len Node.W xs
    have hwn := WS_nth Node.W hlt
    simp only [Node.W] at hwn
    have hct := ctL_le Node.ct hlt
    have hct2 := ctL_take Node.ct hlt
    have hsucc := mkU_succ Node.mk_ Node.ct n hlt
    generalize hc : n + (ctL Node.ct (xs.take i) : Nat) = c at *
    have hw : IntKind.wrap .i64 ((i : Int) + 1) = (i : Int) + 1 := wrap_i64 (by omega) (by omega)
    simp [-faddrA, hlt, s0, s1, s5, ia, faddrA_elt]
    simp only [Node.ct] at hct hct2
    obtain ⟨g0, e0, B0, q0, k0⟩ := A0.store (off := 0) (x := .int .i64 c) rfl rfl rfl rfl rfl
    have A1 := (show Arr g0 _ 15 Node.enc y _ i [.int .i64 c, .int .i64 (nth xs i).width, .int .i64 (nth xs i).height, .int .i64 (nth xs i).depth, .int .i64 (nth xs i).shift, .int .i64 (nth xs i).font, .int .i64 (nth xs i).char, .int .i64 (nth xs i).n, .int .i64 (nth xs i).glue.size, .int .i64 (nth xs i).glue.plus, .int .i64 (nth xs i).glue.plusOrder, .int .i64 (nth xs i).glue.minus, .int .i64 (nth xs i).glue.minusOrder, .str (nth xs i).text, .int .i64 (nth xs i).kids] F from B0)
    clear B0 A0
    obtain ⟨c0, hc0⟩ : ∃ z, z = c + 1 := ⟨_, rfl⟩
    have w0 : IntKind.wrap .i64 (c + 1) = c0 := by rw [hc0]; exact wrap_i64 (by omega) (by omega)
    simp [e0, w0, -faddrA, ia, faddrA_elt, s0, s1, s5]
    clear e0 w0
    obtain ⟨g1, e1, B1, q1, k1⟩ := A1.store (off := 1) (x := .int .i64 c0) rfl rfl rfl rfl rfl
    have A2 := (show Arr g1 _ 15 Node.enc y _ i [.int .i64 c, .int .i64 c0, .int .i64 (nth xs i).height, .int .i64 (nth xs i).depth, .int .i64 (nth xs i).shift, .int .i64 (nth xs i).font, .int .i64 (nth xs i).char, .int .i64 (nth xs i).n, .int .i64 (nth xs i).glue.size, .int .i64 (nth xs i).glue.plus, .int .i64 (nth xs i).glue.plusOrder, .int .i64 (nth xs i).glue.minus, .int .i64 (nth xs i).glue.minusOrder, .str (nth xs i).text, .int .i64 (nth xs i).kids] F from B1)
    clear B1 A1
    obtain ⟨c1, hc1⟩ : ∃ z, z = c0 + 1 := ⟨_, rfl⟩
    have w1 : IntKind.wrap .i64 (c0 + 1) = c1 := by rw [hc1]; exact wrap_i64 (by omega) (by omega)
    simp [e1, w1, -faddrA, ia, faddrA_elt, s0, s1, s5]
    clear e1 w1
    obtain ⟨g2, e2, B2, q2, k2⟩ := A2.store (off := 2) (x := .int .i64 c1) rfl rfl rfl rfl rfl
    have A3 := (show Arr g2 _ 15 Node.enc y _ i [.int .i64 c, .int .i64 c0, .int .i64 c1, .int .i64 (nth xs i).depth, .int .i64 (nth xs i).shift, .int .i64 (nth xs i).font, .int .i64 (nth xs i).char, .int .i64 (nth xs i).n, .int .i64 (nth xs i).glue.size, .int .i64 (nth xs i).glue.plus, .int .i64 (nth xs i).glue.plusOrder, .int .i64 (nth xs i).glue.minus, .int .i64 (nth xs i).glue.minusOrder, .str (nth xs i).text, .int .i64 (nth xs i).kids] F from B2)
    clear B2 A2
    obtain ⟨c2, hc2⟩ : ∃ z, z = c1 + 1 := ⟨_, rfl⟩
    have w2 : IntKind.wrap .i64 (c1 + 1) = c2 := by rw [hc2]; exact wrap_i64 (by omega) (by omega)
    simp [e2, w2, -faddrA, ia, faddrA_elt, s0, s1, s5]
    clear e2 w2
    obtain ⟨g3, e3, B3, q3, k3⟩ := A3.store (off := 3) (x := .int .i64 c2) rfl rfl rfl rfl rfl
    have A4 := (show Arr g3 _ 15 Node.enc y _ i [.int .i64 c, .int .i64 c0, .int .i64 c1, .int .i64 c2, .int .i64 (nth xs i).shift, .int .i64 (nth xs i).font, .int .i64 (nth xs i).char, .int .i64 (nth xs i).n, .int .i64 (nth xs i).glue.size, .int .i64 (nth xs i).glue.plus, .int .i64 (nth xs i).glue.plusOrder, .int .i64 (nth xs i).glue.minus, .int .i64 (nth xs i).glue.minusOrder, .str (nth xs i).text, .int .i64 (nth xs i).kids] F from B3)
    clear B3 A3
    obtain ⟨c3, hc3⟩ : ∃ z, z = c2 + 1 := ⟨_, rfl⟩
    have w3 : IntKind.wrap .i64 (c2 + 1) = c3 := by rw [hc3]; exact wrap_i64 (by omega) (by omega)
    simp [e3, w3, -faddrA, ia, faddrA_elt, s0, s1, s5]
    clear e3 w3
    obtain ⟨g4, e4, B4, q4, k4⟩ := A4.store (off := 4) (x := .int .i64 c3) rfl rfl rfl rfl rfl
    have A5 := (show Arr g4 _ 15 Node.enc y _ i [.int .i64 c, .int .i64 c0, .int .i64 c1, .int .i64 c2, .int .i64 c3, .int .i64 (nth xs i).font, .int .i64 (nth xs i).char, .int .i64 (nth xs i).n, .int .i64 (nth xs i).glue.size, .int .i64 (nth xs i).glue.plus, .int .i64 (nth xs i).glue.plusOrder, .int .i64 (nth xs i).glue.minus, .int .i64 (nth xs i).glue.minusOrder, .str (nth xs i).text, .int .i64 (nth xs i).kids] F from B4)
    clear B4 A4
    obtain ⟨c4, hc4⟩ : ∃ z, z = c3 + 1 := ⟨_, rfl⟩
    have w4 : IntKind.wrap .i64 (c3 + 1) = c4 := by rw [hc4]; exact wrap_i64 (by omega) (by omega)
    simp [e4, w4, -faddrA, ia, faddrA_elt, s0, s1, s5]
    clear e4 w4
    obtain ⟨g5, e5, B5, q5, k5⟩ := A5.store (off := 5) (x := .int .i64 c4) rfl rfl rfl rfl rfl
    have A6 := (show Arr g5 _ 15 Node.enc y _ i [.int .i64 c, .int .i64 c0, .int .i64 c1, .int .i64 c2, .int .i64 c3, .int .i64 c4, .int .i64 (nth xs i).char, .int .i64 (nth xs i).n, .int .i64 (nth xs i).glue.size, .int .i64 (nth xs i).glue.plus, .int .i64 (nth xs i).glue.plusOrder, .int .i64 (nth xs i).glue.minus, .int .i64 (nth xs i).glue.minusOrder, .str (nth xs i).text, .int .i64 (nth xs i).kids] F from B5)
    clear B5 A5
    obtain ⟨c5, hc5⟩ : ∃ z, z = c4 + 1 := ⟨_, rfl⟩
    have w5 : IntKind.wrap .i64 (c4 + 1) = c5 := by rw [hc5]; exact wrap_i64 (by omega) (by omega)
    simp [e5, w5, -faddrA, ia, faddrA_elt, s0, s1, s5]
    clear e5 w5
    obtain ⟨g6, e6, B6, q6, k6⟩ := A6.store (off := 6) (x := .int .i64 c5) rfl rfl rfl rfl rfl
    have A7 := (show Arr g6 _ 15 Node.enc y _ i [.int .i64 c, .int .i64 c0, .int .i64 c1, .int .i64 c2, .int .i64 c3, .int .i64 c4, .int .i64 c5, .int .i64 (nth xs i).n, .int .i64 (nth xs i).glue.size, .int .i64 (nth xs i).glue.plus, .int .i64 (nth xs i).glue.plusOrder, .int .i64 (nth xs i).glue.minus, .int .i64 (nth xs i).glue.minusOrder, .str (nth xs i).text, .int .i64 (nth xs i).kids] F from B6)
    clear B6 A6
    obtain ⟨c6, hc6⟩ : ∃ z, z = c5 + 1 := ⟨_, rfl⟩
    have w6 : IntKind.wrap .i64 (c5 + 1) = c6 := by rw [hc6]; exact wrap_i64 (by omega) (by omega)
    simp [e6, w6, -faddrA, ia, faddrA_elt, s0, s1, s5]
    clear e6 w6
    obtain ⟨g7, e7, B7, q7, k7⟩ := A7.store (off := 7) (x := .int .i64 c6) rfl rfl rfl rfl rfl
    have A8 := (show Arr g7 _ 15 Node.enc y _ i [.int .i64 c, .int .i64 c0, .int .i64 c1, .int .i64 c2, .int .i64 c3, .int .i64 c4, .int .i64 c5, .int .i64 c6, .int .i64 (nth xs i).glue.size, .int .i64 (nth xs i).glue.plus, .int .i64 (nth xs i).glue.plusOrder, .int .i64 (nth xs i).glue.minus, .int .i64 (nth xs i).glue.minusOrder, .str (nth xs i).text, .int .i64 (nth xs i).kids] F from B7)
    clear B7 A7
    obtain ⟨c7, hc7⟩ : ∃ z, z = c6 + 1 := ⟨_, rfl⟩
    have w7 : IntKind.wrap .i64 (c6 + 1) = c7 := by rw [hc7]; exact wrap_i64 (by omega) (by omega)
    simp [e7, w7, -faddrA, ia, faddrA_elt, s0, s1, s5]
    clear e7 w7
    obtain ⟨g8, e8, B8, q8, k8⟩ := A8.store (off := 8) (x := .int .i64 c7) rfl rfl rfl rfl rfl
    have A9 := (show Arr g8 _ 15 Node.enc y _ i [.int .i64 c, .int .i64 c0, .int .i64 c1, .int .i64 c2, .int .i64 c3, .int .i64 c4, .int .i64 c5, .int .i64 c6, .int .i64 c7, .int .i64 (nth xs i).glue.plus, .int .i64 (nth xs i).glue.plusOrder, .int .i64 (nth xs i).glue.minus, .int .i64 (nth xs i).glue.minusOrder, .str (nth xs i).text, .int .i64 (nth xs i).kids] F from B8)
    clear B8 A8
    obtain ⟨c8, hc8⟩ : ∃ z, z = c7 + 1 := ⟨_, rfl⟩
    have w8 : IntKind.wrap .i64 (c7 + 1) = c8 := by rw [hc8]; exact wrap_i64 (by omega) (by omega)
    simp [e8, w8, -faddrA, ia, faddrA_elt, s0, s1, s5]
    clear e8 w8
    obtain ⟨g9, e9, B9, q9, k9⟩ := A9.store (off := 9) (x := .int .i64 c8) rfl rfl rfl rfl rfl
    have A10 := (show Arr g9 _ 15 Node.enc y _ i [.int .i64 c, .int .i64 c0, .int .i64 c1, .int .i64 c2, .int .i64 c3, .int .i64 c4, .int .i64 c5, .int .i64 c6, .int .i64 c7, .int .i64 c8, .int .i64 (nth xs i).glue.plusOrder, .int .i64 (nth xs i).glue.minus, .int .i64 (nth xs i).glue.minusOrder, .str (nth xs i).text, .int .i64 (nth xs i).kids] F from B9)
    clear B9 A9
    obtain ⟨c9, hc9⟩ : ∃ z, z = c8 + 1 := ⟨_, rfl⟩
    have w9 : IntKind.wrap .i64 (c8 + 1) = c9 := by rw [hc9]; exact wrap_i64 (by omega) (by omega)
    simp [e9, w9, -faddrA, ia, faddrA_elt, s0, s1, s5]
    clear e9 w9
    obtain ⟨g10, e10, B10, q10, k10⟩ := A10.store (off := 10) (x := .int .i64 c9) rfl rfl rfl rfl rfl
    have A11 := (show Arr g10 _ 15 Node.enc y _ i [.int .i64 c, .int .i64 c0, .int .i64 c1, .int .i64 c2, .int .i64 c3, .int .i64 c4, .int .i64 c5, .int .i64 c6, .int .i64 c7, .int .i64 c8, .int .i64 c9, .int .i64 (nth xs i).glue.minus, .int .i64 (nth xs i).glue.minusOrder, .str (nth xs i).text, .int .i64 (nth xs i).kids] F from B10)
    clear B10 A10
    obtain ⟨c10, hc10⟩ : ∃ z, z = c9 + 1 := ⟨_, rfl⟩
    have w10 : IntKind.wrap .i64 (c9 + 1) = c10 := by rw [hc10]; exact wrap_i64 (by omega) (by omega)
    simp [e10, w10, -faddrA, ia, faddrA_elt, s0, s1, s5]
    clear e10 w10
    obtain ⟨g11, e11, B11, q11, k11⟩ := A11.store (off := 11) (x := .int .i64 c10) rfl rfl rfl rfl rfl
    have A12 := (show Arr g11 _ 15 Node.enc y _ i [.int .i64 c, .int .i64 c0, .int .i64 c1, .int .i64 c2, .int .i64 c3, .int .i64 c4, .int .i64 c5, .int .i64 c6, .int .i64 c7, .int .i64 c8, .int .i64 c9, .int .i64 c10, .int .i64 (nth xs i).glue.minusOrder, .str (nth xs i).text, .int .i64 (nth xs i).kids] F from B11)
    clear B11 A11
    obtain ⟨c11, hc11⟩ : ∃ z, z = c10 + 1 := ⟨_, rfl⟩
    have w11 : IntKind.wrap .i64 (c10 + 1) = c11 := by rw [hc11]; exact wrap_i64 (by omega) (by omega)
    simp [e11, w11, -faddrA, ia, faddrA_elt, s0, s1, s5]
    clear e11 w11
    obtain ⟨g12, e12, B12, q12, k12⟩ := A12.store (off := 12) (x := .int .i64 c11) rfl rfl rfl rfl rfl
    have A13 := (show Arr g12 _ 15 Node.enc y _ i [.int .i64 c, .int .i64 c0, .int .i64 c1, .int .i64 c2, .int .i64 c3, .int .i64 c4, .int .i64 c5, .int .i64 c6, .int .i64 c7, .int .i64 c8, .int .i64 c9, .int .i64 c10, .int .i64 c11, .str (nth xs i).text, .int .i64 (nth xs i).kids] F from B12)
    clear B12 A12
    obtain ⟨c12, hc12⟩ : ∃ z, z = c11 + 1 := ⟨_, rfl⟩
    have w12 : IntKind.wrap .i64 (c11 + 1) = c12 := by rw [hc12]; exact wrap_i64 (by omega) (by omega)
    simp [e12, w12, -faddrA, ia, faddrA_elt, s0, s1, s5]
    clear e12 w12
    simp [mt_iff c12 (by omega), -faddrA, ia, faddrA_elt, s0, s1, s5]
    obtain ⟨g13, e13, B13, q13, k13⟩ := A13.store (off := 13) (x := .str (mtext c12)) rfl rfl rfl rfl rfl
    have A14 := (show Arr g13 _ 15 Node.enc y _ i [.int .i64 c, .int .i64 c0, .int .i64 c1, .int .i64 c2, .int .i64 c3, .int .i64 c4, .int .i64 c5, .int .i64 c6, .int .i64 c7, .int .i64 c8, .int .i64 c9, .int .i64 c10, .int .i64 c11, .str (mtext c12), .int .i64 (nth xs i).kids] F from B13)
    clear B13 A13
    obtain ⟨c13, hc13⟩ : ∃ z, z = c12 + 1 := ⟨_, rfl⟩
    have w13 : IntKind.wrap .i64 (c12 + 1) = c13 := by rw [hc13]; exact wrap_i64 (by omega) (by omega)
    simp [e13, w13, -faddrA, ia, faddrA_elt, s0, s1, s5]
    clear e13 w13
    obtain ⟨g14, e14, B14, q14, k14⟩ := A14.store (off := 14) (x := .int .i64 c13) rfl rfl rfl rfl rfl
    have A15 := (show Arr g14 _ 15 Node.enc y _ i [.int .i64 c, .int .i64 c0, .int .i64 c1, .int .i64 c2, .int .i64 c3, .int .i64 c4, .int .i64 c5, .int .i64 c6, .int .i64 c7, .int .i64 c8, .int .i64 c9, .int .i64 c10, .int .i64 c11, .str (mtext c12), .int .i64 c13] F from B14)
    clear B14 A14
    obtain ⟨c14, hc14⟩ : ∃ z, z = c13 + 1 := ⟨_, rfl⟩
    have w14 : IntKind.wrap .i64 (c13 + 1) = c14 := by rw [hc14]; exact wrap_i64 (by omega) (by omega)
    simp [e14, w14, -faddrA, ia, faddrA_elt, s0, s1, s5]
    clear e14 w14
    have T2 := (show Arr g14 _ 15 Node.enc y _ i (Node.enc (Node.mk_ c (nth xs i))) F from by simp only [hc0, hc1, hc2, hc3, hc4, hc5, hc6, hc7, hc8, hc9, hc10, hc11, hc12, hc13, hc14] at A15; exact A15).close
    rw [hsucc] at T2
    simp [hw, s0, s1, s5]
    refine hK (xs.length - (i + 1)) _ _ (by omega) ⟨i + 1, rfl, by omega, ⟨by simp [s0], ?_, by simp⟩, T2, q14.trans (q13.trans (q12.trans (q11.trans (q10.trans (q9.trans (q8.trans (q7.trans (q6.trans (q5.trans (q4.trans (q3.trans (q2.trans (q1.trans (q0.trans (hn))))))))))))))), fun b hb => (k14 b hb).trans ((k13 b hb).trans ((k12 b hb).trans ((k11 b hb).trans ((k10 b hb).trans ((k9 b hb).trans ((k8 b hb).trans ((k7 b hb).trans ((k6 b hb).trans ((k5 b hb).trans ((k4 b hb).trans ((k3 b hb).trans ((k2 b hb).trans ((k1 b hb).trans ((k0 b hb).trans (hk b hb)))))))))))))))⟩
    simp [hct2]
    omega
  · obtain rfl : i = xs.length := by omega
    rw [mkU_all] at T
    rw [List.take_length] at s1
    simp [hE, s1]
    exact hR h' T hn hk
theorem toNodeS_new (d : Nat) (xs : List Node) (hW : WS Node.W xs ≤ 1048576) (h : AH) (c : Option Nat) (R : AV → AH → Prop) (hR : ∀ h' y F, New h h' (d + 2) (.fs none (xs.map Node.enc)) y F → R y h') : CA 8 [.fs c (xs.map Node.enc)] h R :=
  (ca_iff (af := ac8) rfl).2 (tplToR_ok (es := 15) (bytes := 128) (zero := [(.int .i64 0), (.int .i64 0), (.int .i64 0), (.int .i64 0), (.int .i64 0), (.int .i64 0), (.int .i64 0), (.int .i64 0), (.int .i64 0), (.int .i64 0), (.int .i64 0), (.int .i64 0), (.int .i64 0), (.str ⟨#[]⟩), (.int .i64 0)]) (g := true) (f := 26) Node.ok.toEncOk (by omega) (.inl rfl) rfl rfl (by have := WS_len Node.W xs; omega) (by omega) (d + 1) h c (fun i hi h1 R hR => (toNode_iff (nth xs i) (by have := WS_nth Node.W hi; omega) h1 R).2 (hR _ _ [] (flatNewL _ _ (Node.flat _ _ _)))) R hR)
set_option maxRecDepth 100000 in
theorem heldNodeS_iff (xs : List Node) (hW : WS Node.W xs ≤ 67108864) (n : Int) (h0 : 0 ≤ n) (h1 : n + (ctL Node.ct xs : Nat) ≤ 1152921504606846976) (h : AH) (c0 : Option Nat) (R : AV → AH → Prop) : CA 18 [.fs c0 ((mkL Node.mk_ Node.ct n xs).map Node.enc), .int .i64 n] h R ↔ R (.int .i64 (n + (ctL Node.ct xs : Nat))) h := by
  refine ca_pure (af := ac18) rfl ?_
  have hlen := mkL_len Node.mk_ Node.ct n xs
  simp [ac18]
  refine awp_loop2 caM (fun m s h' => h' = h ∧ ∃ i : Nat, m = xs.length - i ∧ i ≤ xs.length ∧ (s 0 = .fs c0 ((mkL Node.mk_ Node.ct n xs).map Node.enc) ∧ s 1 = .int .i64 (n + (ctL Node.ct (xs.take i) : Nat)) ∧ s 5 = .int .i64 i)) ?_ (n := xs.length) ⟨rfl, 0, by simp, by simp, by simp [ctL]⟩
  rintro m s h' ⟨rfl, i, rfl, hi, s0, s1, s5⟩ K hK hE hQ
  simp [s0, s1, s5, Node.ok.toEncOk.len, hlen]
  by_cases hlt : i < xs.length
  · have hnth := mkL_nth Node.mk_ Node.ct n hlt
    have a1 : ∀ kk, iaddrA 15 (.fs c0 ((mkL Node.mk_ Node.ct n xs).map Node.enc)) (.int kk (i : Int)) h' = some (.fp (Node.enc (nth (mkL Node.mk_ Node.ct n xs) i)) 0, h') := fun kk => by have := Node.ok.toEncOk.iaddr (by omega) c0 (mkL Node.mk_ Node.ct n xs) kk (i : Int) h' (by omega) (by omega); simpa only [Int.toNat_natCast] using this
    rw [hnth] at a1
    have hct := ctL_le Node.ct hlt
    have hct2 := ctL_take Node.ct hlt
    have hwl := WS_len Node.W xs
    have hwn := WS_nth Node.W hlt
    simp only [Node.W] at hwn
    generalize hc : n + (ctL Node.ct (xs.take i) : Nat) = c at *
    have hw : IntKind.wrap .i64 ((i : Int) + 1) = (i : Int) + 1 := wrap_i64 (by omega) (by omega)
    simp only [Node.ct] at hct hct2
    simp only [Node.mk_] at a1
    obtain ⟨cc0, hc0⟩ : ∃ z, z = c + 1 := ⟨_, rfl⟩
    have w0 : IntKind.wrap .i64 (c + 1) = cc0 := by rw [hc0]; exact wrap_i64 (by omega) (by omega)
    obtain ⟨cc1, hc1⟩ : ∃ z, z = cc0 + 1 := ⟨_, rfl⟩
    have w1 : IntKind.wrap .i64 (cc0 + 1) = cc1 := by rw [hc1]; exact wrap_i64 (by omega) (by omega)
    obtain ⟨cc2, hc2⟩ : ∃ z, z = cc1 + 1 := ⟨_, rfl⟩
    have w2 : IntKind.wrap .i64 (cc1 + 1) = cc2 := by rw [hc2]; exact wrap_i64 (by omega) (by omega)
    obtain ⟨cc3, hc3⟩ : ∃ z, z = cc2 + 1 := ⟨_, rfl⟩
    have w3 : IntKind.wrap .i64 (cc2 + 1) = cc3 := by rw [hc3]; exact wrap_i64 (by omega) (by omega)
    obtain ⟨cc4, hc4⟩ : ∃ z, z = cc3 + 1 := ⟨_, rfl⟩
    have w4 : IntKind.wrap .i64 (cc3 + 1) = cc4 := by rw [hc4]; exact wrap_i64 (by omega) (by omega)
    obtain ⟨cc5, hc5⟩ : ∃ z, z = cc4 + 1 := ⟨_, rfl⟩
    have w5 : IntKind.wrap .i64 (cc4 + 1) = cc5 := by rw [hc5]; exact wrap_i64 (by omega) (by omega)
    obtain ⟨cc6, hc6⟩ : ∃ z, z = cc5 + 1 := ⟨_, rfl⟩
    have w6 : IntKind.wrap .i64 (cc5 + 1) = cc6 := by rw [hc6]; exact wrap_i64 (by omega) (by omega)
    obtain ⟨cc7, hc7⟩ : ∃ z, z = cc6 + 1 := ⟨_, rfl⟩
    have w7 : IntKind.wrap .i64 (cc6 + 1) = cc7 := by rw [hc7]; exact wrap_i64 (by omega) (by omega)
    obtain ⟨cc8, hc8⟩ : ∃ z, z = cc7 + 1 := ⟨_, rfl⟩
    have w8 : IntKind.wrap .i64 (cc7 + 1) = cc8 := by rw [hc8]; exact wrap_i64 (by omega) (by omega)
    obtain ⟨cc9, hc9⟩ : ∃ z, z = cc8 + 1 := ⟨_, rfl⟩
    have w9 : IntKind.wrap .i64 (cc8 + 1) = cc9 := by rw [hc9]; exact wrap_i64 (by omega) (by omega)
    obtain ⟨cc10, hc10⟩ : ∃ z, z = cc9 + 1 := ⟨_, rfl⟩
    have w10 : IntKind.wrap .i64 (cc9 + 1) = cc10 := by rw [hc10]; exact wrap_i64 (by omega) (by omega)
    obtain ⟨cc11, hc11⟩ : ∃ z, z = cc10 + 1 := ⟨_, rfl⟩
    have w11 : IntKind.wrap .i64 (cc10 + 1) = cc11 := by rw [hc11]; exact wrap_i64 (by omega) (by omega)
    obtain ⟨cc12, hc12⟩ : ∃ z, z = cc11 + 1 := ⟨_, rfl⟩
    have w12 : IntKind.wrap .i64 (cc11 + 1) = cc12 := by rw [hc12]; exact wrap_i64 (by omega) (by omega)
    obtain ⟨cc13, hc13⟩ : ∃ z, z = cc12 + 1 := ⟨_, rfl⟩
    have w13 : IntKind.wrap .i64 (cc12 + 1) = cc13 := by rw [hc13]; exact wrap_i64 (by omega) (by omega)
    obtain ⟨cc14, hc14⟩ : ∃ z, z = cc13 + 1 := ⟨_, rfl⟩
    have w14 : IntKind.wrap .i64 (cc13 + 1) = cc14 := by rw [hc14]; exact wrap_i64 (by omega) (by omega)
    have a2 : ∀ kk, iaddrA 15 (.fs c0 ((mkL Node.mk_ Node.ct n xs).map Node.enc)) (.int kk (i : Int)) h' = some (.fp [.int .i64 c, .int .i64 cc0, .int .i64 cc1, .int .i64 cc2, .int .i64 cc3, .int .i64 cc4, .int .i64 cc5, .int .i64 cc6, .int .i64 cc7, .int .i64 cc8, .int .i64 cc9, .int .i64 cc10, .int .i64 cc11, .str (mtext cc12), .int .i64 cc13] 0, h') := fun kk => by rw [a1 kk]; simp only [Node.enc, hc0, hc1, hc2, hc3, hc4, hc5, hc6, hc7, hc8, hc9, hc10, hc11, hc12, hc13, hc14]
    clear a1
    simp [hlt, s0, s1, s5, a2, w0, w1, w2, w3, w4, w5, w6, w7, w8, w9, w10, w11, w12, w13, mt_iff cc12 (by omega), w14]
    simp [hw, s0, s1, s5, a2, w0, w1, w2, w3, w4, w5, w6, w7, w8, w9, w10, w11, w12, w13, mt_iff cc12 (by omega), w14]
    refine hK (xs.length - (i + 1)) _ _ (by omega) ⟨rfl, i + 1, rfl, by omega, by simp [s0], ?_, by simp⟩
    simp [hct2]
    omega
  · obtain rfl : i = xs.length := by omega
    rw [List.take_length] at s1
    simp [hE, s1]
end Go.Proofs.Ytcdkgonmdenakaa
