/- Contracts: the cursor of the draws. -/
import Derived.Test.YteeaefjlpkijkaaDoorQ6
namespace Go.Proofs.YteeaefjlpkijkaaDoor
open Go Go.Bm Go.Proofs
set_option linter.all false

/-- The cursor: the bytes, the place, the number. -/
def Cur (g : AH) (c : Nat) (xs : List Int) (i : Nat) (hh : Int) : Prop := g.get c = some (.cells true [.fs none (xs.map (encI .u8)), .int .i64 i, .int .i64 hh]) ∧ i ≤ xs.length
theorem and255 (a : Int) : ∃ n : Int, binInt .and .i64 a 255 = some (.int .i64 n) ∧ 0 ≤ n ∧ n ≤ 255 := by
  refine ⟨_, rfl, ?_⟩
  have h1 : (BitVec.ofInt (IntKind.bits .i64) a &&& BitVec.ofInt (IntKind.bits .i64) 255).toNat ≤ 255 := by
    rw [BitVec.toNat_and]
    exact Nat.and_le_right
  rw [wrap_i64 (by omega) (by omega)]
  omega
theorem shr_some (a : Int) (k : Int) (hk : 0 ≤ k) : ∃ n : Int, binInt .shr .i64 a k = some (.int .i64 n) := by
  simp only [binInt]
  rw [if_neg (by omega)]
  exact ⟨_, rfl⟩
theorem xor_some (a b : Int) : ∃ n : Int, binInt .xor .i64 a b = some (.int .i64 n) := ⟨_, rfl⟩
theorem l1Byte_ok (xs : List Int) (hx : ∀ x ∈ xs, 0 ≤ x ∧ x ≤ 255) (hl : xs.length ≤ 1048576) (g : AH) (c i : Nat) (hh : Int) (H : Cur g c xs i hh) (R : AV → AH → Prop)
    (hR : ∀ g' i' hh' n, Cur g' c xs i' hh' → g'.next = g.next → (∀ b, b ≠ c → g'.get b = g.get b) → 0 ≤ n → n ≤ 255 → R (.int .i64 n) g') : CA 32 [.ptr c 0] g R := by
  refine (ca_iff (af := ac32) rfl).2 ?_
  obtain ⟨hg, hi⟩ := H
  have hc := AH.get_lt hg
  have ld : ∀ (g' : AH) (j : Nat) (h1 : Int), g'.get c = some (.cells true [.fs none (xs.map (encI .u8)), .int .i64 j, .int .i64 h1]) → loadA false 1 (.ptr c 0) g' = some (.fs none (xs.map (encI .u8)), g') ∧ loadA false 1 (.ptr c 1) g' = some (.int .i64 j, g') ∧ loadA false 1 (.ptr c 2) g' = some (.int .i64 h1, g') := by
    intro g' j h1 e
    refine ⟨?_, ?_, ?_⟩ <;> simp [loadA, rdA, AH.read, e]
  have st2 : ∀ (g' : AH) (j : Nat) (h1 h2 : Int), g'.get c = some (.cells true [.fs none (xs.map (encI .u8)), .int .i64 j, .int .i64 h1]) → storeA 1 (.ptr c 2) (.int .i64 h2) g' = some (.tup [], g'.upd c (some (.cells true [.fs none (xs.map (encI .u8)), .int .i64 j, .int .i64 h2]))) := by
    intro g' j h1 h2 e
    simp [storeA, AH.write, e]
  have st1 : ∀ (g' : AH) (j : Nat) (h1 h2 : Int), g'.get c = some (.cells true [.fs none (xs.map (encI .u8)), .int .i64 j, .int .i64 h1]) → storeA 1 (.ptr c 1) (.int .i64 h2) g' = some (.tup [], g'.upd c (some (.cells true [.fs none (xs.map (encI .u8)), .int .i64 h2, .int .i64 h1]))) := by
    intro g' j h1 h2 e
    simp [storeA, AH.write, e]
  obtain ⟨l0, l1, l2⟩ := ld g i hh hg
  generalize hn : IntKind.wrap .i64 (IntKind.wrap .i64 (hh * 6364136223846793005) + 1442695040888963407) = h2
  have s2 := st2 g i hh h2 hg
  have hg2 : (g.upd c (some (.cells true [.fs none (xs.map (encI .u8)), .int .i64 i, .int .i64 h2]))).get c = some (.cells true [.fs none (xs.map (encI .u8)), .int .i64 i, .int .i64 h2]) := by rw [AH.get_upd hc, if_pos rfl]
  have keep2 : ∀ b, b ≠ c → (g.upd c (some (.cells true [.fs none (xs.map (encI .u8)), .int .i64 i, .int .i64 h2]))).get b = g.get b := fun b hb => by rw [AH.get_upd hc, if_neg hb]
  have nx2 : (g.upd c (some (.cells true [.fs none (xs.map (encI .u8)), .int .i64 i, .int .i64 h2]))).next = g.next := rfl
  generalize g.upd c (some (.cells true [.fs none (xs.map (encI .u8)), .int .i64 i, .int .i64 h2])) = g2 at *
  obtain ⟨m0, m1, m2⟩ := ld g2 i h2 hg2
  obtain ⟨n1, e1⟩ := shr_some h2 33 (by omega)
  obtain ⟨n2, e2⟩ := shr_some h2 45 (by omega)
  obtain ⟨n3, e3⟩ := xor_some n1 n2
  obtain ⟨n4, e4, p4, q4⟩ := and255 n3
  have f1 : bin .shr (.int .i64 h2) (.int .u64 33) = some (.int .i64 n1) := e1
  have f2 : bin .shr (.int .i64 h2) (.int .u64 45) = some (.int .i64 n2) := e2
  simp [ac32, l2, hn, s2, m2, f1, f2, e3, e4, m0, m1, (encI_ok .u8).toEncOk.len]
  by_cases hlt : i < xs.length
  · have a1 := (encI_ok .u8).toEncOk.iaddr (by omega) none xs .i64 (i : Int) g2 (by omega) (by omega)
    simp only [Int.toNat_natCast] at a1
    have hw : IntKind.wrap .i64 ((i : Int) + 1) = ((i + 1 : Nat) : Int) := by rw [wrap_i64 (by omega) (by omega)]; omega
    have s1 := st1 g2 i h2 ((i + 1 : Nat) : Int) hg2
    obtain ⟨n5, e5, p5, q5⟩ := and255 (IntKind.wrap .i64 (n4 + IntKind.wrap .i64 (nth xs i)))
    have hc2 := AH.get_lt hg2
    simp only [Int.natCast_add, Int.cast_ofNat_Int] at hw s1
    simp [hlt, l2, hn, s2, m2, m0, m1, a1, e5, hw, s1]
    refine hR _ (i + 1) h2 n5 ⟨by rw [AH.get_upd hc2, if_pos rfl]; simp, by omega⟩ nx2 (fun b hb => ?_) p5 q5
    rw [AH.get_upd hc2, if_neg hb]
    exact keep2 b hb
  · simp [hlt]
    exact hR _ i h2 n4 ⟨hg2, hi⟩ nx2 keep2 p4 q4
/-- One of n. -/
theorem l1Below_ok (xs : List Int) (hx : ∀ x ∈ xs, 0 ≤ x ∧ x ≤ 255) (hl : xs.length ≤ 1048576) (g : AH) (c i : Nat) (hh : Int) (H : Cur g c xs i hh) (m : Int) (hm : 0 < m) (hm2 : m ≤ 256) (R : AV → AH → Prop)
    (hR : ∀ g' i' hh' n, Cur g' c xs i' hh' → g'.next = g.next → (∀ b, b ≠ c → g'.get b = g.get b) → 0 ≤ n → n < m → R (.int .i64 n) g') : CA 19 [.ptr c 0, .int .i64 m] g R := by
  refine (ca_iff (af := ac19) rfl).2 ?_
  have h1 : ¬ m ≤ 0 := by omega
  simp [ac19, h1, hm2]
  refine l1Byte_ok xs hx hl g c i hh H _ fun g' i' hh' n H' nx kp p q => ?_
  have hne : m ≠ 0 := by omega
  simp [hne]
  exact hR g' i' hh' _ H' nx kp (Int.tmod_nonneg m p) (Int.tmod_lt_of_pos n hm)
theorem l1Once_ok (xs : List Int) (hx : ∀ x ∈ xs, 0 ≤ x ∧ x ≤ 255) (hl : xs.length ≤ 1048576) (g : AH) (c i : Nat) (hh : Int) (H : Cur g c xs i hh) (m : Int) (hm : 0 < m) (hm2 : m ≤ 256) (R : AV → AH → Prop)
    (hR : ∀ g' i' hh' b, Cur g' c xs i' hh' → g'.next = g.next → (∀ b, b ≠ c → g'.get b = g.get b) → R (.bool b) g') : CA 28 [.ptr c 0, .int .i64 m] g R := by
  refine (ca_iff (af := ac28) rfl).2 ?_
  simp [ac28]
  refine l1Below_ok xs hx hl g c i hh H m hm hm2 _ fun g' i' hh' n H' nx kp p q => ?_
  simp
  exact hR g' i' hh' _ H' nx kp
theorem big_iff (xs : List Int) (c : Option Nat) (h : AH) (R : AV → AH → Prop) : CA 4 [.fs c (xs.map (encI .u8))] h R ↔ R (.bool (decide ((1048576 : Int) < xs.length))) h := by
  refine ca_pure (af := ac4) rfl ?_
  simp [ac4]
end Go.Proofs.YteeaefjlpkijkaaDoor
