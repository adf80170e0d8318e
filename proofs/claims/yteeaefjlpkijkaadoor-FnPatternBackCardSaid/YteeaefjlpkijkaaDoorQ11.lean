/- Contracts: the draws. -/
import Derived.Test.YteeaefjlpkijkaaDoorQ10
namespace Go.Proofs.YteeaefjlpkijkaaDoor
open Go Go.Bm Go.Proofs
set_option linter.all false

def tabL : List ByteArray := [⟨#[46, 46]⟩, ⟨#[46]⟩, ⟨#[97, 46]⟩, ⟨#[]⟩, ⟨#[46, 97, 46, 98]⟩, ⟨#[97, 97, 97, 97, 97, 97, 97, 97, 97, 97, 97, 97, 97, 97, 97, 97, 97, 97, 97, 97]⟩]
theorem litL (h : AH) : bsliceFA 6 1 [.str ⟨#[]⟩] [(0, .str ⟨#[46, 46]⟩), (1, .str ⟨#[46]⟩), (2, .str ⟨#[97, 46]⟩), (3, .str ⟨#[]⟩), (4, .str ⟨#[46, 97, 46, 98]⟩), (5, .str ⟨#[97, 97, 97, 97, 97, 97, 97, 97, 97, 97, 97, 97, 97, 97, 97, 97, 97, 97, 97, 97]⟩)] h = some (.fs (some 6) (tabL.map encStr), h) := rfl
theorem DrawPatternOk_ok (xs : List Int) (hx : ∀ x ∈ xs, 0 ≤ x ∧ x ≤ 255) (hl : xs.length ≤ 1048576) (h : AH) (R : AV → AH → Prop)
    (hR : ∀ (l : ByteArray) (ms : List Int), l.size ≤ 100 → ms.length ≤ 100 → R (.agg [.str l, .fs none (ms.map (encI .i64))]) h) : acallM CA .frz 11 [.fs none (xs.map (encI .u8))] h R := by
  refine (ca_iff (af := ac11) rfl).2 ?_
  simp [ac11]
  refine l1New_ok xs hl h _ fun g1 c hh1 H1 le1 hc => ?_
  simp
  refine l7DrawPattern_ok xs hx hl g1 c 0 hh1 H1 _ fun g2 i2 hh2 t H2 nx2 kp2 ht => ?_
  have le2 : h.le g2 := ⟨by rw [nx2]; exact le1.1, fun b hb => by rw [kp2 b (by omega)]; exact le1.2 b hb⟩
  simp
  refine sReadPattern_ok t (by omega) g2 _ fun g3 v l ms ok O3 ov hl3 hm3 => ?_
  have c2 : c < g2.next := AH.get_lt H2.1
  have H3 : Cur g3 c xs i2 hh2 := ⟨by rw [O3.le.2 c c2]; exact H2.1, H2.2⟩
  simp [-AV.one, -AV.cells, cells_agg, cells_one, one_nils, one_str, cells_str, ov]
  refine l1Below_ok xs hx hl g3 c i2 hh2 H3 8 (by omega) (by omega) _ fun g4 i4 hh4 n4 H4 nx4 kp4 p4 q4 => ?_
  have OH := O3.weaken le2
  have nb : blk v ≠ some c := fun e => by have := O3.new e; omega
  have keep : ∀ (g5 : AH), g5.next = g3.next → (∀ b, b ≠ c → g5.get b = g3.get b) → Own h 1 (encI .i64) g5 v ms := fun g5 nx kp =>
    OH.frame ⟨by rw [nx]; exact OH.le.1, fun b hb => by rw [kp b (by omega)]; exact OH.le.2 b hb⟩ fun b hb => kp b fun e => nb (by rw [hb, e])
  have O4 := keep g4 nx4 kp4
  have fin : ∀ (g5 : AH) (w : AV) (l : ByteArray) (ms : List Int), Own h 1 (encI .i64) g5 w ms → l.size ≤ 100 → ms.length ≤ 100 → h.le g5 ∧ ∃ r, frzV h.next g5 DF (.agg [.str l, w]) = some r ∧ R r h := fun g5 w l ms O hl hm => by
    have hz := O.frz19 (encI_ok .i64)
    exact ⟨O.le, _, by rw [frz_agg]; simp only [mapO, hz, frz19_str], hR l ms hl hm⟩
  by_cases e0 : n4 = 0
  · obtain ⟨u, hu, hus⟩ := join_str l ⟨#[46]⟩ (l.size + 1) (by show l.size + 1 ≤ _; omega) (by omega)
    simp [-AV.one, -AV.cells, cells_agg, cells_one, one_nils, one_str, cells_str, ov, e0, hu]
    simpa using fin g4 v u ms O4 (by omega) (by omega)
  by_cases e1 : n4 = 1
  · simp [-AV.one, -AV.cells, cells_agg, cells_one, one_nils, one_str, cells_str, ov, e1]
    refine l1Below_ok xs hx hl g4 c i4 hh4 H4 11 (by omega) (by omega) _ fun g5 i5 hh5 n5 H5 nx5 kp5 p5 q5 => ?_
    have O5 := keep g5 (by rw [nx5, nx4]) (fun b hb => by rw [kp5 b hb, kp4 b hb])
    obtain ⟨v', h6, a6, O6, n6, k6⟩ := O5.append1 (some 1) n5 [.int .i64 n5] rfl 8 (by omega) (by omega)
    have ov' := O6.one1
    simp [-AV.one, -AV.cells, cells_agg, cells_one, one_nils, one_str, cells_str, ov, ov', bslice1i, a6]
    simpa using fin h6 v' l _ O6 (by omega) (by simp; omega)
  by_cases e2 : n4 = 2
  · simp [-AV.one, -AV.cells, cells_agg, cells_one, one_nils, one_str, cells_str, ov, e2, litL]
    refine l1Below_ok xs hx hl g4 c i4 hh4 H4 6 (by omega) (by omega) _ fun g5 i5 hh5 n5 H5 nx5 kp5 p5 q5 => ?_
    have O5 := keep g5 (by rw [nx5, nx4]) (fun b hb => by rw [kp5 b hb, kp4 b hb])
    obtain ⟨u, hu, hi⟩ := pick_str tabL 20 (by decide) (some 6) n5 p5 (by simpa [tabL] using q5)
    have wu : IntKind.wrap .i64 ((u.size : Int) + 1) = ((u.size + 1 : Nat) : Int) := by rw [wrap_i64 (by omega) (by omega)]; omega
    have mk := mslice_eq 1 8 [.int .i64 0] .i64 .i64 (u.size + 1) g5 rfl rfl (by omega) (by omega)
    simp only [Int.natCast_add, Int.cast_ofNat_Int] at mk
    have O6 := Own.make (z := (0 : Int)) (zero := [.int .i64 0]) (encI_ok .i64).toEncOk O5.le rfl (u.size + 1)
    have ov' := O6.one1
    simp [-AV.one, -AV.cells, cells_agg, cells_one, one_nils, one_str, cells_str, ov, ov', hi, wu, mk]
    have f6 := fin _ _ u _ O6 (by omega) (by simp; omega)
    rw [frz_agg] at f6
    exact f6
  · simp [-AV.one, -AV.cells, cells_agg, cells_one, one_nils, one_str, cells_str, ov, e0, e1, e2]
    simpa using fin g4 v l ms O4 (by omega) (by omega)
theorem DrawShowPattern_ok (xs : List Int) (hx : ∀ x ∈ xs, 0 ≤ x ∧ x ≤ 255) (hl : xs.length ≤ 1048576) (h : AH) (R : AV → AH → Prop)
    (hR : ∀ (l : ByteArray) (ms : List Int), l.size ≤ 100 → ms.length ≤ 100 → R (.agg [.str l, .fs none (ms.map (encI .i64))]) h) : acallM CA .frz 5 [.fs none (xs.map (encI .u8))] h R := by
  refine (ca_iff (af := ac5) rfl).2 ?_
  simp [ac5]
  refine DrawPatternOk_ok xs hx hl h _ fun l ms h1 h2 => ?_
  simp
  exact hR l ms h1 h2
theorem DrawReadPattern_ok (xs : List Int) (hx : ∀ x ∈ xs, 0 ≤ x ∧ x ≤ 255) (hl : xs.length ≤ 1048576) (h : AH) (R : AV → AH → Prop)
    (hR : ∀ (t : ByteArray) (h' : AH), h.le h' → t.size ≤ 100 → R (.str t) h') : CA 10 [.fs none (xs.map (encI .u8))] h R := by
  refine (ca_iff (af := ac10) rfl).2 ?_
  simp [ac10]
  refine l1New_ok xs hl h _ fun g1 c hh1 H1 le1 hc => ?_
  simp
  refine l7DrawPattern_ok xs hx hl g1 c 0 hh1 H1 _ fun g2 i2 hh2 t H2 nx2 kp2 ht => ?_
  have le2 : h.le g2 := ⟨by rw [nx2]; exact le1.1, fun b hb => by rw [kp2 b (by omega)]; exact le1.2 b hb⟩
  simp
  exact hR t g2 le2 ht
end Go.Proofs.YteeaefjlpkijkaaDoor
