/- Contracts: a drawn text is read. -/
import Derived.Test.YteeaefjlpkijkaaDoorQ9
namespace Go.Proofs.YteeaefjlpkijkaaDoor
open Go Go.Bm Go.Proofs
set_option linter.all false

theorem l1Digit_iff (b : UInt8) (h : AH) (R : AV → AH → Prop) : CA 30 [.int .u8 (b.toNat : Int)] h R ↔ R (.bool (digB b)) h := by
  refine ca_pure (af := ac30) rfl ?_
  simp [ac30]
  by_cases h1 : (48 : Int) ≤ b.toNat
  · have h2 : 48 ≤ b.toNat := by omega
    by_cases h3 : (b.toNat : Int) ≤ 57
    · have h4 : b.toNat ≤ 57 := by omega
      simp [h1, h2, h3, h4, digB]
    · have h4 : ¬ b.toNat ≤ 57 := by omega
      simp [h1, h2, h3, h4, digB]
  · have h2 : ¬ 48 ≤ b.toNat := by omega
    simp [h1, h2, digB]
/-- One byte of a text. -/
theorem sl_one (s : ByteArray) (i : Nat) (hi : i < s.size) (h : AH) : ∃ u : ByteArray, u.size = 1 ∧ slstrA (.str s) (some (.int .i64 (i : Int))) (some (.int .i64 ((i : Int) + 1))) h = some (.str u, h) := by
  refine ⟨s.extract i (i + 1), by rw [ByteArray.size_extract]; omega, ?_⟩
  simp only [slstrA, bound]
  rw [if_pos (by omega)]
  have : ((i : Int) + 1).toNat = i + 1 := by omega
  simp [this]
  rw [if_pos (by omega)]
theorem sReadPattern_ok (s : ByteArray) (hs : s.size ≤ 1000) (h : AH) (R : AV → AH → Prop) (hR : ∀ (g' : AH) (v : AV) (l : ByteArray) (ms : List Int) (b : Bool), Own h 1 (encI .i64) g' v ms → v.one = true → l.size ≤ 41 → ms.length ≤ 42 → R (.tup [.agg [.str l, v], .bool b]) g') : CA 18 [.str s] h R := by
  refine (ca_iff (af := ac18) rfl).2 ?_
  have h0 : ∀ g', h.le g' → R (.tup [.agg [.str ⟨#[]⟩, .nils], .bool false]) g' := fun g' hle => hR g' .nils ⟨#[]⟩ [] false (Own.nils (encI_ok .i64).toEncOk hle) rfl (by decide) (by decide)
  simp [ac18]
  by_cases hl : (41 : Int) < s.size
  · simp [hl]
    exact h0 h (AH.le_refl h)
  simp [hl]
  refine awp_loop2 caM (fun n st g' => ∃ (i : Nat) (v : AV) (l : ByteArray) (ms : List Int) (d : Int), n = s.size - i ∧ i ≤ s.size ∧ l.size ≤ i ∧ ms.length ≤ i ∧ (st 0 = .str s ∧ st 5 = .int .i64 d ∧ st 6 = .int .i64 i ∧ st 100002 = .agg [.str ⟨#[]⟩, .nils] ∧ st 100004 = .agg [.str l, v]) ∧ Own h 1 (encI .i64) g' v ms) ?_ (n := s.size) ⟨0, .nils, ⟨#[]⟩, [], -1, by simp, by simp, by decide, by simp, by simp, Own.nils (encI_ok .i64).toEncOk (AH.le_refl h)⟩
  rintro n st g' ⟨i, v, l, ms, d, rfl, hi, hll, hml, ⟨s0, s5, s6, s2, s4⟩, OV⟩ K hK hE hQ
  simp [s0, s6]
  have ov := OV.one1
  by_cases hlt : i < s.size
  · have ij := str_ix s i .i64 g' hlt
    have hwr : IntKind.wrap .i64 ((i : Int) + 1) = (i : Int) + 1 := wrap_i64 (by omega) (by omega)
    obtain ⟨u, hu, hsl⟩ := sl_one s i hlt g'
    obtain ⟨t, ht, hts⟩ := join_str l u (l.size + 1) (by omega) (by omega)
    simp [hlt, s0, s5, s6, s2, s4, ij, l1Digit_iff]
    cases hd : digB (byt s i) with
    | true =>
      obtain ⟨w1, w2⟩ := sub48 _ hd
      by_cases hd0 : (0 : Int) ≤ d
      · simp [hd0, s0, s5, s6, s2, s4, hQ]
        exact h0 _ OV.le
      · simp [hd0, s0, s5, s6, s2, s4, hwr, ij, w1, w2, hE]
        exact hK (s.size - (i + 1)) _ _ (by omega) ⟨i + 1, v, l, ms, ((byt s i).toNat : Int) - 48, rfl, by omega, by omega, by omega, ⟨by simp [s0], by simp, by simp, by simp [s2], by simp [s4]⟩, OV⟩
    | false =>
      have ap : ∀ m : Int, ∃ v' h4, appendA 1 8 v (.fs (some 1) [[.int .i64 m]]) g' = some (v', h4) ∧ Own h 1 (encI .i64) h4 v' (ms ++ [m]) ∧ v'.one = true := fun m => by
        obtain ⟨v', h4, e1, OV2, n1, k1⟩ := OV.append1 (some 1) m [.int .i64 m] rfl 8 (by omega) (by omega)
        exact ⟨v', h4, e1, OV2, OV2.one1⟩
      by_cases hd0 : d < 0
      · obtain ⟨v', h4, e1, OV2, ov'⟩ := ap 0
        simp [-AV.one, -AV.cells, cells_agg, cells_one, one_nils, one_str, cells_str, hd0, s0, s5, s6, s2, s4, hwr, hsl, ht, bslice1i, e1, ov, ov', hE]
        exact hK (s.size - (i + 1)) _ _ (by omega) ⟨i + 1, v', t, _, -1, rfl, by omega, by omega, by simp; omega, ⟨by simp [s0], by simp, by simp, by simp [s2], by simp⟩, OV2⟩
      · obtain ⟨v', h4, e1, OV2, ov'⟩ := ap d
        simp [-AV.one, -AV.cells, cells_agg, cells_one, one_nils, one_str, cells_str, hd0, s0, s5, s6, s2, s4, hwr, hsl, ht, bslice1i, e1, ov, ov', hE]
        exact hK (s.size - (i + 1)) _ _ (by omega) ⟨i + 1, v', t, _, -1, rfl, by omega, by omega, by simp; omega, ⟨by simp [s0], by simp, by simp, by simp [s2], by simp⟩, OV2⟩
  · have ap : ∀ m : Int, ∃ v' h4, appendA 1 8 v (.fs (some 1) [[.int .i64 m]]) g' = some (v', h4) ∧ Own h 1 (encI .i64) h4 v' (ms ++ [m]) ∧ v'.one = true := fun m => by
      obtain ⟨v', h4, e1, OV2, n1, k1⟩ := OV.append1 (some 1) m [.int .i64 m] rfl 8 (by omega) (by omega)
      exact ⟨v', h4, e1, OV2, OV2.one1⟩
    have fin : ∀ (m : Int) (v' : AV) (h4 : AH), Own h 1 (encI .i64) h4 v' (ms ++ [m]) → ∀ R, acallM CA .bor 31 [.agg [.str l, v']] h4 R ↔ R (.bool (patB ⟨l, ms ++ [m]⟩)) h4 := fun m v' h4 OV2 R => by
      obtain ⟨F, NV⟩ := OV2.new_ (encI_flat .i64) 0
      have fv : frzV 0 h4 DF (.agg [.str l, v']) = some (.agg [.str l, .fs none ((ms ++ [m]).map (encI .i64))]) := by
        have e1 := NV.tw.frz 2 (lo := 0) (fun b _ => Nat.zero_le b) 19 (by omega)
        simp [e1]
      exact bor_call (by simp only [mapO, fv]) rfl (fun h' R => l7PatternOk_iff l _ (by omega) (by simp; omega) h' R)
    by_cases hd0 : d < 0
    · obtain ⟨v', h4, e1, OV2, ov'⟩ := ap 0
      have h1 := hR h4 v' l (ms ++ [0]) true OV2 ov' (by omega) (by simp; omega)
      simp [-AV.one, -AV.cells, cells_agg, cells_one, one_nils, one_str, cells_str, hlt, hd0, s0, s5, s6, s2, s4, bslice1i, e1, ov, ov', hE, fin _ _ _ OV2]
      cases hp : patB ⟨l, ms ++ [0]⟩
      · simp [s2]; exact h0 _ OV2.le
      · simp [-AV.one, -AV.cells, cells_agg, cells_one, one_nils, one_str, cells_str, s2, s4, ov']
        exact h1
    · obtain ⟨v', h4, e1, OV2, ov'⟩ := ap d
      have h1 := hR h4 v' l (ms ++ [d]) true OV2 ov' (by omega) (by simp; omega)
      simp [-AV.one, -AV.cells, cells_agg, cells_one, one_nils, one_str, cells_str, hlt, hd0, s0, s5, s6, s2, s4, bslice1i, e1, ov, ov', hE, fin _ _ _ OV2]
      cases hp : patB ⟨l, ms ++ [d]⟩
      · simp [s2]; exact h0 _ OV2.le
      · simp [-AV.one, -AV.cells, cells_agg, cells_one, one_nils, one_str, cells_str, s2, s4, ov']
        exact h1
end Go.Proofs.YteeaefjlpkijkaaDoor
