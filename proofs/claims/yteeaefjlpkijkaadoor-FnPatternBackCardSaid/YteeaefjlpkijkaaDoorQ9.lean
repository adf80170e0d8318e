/- Contracts: a text is drawn. -/
import Derived.Test.YteeaefjlpkijkaaDoorQ8
namespace Go.Proofs.YteeaefjlpkijkaaDoor
open Go Go.Bm Go.Proofs
set_option linter.all false

/-- One of some texts that stand in a row. -/
theorem pick_str (l : List ByteArray) (m : Nat) (hm : ∀ t ∈ l, t.size ≤ m) (c : Option Nat) (n : Int) (h0 : 0 ≤ n) (h1 : n < l.length) : ∃ t : ByteArray, t.size ≤ m ∧ ∀ h : AH, iaddrA 1 (.fs c (l.map encStr)) (.int .i64 n) h = some (.fp [.str t] 0, h) := by
  obtain ⟨k, rfl⟩ : ∃ k : Nat, n = k := ⟨n.toNat, by omega⟩
  have hk : k < l.length := by omega
  refine ⟨l[k], hm _ (List.getElem_mem hk), fun h => ?_⟩
  have hg : (l.map encStr)[k]? = some (encStr l[k]) := by simp [hk]
  simp only [iaddrA, Int.toNat_natCast]
  rw [if_pos (by omega), hg]
  rfl
def tab6 : List ByteArray := [⟨#[97]⟩, ⟨#[98]⟩, ⟨#[99]⟩, ⟨#[101]⟩, ⟨#[110]⟩, ⟨#[116]⟩]
def tab5 : List ByteArray := [⟨#[49, 49, 97]⟩, ⟨#[46, 98]⟩, ⟨#[65]⟩, ⟨#[]⟩, ⟨#[97, 97, 97, 97, 97, 97, 97, 97, 97, 97, 97, 97, 97, 97, 97, 97, 97, 97, 97, 97, 97]⟩]
theorem lit6 (h : AH) : bsliceFA 6 1 [.str ⟨#[]⟩] [(0, .str ⟨#[97]⟩), (1, .str ⟨#[98]⟩), (2, .str ⟨#[99]⟩), (3, .str ⟨#[101]⟩), (4, .str ⟨#[110]⟩), (5, .str ⟨#[116]⟩)] h = some (.fs (some 6) (tab6.map encStr), h) := rfl
theorem lit5 (h : AH) : bsliceFA 5 1 [.str ⟨#[]⟩] [(0, .str ⟨#[49, 49, 97]⟩), (1, .str ⟨#[46, 98]⟩), (2, .str ⟨#[65]⟩), (3, .str ⟨#[]⟩), (4, .str ⟨#[97, 97, 97, 97, 97, 97, 97, 97, 97, 97, 97, 97, 97, 97, 97, 97, 97, 97, 97, 97, 97]⟩)] h = some (.fs (some 5) (tab5.map encStr), h) := rfl
/-- Texts joined. -/
theorem join_str (a b : ByteArray) (m : Nat) (h : a.size + b.size ≤ m) (hm : m ≤ 1000000) : ∃ t : ByteArray, binStr .add a b = some (.str t) ∧ t.size ≤ m := by
  refine ⟨a ++ b, binStr_add a b (by omega), by rw [ByteArray.size_append]; exact h⟩
theorem dig_join (t : ByteArray) (n : Int) (ht : t.size ≤ 1000) : ∃ t2 : ByteArray, binStr .add t (dig1 n) = some (.str t2) ∧ t2.size ≤ t.size + 1 := join_str t (dig1 n) _ (by rw [dig1_size]; omega) (by omega)
theorem l7DrawPattern_ok (xs : List Int) (hx : ∀ x ∈ xs, 0 ≤ x ∧ x ≤ 255) (hl : xs.length ≤ 1048576) (g : AH) (c i : Nat) (hh : Int) (H : Cur g c xs i hh) (R : AV → AH → Prop)
    (hR : ∀ g' i' hh' t, Cur g' c xs i' hh' → g'.next = g.next → (∀ b, b ≠ c → g'.get b = g.get b) → t.size ≤ 100 → R (.str t) g') : CA 17 [.ptr c 0] g R := by
  refine (ca_iff (af := ac17) rfl).2 ?_
  simp [ac17]
  refine l1Once_ok xs hx hl g c i hh H 8 (by omega) (by omega) _ fun g1 i1 hh1 b1 H1 nx1 kp1 => ?_
  cases b1 <;> simp
  · refine l1Below_ok xs hx hl g1 c i1 hh1 H1 4 (by omega) (by omega) _ fun g2 i2 hh2 n2 H2 nx2 kp2 p2 q2 => ?_
    have w2 : IntKind.wrap .i64 (1 + n2) = ((1 + n2.toNat : Nat) : Int) := by rw [wrap_i64 (by omega) (by omega)]; omega
    simp [w2]
    refine awp_loop2 caM (fun m st g' => ∃ (i' : Nat) (hh' : Int) (t : ByteArray), t.size + 2 * m ≤ 9 ∧ (st 0 = .ptr c 0 ∧ st 3 = .str t ∧ st 4 = .int .i64 (m : Int)) ∧ Cur g' c xs i' hh' ∧ g'.next = g.next ∧ ∀ b, b ≠ c → g'.get b = g.get b) ?_ (n := 1 + n2.toNat) ⟨i2, hh2, ⟨#[]⟩, by show (0 : Nat) + 2 * (1 + n2.toNat) ≤ 9; omega, ⟨by simp, by simp, by simp⟩, H2, by rw [nx2, nx1], fun b hb => by rw [kp2 b hb, kp1 b hb]⟩
    rintro m st g3 ⟨i3, hh3, t, ht, ⟨s0, s3, s4⟩, H3, nx3, kp3⟩ K hK hE hQ
    simp [s0, s3, s4]
    by_cases hm : 0 < m
    · simp [hm, s0, s3, s4]
      refine l1Once_ok xs hx hl g3 c i3 hh3 H3 2 (by omega) (by omega) _ fun g4 i4 hh4 b4 H4 nx4 kp4 => ?_
      have wm : IntKind.wrap .i64 ((m : Int) - 1) = ((m - 1 : Nat) : Int) := by rw [wrap_i64 (by omega) (by omega)]; omega
      cases b4
      · simp [s0, s3, s4, lit6]
        refine l1Below_ok xs hx hl g4 c i4 hh4 H4 6 (by omega) (by omega) _ fun g5 i5 hh5 n5 H5 nx5 kp5 p5 q5 => ?_
        obtain ⟨u, hu, hi⟩ := pick_str tab6 1 (by decide) (some 6) n5 p5 (by simpa [tab6] using q5)
        obtain ⟨t2, e2, ht2⟩ := join_str t u (t.size + 1) (by omega) (by omega)
        simp [s0, s3, s4, hi, e2, wm]
        exact hK (m - 1) _ _ (by omega) ⟨i5, hh5, t2, by omega, ⟨by simp [s0], by simp, by simp⟩, H5, by rw [nx5, nx4, nx3], fun b hb => by rw [kp5 b hb, kp4 b hb, kp3 b hb]⟩
      · simp [s0, s3, s4]
        refine l1Below_ok xs hx hl g4 c i4 hh4 H4 6 (by omega) (by omega) _ fun g6 i6 hh6 n6 H6 nx6 kp6 p6 q6 => ?_
        obtain ⟨t1, e1, ht1⟩ := dig_join t n6 (by omega)
        simp [s0, s3, s4, l4Signed_iff n6 p6 (by omega), e1, lit6]
        refine l1Below_ok xs hx hl g6 c i6 hh6 H6 6 (by omega) (by omega) _ fun g5 i5 hh5 n5 H5 nx5 kp5 p5 q5 => ?_
        obtain ⟨u, hu, hi⟩ := pick_str tab6 1 (by decide) (some 6) n5 p5 (by simpa [tab6] using q5)
        obtain ⟨t2, e2, ht2⟩ := join_str t1 u (t1.size + 1) (by omega) (by omega)
        simp [s0, s3, s4, hi, e2, wm]
        exact hK (m - 1) _ _ (by omega) ⟨i5, hh5, t2, by omega, ⟨by simp [s0], by simp, by simp⟩, H5, by rw [nx5, nx6, nx4, nx3], fun b hb => by rw [kp5 b hb, kp6 b hb, kp4 b hb, kp3 b hb]⟩
    · obtain rfl : m = 0 := by omega
      simp [hE, s0, s3, s4]
      refine l1Once_ok xs hx hl g3 c i3 hh3 H3 3 (by omega) (by omega) _ fun g4 i4 hh4 b4 H4 nx4 kp4 => ?_
      cases b4
      · simp [s0, s3, s4]
        refine l1Once_ok xs hx hl g4 c i4 hh4 H4 10 (by omega) (by omega) _ fun g7 i7 hh7 b7 H7 nx7 kp7 => ?_
        cases b7
        · simp [s0, s3, s4]
          refine l1Once_ok xs hx hl g7 c i7 hh7 H7 30 (by omega) (by omega) _ fun g9 i9 hh9 b9 H9 nx9 kp9 => ?_
          cases b9
          · simp [s0, s3, s4]
            exact hR g9 i9 hh9 t H9 (by rw [nx9, nx7, nx4, nx3]) (fun b hb => by rw [kp9 b hb, kp7 b hb, kp4 b hb, kp3 b hb]) (by omega)
          · simp [s0, s3, s4, lit5]
            refine l1Below_ok xs hx hl g9 c i9 hh9 H9 5 (by omega) (by omega) _ fun g10 i10 hh10 n10 H10 nx10 kp10 p10 q10 => ?_
            obtain ⟨u10, hu10, hi10⟩ := pick_str tab5 21 (by decide) (some 5) n10 p10 (by simpa [tab5] using q10)
            obtain ⟨t10, e10, ht10⟩ := join_str t u10 (t.size + 21) (by omega) (by omega)
            simp [s0, s3, s4, hi10, e10]
            exact hR g10 i10 hh10 t10 H10 (by rw [nx10, nx9, nx7, nx4, nx3]) (fun b hb => by rw [kp10 b hb, kp9 b hb, kp7 b hb, kp4 b hb, kp3 b hb]) (by omega)
        · obtain ⟨t8, e8, ht8⟩ := join_str t ⟨#[46]⟩ (t.size + 1) (by show t.size + 1 ≤ _; omega) (by omega)
          simp [s0, s3, s4, e8]
          refine l1Once_ok xs hx hl g7 c i7 hh7 H7 30 (by omega) (by omega) _ fun g9 i9 hh9 b9 H9 nx9 kp9 => ?_
          cases b9
          · simp [s0, s3, s4]
            exact hR g9 i9 hh9 t8 H9 (by rw [nx9, nx7, nx4, nx3]) (fun b hb => by rw [kp9 b hb, kp7 b hb, kp4 b hb, kp3 b hb]) (by omega)
          · simp [s0, s3, s4, lit5]
            refine l1Below_ok xs hx hl g9 c i9 hh9 H9 5 (by omega) (by omega) _ fun g10 i10 hh10 n10 H10 nx10 kp10 p10 q10 => ?_
            obtain ⟨u10, hu10, hi10⟩ := pick_str tab5 21 (by decide) (some 5) n10 p10 (by simpa [tab5] using q10)
            obtain ⟨t10, e10, ht10⟩ := join_str t8 u10 (t8.size + 21) (by omega) (by omega)
            simp [s0, s3, s4, hi10, e10]
            exact hR g10 i10 hh10 t10 H10 (by rw [nx10, nx9, nx7, nx4, nx3]) (fun b hb => by rw [kp10 b hb, kp9 b hb, kp7 b hb, kp4 b hb, kp3 b hb]) (by omega)
      · simp [s0, s3, s4]
        refine l1Below_ok xs hx hl g4 c i4 hh4 H4 6 (by omega) (by omega) _ fun g6 i6 hh6 n6 H6 nx6 kp6 p6 q6 => ?_
        obtain ⟨t1, e1, ht1⟩ := dig_join t n6 (by omega)
        simp [s0, s3, s4, l4Signed_iff n6 p6 (by omega), e1]
        refine l1Once_ok xs hx hl g6 c i6 hh6 H6 10 (by omega) (by omega) _ fun g7 i7 hh7 b7 H7 nx7 kp7 => ?_
        cases b7
        · simp [s0, s3, s4]
          refine l1Once_ok xs hx hl g7 c i7 hh7 H7 30 (by omega) (by omega) _ fun g9 i9 hh9 b9 H9 nx9 kp9 => ?_
          cases b9
          · simp [s0, s3, s4]
            exact hR g9 i9 hh9 t1 H9 (by rw [nx9, nx7, nx6, nx4, nx3]) (fun b hb => by rw [kp9 b hb, kp7 b hb, kp6 b hb, kp4 b hb, kp3 b hb]) (by omega)
          · simp [s0, s3, s4, lit5]
            refine l1Below_ok xs hx hl g9 c i9 hh9 H9 5 (by omega) (by omega) _ fun g10 i10 hh10 n10 H10 nx10 kp10 p10 q10 => ?_
            obtain ⟨u10, hu10, hi10⟩ := pick_str tab5 21 (by decide) (some 5) n10 p10 (by simpa [tab5] using q10)
            obtain ⟨t10, e10, ht10⟩ := join_str t1 u10 (t1.size + 21) (by omega) (by omega)
            simp [s0, s3, s4, hi10, e10]
            exact hR g10 i10 hh10 t10 H10 (by rw [nx10, nx9, nx7, nx6, nx4, nx3]) (fun b hb => by rw [kp10 b hb, kp9 b hb, kp7 b hb, kp6 b hb, kp4 b hb, kp3 b hb]) (by omega)
        · obtain ⟨t8, e8, ht8⟩ := join_str t1 ⟨#[46]⟩ (t1.size + 1) (by show t1.size + 1 ≤ _; omega) (by omega)
          simp [s0, s3, s4, e8]
          refine l1Once_ok xs hx hl g7 c i7 hh7 H7 30 (by omega) (by omega) _ fun g9 i9 hh9 b9 H9 nx9 kp9 => ?_
          cases b9
          · simp [s0, s3, s4]
            exact hR g9 i9 hh9 t8 H9 (by rw [nx9, nx7, nx6, nx4, nx3]) (fun b hb => by rw [kp9 b hb, kp7 b hb, kp6 b hb, kp4 b hb, kp3 b hb]) (by omega)
          · simp [s0, s3, s4, lit5]
            refine l1Below_ok xs hx hl g9 c i9 hh9 H9 5 (by omega) (by omega) _ fun g10 i10 hh10 n10 H10 nx10 kp10 p10 q10 => ?_
            obtain ⟨u10, hu10, hi10⟩ := pick_str tab5 21 (by decide) (some 5) n10 p10 (by simpa [tab5] using q10)
            obtain ⟨t10, e10, ht10⟩ := join_str t8 u10 (t8.size + 21) (by omega) (by omega)
            simp [s0, s3, s4, hi10, e10]
            exact hR g10 i10 hh10 t10 H10 (by rw [nx10, nx9, nx7, nx6, nx4, nx3]) (fun b hb => by rw [kp10 b hb, kp9 b hb, kp7 b hb, kp6 b hb, kp4 b hb, kp3 b hb]) (by omega)
  · refine l1Below_ok xs hx hl g1 c i1 hh1 H1 4 (by omega) (by omega) _ fun g2 i2 hh2 n2 H2 nx2 kp2 p2 q2 => ?_
    have w2 : IntKind.wrap .i64 (1 + n2) = ((1 + n2.toNat : Nat) : Int) := by rw [wrap_i64 (by omega) (by omega)]; omega
    simp [w2]
    refine awp_loop2 caM (fun m st g' => ∃ (i' : Nat) (hh' : Int) (t : ByteArray), t.size + 2 * m ≤ 9 ∧ (st 0 = .ptr c 0 ∧ st 3 = .str t ∧ st 4 = .int .i64 (m : Int)) ∧ Cur g' c xs i' hh' ∧ g'.next = g.next ∧ ∀ b, b ≠ c → g'.get b = g.get b) ?_ (n := 1 + n2.toNat) ⟨i2, hh2, ⟨#[46]⟩, by show (1 : Nat) + 2 * (1 + n2.toNat) ≤ 9; omega, ⟨by simp, rfl, by simp⟩, H2, by rw [nx2, nx1], fun b hb => by rw [kp2 b hb, kp1 b hb]⟩
    rintro m st g3 ⟨i3, hh3, t, ht, ⟨s0, s3, s4⟩, H3, nx3, kp3⟩ K hK hE hQ
    simp [s0, s3, s4]
    by_cases hm : 0 < m
    · simp [hm, s0, s3, s4]
      refine l1Once_ok xs hx hl g3 c i3 hh3 H3 2 (by omega) (by omega) _ fun g4 i4 hh4 b4 H4 nx4 kp4 => ?_
      have wm : IntKind.wrap .i64 ((m : Int) - 1) = ((m - 1 : Nat) : Int) := by rw [wrap_i64 (by omega) (by omega)]; omega
      cases b4
      · simp [s0, s3, s4, lit6]
        refine l1Below_ok xs hx hl g4 c i4 hh4 H4 6 (by omega) (by omega) _ fun g5 i5 hh5 n5 H5 nx5 kp5 p5 q5 => ?_
        obtain ⟨u, hu, hi⟩ := pick_str tab6 1 (by decide) (some 6) n5 p5 (by simpa [tab6] using q5)
        obtain ⟨t2, e2, ht2⟩ := join_str t u (t.size + 1) (by omega) (by omega)
        simp [s0, s3, s4, hi, e2, wm]
        exact hK (m - 1) _ _ (by omega) ⟨i5, hh5, t2, by omega, ⟨by simp [s0], by simp, by simp⟩, H5, by rw [nx5, nx4, nx3], fun b hb => by rw [kp5 b hb, kp4 b hb, kp3 b hb]⟩
      · simp [s0, s3, s4]
        refine l1Below_ok xs hx hl g4 c i4 hh4 H4 6 (by omega) (by omega) _ fun g6 i6 hh6 n6 H6 nx6 kp6 p6 q6 => ?_
        obtain ⟨t1, e1, ht1⟩ := dig_join t n6 (by omega)
        simp [s0, s3, s4, l4Signed_iff n6 p6 (by omega), e1, lit6]
        refine l1Below_ok xs hx hl g6 c i6 hh6 H6 6 (by omega) (by omega) _ fun g5 i5 hh5 n5 H5 nx5 kp5 p5 q5 => ?_
        obtain ⟨u, hu, hi⟩ := pick_str tab6 1 (by decide) (some 6) n5 p5 (by simpa [tab6] using q5)
        obtain ⟨t2, e2, ht2⟩ := join_str t1 u (t1.size + 1) (by omega) (by omega)
        simp [s0, s3, s4, hi, e2, wm]
        exact hK (m - 1) _ _ (by omega) ⟨i5, hh5, t2, by omega, ⟨by simp [s0], by simp, by simp⟩, H5, by rw [nx5, nx6, nx4, nx3], fun b hb => by rw [kp5 b hb, kp6 b hb, kp4 b hb, kp3 b hb]⟩
    · obtain rfl : m = 0 := by omega
      simp [hE, s0, s3, s4]
      refine l1Once_ok xs hx hl g3 c i3 hh3 H3 3 (by omega) (by omega) _ fun g4 i4 hh4 b4 H4 nx4 kp4 => ?_
      cases b4
      · simp [s0, s3, s4]
        refine l1Once_ok xs hx hl g4 c i4 hh4 H4 10 (by omega) (by omega) _ fun g7 i7 hh7 b7 H7 nx7 kp7 => ?_
        cases b7
        · simp [s0, s3, s4]
          refine l1Once_ok xs hx hl g7 c i7 hh7 H7 30 (by omega) (by omega) _ fun g9 i9 hh9 b9 H9 nx9 kp9 => ?_
          cases b9
          · simp [s0, s3, s4]
            exact hR g9 i9 hh9 t H9 (by rw [nx9, nx7, nx4, nx3]) (fun b hb => by rw [kp9 b hb, kp7 b hb, kp4 b hb, kp3 b hb]) (by omega)
          · simp [s0, s3, s4, lit5]
            refine l1Below_ok xs hx hl g9 c i9 hh9 H9 5 (by omega) (by omega) _ fun g10 i10 hh10 n10 H10 nx10 kp10 p10 q10 => ?_
            obtain ⟨u10, hu10, hi10⟩ := pick_str tab5 21 (by decide) (some 5) n10 p10 (by simpa [tab5] using q10)
            obtain ⟨t10, e10, ht10⟩ := join_str t u10 (t.size + 21) (by omega) (by omega)
            simp [s0, s3, s4, hi10, e10]
            exact hR g10 i10 hh10 t10 H10 (by rw [nx10, nx9, nx7, nx4, nx3]) (fun b hb => by rw [kp10 b hb, kp9 b hb, kp7 b hb, kp4 b hb, kp3 b hb]) (by omega)
        · obtain ⟨t8, e8, ht8⟩ := join_str t ⟨#[46]⟩ (t.size + 1) (by show t.size + 1 ≤ _; omega) (by omega)
          simp [s0, s3, s4, e8]
          refine l1Once_ok xs hx hl g7 c i7 hh7 H7 30 (by omega) (by omega) _ fun g9 i9 hh9 b9 H9 nx9 kp9 => ?_
          cases b9
          · simp [s0, s3, s4]
            exact hR g9 i9 hh9 t8 H9 (by rw [nx9, nx7, nx4, nx3]) (fun b hb => by rw [kp9 b hb, kp7 b hb, kp4 b hb, kp3 b hb]) (by omega)
          · simp [s0, s3, s4, lit5]
            refine l1Below_ok xs hx hl g9 c i9 hh9 H9 5 (by omega) (by omega) _ fun g10 i10 hh10 n10 H10 nx10 kp10 p10 q10 => ?_
            obtain ⟨u10, hu10, hi10⟩ := pick_str tab5 21 (by decide) (some 5) n10 p10 (by simpa [tab5] using q10)
            obtain ⟨t10, e10, ht10⟩ := join_str t8 u10 (t8.size + 21) (by omega) (by omega)
            simp [s0, s3, s4, hi10, e10]
            exact hR g10 i10 hh10 t10 H10 (by rw [nx10, nx9, nx7, nx4, nx3]) (fun b hb => by rw [kp10 b hb, kp9 b hb, kp7 b hb, kp4 b hb, kp3 b hb]) (by omega)
      · simp [s0, s3, s4]
        refine l1Below_ok xs hx hl g4 c i4 hh4 H4 6 (by omega) (by omega) _ fun g6 i6 hh6 n6 H6 nx6 kp6 p6 q6 => ?_
        obtain ⟨t1, e1, ht1⟩ := dig_join t n6 (by omega)
        simp [s0, s3, s4, l4Signed_iff n6 p6 (by omega), e1]
        refine l1Once_ok xs hx hl g6 c i6 hh6 H6 10 (by omega) (by omega) _ fun g7 i7 hh7 b7 H7 nx7 kp7 => ?_
        cases b7
        · simp [s0, s3, s4]
          refine l1Once_ok xs hx hl g7 c i7 hh7 H7 30 (by omega) (by omega) _ fun g9 i9 hh9 b9 H9 nx9 kp9 => ?_
          cases b9
          · simp [s0, s3, s4]
            exact hR g9 i9 hh9 t1 H9 (by rw [nx9, nx7, nx6, nx4, nx3]) (fun b hb => by rw [kp9 b hb, kp7 b hb, kp6 b hb, kp4 b hb, kp3 b hb]) (by omega)
          · simp [s0, s3, s4, lit5]
            refine l1Below_ok xs hx hl g9 c i9 hh9 H9 5 (by omega) (by omega) _ fun g10 i10 hh10 n10 H10 nx10 kp10 p10 q10 => ?_
            obtain ⟨u10, hu10, hi10⟩ := pick_str tab5 21 (by decide) (some 5) n10 p10 (by simpa [tab5] using q10)
            obtain ⟨t10, e10, ht10⟩ := join_str t1 u10 (t1.size + 21) (by omega) (by omega)
            simp [s0, s3, s4, hi10, e10]
            exact hR g10 i10 hh10 t10 H10 (by rw [nx10, nx9, nx7, nx6, nx4, nx3]) (fun b hb => by rw [kp10 b hb, kp9 b hb, kp7 b hb, kp6 b hb, kp4 b hb, kp3 b hb]) (by omega)
        · obtain ⟨t8, e8, ht8⟩ := join_str t1 ⟨#[46]⟩ (t1.size + 1) (by show t1.size + 1 ≤ _; omega) (by omega)
          simp [s0, s3, s4, e8]
          refine l1Once_ok xs hx hl g7 c i7 hh7 H7 30 (by omega) (by omega) _ fun g9 i9 hh9 b9 H9 nx9 kp9 => ?_
          cases b9
          · simp [s0, s3, s4]
            exact hR g9 i9 hh9 t8 H9 (by rw [nx9, nx7, nx6, nx4, nx3]) (fun b hb => by rw [kp9 b hb, kp7 b hb, kp6 b hb, kp4 b hb, kp3 b hb]) (by omega)
          · simp [s0, s3, s4, lit5]
            refine l1Below_ok xs hx hl g9 c i9 hh9 H9 5 (by omega) (by omega) _ fun g10 i10 hh10 n10 H10 nx10 kp10 p10 q10 => ?_
            obtain ⟨u10, hu10, hi10⟩ := pick_str tab5 21 (by decide) (some 5) n10 p10 (by simpa [tab5] using q10)
            obtain ⟨t10, e10, ht10⟩ := join_str t8 u10 (t8.size + 21) (by omega) (by omega)
            simp [s0, s3, s4, hi10, e10]
            exact hR g10 i10 hh10 t10 H10 (by rw [nx10, nx9, nx7, nx6, nx4, nx3]) (fun b hb => by rw [kp10 b hb, kp9 b hb, kp7 b hb, kp6 b hb, kp4 b hb, kp3 b hb]) (by omega)
end Go.Proofs.YteeaefjlpkijkaaDoor
