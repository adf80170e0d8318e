/- Contracts: the draws begin; a digit as a text. -/
import Derived.Test.YteeaefjlpkijkaaDoorQ7
namespace Go.Proofs.YteeaefjlpkijkaaDoor
open Go Go.Bm Go.Proofs
set_option linter.all false

theorem and30 (a : Int) : ∃ n : Int, binInt .and .i64 a 1073741823 = some (.int .i64 n) := ⟨_, rfl⟩
theorem l1New_ok (xs : List Int) (hl : xs.length ≤ 1048576) (g : AH) (R : AV → AH → Prop)
    (hR : ∀ g' c hh, Cur g' c xs 0 hh → g.le g' → g.next ≤ c → R (.ptr c 0) g') : CA 16 [.fs none (xs.map (encI .u8))] g R := by
  refine (ca_iff (af := ac16) rfl).2 ?_
  simp [ac16, (encI_ok .u8).toEncOk.len]
  refine awp_loop2 caM (fun n st g' => g' = g ∧ ∃ (i : Nat) (hh : Int), n = xs.length - i ∧ i ≤ xs.length ∧ (st 0 = .fs none (xs.map (encI .u8)) ∧ st 3 = .int .i64 hh ∧ st 4 = .int .i64 i)) ?_ (n := xs.length) ⟨rfl, 0, IntKind.wrap .i64 (91237 + (xs.length : Int)), by simp, by simp, by simp, by simp, by simp⟩
  rintro n st g' ⟨rfl, i, hh, rfl, hi, s0, s3, s4⟩ K hK hE hQ
  simp [s0, s4, (encI_ok .u8).toEncOk.len]
  by_cases hlt : i < xs.length
  · have a1 := (encI_ok .u8).toEncOk.iaddr (by omega) none xs .i64 (i : Int) g' (by omega) (by omega)
    simp only [Int.toNat_natCast] at a1
    have hw : IntKind.wrap .i64 ((i : Int) + 1) = (i : Int) + 1 := wrap_i64 (by omega) (by omega)
    obtain ⟨n1, e1⟩ := and30 (IntKind.wrap .i64 (IntKind.wrap .i64 (IntKind.wrap .i64 (hh * 137) + IntKind.wrap .i64 (nth xs i)) + 11))
    simp [hlt, s0, s3, s4, a1, e1, hw]
    exact hK (xs.length - (i + 1)) _ _ (by omega) ⟨rfl, i + 1, n1, rfl, by omega, by simp [s0], by simp, by simp⟩
  · simp [hE, hlt, s0, s3, boxA]
    exact hR _ _ hh ⟨by rw [AH.get_new, if_pos rfl]; simp, Nat.zero_le _⟩ (AH.le_new_of (AH.le_refl g') _) (Nat.le_refl _)
theorem l1Abs_iff (m : Int) (h0 : 0 ≤ m) (h1 : m ≤ 1000) (h : AH) (R : AV → AH → Prop) : CA 38 [.int .i64 m] h R ↔ R (.int .u64 m) h := by
  refine ca_pure (af := ac38) rfl ?_
  have hw : IntKind.wrap .u64 m = m := by simp [IntKind.wrap, IntKind.bits, IntKind.signed]; omega
  simp [ac38, show ¬ m < 0 by omega, hw]
/-- A number of one digit, as a text. -/
def dig1 (m : Int) : ByteArray := ⟨#[UInt8.ofNat (48 + m.toNat)]⟩
theorem dig1_size (m : Int) : (dig1 m).size = 1 := rfl
theorem l1Decimal_iff (m : Int) (h0 : 0 ≤ m) (h1 : m ≤ 9) (h : AH) (R : AV → AH → Prop) : CA 37 [.int .u64 m] h R ↔ R (.str (dig1 m)) h := by
  refine ca_pure (af := ac37) rfl ?_
  simp [ac37]
  refine awp_loop2 caM (fun n st g' => g' = h ∧ n = 0 ∧ (st 0 = .int .u64 m ∧ st 3 = .str ⟨#[]⟩)) ?_ (n := 0) ⟨rfl, rfl, by simp, by simp⟩
  rintro n st g' ⟨rfl, rfl, s0, s3⟩ K hK hE hQ
  have hu : ((UInt8.ofNat (48 + m.toNat)).toNat : Int) = 48 + m := by rw [UInt8.toNat_ofNat']; omega
  have hw1 : IntKind.wrap .u64 (48 + m) = 48 + m := by simp [IntKind.wrap, IntKind.bits, IntKind.signed]; omega
  have hw2 : IntKind.wrap .u8 (48 + m) = 48 + m := wrap_u8 (by omega) (by omega)
  have hb2 : b2sA (.fs (some 1) [[.int .u8 (48 + m)]]) g' = some (.str (dig1 m), g') := by
    rw [← hu]
    have := bytesA_enc [UInt8.ofNat (48 + m.toNat)]
    show (match bytesA [.int .u8 ((UInt8.ofNat (48 + m.toNat)).toNat : Int)] with | some bs => some (AV.str ⟨bs.toArray⟩, g') | none => none) = _
    rw [show bytesA [.int .u8 ((UInt8.ofNat (48 + m.toNat)).toNat : Int)] = some [UInt8.ofNat (48 + m.toNat)] from this]
    rfl
  have hs := binStr_add (dig1 m) ⟨#[]⟩ (by rw [dig1_size]; decide)
  have hse : dig1 m ++ ⟨#[]⟩ = dig1 m := by apply ByteArray.ext; simp [ByteArray.data_append]
  rw [hse] at hs
  simp [s0, s3, show ¬ 9 < m by omega, hE, hw1, hw2, bslice1u, hb2, hs]
theorem l4Signed_iff (m : Int) (h0 : 0 ≤ m) (h1 : m ≤ 9) (h : AH) (R : AV → AH → Prop) : CA 29 [.int .i64 m] h R ↔ R (.str (dig1 m)) h := by
  refine ca_pure (af := ac29) rfl ?_
  simp [ac29, l1Abs_iff m h0 (by omega), l1Decimal_iff m h0 h1, show ¬ m < 0 by omega]
end Go.Proofs.YteeaefjlpkijkaaDoor
