/- Contracts: digits, rows of whole numbers compared, a pattern shown. -/
import Derived.Test.YteeaefjlpkijkaaDoorQ2
namespace Go.Proofs.YteeaefjlpkijkaaDoor
open Go Go.Bm Go.Proofs
set_option linter.all false

theorem isDigit_iff (b : UInt8) (h : AH) (R : AV → AH → Prop) : CA 12 [.int .u8 (b.toNat : Int)] h R ↔ R (.bool (digB b)) h := by
  refine ca_pure (af := ac12) rfl ?_
  simp [ac12, digB]
  by_cases h1 : 48 ≤ b.toNat
  · simp [h1, show (48 : Int) ≤ b.toNat by omega]
    by_cases h2 : b.toNat ≤ 57
    · simp [h2, show (b.toNat : Int) ≤ 57 by omega]
    · simp [h2, show ¬ (b.toNat : Int) ≤ 57 by omega]
  · simp [h1, show ¬ (48 : Int) ≤ b.toNat by omega]
theorem sameInts_iff (p q : List Int) (hp : p.length ≤ 1048576) (hq : q.length ≤ 1048576) (c d : Option Nat) (h : AH) (R : AV → AH → Prop) : CA 9 [.fs c (p.map (encI .i64)), .fs d (q.map (encI .i64))] h R ↔ R (.bool (decide (p = q))) h := by
  refine ca_pure (af := ac9) rfl ?_
  simp [ac9, (encI_ok .i64).toEncOk.len]
  by_cases hl : p.length = q.length
  · simp [hl]
    refine awp_loop2 caM (fun n s h' => h' = h ∧ ∃ i : Nat, n = p.length - i ∧ i ≤ p.length ∧ (s 0 = .fs c (p.map (encI .i64)) ∧ s 1 = .fs d (q.map (encI .i64)) ∧ s 5 = .int .i64 i) ∧ p.take i = q.take i) ?_ (n := p.length) ⟨rfl, 0, by simp, by simp, by simp, by simp⟩
    rintro n s h' ⟨rfl, i, rfl, hi, ⟨s0, s1, s5⟩, ht⟩ K hK hE hQ
    simp [s0, s1, s5, (encI_ok .i64).toEncOk.len]
    by_cases hlt : i < p.length
    · have a1 := (encI_ok .i64).toEncOk.iaddr (by omega) c p .i64 (i : Int) h' (by omega) (by omega)
      have a2 := (encI_ok .i64).toEncOk.iaddr (by omega) d q .i64 (i : Int) h' (by omega) (by omega)
      simp only [Int.toNat_natCast] at a1 a2
      have hw : IntKind.wrap .i64 ((i : Int) + 1) = (i : Int) + 1 := wrap_i64 (by omega) (by omega)
      simp [hlt, s0, s1, s5, a1, a2]
      by_cases e : nth p i = nth q i
      · simp [e, hw, s0, s1, s5]
        refine hK (p.length - (i + 1)) _ _ (by omega) ⟨rfl, i + 1, rfl, by omega, ⟨by simp [s0], by simp [s1], by simp⟩, by rw [take_succ hlt, take_succ (by omega), ht, e]⟩
      · have hne : p ≠ q := fun e2 => e (by rw [e2])
        simp [e, hne, hQ]
    · obtain rfl : i = p.length := by omega
      have e : p = q := by rw [List.take_length] at ht; rw [ht, hl, List.take_length]
      simp [hE, hlt, e]
  · have hne : p ≠ q := fun e => hl (by rw [e])
    have hl' : ¬ (p.length : Int) = q.length := by omega
    simp [hl, hl', hne]
/-! ### rows of bytes of one's own -/
def encB (b : UInt8) : List AV := [.int .u8 (b.toNat : Int)]
theorem encB_ok : EncF 1 encB := ⟨⟨fun _ => rfl, fun _ => rfl⟩, fun _ _ _ _ => rfl⟩
theorem bytesA_enc : ∀ l : List UInt8, bytesA (l.flatMap encB) = some l
  | [] => rfl
  | b :: l => by
    show bytesA (.int .u8 (b.toNat : Int) :: l.flatMap encB) = _
    unfold bytesA
    rw [bytesA_enc l, if_pos (by simp)]
    simp
theorem b2s_own {h0 h : AH} {v : AV} {l : List UInt8} (O : Own h0 1 encB h v l) : b2sA v h = some (.str ⟨l.toArray⟩, h) := by
  have : srcA h 1 v = some (l.length, l.flatMap encB) := by
    rcases O.at_ with ⟨rfl, rfl | rfl⟩ | ⟨b, c, rfl, hg, _, _⟩
    · rfl
    · rfl
    · have hl : (l.flatMap encB).length = l.length * 1 := O.ok.flen l
      simp only [srcA, if_true, AH.read, hg]
      rw [if_pos (by omega), List.drop_zero, List.take_of_length_le (by omega)]
      rfl
  unfold b2sA
  rw [this]
  simp only [bytesA_enc]
theorem byt_nth (s : ByteArray) {i : Nat} (hi : i < s.size) : byt s i = nth s.toList i := by
  have hl : i < s.toList.length := by rw [Lib.toList_data, ← Lib.size_eq]; exact hi
  unfold byt
  rw [nth_eq hl, List.getD_eq_getElem?_getD, List.getElem?_eq_getElem hl]
  rfl
theorem sz_list (s : ByteArray) : s.toList.length = s.size := by rw [Lib.toList_data, ← Lib.size_eq]
theorem bslice1u (n : Int) (h3 : AH) : bsliceFA 1 1 [.int .u8 0] [(0, .int .u8 n)] h3 = some (.fs (some 1) [[.int .u8 n]], h3) := bsliceF1 1 _ (.int .u8 n) h3 rfl rfl rfl rfl
theorem showU_len (l : List UInt8) (ms : List Int) : ∀ i, (showU l ms i).length ≤ 2 * i
  | 0 => by simp [showU]
  | i + 1 => by
    have := showU_len l ms i
    rw [showU, List.length_append, List.length_append]
    unfold markC
    split <;> split <;> simp <;> omega
def showS (l : ByteArray) (ms : List Int) : ByteArray := if patB ⟨l, ms⟩ then ⟨(showU l.toList ms ms.length).toArray⟩ else ⟨#[]⟩
theorem ShowPattern_iff (l : ByteArray) (ms : List Int) (hs : l.size ≤ 1048576) (hm : ms.length ≤ 1048576) (h : AH) (R : AV → AH → Prop) : acallM CA .frz 7 [.agg [.str l, .fs none (ms.map (encI .i64))]] h R ↔ R (.str (showS l ms)) h := by
  refine ca_frz (af := ac7) rfl ?_
  have hsz := sz_list l
  simp [ac7, PatternOk_iff l ms hs hm]
  cases hp : patB ⟨l, ms⟩ with
  | false => simp [showS, hp]
  | true =>
    have hmk : ∀ k, k < ms.length → 0 ≤ nth ms k ∧ nth ms k ≤ 9 := by
      simp only [patB, Bool.and_eq_true] at hp
      have := rall_iff.1 hp.1.2
      intro k hk
      have := this k hk
      simpa [mrkF, mrkB] using this
    simp [(encI_ok .i64).toEncOk.len]
    refine awp_loop2 caM (fun n st g' => ∃ (i : Nat) (u : AV), n = ms.length - i ∧ i ≤ ms.length ∧ (st 3 = u ∧ st 10 = .fs none (ms.map (encI .i64)) ∧ st 11 = .int .i64 ms.length ∧ st 12 = .int .i64 i ∧ st 100001 = .agg [.str l, .fs none (ms.map (encI .i64))]) ∧ Own h 1 encB g' u (showU l.toList ms i)) ?_ (n := ms.length) ⟨0, .nils, by simp, by simp, by simp, Own.nils encB_ok.toEncOk (AH.le_refl h)⟩
    rintro n st h3 ⟨i, u, rfl, hi, ⟨s3, s10, s11, s12, s1⟩, O⟩ K hK hE hQ
    simp [s10, s11, s12]
    by_cases hlt : i < ms.length
    · have a1 := (encI_ok .i64).toEncOk.iaddr (by omega) none ms .i64 (i : Int) h3 (by omega) (by omega)
      simp only [Int.toNat_natCast] at a1
      have hwr : IntKind.wrap .i64 ((i : Int) + 1) = (i : Int) + 1 := wrap_i64 (by omega) (by omega)
      have hil := showU_len l.toList ms i
      obtain ⟨m1, m2⟩ := hmk i hlt
      have hw1 : IntKind.wrap .i64 (48 + nth ms i) = 48 + nth ms i := wrap_i64 (by omega) (by omega)
      have hu : ((UInt8.ofNat (48 + (nth ms i).toNat)).toNat : Int) = 48 + nth ms i := by rw [UInt8.toNat_ofNat']; omega
      have hw2 : IntKind.wrap .u8 (48 + nth ms i) = ((UInt8.ofNat (48 + (nth ms i).toNat)).toNat : Int) := by rw [hu, wrap_u8 (by omega) (by omega)]
      -- behind the mark
      obtain ⟨u1, h4, O1, hmark⟩ : ∃ u1 h4, Own h 1 encB h4 u1 (showU l.toList ms i ++ markC (nth ms i)) ∧ (0 < nth ms i → appendA 1 1 u (.fs (some 1) [[.int .u8 ((UInt8.ofNat (48 + (nth ms i).toNat)).toNat : Int)]]) h3 = some (u1, h4)) ∧ (¬ 0 < nth ms i → u1 = u ∧ h4 = h3) := by
        by_cases c : 0 < nth ms i
        · obtain ⟨u1, h4, e1, O1, _, _⟩ := O.append1 (some 1) (UInt8.ofNat (48 + (nth ms i).toNat)) [.int .u8 ((UInt8.ofNat (48 + (nth ms i).toNat)).toNat : Int)] rfl 1 (by omega) (by omega)
          exact ⟨u1, h4, by simpa [markC, c] using O1, fun _ => e1, fun x => absurd c x⟩
        · exact ⟨u, h3, by simpa [markC, c] using O, fun x => absurd x c, fun _ => ⟨rfl, rfl⟩⟩
      generalize hbq : UInt8.ofNat (48 + (nth ms i).toNat) = b at hu hw2 hmark
      have hlen1 : (showU l.toList ms i ++ markC (nth ms i)).length ≤ 2 * i + 1 := by
        rw [List.length_append]; unfold markC; split <;> simp <;> omega
      have fin : ∀ (u2 : AV) (h5 : AH), Own h 1 encB h5 u2 (showU l.toList ms (i + 1)) → ∀ st2 : S, st2 3 = u2 → st2 10 = .fs none (ms.map (encI .i64)) → st2 11 = .int .i64 ms.length → st2 12 = .int .i64 ((i : Int) + 1) → st2 100001 = .agg [.str l, .fs none (ms.map (encI .i64))] → K .normal st2 h5 := fun u2 h5 O2 st2 t3 t10 t11 t12 t1 =>
        hK (ms.length - (i + 1)) _ _ (by omega) ⟨i + 1, u2, rfl, by omega, ⟨t3, t10, t11, by simpa using t12, t1⟩, O2⟩
      rw [showU, ← List.append_assoc] at fin
      have tail : (i < l.size → ∃ u2 h5, appendA 1 1 u1 (.fs (some 1) [[.int .u8 ((byt l i).toNat : Int)]]) h4 = some (u2, h5) ∧ Own h 1 encB h5 u2 (showU l.toList ms i ++ markC (nth ms i) ++ if i < l.toList.length then [nth l.toList i] else [])) := fun hil2 => by
        obtain ⟨u2, h5, e2, O2, _, _⟩ := O1.append1 (some 1) (byt l i) [.int .u8 ((byt l i).toNat : Int)] rfl 1 (by omega) (by omega)
        exact ⟨u2, h5, e2, by rw [if_pos (by omega), ← byt_nth l hil2]; exact O2⟩
      have ij := fun h6 hx => str_ix l i .i64 h6 hx
      simp [hlt, s3, s10, s11, s12, s1, a1]
      by_cases c : 0 < nth ms i
      · have e1 := hmark.1 c
        have c' : (0 < nth ms i) = True := eq_true c
        simp [c', s3, s10, s11, s12, s1, hw1, hw2, bslice1u, e1]
        by_cases c2 : i < l.size
        · obtain ⟨u2, h5, e2, O2⟩ := tail c2
          simp [c2, ij _ c2, s3, s10, s11, s12, s1, bslice1u, e2, hwr]
          exact fin _ _ O2 _ (by simp) (by simp [s10]) (by simp [s11]) (by simp) (by simp [s1])
        · rw [if_neg (by omega), List.append_nil] at fin
          simp [c2, s3, s10, s11, s12, s1, hwr]
          exact fin _ _ O1 _ (by simp) (by simp [s10]) (by simp [s11]) (by simp) (by simp [s1])
      · obtain ⟨rfl, rfl⟩ := hmark.2 c
        have c' : (0 < nth ms i) = False := eq_false c
        simp [c', s3, s10, s11, s12, s1]
        by_cases c2 : i < l.size
        · obtain ⟨u2, h5, e2, O2⟩ := tail c2
          simp [c2, ij _ c2, s3, s10, s11, s12, s1, bslice1u, e2, hwr]
          exact fin _ _ O2 _ (by simp) (by simp [s10]) (by simp [s11]) (by simp) (by simp [s1])
        · rw [if_neg (by omega), List.append_nil] at fin
          simp [c2, s3, s10, s11, s12, s1, hwr]
          exact fin _ _ O1 _ (by simp [s3]) (by simp [s10]) (by simp [s11]) (by simp) (by simp [s1])
    · obtain rfl : i = ms.length := by omega
      have hbb := b2s_own O
      simp [hE, s3, hbb, showS, hp]
      exact O.le
end Go.Proofs.YteeaefjlpkijkaaDoor
