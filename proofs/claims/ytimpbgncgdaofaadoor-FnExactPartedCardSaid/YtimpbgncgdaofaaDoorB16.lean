/- The program's Parted; the law. -/
import Derived.Test.YtimpbgncgdaofaaDoorB15
namespace Go.Proofs.YtimpbgncgdaofaaDoor
open Go Go.Bm Go.Proofs
set_option linter.all false

theorem contains_iff (xs : List Int) (hx : xs.length ≤ 1048576) (m : Int) (h : AH) (R : AV → AH → Prop) : CA 41 [.fs none (xs.map (encI .i64)), .int .i64 m] h R ↔ R (.bool (decide (m ∈ xs))) h := by
  have idx : ∀ (h : AH) R, CA 58 [.fs none (xs.map (encI .i64)), .int .i64 m] h R ↔ R (.int .i64 (if m ∈ xs then ((List.range xs.length).find? fun i => decide (m = nth xs i)).getD 0 else -1)) h := by
    intro h R
    refine ca_pure (af := ac58) rfl ?_
    simp [ac58, (encI_ok .i64).toEncOk.len]
    refine awp_loop2 caM (fun n st h' => h' = h ∧ ∃ i : Nat, n = xs.length - i ∧ i ≤ xs.length ∧ (st 0 = .fs none (xs.map (encI .i64)) ∧ st 1 = .int .i64 m ∧ st 7 = .int .i64 xs.length ∧ st 8 = .int .i64 i) ∧ ∀ k, k < i → ¬ m = nth xs k) ?_ (n := xs.length) ⟨rfl, 0, by simp, by simp, by simp, fun k hk => absurd hk (by omega)⟩
    rintro n st h' ⟨rfl, i, rfl, hi, ⟨s0, s1, s7, s8⟩, hl⟩ K hK hE hQ
    simp [s0, s1, s7, s8]
    by_cases hlt : i < xs.length
    · have a1 := (encI_ok .i64).toEncOk.iaddr (by omega) none xs .i64 (i : Int) h' (by omega) (by omega)
      simp only [Int.toNat_natCast] at a1
      have hwr : IntKind.wrap .i64 ((i : Int) + 1) = (i : Int) + 1 := wrap_i64 (by omega) (by omega)
      simp [hlt, s0, s1, s7, s8, a1]
      by_cases c : m = nth xs i
      · have hm : m ∈ xs := by rw [c, nth_eq hlt]; exact List.getElem_mem hlt
        have hf : ((List.range xs.length).find? fun i => decide (m = nth xs i)) = some i := by
          rw [List.find?_range_eq_some]
          exact ⟨by simp [c], by simpa using hlt, fun k hk => by simp [hl k hk]⟩
        have c' : (m = nth xs i) = True := eq_true c
        simp [c', hQ, hm, hf]
      · have c' : (m = nth xs i) = False := eq_false c
        simp [c', s0, s1, s7, s8, hwr]
        exact hK (xs.length - (i + 1)) _ _ (by omega) ⟨rfl, i + 1, rfl, by omega, ⟨by simp [s0], by simp [s1], by simp [s7], by simp⟩, fun k hk => by
          by_cases e : k = i
          · rw [e]; exact c
          · exact hl k (by omega)⟩
    · obtain rfl : i = xs.length := by omega
      have hm : ¬ m ∈ xs := fun hm => by
        obtain ⟨k, hk, e⟩ := List.mem_iff_getElem.1 hm
        exact hl k hk (by rw [nth_eq hk]; exact e.symm)
      simp [hE, hm]
  refine ca_pure (af := ac41) rfl ?_
  simp [ac41, idx]
  by_cases c : m ∈ xs
  · simp [c]
  · simp [c]
theorem bslice1u (n : Int) (h3 : AH) : bsliceFA 1 1 [.int .u8 0] [(0, .int .u8 n)] h3 = some (.fs (some 1) [[.int .u8 n]], h3) := bsliceF1 1 _ (.int .u8 n) h3 rfl rfl rfl rfl
set_option maxRecDepth 100000 in
theorem Parted_iff (ps : List Pattern) (ws : List Exception) (s : ByteArray) (left right : Int) (hs : s.size ≤ 1048576) (hW : Book.W ⟨ps, ws⟩ ≤ 1048576) (h : AH) (R : AV → AH → Prop) :
    acallM CA .frz 19 [.agg [.fs none (ps.map Pattern.enc), .fs none (ws.map Exception.enc)], .str s, .int .i64 left, .int .i64 right] h R ↔ R (.str (partB ps ws s left right)) h := by
  refine ca_frz (af := ac19) rfl ?_
  have hxl := hyphL_len ps ws s left right hs hW
  have hsz := sz_list s
  have ref : ∀ (h : AH) R, acallM CA .frz 21 [.agg [.fs none (ps.map Pattern.enc), .fs none (ws.map Exception.enc)], .str s, .int .i64 left, .int .i64 right] h R ↔ R (.fs none ((hyphL ps ws s left right).map (encI .i64))) h := fun h R => own_frz (d := 2) (by decide) fun R hR => Hyphens_ok ps ws s left right hs hW h R fun h' y O => by
    obtain ⟨F, N⟩ := O.new_ (encI_flat .i64) 0
    exact hR h' y F N
  simp [ac19]
  refine Marks_ok 0 ps ws s hs hW h _ fun h1 y Oy hy => ?_
  have le1 := Oy.le
  cases hb : marksB ps ws s with
  | false =>
    have e := hy hb
    subst e
    simp [partB, hb, le1]
  | true =>
    obtain ⟨e1, e2⟩ := marksL_true hb
    have hsl : ∃ b o e n c, y = .sl b o e n c := by
      rcases Oy.at_ with ⟨e, _⟩ | ⟨b, c, e, _⟩
      · rw [e] at e2; simp at e2
      · exact ⟨_, _, _, _, _, e⟩
    have hnil : ∀ Q : AV → AH → Prop, eqnilR 0 false y .nils h1 Q = Q (.bool false) h1 := fun Q => by obtain ⟨b, o, e, n, c, rfl⟩ := hsl; exact eqnilR_sl ..
    have hpb : partB ps ws s left right = bs (imp (hyphL ps ws s left right) s.toList s.size) := by simp [partB, hb]
    rw [hpb]
    simp [hnil, ref]
    clear ref hpb hnil
    generalize hyphL ps ws s left right = xs at *
    refine awp_loop2 caM (fun n st g' => ∃ (i : Nat) (u : AV), n = s.size - i ∧ i ≤ s.size ∧ (st 1 = .str s ∧ st 9 = .fs none (xs.map (encI .i64)) ∧ st 10 = u ∧ st 22 = .int .i64 s.size ∧ st 23 = .int .i64 i) ∧ Own h1 1 encB g' u (imp xs s.toList i)) ?_ (n := s.size) ⟨0, .nils, by simp, by simp, by simp, Own.nils encB_ok.toEncOk (AH.le_refl h1)⟩
    rintro n st h3 ⟨i, u, rfl, hi, ⟨s1, s9, s10, s22, s23⟩, O⟩ K hK hE hQ
    simp [s22, s23]
    by_cases hlt : i < s.size
    · have ij := fun h4 => str_ix s i .i64 h4 hlt
      have hwr : IntKind.wrap .i64 ((i : Int) + 1) = (i : Int) + 1 := wrap_i64 (by omega) (by omega)
      have hil := imp_len xs s.toList i
      simp [hlt, s1, s9, s10, s22, s23, contains_iff xs hxl]
      by_cases c : (i : Int) ∈ xs
      · obtain ⟨u1, h4, a1, O1, _, _⟩ := O.append1 (some 1) (45 : UInt8) [.int .u8 45] rfl 1 (by omega) (by omega)
        obtain ⟨u2, h5, a2, O2, _, _⟩ := O1.append1 (some 1) (byt s i) [.int .u8 ((byt s i).toNat : Int)] rfl 1 (by rw [List.length_append]; simp; omega) (by rw [List.length_append]; simp; omega)
        have hi2 : imp xs s.toList i ++ [45] ++ [byt s i] = imp xs s.toList (i + 1) := by
          show _ = imp xs s.toList i ++ ((if (i : Int) ∈ xs then [45] else []) ++ [nth s.toList i])
          rw [if_pos c, byt_nth s hlt, List.append_assoc]
        rw [hi2] at O2
        simp [c, s1, s9, s10, s22, s23, ij, bslice1u, a1, a2, hwr]
        exact hK (s.size - (i + 1)) _ _ (by omega) ⟨i + 1, u2, rfl, by omega, ⟨by simp [s1], by simp [s9], by simp, by simp [s22], by simp⟩, O2⟩
      · obtain ⟨u2, h5, a2, O2, _, _⟩ := O.append1 (some 1) (byt s i) [.int .u8 ((byt s i).toNat : Int)] rfl 1 (by omega) (by omega)
        have hi2 : imp xs s.toList i ++ [byt s i] = imp xs s.toList (i + 1) := by
          show _ = imp xs s.toList i ++ ((if (i : Int) ∈ xs then [45] else []) ++ [nth s.toList i])
          rw [if_neg c, byt_nth s hlt, List.nil_append]
        rw [hi2] at O2
        simp [c, s1, s9, s10, s22, s23, ij, bslice1u, a2, hwr]
        exact hK (s.size - (i + 1)) _ _ (by omega) ⟨i + 1, u2, rfl, by omega, ⟨by simp [s1], by simp [s9], by simp, by simp [s22], by simp⟩, O2⟩
    · obtain rfl : i = s.size := by omega
      have hbb := b2s_own O
      simp [hE, s10, hbb]
      exact ⟨AH.le_trans le1 O.le, rfl⟩
theorem lawParted_ok (x : Book) (hx : x.Ok) (t : ByteArray) (ht : t.size ≤ maxLen) (a : Int) (ha : -9223372036854775808 ≤ a ∧ a ≤ 9223372036854775807) (b : Int) (hb : -9223372036854775808 ≤ b ∧ b ≤ 9223372036854775807) (h : AH) : CA 5 [.agg x.enc, .str t, .int .i64 a, .int .i64 b] h (fun v _ => v = .bool true) := by
  obtain ⟨ps, ws⟩ := x
  refine (ca_iff (af := ac5) rfl).2 ?_
  by_cases hts : (1048576 : Int) < t.size
  · simp [ac5, hts]
  simp [ac5, szBook_iff' _ _ hx, szr_neg, hts]
  by_cases hW : (1048576 : Int) < Book.W ⟨ps, ws⟩
  · simp [hW]
  have hw : Book.W ⟨ps, ws⟩ ≤ 1048576 := by omega
  have hs : t.size ≤ 1048576 := by omega
  simp [hW, toBook_iff' _ _ hw, specParted_iff ps ws t a b hs hw, Parted_iff ps ws t a b hs hw, eqBook_iff' _ _ _ _ (Nat.le_trans hw (by decide))]
end Go.Proofs.YtimpbgncgdaofaaDoor
