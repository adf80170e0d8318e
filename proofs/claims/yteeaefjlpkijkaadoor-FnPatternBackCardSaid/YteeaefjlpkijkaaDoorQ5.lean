/- Contracts: a pattern read (the walk). -/
import Derived.Test.YteeaefjlpkijkaaDoorQ4
import Derived.Test.YteeaefjlpkijkaaDoorBmR
namespace Go.Proofs.YteeaefjlpkijkaaDoor
open Go Go.Bm Go.Proofs
set_option linter.all false

theorem bslice1i (n : Int) (h3 : AH) : bsliceFA 1 1 [.int .i64 0] [(0, .int .i64 n)] h3 = some (.fs (some 1) [[.int .i64 n]], h3) := bsliceF1 1 _ (.int .i64 n) h3 rfl rfl rfl rfl
set_option maxRecDepth 100000 in
theorem ReadPattern_iff (s : ByteArray) (hs : s.size ≤ 1048574) (h : AH) (R : AV → AH → Prop) : acallM CA .frz 6 [.str s] h R ↔ R (.tup [.agg (readP s).1.enc, .bool (readP s).2]) h := by
  refine ca_frz (af := ac6) rfl ?_
  have hsz := sz_list s
  have hb1 : bsliceA 1 1 [.int .i64 0] [(0, .int .i64 0)] h = some (.sl h.next 0 1 1 (some 1), h.new (.cells true [.int .i64 0])) := bslice1 1 [.int .i64 0] (.int .i64 0) h rfl rfl rfl
  have O0 : Own h 1 (encI .i64) (h.new (.cells true [.int .i64 0])) (.sl h.next 0 1 1 (some 1)) [0] := ⟨(encI_ok .i64).toEncOk, AH.le_new_of (AH.le_refl h) _, .inr ⟨h.next, some 1, rfl, by rw [AH.get_new, if_pos rfl]; rfl, .inr rfl, Nat.le_refl _⟩⟩
  simp [ac6, hb1]
  revert O0
  generalize h.new (.cells true [.int .i64 0]) = h1
  generalize AV.sl h.next 0 1 1 (some 1) = v0
  intro O0
  refine awp_loop2 caM (fun n st g' => ∃ (i : Nat) (u v : AV) (q : Rst), n = s.size - i ∧ i ≤ s.size ∧ rd (s.toList.take i) rdInit = some q ∧ (st 0 = .str s ∧ st 5 = u ∧ st 6 = .bool q.digit ∧ st 12 = .int .i64 s.size ∧ st 13 = .int .i64 i ∧ st 100002 = .agg [.str ⟨#[]⟩, .nils] ∧ st 100004 = .agg [.str ⟨#[]⟩, v]) ∧ Own h 1 encB g' u q.letters ∧ Own h 1 (encI .i64) g' v q.marks ∧ ∀ b, blk u = some b → blk v ≠ some b) ?_ (n := s.size) ⟨0, .nils, v0, rdInit, by simp, by simp, rfl, by simp [rdInit], Own.nils encB_ok.toEncOk O0.le, O0, fun b hb => by cases hb⟩
  rintro n st h3 ⟨i, u, v, q, rfl, hi, hq, ⟨s0, s5, s6, s12, s13, s2, s4⟩, OU, OV, dj⟩ K hK hE hQ
  simp [s12, s13]
  have hsz2 := rd_sz _ hq (by simp [rdInit])
  have hti : (s.toList.take i).length ≤ i := by rw [List.length_take]; omega
  simp [rdInit] at hsz2
  by_cases hlt : i < s.size
  · have ij := str_ix s i .i64 h3 hlt
    have hwr : IntKind.wrap .i64 ((i : Int) + 1) = (i : Int) + 1 := wrap_i64 (by omega) (by omega)
    have hst := rd_take (l := s.toList) (i := i) (by omega) rdInit
    rw [hq, Option.bind_some, ← byt_nth s hlt] at hst
    have ou := OU.one1
    have ov := OV.one1
    simp [hlt, s0, s5, s6, s12, s13, s2, s4, ij, isDigit_iff]
    cases hd : digB (byt s i) with
    | true =>
      cases hq2 : q.digit with
      | true =>
        have hno : rd (s.toList.take (i + 1)) rdInit = none := by rw [hst]; simp [rdStep, hd, hq2]
        have hr : readP s = (⟨⟨#[]⟩, []⟩, false) := by unfold readP; rw [rd_stop _ hno]
        simp [hq2, s6, s2, hQ, hr]
        exact OU.le
      | false =>
        obtain ⟨w1, w2⟩ := sub48 _ hd
        have hst2 : rd (s.toList.take (i + 1)) rdInit = some ⟨q.letters, q.marks.dropLast ++ [((byt s i).toNat : Int) - 48], true⟩ := by rw [hst]; simp [rdStep, hd, hq2]
        have hwl : IntKind.wrap .i64 ((q.marks.length : Int) - 1) = ((q.marks.length - 1 : Nat) : Int) := by rw [wrap_i64 (by omega) (by omega)]; omega
        have hlast : q.marks.length - 1 < q.marks.length := by omega
        have ia : ∀ h4, iaddrA 1 v (.int .i64 ((q.marks.length - 1 : Nat) : Int)) h4 = some (elt 1 v (q.marks.length - 1) 0, h4) := fun h4 => by
          have := OV.iaddr h4 .i64 ((q.marks.length - 1 : Nat) : Int) (by omega) (by omega)
          simpa using this
        have e1 := OV.store1 (q.marks.length - 1) (((byt s i).toNat : Int) - 48) (.int .i64 (((byt s i).toNat : Int) - 48)) rfl rfl hlast
        have O2 := OV.setR (by omega) (ys := q.marks.set (q.marks.length - 1) (((byt s i).toNat : Int) - 48)) (by simp)
        have hset : q.marks.set (q.marks.length - 1) (((byt s i).toNat : Int) - 48) = q.marks.dropLast ++ [((byt s i).toNat : Int) - 48] := by
          have hmm : q.marks = q.marks.dropLast ++ [nth q.marks (q.marks.length - 1)] := by
            have e := take_succ hlast
            rw [show q.marks.length - 1 + 1 = q.marks.length by omega, List.take_length] at e
            rw [List.dropLast_eq_take]
            exact e
          conv => lhs; rw [hmm]
          rw [List.length_append, List.length_singleton, Nat.add_sub_cancel, List.set_append_right _ _ (Nat.le_refl _), Nat.sub_self]
          rfl
        have hsb : ∃ b, blk v = some b ∧ sb v = b ∧ h.next ≤ b := by
          rcases OV.at_ with ⟨e, _⟩ | ⟨b, c, rfl, _, _, hn⟩
          · rw [e] at hsz2; simp at hsz2
          · exact ⟨b, rfl, rfl, hn⟩
        obtain ⟨b, hb1, hb2, hb3⟩ := hsb
        have OU2 := OU.setR_ne v (by omega) (fun e => dj _ e (by rw [hb1, hb2])) (q.marks.set (q.marks.length - 1) (((byt s i).toNat : Int) - 48)) (enc := encI .i64)
        rw [hset] at e1 O2 OU2
        simp [-faddrA, hq2, s0, s5, s6, s12, s13, s2, s4, OV.len, hwl, w1, w2, ia, e1, hE, hwr]
        exact hK (s.size - (i + 1)) _ _ (by omega) ⟨i + 1, u, v, _, rfl, by omega, hst2, ⟨by simp [s0], by simp [s5], by simp, by simp [s12], by simp, by simp [s2], by simp [s4]⟩, OU2, O2, dj⟩
    | false =>
      have hst2 : rd (s.toList.take (i + 1)) rdInit = some ⟨q.letters ++ [byt s i], q.marks ++ [0], false⟩ := by rw [hst]; simp [rdStep, hd]
      obtain ⟨u', h4, e1, OU2, n1, k1⟩ := OU.append1 (some 1) (byt s i) [.int .u8 ((byt s i).toNat : Int)] rfl 1 (by omega) (by omega)
      have OV1 := OV.frame OU2.le fun b hb => k1 b (OV.lt hb) fun e => dj b e hb
      obtain ⟨v', h5, e2, OV2, n2, k2⟩ := OV1.append1 (some 1) (0 : Int) [.int .i64 0] rfl 8 (by omega) (by omega)
      have bu := append_blk e1
      have bv := append_blk e2
      have hult := OU2.lt bu
      have OU3 := OU2.frame OV2.le fun b hb => k2 b (OU2.lt hb) fun e => by
        have h1 := OV.lt e
        rw [bu] at hb; cases hb
        omega
      have ou' := OU3.one1
      have ov' := OV2.one1
      simp [-AV.one, -AV.cells, cells_agg, cells_one, one_nils, one_str, cells_str, s0, s5, s6, s12, s13, s2, s4, bslice1u, bslice1i, e1, e2, ov', ov, hwr]
      exact hK (s.size - (i + 1)) _ _ (by omega) ⟨i + 1, u', v', _, rfl, by omega, hst2, ⟨by simp [s0], by simp, by simp, by simp [s12], by simp, by simp [s2], by simp⟩, OU3, OV2, fun b hb hb2 => by
        rw [bu] at hb; rw [bv] at hb2
        have x1 := Option.some.inj hb
        have x2 := Option.some.inj hb2
        omega⟩
  · obtain rfl : i = s.size := by omega
    rw [← hsz, List.take_length] at hq
    have ov := OV.one1
    have hbb := b2s_own OU
    have hls : (⟨q.letters.toArray⟩ : ByteArray).size = q.letters.length := by simp [ByteArray.size]
    obtain ⟨F, NV⟩ := OV.new_ (encI_flat .i64) 0
    have fv : frzV 0 h3 DF (.agg [.str ⟨q.letters.toArray⟩, v]) = some (.agg [.str ⟨q.letters.toArray⟩, .fs none (q.marks.map (encI .i64))]) := by
      have e1 := NV.tw.frz 2 (lo := 0) (fun b _ => Nat.zero_le b) 19 (by omega)
      simp [e1]
    have hpo : ∀ R, acallM CA .bor 8 [.agg [.str ⟨q.letters.toArray⟩, v]] h3 R ↔ R (.bool (patB ⟨⟨q.letters.toArray⟩, q.marks⟩)) h3 := fun R => bor_call (by simp only [mapO, fv]) rfl (fun h' R => PatternOk_iff ⟨q.letters.toArray⟩ q.marks (by omega) (by omega) h' R)
    have hz := OV.frz18 (encI_ok .i64)
    have hr : readP s = if patB ⟨⟨q.letters.toArray⟩, q.marks⟩ then (⟨⟨q.letters.toArray⟩, q.marks⟩, true) else (⟨⟨#[]⟩, []⟩, false) := by unfold readP; rw [hq]
    simp [-AV.one, -AV.cells, cells_agg, cells_one, one_nils, one_str, cells_str, hE, s5, s2, s4, hbb, ov, hpo]
    cases hp : patB ⟨⟨q.letters.toArray⟩, q.marks⟩ with
    | false =>
      rw [hp] at hr
      simp [hr, s2]
      exact OU.le
    | true =>
      rw [hp] at hr
      simp [-AV.one, -AV.cells, cells_agg, cells_one, one_nils, one_str, cells_str, hr, s2, s4, ov, hz]
      exact OU.le
end Go.Proofs.YteeaefjlpkijkaaDoor
