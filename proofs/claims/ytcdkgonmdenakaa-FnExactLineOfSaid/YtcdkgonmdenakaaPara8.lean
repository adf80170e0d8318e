/- Contracts: BreakList and LineOf of the program. -/
import Derived.Test.YtcdkgonmdenakaaPara7
namespace Go.Proofs.Ytcdkgonmdenakaa
open Go Go.Bm Go.Proofs
set_option linter.all false

theorem nil_le (h : AH) : AH.nil.le h := ⟨Nat.zero_le _, fun b hb => absurd hb (by simp [AH.nil])⟩
theorem Own.frz0 {α : Type} {es : Nat} {enc : α → List AV} {h0 h : AH} {v : AV} {xs : List α} (H : Own h0 es enc h v xs) (E : EncF es enc) : frzV 0 h DF v = some (.fs none (xs.map enc)) :=
  (H.weaken (nil_le h0)).frzD E
theorem RowAt.grow {h0 h h' : AH} {b : Nat} {va vb : AV} {st : Style} {l : List (List Node)} {bs : List Int} (H : RowAt h0 h b va vb st l bs) (hle : h.le h') : RowAt h0 h' b va vb st l bs :=
  ⟨AH.le_of_get hle H.cell, H.new, H.rows.grow hle, H.brk.grow hle, H.s1, H.s2, H.s3⟩
theorem is_iff {h0 h : AH} {b : Nat} {va vb : AV} {st : Style} {l : List (List Node)} {bs : List Int} (H : RowAt h0 h b va vb st l bs) (hb : bs.length ≤ 1048576) (k : Int) (R : AV → AH → Prop) : CA 33 [.ptr b 0, .int .i64 k] h R ↔ R (.bool (seekB bs k)) h := by
  refine ca_pure (af := ac33) rfl ?_
  have q : ∀ R, acallM CA .bor 51 [vb, .int .i64 k] h R ↔ R (.tup [.int .i64 (seekI bs k), .bool (seekB bs k)]) h := fun R =>
    bor_call (args' := [.fs none (bs.map (encI .i64)), .int .i64 k]) (by simp only [mapO, Own.frz0 H.brk (encI_ok .i64)]; rfl) rfl (fun h' R => BinarySearch_iff bs k hb none h' R)
  simp [ac33, H.ldb, q]
set_option maxRecDepth 100000 in
theorem line_ok {h0 h : AH} {bk : Nat} {va vb : AV} {st : Style} {l : List (List Node)} {bs : List Int} (P : RowAt h0 h bk va vb st l bs) (hne : ∀ x ∈ l, 0 < x.length) (hb : l.length ≤ 1048576) (ht : tot l ≤ 1048579)
    (a b : Int) (ha : -1 ≤ a) (hab : a < b) (hbl : b < l.length) (R : AV → AH → Prop) (hR : ∀ h' v, Own h 15 Node.enc h' v (lineL l st (a + 1).toNat b.toNat) → R v h') : CA 34 [.ptr bk 0, .int .i64 a, .int .i64 b] h R := by
  refine (ca_iff (af := ac34) rfl).2 ?_
  obtain ⟨to, rfl⟩ : ∃ to : Nat, b = to := ⟨b.toNat, by omega⟩
  rw [Int.toNat_natCast] at hR
  have hto : to < l.length := by omega
  have ldL : ∀ h', h.le h' → loadA true 5 (.ptr bk 8) h' = some (.agg [.int .i64 st.left.size, .int .i64 st.left.plus, .int .i64 st.left.plusOrder, .int .i64 st.left.minus, .int .i64 st.left.minusOrder], h') := fun h' hle => by
    have := ldA (AH.le_of_get hle P.cell) 8 5 (by simp); simpa using this
  have ldR : ∀ h', h.le h' → loadA true 5 (.ptr bk 13) h' = some (.agg [.int .i64 st.right.size, .int .i64 st.right.plus, .int .i64 st.right.plusOrder, .int .i64 st.right.minus, .int .i64 st.right.minusOrder], h') := fun h' hle => by
    have := ldA (AH.le_of_get hle P.cell) 13 5 (by simp); simpa using this
  have O0 := Own.made (enc := Node.enc) (xs := [glu st.left]) Node.ok.toEncOk (AH.le_refl h) rfl (n := 1) rfl
  have e0 := bslice1 15 [.int .i64 0, .int .i64 0, .int .i64 0, .int .i64 0, .int .i64 0, .int .i64 0, .int .i64 0, .int .i64 0, .int .i64 0, .int .i64 0, .int .i64 0, .int .i64 0, .int .i64 0, .str ⟨#[]⟩, .int .i64 0] (.agg (glu st.left).enc) h rfl rfl rfl
  have e0' : ([glu st.left] : List Node).flatMap Node.enc = (AV.agg (glu st.left).enc).cells := by simp
  rw [e0'] at O0
  generalize h.new (.cells true (AV.agg (glu st.left).enc).cells) = h1 at O0 e0
  generalize AV.sl h.next 0 15 1 (some 1) = v0 at O0 e0
  simp only [Node.enc, glu] at e0
  have wa : IntKind.wrap .i64 (a + 1) = ((a + 1).toNat : Int) := by rw [wrap_i64 (by omega) (by omega)]; omega
  have P1 := P.grow O0.le
  simp [ac34, ldL h (AH.le_refl h), e0, wa]
  refine awp_loop2 caM (fun n s h' => ∃ (i : Nat), h' = h1 ∧ n = to - i ∧ i ≤ to ∧ (s 0 = .ptr bk 0 ∧ s 2 = .int .i64 to ∧ s 7 = v0 ∧ s 8 = .int .i64 i) ∧ skipD l (a + 1).toNat to = skipD l i to) ?_ (n := to - (a + 1).toNat) ⟨(a + 1).toNat, rfl, rfl, by omega, by simp, rfl⟩
  rintro n s h' ⟨i, rfl, rfl, hi, ⟨s0, s2, s7, s8⟩, hsk⟩ K hK hE hQ
  simp [s0, s2, s7, s8]
  have done : skipD l i to = i → ∀ t : S, t 0 = s 0 → t 2 = s 2 → t 7 = s 7 → t 8 = s 8 → K (.exit 0) t h' := by
    intro e t t0 t2 t7 t8
    rw [s0] at t0; rw [s2] at t2; rw [s7] at t7; rw [s8] at t8
    rw [e] at hsk
    have hml := midL_len l (to - i) i to (by omega) (by omega)
    have htd := tot_drop l i
    simp [hE, t8]
    clear hK hE hQ
    refine awp_loop2 caM (fun n s h2 => ∃ (j : Nat) (v : AV) (out : List Node), n = to - j ∧ j ≤ to ∧ (s 0 = .ptr bk 0 ∧ s 2 = .int .i64 to ∧ s 7 = v ∧ s 9 = .int .i64 j) ∧ Own h 15 Node.enc h2 v out ∧ out ++ midL l j to = glu st.left :: midL l i to) ?_ (n := to - i) ⟨i, v0, [glu st.left], rfl, hi, ⟨by simp [t0], by simp [t2], by simp [t7], by simp⟩, O0, rfl⟩
    clear t0 t2 t7 t8 s0 s2 s7 s8
    rintro n s h2 ⟨j, v, out, rfl, hj, ⟨s0, s2, s7, s9⟩, O, hout⟩ K hK hE hQ
    have P2 := P.grow O.le
    have hol := congrArg List.length hout
    rw [List.length_append, List.length_cons] at hol
    simp [s0, s2, s7, s9]
    by_cases hlt : j < to
    · have i1 := fun k => P2.rows.iaddr h2 k (j : Int) (by omega) (by omega)
      have i2 := P2.rows.load1 j 0 (by omega) (by omega)
      have w1 : IntKind.wrap .i64 ((j : Int) + 1) = (j : Int) + 1 := wrap_i64 (by omega) (by omega)
      simp only [Int.toNat_natCast] at i1
      simp [hlt, s0, s7, s9, P2.lda, i1, i2, hd_load l hne (show j < l.length by omega)]
      rw [midL_lt hlt] at hout hol
      by_cases k8 : (hd1 (nth l j)).kind = 8
      · simp [k8] at hout
        simp [k8, s9, w1]
        exact hK (to - (j + 1)) _ _ (by omega) ⟨j + 1, v, out, rfl, by omega, ⟨by simp [s0], by simp [s2], by simp [s7], by simp⟩, O, hout⟩
      · simp [k8] at hout hol
        obtain ⟨v2, h3, ea, O2, _⟩ := O.appendR none (nth l j) 128 (by omega) (by omega)
        simp [k8, s0, s7, s9, P2.lda, i1, i2, ea, w1]
        exact hK (to - (j + 1)) _ _ (by omega) ⟨j + 1, v2, _, rfl, by omega, ⟨by simp [s0], by simp [s2], by simp, by simp⟩, O2, by rw [List.append_assoc]; exact hout⟩
    · obtain rfl : j = to := by omega
      rw [midL_end (by omega), List.append_nil] at hout
      have i1 := fun k => P2.rows.iaddr h2 k (j : Int) (by omega) (by omega)
      have i2 := P2.rows.load1 j 0 (by omega) (by omega)
      simp only [Int.toNat_natCast] at i1
      have p1 := fun h => lit1N (glu st.right) h
      have p2 := fun h => lit1N (hyph1 (hd1 (nth l j))) h
      simp only [glu, hyph1] at p1 p2
      simp [hE, s0, s2, P2.lda, i1, i2, hd_load l hne hto]
      unfold lineL at hR
      rw [hsk, ← hout] at hR
      by_cases k8 : (hd1 (nth l j)).kind = 8
      · obtain ⟨v2, h3, ea, O2, _⟩ := O.append1 (some 1) (hyph1 (hd1 (nth l j))) _ rfl 128 (by omega) (by omega)
        obtain ⟨v3, h4, eb, O3, _⟩ := O2.append1 (some 1) (glu st.right) _ rfl 128 (by simp; omega) (by simp; omega)
        simp only [Node.enc, hyph1, glu] at ea eb
        simp [k8, s0, s7, p1, p2, ea, eb, ldR h3 O2.le]
        simp [k8] at hR
        exact hR _ _ (by simpa using O3)
      · obtain ⟨v3, h4, eb, O3, _⟩ := O.append1 (some 1) (glu st.right) _ rfl 128 (by omega) (by omega)
        simp only [Node.enc, glu] at eb
        simp [k8, s0, s7, p1, eb, ldR h2 O.le]
        simp [k8] at hR
        exact hR _ _ (by simpa using O3)
  by_cases hlt : i < to
  · have i1 := fun k => P1.rows.iaddr h' k (i : Int) (by omega) (by omega)
    have i2 := P1.rows.load1 i 0 (by omega) (by omega)
    have w1 : IntKind.wrap .i64 ((i : Int) + 1) = (i : Int) + 1 := wrap_i64 (by omega) (by omega)
    simp only [Int.toNat_natCast] at i1
    simp [hlt, s0, s8, P1.lda, i1, i2, hd_load l hne (show i < l.length by omega), discardable_iff]
    cases hd : discB (hd1 (nth l i)).kind with
    | true =>
      simp [s8, w1]
      exact hK (to - (i + 1)) _ _ (by omega) ⟨i + 1, rfl, rfl, by omega, ⟨by simp [s0], by simp [s2], by simp [s7], by simp⟩, by rw [hsk]; conv => lhs; rw [skipD, dif_pos ⟨hlt, hd⟩]⟩
    | false =>
      simp
      exact done (by rw [skipD, dif_neg (fun e => by rw [hd] at e; cases e.2)]) _ (by simp) (by simp) (by simp) (by simp)
  · simp [hlt]
    exact done (by rw [skipD, dif_neg (fun e => hlt e.1)]) _ (by simp) (by simp) (by simp) (by simp)
theorem BreakList_ok (xs : List Node) (hb : xs.length ≤ 1048576) (st : Style) (h : AH) (R : AV → AH → Prop) (hR : ∀ h' v, Own h 1 (encI .i64) h' v (brkL xs st) → R v h') : CA 10 [.fs none (xs.map Node.enc), .agg st.enc] h R := by
  refine (ca_iff (af := ac10) rfl).2 ?_
  have go := rowOf_ok xs hb st h
  simp only [Style.enc] at go
  simp [ac10]
  refine go _ (fun hp h' hle => ?_) (fun hp h' b va vb P => ?_)
  · simp
    exact hR _ _ (by rw [brkL, hp]; exact Own.nils (encI_ok .i64).toEncOk hle)
  · simp [P.ldb]
    exact hR _ _ P.brk
theorem LineOf_ok (xs : List Node) (hb : xs.length ≤ 1048576) (st : Style) (a b : Int) (h : AH) (R : AV → AH → Prop) (hR : ∀ h' v, Own h 15 Node.enc h' v (lineA xs st a b) → R v h') : CA 17 [.fs none (xs.map Node.enc), .agg st.enc, .int .i64 a, .int .i64 b] h R := by
  refine (ca_iff (af := ac17) rfl).2 ?_
  have go := rowOf_ok xs hb st h
  simp only [Style.enc] at go
  simp [ac17]
  have nilR : ∀ h', h.le h' → lineA xs st a b = [] → R .nils h' := fun h' hle e => hR _ _ (by rw [e]; exact Own.nils Node.ok.toEncOk hle)
  refine go _ (fun hp h' hle => ?_) (fun hp h' bk va vb P => ?_)
  · simp
    exact nilR _ hle (by unfold lineA brkL; simp [hp])
  · have hbl := brkL_len xs st
    have hris : Rising (brkL xs st) := by
      rw [brkL, if_pos hp]; exact brks_rising _ _
    have q := fun k R => is_iff P (by omega) k R
    simp only [seekB_iff hris] at q
    unfold lineA at hR nilR
    by_cases c2 : b ∈ brkL xs st
    · obtain ⟨b0, b1, _⟩ := mem_brkL c2
      obtain ⟨_, hl, hi, _⟩ := paraB_ok hp
      obtain ⟨_, ho⟩ := listB_ok hl
      have hrl := rowL_len (xs := xs) st
      have ht := rowL_tot ho st
      by_cases c1 : a = -1
      · subst c1
        have c3 : ¬ b ≤ -1 := by omega
        have c3' : -1 < b := by omega
        simp [q, c2, c3]
        refine line_ok P row_ne (by omega) (by omega) (-1) b (by omega) c3' b1 _ fun h2 v O => ?_
        simp
        exact hR _ _ (by simp [c2, c3']; simpa using O.weaken P.rows.le)
      · by_cases c0 : a ∈ brkL xs st
        · obtain ⟨a0, _, _⟩ := mem_brkL c0
          by_cases c3 : b ≤ a
          · have c3' : ¬ a < b := by omega
            simp [c1, q, c0, c2, c3]
            exact nilR _ P.rows.le (by simp [c3'])
          · have c3' : a < b := by omega
            simp [c1, q, c0, c2, c3]
            refine line_ok P row_ne (by omega) (by omega) a b (by omega) c3' b1 _ fun h2 v O => ?_
            simp
            exact hR _ _ (by simp [c0, c2, c3']; exact O.weaken P.rows.le)
        · simp [c1, q, c0]
          exact nilR _ P.rows.le (by simp [c1, c0])
    · by_cases c1 : a = -1
      · subst c1
        simp [q, c2]
        exact nilR _ P.rows.le (by simp [c2])
      · by_cases c0 : a ∈ brkL xs st
        · simp [c1, q, c0, c2]
          exact nilR _ P.rows.le (by simp [c2])
        · simp [c1, q, c0]
          exact nilR _ P.rows.le (by simp [c1, c0])
end Go.Proofs.Ytcdkgonmdenakaa
