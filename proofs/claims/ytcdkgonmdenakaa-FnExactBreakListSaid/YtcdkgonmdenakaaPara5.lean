/- Contracts: a line, as the reference has it. -/
import Derived.Test.YtcdkgonmdenakaaPara4
namespace Go.Proofs.Ytcdkgonmdenakaa
open Go Go.Bm Go.Proofs
set_option linter.all false

theorem count_succ {l : List Int} {i : Nat} (x : Int) (h : i < l.length) : (l.take (i + 1)).count x = (l.take i).count x + if nth l i = x then 1 else 0 := by
  rw [take_succ h, List.count_append]
  by_cases e : nth l i = x <;> simp [e]
theorem l9Times_iff (l : List Int) (x : Int) (hb : l.length ≤ 1048576) (c : Option Nat) (h : AH) (R : AV → AH → Prop) : CA 49 [.fs c (l.map (encI .i64)), .int .i64 x] h R ↔ R (.int .i64 (l.count x : Nat)) h := by
  refine ca_pure (af := ac49) rfl ?_
  simp [ac49]
  refine awp_loop2 caM (fun n s h' => h' = h ∧ ∃ (i : Nat), n = l.length - i ∧ i ≤ l.length ∧ (s 0 = .fs c (l.map (encI .i64)) ∧ s 1 = .int .i64 x ∧ s 5 = .int .i64 ((l.take i).count x : Nat) ∧ s 6 = .int .i64 i)) ?_ (n := l.length) ⟨rfl, 0, by simp, by simp, by simp⟩
  rintro n s h' ⟨rfl, i, rfl, hi, ⟨s0, s1, s5, s6⟩⟩ K hK hE hQ
  simp [s0, s1, s5, s6]
  have hc := List.count_le_length (a := x) (l := l.take i)
  rw [List.length_take] at hc
  by_cases hlt : i < l.length
  · have a1 := fun k => (encI_ok .i64).toEncOk.iaddr (by omega) c l k (i : Int) h' (by omega) (by omega)
    have w1 : IntKind.wrap .i64 ((i : Int) + 1) = (i : Int) + 1 := wrap_i64 (by omega) (by omega)
    have w2 : IntKind.wrap .i64 (((l.take i).count x : Nat) + 1 : Int) = ((l.take i).count x : Nat) + 1 := wrap_i64 (by omega) (by omega)
    simp only [Int.toNat_natCast] at a1
    simp [hlt, s0, s1, s5, s6, a1]
    by_cases e : nth l i = x
    · simp [e, s5, s6, w1, w2]
      exact hK (l.length - (i + 1)) _ _ (by omega) ⟨rfl, i + 1, rfl, by omega, ⟨by simp [s0], by simp [s1], by rw [count_succ x hlt]; simp [e], by simp⟩⟩
    · simp [e, s5, s6, w1]
      exact hK (l.length - (i + 1)) _ _ (by omega) ⟨rfl, i + 1, rfl, by omega, ⟨by simp [s0], by simp [s1], by rw [count_succ x hlt]; simp [e, s5], by simp⟩⟩
  · obtain rfl : i = l.length := by omega
    simp [hE, s5]
theorem l9In_iff (l : List Int) (x : Int) (hb : l.length ≤ 1048576) (c : Option Nat) (h : AH) (R : AV → AH → Prop) : CA 31 [.fs c (l.map (encI .i64)), .int .i64 x] h R ↔ R (.bool (decide (x ∈ l))) h := by
  refine ca_pure (af := ac31) rfl ?_
  simp [ac31, l9Times_iff l x hb]
set_option maxRecDepth 100000 in
theorem l9Line_ok (l : List (List Node)) (hne : ∀ x ∈ l, 0 < x.length) (hb : l.length ≤ 1048576) (ht : tot l ≤ 1048579) (a1 a2 a3 a4 a5 a6 a7 a8 b1 b2 b3 b4 b5 c1 c2 c3 c4 c5 d1 d2 d3 d4 d5 : Int) (st : Style) (hst : st = ⟨a1, a2, a3, a4, a5, a6, a7, a8, ⟨b1, b2, b3, b4, b5⟩, ⟨c1, c2, c3, c4, c5⟩, ⟨d1, d2, d3, d4, d5⟩⟩)
    (a b : Int) (ha : -1 ≤ a) (hab : a < b) (hbl : b < l.length) (h : AH) (R : AV → AH → Prop) (hR : ∀ h' v, Own h 15 Node.enc h' v (lineL l st (a + 1).toNat b.toNat) → R v h') : CA 32 [.fs none (l.map (encS Node.enc)), .agg [.int .i64 a1, .int .i64 a2, .int .i64 a3, .int .i64 a4, .int .i64 a5, .int .i64 a6, .int .i64 a7, .int .i64 a8, .int .i64 b1, .int .i64 b2, .int .i64 b3, .int .i64 b4, .int .i64 b5, .int .i64 c1, .int .i64 c2, .int .i64 c3, .int .i64 c4, .int .i64 c5, .int .i64 d1, .int .i64 d2, .int .i64 d3, .int .i64 d4, .int .i64 d5], .int .i64 a, .int .i64 b] h R := by
  refine (ca_iff (af := ac32) rfl).2 ?_
  obtain ⟨to, rfl⟩ : ∃ to : Nat, b = to := ⟨b.toNat, by omega⟩
  rw [Int.toNat_natCast] at hR
  have hto : to < l.length := by omega
  have hsl : st.left = ⟨b1, b2, b3, b4, b5⟩ := by rw [hst]
  have hsr : st.right = ⟨c1, c2, c3, c4, c5⟩ := by rw [hst]
  clear hst
  have O0 := Own.made (enc := Node.enc) (xs := [glu st.left]) Node.ok.toEncOk (AH.le_refl h) rfl (n := 1) rfl
  have e0 := bslice1 15 [.int .i64 0, .int .i64 0, .int .i64 0, .int .i64 0, .int .i64 0, .int .i64 0, .int .i64 0, .int .i64 0, .int .i64 0, .int .i64 0, .int .i64 0, .int .i64 0, .int .i64 0, .str ⟨#[]⟩, .int .i64 0] (.agg (glu st.left).enc) h rfl rfl rfl
  have e0' : ([glu st.left] : List Node).flatMap Node.enc = (AV.agg (glu st.left).enc).cells := by simp
  rw [e0'] at O0
  generalize h.new (.cells true (AV.agg (glu st.left).enc).cells) = h1 at O0 e0
  generalize AV.sl h.next 0 15 1 (some 1) = v0 at O0 e0
  simp only [Node.enc, glu, hsl] at e0
  have wa : IntKind.wrap .i64 (a + 1) = ((a + 1).toNat : Int) := by rw [wrap_i64 (by omega) (by omega)]; omega
  simp [ac32, e0, wa]
  refine awp_loop2 caM (fun n s h' => ∃ (i : Nat), h' = h1 ∧ n = to - i ∧ i ≤ to ∧ (s 0 = .fs none (l.map (encS Node.enc)) ∧ s 3 = .int .i64 to ∧ s 9 = v0 ∧ s 10 = .int .i64 i ∧ s 100005 = .agg [.int .i64 a1, .int .i64 a2, .int .i64 a3, .int .i64 a4, .int .i64 a5, .int .i64 a6, .int .i64 a7, .int .i64 a8, .int .i64 b1, .int .i64 b2, .int .i64 b3, .int .i64 b4, .int .i64 b5, .int .i64 c1, .int .i64 c2, .int .i64 c3, .int .i64 c4, .int .i64 c5, .int .i64 d1, .int .i64 d2, .int .i64 d3, .int .i64 d4, .int .i64 d5]) ∧ skipD l (a + 1).toNat to = skipD l i to) ?_ (n := to - (a + 1).toNat) ⟨(a + 1).toNat, rfl, rfl, by omega, by simp, rfl⟩
  rintro n s h' ⟨i, rfl, rfl, hi, ⟨s0, s3, s9, s10, sb⟩, hsk⟩ K hK hE hQ
  simp [s0, s3, s9, s10, sb]
  have done : skipD l i to = i → ∀ s2 : S, s2 0 = s 0 → s2 3 = s 3 → s2 9 = s 9 → s2 10 = s 10 → s2 100005 = s 100005 → K (.exit 0) s2 h' := by
    intro e s2 t0 t3 t9 t10 tb
    rw [s0] at t0; rw [s3] at t3; rw [s9] at t9; rw [s10] at t10; rw [sb] at tb
    rw [e] at hsk
    have hml := midL_len l (to - i) i to (by omega) (by omega)
    have htd := tot_drop l i
    simp [hE]
    clear hK hE hQ
    refine awp_loop2 caM (fun n s h2 => ∃ (j : Nat) (v : AV) (out : List Node), n = to - j ∧ j ≤ to ∧ (s 0 = .fs none (l.map (encS Node.enc)) ∧ s 3 = .int .i64 to ∧ s 9 = v ∧ s 10 = .int .i64 j ∧ s 100005 = .agg [.int .i64 a1, .int .i64 a2, .int .i64 a3, .int .i64 a4, .int .i64 a5, .int .i64 a6, .int .i64 a7, .int .i64 a8, .int .i64 b1, .int .i64 b2, .int .i64 b3, .int .i64 b4, .int .i64 b5, .int .i64 c1, .int .i64 c2, .int .i64 c3, .int .i64 c4, .int .i64 c5, .int .i64 d1, .int .i64 d2, .int .i64 d3, .int .i64 d4, .int .i64 d5]) ∧ Own h 15 Node.enc h2 v out ∧ out ++ midL l j to = glu st.left :: midL l i to) ?_ (n := to - i) ⟨i, v0, [glu st.left], rfl, hi, ⟨t0, t3, t9, t10, tb⟩, O0, rfl⟩
    clear t0 t3 t9 t10 tb s0 s3 s9 s10 sb
    rintro n s h2 ⟨j, v, out, rfl, hj, ⟨s0, s3, s9, s10, sb⟩, O, hout⟩ K hK hE hQ
    have hol := congrArg List.length hout
    rw [List.length_append, List.length_cons] at hol
    simp [s0, s3, s9, s10, sb]
    by_cases hlt : j < to
    · have i1 := fun k => (encS_ok Node.enc).toEncOk.iaddr (by omega) none l k (j : Int) h2 (by omega) (by omega)
      have w1 : IntKind.wrap .i64 ((j : Int) + 1) = (j : Int) + 1 := wrap_i64 (by omega) (by omega)
      simp only [Int.toNat_natCast] at i1
      simp [hlt, s0, s9, s10, i1, hd_load l hne (show j < l.length by omega)]
      rw [midL_lt hlt] at hout hol
      by_cases k8 : (hd1 (nth l j)).kind = 8
      · simp [k8] at hout
        simp [k8, s10, w1]
        exact hK (to - (j + 1)) _ _ (by omega) ⟨j + 1, v, out, rfl, by omega, ⟨by simp [s0], by simp [s3], by simp [s9], by simp, by simp [sb]⟩, O, hout⟩
      · simp [k8] at hout hol
        obtain ⟨v2, h3, ea, O2, _⟩ := O.appendR none (nth l j) 128 (by omega) (by omega)
        simp [k8, s0, s9, s10, i1, ea, w1]
        exact hK (to - (j + 1)) _ _ (by omega) ⟨j + 1, v2, _, rfl, by omega, ⟨by simp [s0], by simp [s3], by simp, by simp, by simp [sb]⟩, O2, by rw [List.append_assoc]; exact hout⟩
    · obtain rfl : j = to := by omega
      rw [midL_end (by omega), List.append_nil] at hout
      have i1 := fun k => (encS_ok Node.enc).toEncOk.iaddr (by omega) none l k (j : Int) h2 (by omega) (by omega)
      simp only [Int.toNat_natCast] at i1
      have p1 := lit1N (glu ⟨c1, c2, c3, c4, c5⟩)
      have p2 := lit1N (hyph1 (hd1 (nth l j)))
      simp only [glu, hyph1] at p1 p2
      simp [hE, s0, s3, i1, hd_load l hne hto]
      unfold lineL at hR
      rw [hsk, ← hout] at hR
      by_cases k8 : (hd1 (nth l j)).kind = 8
      · obtain ⟨v2, h3, ea, O2, _⟩ := O.append1 (some 1) (hyph1 (hd1 (nth l j))) _ rfl 128 (by omega) (by omega)
        obtain ⟨v3, h4, eb, O3, _⟩ := O2.append1 (some 1) (glu st.right) _ rfl 128 (by simp; omega) (by simp; omega)
        simp only [Node.enc, hyph1, glu, hsr] at ea eb
        simp [k8, s0, s3, s9, sb, i1, hd_load l hne hto, p1, p2, ea, eb]
        simp [k8] at hR
        exact hR _ _ (by simpa using O3)
      · obtain ⟨v3, h4, eb, O3, _⟩ := O.append1 (some 1) (glu st.right) _ rfl 128 (by omega) (by omega)
        simp only [Node.enc, glu, hsr] at eb
        simp [k8, s0, s3, s9, sb, i1, hd_load l hne hto, p1, eb]
        simp [k8] at hR
        exact hR _ _ (by simpa using O3)
  by_cases hlt : i < to
  · have i1 := fun k => (encS_ok Node.enc).toEncOk.iaddr (by omega) none l k (i : Int) h' (by omega) (by omega)
    have w1 : IntKind.wrap .i64 ((i : Int) + 1) = (i : Int) + 1 := wrap_i64 (by omega) (by omega)
    simp only [Int.toNat_natCast] at i1
    simp [hlt, s0, s10, i1, hd_load l hne (show i < l.length by omega), l9Discard_iff]
    cases hd : discB (hd1 (nth l i)).kind with
    | true =>
      simp [s10, w1]
      exact hK (to - (i + 1)) _ _ (by omega) ⟨i + 1, rfl, rfl, by omega, ⟨by simp [s0], by simp [s3], by simp [s9], by simp, by simp [sb]⟩, by rw [hsk]; conv => lhs; rw [skipD, dif_pos ⟨hlt, hd⟩]⟩
    | false =>
      simp
      exact done (by rw [skipD, dif_neg (fun e => by rw [hd] at e; cases e.2)]) _ (by simp) (by simp) (by simp) (by simp) (by simp)
  · simp [hlt]
    exact done (by rw [skipD, dif_neg (fun e => hlt e.1)]) _ (by simp) (by simp) (by simp) (by simp) (by simp)
end Go.Proofs.Ytcdkgonmdenakaa
