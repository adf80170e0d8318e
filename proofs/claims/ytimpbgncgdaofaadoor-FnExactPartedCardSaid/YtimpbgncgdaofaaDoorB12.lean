/- Contracts: Hyphens, of both. -/
import Derived.Test.YtimpbgncgdaofaaDoorB11
namespace Go.Proofs.YtimpbgncgdaofaaDoor
open Go Go.Bm Go.Proofs
set_option linter.all false

def hyphL (ps : List Pattern) (ws : List Exception) (s : ByteArray) (left right : Int) : List Int := if marksB ps ws s then (placesL ps ws (lowS s)).filter (keepF left right s.size) else []
theorem marks_book {ps : List Pattern} {ws : List Exception} {s : ByteArray} (h : marksB ps ws s = true) : bookB ⟨ps, ws⟩ = true ∧ wordB (lowS s) = true := by
  simpa [marksB] using h
theorem marksL_true {ps : List Pattern} {ws : List Exception} {s : ByteArray} (h : marksB ps ws s = true) : marksL ps ws s = cut s.size (marksAll ps (lowS s)) ∧ (marksL ps ws s).length = s.size + 1 := by
  have e : marksL ps ws s = cut s.size (marksAll ps (lowS s)) := by simp [marksL, h]
  exact ⟨e, by rw [e, cut_len (by rw [marksAll_len, lowS_size])]⟩
theorem specHyph_iff (ps : List Pattern) (ws : List Exception) (s : ByteArray) (left right : Int) (hs : s.size ≤ 1048576) (hW : Book.W ⟨ps, ws⟩ ≤ 1048576) (h : AH) (R : AV → AH → Prop) :
    acallM CA .frz 20 [.agg [.fs none (ps.map Pattern.enc), .fs none (ws.map Exception.enc)], .str s, .int .i64 left, .int .i64 right] h R ↔ R (.fs none ((hyphL ps ws s left right).map (encI .i64))) h := by
  refine ca_frz (af := ac20) rfl ?_
  have hlz := lowS_size s
  cases hb : marksB ps ws s with
  | false =>
    have e : marksL ps ws s = [] := by simp [marksL, hb]
    simp [ac20, specMarks_iff ps ws s hs hW, e, hyphL, hb]
  | true =>
    obtain ⟨e1, e2⟩ := marksL_true hb
    have hne : ¬ ((marksL ps ws s).length : Int) = 0 := by omega
    have hm := l7Hyphens_iff ps ws (lowS s) left right (by omega) hW (marks_book hb).1
    rw [hlz] at hm
    have hne2 : ¬ marksL ps ws s = [] := fun e => by rw [e] at e2; simp at e2
    simp [ac20, specMarks_iff ps ws s hs hW, hne, hne2, l7Lower_iff s hs, hm, hyphL, hb]
set_option maxRecDepth 100000 in
theorem Hyphens_ok (ps : List Pattern) (ws : List Exception) (s : ByteArray) (left right : Int) (hs : s.size ≤ 1048576) (hW : Book.W ⟨ps, ws⟩ ≤ 1048576) (h : AH) (R : AV → AH → Prop)
    (hR : ∀ h' y, Own h 1 (encI .i64) h' y (hyphL ps ws s left right) → R y h') : CA 21 [.agg [.fs none (ps.map Pattern.enc), .fs none (ws.map Exception.enc)], .str s, .int .i64 left, .int .i64 right] h R := by
  refine (ca_iff (af := ac21) rfl).2 ?_
  have hlz := lowS_size s
  have w2 : WS Exception.W ws ≤ 1048576 := by simp only [Book.W] at hW; omega
  have l2 := WS_len Exception.W ws
  simp [ac21]
  refine Marks_ok 0 ps ws s hs hW h _ fun h1 y Oy hy => ?_
  cases hb : marksB ps ws s with
  | false =>
    have e := hy hb
    subst e
    simp [hyphL, hb] at hR ⊢
    exact hR _ _ (Own.nils (encI_ok .i64).toEncOk Oy.le)
  | true =>
    obtain ⟨e1, e2⟩ := marksL_true hb
    have hsl : ∃ b o e n c, y = .sl b o e n c := by
      rcases Oy.at_ with ⟨e, _⟩ | ⟨b, c, e, _⟩
      · rw [e] at e2; simp at e2
      · exact ⟨_, _, _, _, _, e⟩
    have hnil : ∀ Q : AV → AH → Prop, eqnilR 0 false y .nils h1 Q = Q (.bool false) h1 := fun Q => by obtain ⟨b, o, e, n, c, rfl⟩ := hsl; exact eqnilR_sl ..
    have Ry := Rd_own Oy
    rw [e1] at Ry e2
    have le1 := Oy.le
    clear Oy hy
    have hr : hyphL ps ws s left right = (placesL ps ws (lowS s)).filter (keepF left right s.size) := by simp [hyphL, hb]
    rw [hr] at hR
    simp [hnil, lowered_iff s hs, search_iff ws (by omega) (lowS s)]
    cases hlb : lookB ws (lowS s) with
    | true =>
      have hlt2 : lookI ws (lowS s) < ws.length := by simp [lookB] at hlb; exact hlb.1
      have a1 := Exception.ok.toEncOk.iaddr (by omega) none ws .i64 (lookI ws (lowS s) : Int) h1 (by omega) (by omega)
      simp only [Int.toNat_natCast] at a1
      have hxl : (nth ws (lookI ws (lowS s))).places.length ≤ 1048576 := (exc_le w2 hlt2).2
      have hx : placesL ps ws (lowS s) = (nth ws (lookI ws (lowS s))).places := by simp [placesL, hlb]
      have Rv := Rd_fs h1 none (nth ws (lookI ws (lowS s))).places
      simp [a1]
      refine awp_loop2 caM (fun n st g' => ∃ (i : Nat) (u : AV), n = ((nth ws (lookI ws (lowS s))).places).length - i ∧ i ≤ ((nth ws (lookI ws (lowS s))).places).length ∧ (st 1 = .str s ∧ st 2 = .int .i64 left ∧ st 3 = .int .i64 right ∧ st 14 = u ∧ st 53 = .fs none ((nth ws (lookI ws (lowS s))).places.map (encI .i64)) ∧ st 54 = .int .i64 ((nth ws (lookI ws (lowS s))).places).length ∧ st 55 = .int .i64 i) ∧ Own h1 1 (encI .i64) g' u ((((nth ws (lookI ws (lowS s))).places).take i).filter (keepF left right s.size))) ?_ (n := ((nth ws (lookI ws (lowS s))).places).length) ⟨0, .nils, by simp, by simp, by simp [], by simpa using Own.nils (encI_ok .i64).toEncOk (AH.le_refl h1)⟩
      rintro n st h3 ⟨i, u, rfl, hi, ⟨s1, s2, s3, s14, s53, s54, s55⟩, O⟩ K hK hE hQ
      simp [s54, s55]
      by_cases hlt : i < ((nth ws (lookI ws (lowS s))).places).length
      · obtain ⟨ad, ia, ld⟩ := Rv.at_ i hlt
        have hld := ld h3 O.le
        have hf := filter_take (p := keepF left right s.size) hlt
        have hwr : IntKind.wrap .i64 ((i : Int) + 1) = (i : Int) + 1 := wrap_i64 (by omega) (by omega)
        have hfl : ((((nth ws (lookI ws (lowS s))).places).take i).filter (keepF left right s.size)).length ≤ i := Nat.le_trans (List.length_filter_le _ _) (by rw [List.length_take]; omega)
        simp [hlt, s1, s2, s3, s14, s53, s54, s55, ia, hld]
        by_cases c1 : left ≤ nth ((nth ws (lookI ws (lowS s))).places) i
        · by_cases c2 : right ≤ IntKind.wrap .i64 ((s.size : Int) - nth ((nth ws (lookI ws (lowS s))).places) i)
          · rw [show keepF left right s.size (nth ((nth ws (lookI ws (lowS s))).places) i) = true by simp [keepF, c1, c2], if_pos rfl] at hf
            obtain ⟨u', h4, e1, O2, _, _⟩ := O.append1 (some 1) (nth ((nth ws (lookI ws (lowS s))).places) i) [.int .i64 (nth ((nth ws (lookI ws (lowS s))).places) i)] rfl 8 (by omega) (by omega)
            rw [← hf] at O2
            simp [c1, c2, s1, s2, s3, s14, s53, s54, s55, ia, hld, bslice1i, e1, hwr]
            exact hK (((nth ws (lookI ws (lowS s))).places).length - (i + 1)) _ _ (by omega) ⟨i + 1, u', rfl, by omega, ⟨by simp [s1], by simp [s2], by simp [s3], by simp, by simp [s53], by simp [s54], by simp⟩, O2⟩
          · rw [show keepF left right s.size (nth ((nth ws (lookI ws (lowS s))).places) i) = false by simp [keepF, c2], if_neg (by simp)] at hf
            simp [c1, c2, s1, s2, s3, s14, s53, s54, s55, ia, hld, hwr]
            exact hK (((nth ws (lookI ws (lowS s))).places).length - (i + 1)) _ _ (by omega) ⟨i + 1, u, rfl, by omega, ⟨by simp [s1], by simp [s2], by simp [s3], by simp [s14], by simp [s53], by simp [s54], by simp⟩, by rw [hf]; exact O⟩
        · rw [show keepF left right s.size (nth ((nth ws (lookI ws (lowS s))).places) i) = false by simp [keepF, c1], if_neg (by simp)] at hf
          simp [c1, s1, s2, s3, s14, s53, s54, s55, ia, hld, hwr]
          exact hK (((nth ws (lookI ws (lowS s))).places).length - (i + 1)) _ _ (by omega) ⟨i + 1, u, rfl, by omega, ⟨by simp [s1], by simp [s2], by simp [s3], by simp [s14], by simp [s53], by simp [s54], by simp⟩, by rw [hf]; exact O⟩
      · obtain rfl : i = ((nth ws (lookI ws (lowS s))).places).length := by omega
        rw [List.take_length] at O
        have O2 := O.weaken le1
        simp [hE, s14]
        rw [hx] at hR
        exact hR _ _ O2
    | false =>
      have hx : placesL ps ws (lowS s) = odds (cut s.size (marksAll ps (lowS s))) s.size := by simp [placesL, hlb, hlz]
      generalize cut s.size (marksAll ps (lowS s)) = ms at *
      simp
      refine awp_loop2 caM (fun n st h2 => ∃ (q : Nat) (u : AV), n = s.size - q ∧ 1 ≤ q ∧ (q ≤ s.size ∨ q = 1) ∧ (st 1 = .str s ∧ st 2 = .int .i64 left ∧ st 3 = .int .i64 right ∧ st 9 = y ∧ st 10 = u ∧ st 13 = .int .i64 q) ∧ Own h1 1 (encI .i64) h2 u (odds ms q)) ?_ (n := s.size - 1) ⟨1, .nils, rfl, Nat.le_refl _, .inr rfl, by simp, Own.nils (encI_ok .i64).toEncOk (AH.le_refl h1)⟩
      rintro n st h2 ⟨q, v, rfl, hq1, hq2, ⟨s1, s2, s3, s9, s10, s13⟩, Ov⟩ K hK hE hQ
      simp [s1, s13]
      by_cases hlt : q < s.size
      · obtain ⟨ad, ia, ld⟩ := Ry.at_ q (by omega)
        have hld := ld h2 Ov.le
        have hwr : IntKind.wrap .i64 ((q : Int) + 1) = (q : Int) + 1 := wrap_i64 (by omega) (by omega)
        have hol := odds_len ms q
        simp [hlt, s1, s2, s3, s9, s10, s13, ia, hld]
        by_cases c : Int.tmod (nth ms q) 2 = 1
        · have ho : odds ms (q + 1) = odds ms q ++ [(q : Int)] := by rw [odds, if_pos ⟨hq1, c⟩]
          obtain ⟨u', h4, e1', O2, _, _⟩ := Ov.append1 (some 1) (q : Int) [.int .i64 (q : Int)] rfl 8 (by omega) (by omega)
          rw [← ho] at O2
          simp [c, s1, s2, s3, s9, s10, s13, bslice1i, e1', hwr]
          exact hK (s.size - (q + 1)) _ _ (by omega) ⟨q + 1, u', rfl, by omega, .inl (by omega), ⟨by simp [s1], by simp [s2], by simp [s3], by simp [s9], by simp, by simp⟩, O2⟩
        · have ho : odds ms (q + 1) = odds ms q := by rw [odds, if_neg (fun x => c x.2)]
          simp [c, s1, s2, s3, s9, s10, s13, hwr]
          exact hK (s.size - (q + 1)) _ _ (by omega) ⟨q + 1, v, rfl, by omega, .inl (by omega), ⟨by simp [s1], by simp [s2], by simp [s3], by simp [s9], by simp [s10], by simp⟩, by rw [ho]; exact Ov⟩
      · have hodd : odds ms q = odds ms s.size := by
          rcases hq2 with e | e
          · rw [show q = s.size by omega]
          · subst e
            have : s.size = 0 ∨ s.size = 1 := by omega
            rcases this with e | e <;> rw [e] <;> rfl
        rw [hodd] at Ov
        have hxl : (odds ms s.size).length ≤ 1048576 := Nat.le_trans (odds_len ms s.size) hs
        have Rv := Rd_own Ov
        simp [hE, hlt, s10, Ov.len]
        refine awp_loop2 caM (fun n st g' => ∃ (i : Nat) (u : AV), n = (odds ms s.size).length - i ∧ i ≤ (odds ms s.size).length ∧ (st 1 = .str s ∧ st 2 = .int .i64 left ∧ st 3 = .int .i64 right ∧ st 14 = u ∧ st 53 = v ∧ st 54 = .int .i64 (odds ms s.size).length ∧ st 55 = .int .i64 i) ∧ Own h2 1 (encI .i64) g' u (((odds ms s.size).take i).filter (keepF left right s.size))) ?_ (n := (odds ms s.size).length) ⟨0, .nils, by simp, by simp, by simp [s1, s2, s3], by simpa using Own.nils (encI_ok .i64).toEncOk (AH.le_refl h2)⟩
        rintro n st h3 ⟨i, u, rfl, hi, ⟨s1, s2, s3, s14, s53, s54, s55⟩, O⟩ K hK hE hQ
        simp [s54, s55]
        by_cases hlt : i < (odds ms s.size).length
        · obtain ⟨ad, ia, ld⟩ := Rv.at_ i hlt
          have hld := ld h3 O.le
          have hf := filter_take (p := keepF left right s.size) hlt
          have hwr : IntKind.wrap .i64 ((i : Int) + 1) = (i : Int) + 1 := wrap_i64 (by omega) (by omega)
          have hfl : (((odds ms s.size).take i).filter (keepF left right s.size)).length ≤ i := Nat.le_trans (List.length_filter_le _ _) (by rw [List.length_take]; omega)
          simp [hlt, s1, s2, s3, s14, s53, s54, s55, ia, hld]
          by_cases c1 : left ≤ nth (odds ms s.size) i
          · by_cases c2 : right ≤ IntKind.wrap .i64 ((s.size : Int) - nth (odds ms s.size) i)
            · rw [show keepF left right s.size (nth (odds ms s.size) i) = true by simp [keepF, c1, c2], if_pos rfl] at hf
              obtain ⟨u', h4, e1, O2, _, _⟩ := O.append1 (some 1) (nth (odds ms s.size) i) [.int .i64 (nth (odds ms s.size) i)] rfl 8 (by omega) (by omega)
              rw [← hf] at O2
              simp [c1, c2, s1, s2, s3, s14, s53, s54, s55, ia, hld, bslice1i, e1, hwr]
              exact hK ((odds ms s.size).length - (i + 1)) _ _ (by omega) ⟨i + 1, u', rfl, by omega, ⟨by simp [s1], by simp [s2], by simp [s3], by simp, by simp [s53], by simp [s54], by simp⟩, O2⟩
            · rw [show keepF left right s.size (nth (odds ms s.size) i) = false by simp [keepF, c2], if_neg (by simp)] at hf
              simp [c1, c2, s1, s2, s3, s14, s53, s54, s55, ia, hld, hwr]
              exact hK ((odds ms s.size).length - (i + 1)) _ _ (by omega) ⟨i + 1, u, rfl, by omega, ⟨by simp [s1], by simp [s2], by simp [s3], by simp [s14], by simp [s53], by simp [s54], by simp⟩, by rw [hf]; exact O⟩
          · rw [show keepF left right s.size (nth (odds ms s.size) i) = false by simp [keepF, c1], if_neg (by simp)] at hf
            simp [c1, s1, s2, s3, s14, s53, s54, s55, ia, hld, hwr]
            exact hK ((odds ms s.size).length - (i + 1)) _ _ (by omega) ⟨i + 1, u, rfl, by omega, ⟨by simp [s1], by simp [s2], by simp [s3], by simp [s14], by simp [s53], by simp [s54], by simp⟩, by rw [hf]; exact O⟩
        · obtain rfl : i = (odds ms s.size).length := by omega
          rw [List.take_length] at O
          have O2 := O.weaken (AH.le_trans le1 Ov.le)
          simp [hE, s14]
          rw [hx] at hR
          exact hR _ _ O2
end Go.Proofs.YtimpbgncgdaofaaDoor
