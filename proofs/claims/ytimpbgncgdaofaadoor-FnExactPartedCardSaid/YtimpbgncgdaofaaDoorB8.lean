/- Contracts: Marks, of both. -/
import Derived.Test.YtimpbgncgdaofaaDoorB7
namespace Go.Proofs.YtimpbgncgdaofaaDoor
open Go Go.Bm Go.Proofs
set_option linter.all false

def marksB (ps : List Pattern) (ws : List Exception) (s : ByteArray) : Bool := bookB ⟨ps, ws⟩ && wordB (lowS s)
def marksL (ps : List Pattern) (ws : List Exception) (s : ByteArray) : List Int := if marksB ps ws s then cut s.size (marksAll ps (lowS s)) else []
theorem book_pats {ps : List Pattern} {ws : List Exception} (h : bookB ⟨ps, ws⟩ = true) : ∀ i, i < ps.length → patB (nth ps i) = true := by
  simp only [bookB, Bool.and_eq_true] at h
  exact rall_iff.1 h.1.2
theorem word_size {s : ByteArray} (h : wordB (lowS s) = true) : 1 ≤ s.size ∧ s.size ≤ 60 := by
  simp only [wordB, Bool.and_eq_true, decide_eq_true_eq, lowS_size] at h
  exact h.1
theorem appendF0i (xs : List Int) (hb : xs.length ≤ 1048576) (h : AH) : appendFA 1 8 (.fs (some 0) []) (.fs none (xs.map (encI .i64))) h = some (.fs none (xs.map (encI .i64)), h) := by
  unfold appendFA
  by_cases e : xs.length = 0
  · have : xs = [] := List.eq_nil_of_length_eq_zero e
    subst this
    rfl
  · simp only [List.length_map, e, if_false, List.length_nil, Nat.zero_add, List.nil_append]
    rw [if_pos ⟨by omega, by omega, by omega, rfl, (encI_ok .i64).toEncOk.rows xs⟩]
theorem marksL_len (ps : List Pattern) (ws : List Exception) (s : ByteArray) : (marksL ps ws s).length ≤ s.size + 1 := by
  unfold marksL
  split
  · rw [cut_len (by rw [marksAll_len, lowS_size])]; exact Nat.le_refl _
  · simp
theorem specMarks_iff (ps : List Pattern) (ws : List Exception) (s : ByteArray) (hs : s.size ≤ 1048576) (hW : Book.W ⟨ps, ws⟩ ≤ 1048576) (h : AH) (R : AV → AH → Prop) :
    acallM CA .frz 12 [.agg [.fs none (ps.map Pattern.enc), .fs none (ws.map Exception.enc)], .str s] h R ↔ R (.fs none ((marksL ps ws s).map (encI .i64))) h := by
  refine ca_frz (af := ac12) rfl ?_
  have w1 : WS Pattern.W ps ≤ 1048576 := by simp only [Book.W] at hW; omega
  have hlz := lowS_size s
  by_cases c1 : (60 : Int) < s.size
  · have hb : marksB ps ws s = false := by
      cases hw : wordB (lowS s) with
      | false => simp [marksB, hw]
      | true => have := word_size hw; omega
    simp [ac12, c1, marksL, hb]
  simp [ac12, c1, specBookOk_iff ps ws hW]
  cases hk : bookB ⟨ps, ws⟩ with
  | false => simp [marksL, marksB, hk]
  | true =>
    simp [l7Lower_iff s hs, l7Word_iff (lowS s) (by omega)]
    cases hw : wordB (lowS s) with
    | false => simp [marksL, marksB, hw]
    | true =>
      have hm := l7Marks_iff ps ws (lowS s) (by omega) w1 (book_pats hk)
      rw [hlz] at hm
      have hap := appendF0i (cut s.size (marksAll ps (lowS s))) (by rw [cut_len (by rw [marksAll_len, hlz])]; omega)
      simp [l7Lower_iff s hs, hm, hap, marksL, marksB, hk, hw]
theorem mx_max (x m : Int) (h : AH) : mxA true (.int .i64 x) [.int .i64 m] h = some (.int .i64 (max x m), h) := by
  simp only [mxA, List.foldl, if_true]
  by_cases c : m > x
  · rw [if_pos c, Int.max_eq_right (by omega)]; rfl
  · rw [if_neg c, Int.max_eq_left (by omega)]; rfl
set_option maxRecDepth 100000 in
theorem Marks_ok (d : Nat) (ps : List Pattern) (ws : List Exception) (s : ByteArray) (hs : s.size ≤ 1048576) (hW : Book.W ⟨ps, ws⟩ ≤ 1048576) (h : AH) (R : AV → AH → Prop)
    (hR : ∀ h' y, Own h 1 (encI .i64) h' y (marksL ps ws s) → (marksB ps ws s = false → y = .nils) → R y h') : CA 13 [.agg [.fs none (ps.map Pattern.enc), .fs none (ws.map Exception.enc)], .str s] h R := by
  refine (ca_iff (af := ac13) rfl).2 ?_
  have w1 : WS Pattern.W ps ≤ 1048576 := by simp only [Book.W] at hW; omega
  have l1 := WS_len Pattern.W ps
  have hlz := lowS_size s
  simp [ac13, lowered_iff s hs, BookOk_iff ps ws hW]
  cases hk : bookB ⟨ps, ws⟩ with
  | false =>
    simp [marksL, marksB, hk] at hR ⊢
    exact hR _ _ (Own.nils (encI_ok .i64).toEncOk (AH.le_refl h)) rfl
  | true =>
    simp [lowerWord_iff (lowS s) (by omega)]
    cases hw : wordB (lowS s) with
    | false =>
      simp [marksL, marksB, hw] at hR ⊢
      exact hR _ _ (Own.nils (encI_ok .i64).toEncOk (AH.le_refl h)) rfl
    | true =>
      have hok := book_pats hk
      simp only [marksL, marksB, hk, hw, Bool.and_true, if_true] at hR
      generalize hl : lowS s = l at *
      have hd := dotted_size l
      have b1 := binStr_add ⟨#[46]⟩ l (by have : (⟨#[46]⟩ : ByteArray).size = 1 := rfl; omega)
      have b2 := binStr_add (⟨#[46]⟩ ++ l) ⟨#[46]⟩ (by rw [ByteArray.size_append]; have : (⟨#[46]⟩ : ByteArray).size = 1 := rfl; omega)
      have hms := mslice_eq 1 8 [.int .i64 0] .i64 .i64 (s.size + 1) h rfl rfl (by omega) (by omega)
      have hw1 : IntKind.wrap .i64 ((s.size : Int) + 1) = (s.size : Int) + 1 := wrap_i64 (by omega) (by omega)
      have O0 := makeZ (s.size + 1) h
      rw [← cut_zeros] at O0
      have e3 : (⟨#[46]⟩ ++ l) ++ ⟨#[46]⟩ = dotted l := rfl
      have e3c : ((s.size + 1 : Nat) : Int) = (s.size : Int) + 1 := by omega
      rw [e3c] at hms
      simp [b1, b2, e3, hlz, hw1, hms, Pattern.ok.toEncOk.len]
      revert O0
      generalize h.new (.cells true (rep (s.size + 1) [.int .i64 0])) = h1
      generalize AV.sl h.next 0 1 (s.size + 1) (some (s.size + 1)) = v
      intro O0
      rw [show marksAll ps l = pat1 (dotted l) ps (zeros (l.size + 3)) ps.length from rfl, hlz] at hR
      generalize hwd : dotted l = w at *
      refine awp_loop2 caM (fun n st h' => ∃ (i : Nat), n = ps.length - i ∧ i ≤ ps.length ∧ (st 6 = v ∧ st 7 = .str w ∧ st 32 = .fs none (ps.map Pattern.enc) ∧ st 33 = .int .i64 ps.length ∧ st 34 = .int .i64 i) ∧ Own h 1 (encI .i64) h' v (cut s.size (pat1 w ps (zeros (s.size + 3)) i))) ?_ (n := ps.length) ⟨0, by simp, by simp, by simp [e3], O0⟩
      rintro n st h' ⟨i, rfl, hi, ⟨s6, s7, s32, s33, s34⟩, O⟩ K hK hE hQ
      simp [s6, s7, s32, s33, s34]
      by_cases hlt : i < ps.length
      · have a1 := Pattern.ok.toEncOk.iaddr (by omega) none ps .i64 (i : Int) h' (by omega) (by omega)
        simp only [Int.toNat_natCast] at a1
        have hwr : IntKind.wrap .i64 ((i : Int) + 1) = (i : Int) + 1 := wrap_i64 (by omega) (by omega)
        obtain ⟨pm1, pm2, pm3⟩ := pat_marks (hok i hlt)
        simp [hlt, s6, s7, s32, s33, s34, a1]
        refine awp_loop2 caM (fun n st h' => ∃ (a : Nat), n = w.size + 1 - (nth ps i).letters.size - a ∧ a ≤ w.size + 1 - (nth ps i).letters.size ∧ (st 6 = v ∧ st 7 = .str w ∧ st 10 = .int .i64 a ∧ st 32 = .fs none (ps.map Pattern.enc) ∧ st 33 = .int .i64 ps.length ∧ st 34 = .int .i64 i ∧ st 100009 = .agg [.str (nth ps i).letters, .fs none ((nth ps i).marks.map (encI .i64))]) ∧ Own h 1 (encI .i64) h' v (cut s.size (pos1 w (nth ps i) (pat1 w ps (zeros (s.size + 3)) i) a))) ?_ (n := w.size + 1 - (nth ps i).letters.size) ⟨0, by simp, by simp, by simp [s6, s7, s32, s33, s34], O⟩
        have hK0 := hK
        clear O s6 s7 s32 s33 s34 st hE hQ
        generalize hp0 : nth ps i = p at *
        generalize hal : pat1 w ps (zeros (s.size + 3)) i = al at *
        have hall : al.length = w.size + 1 := by rw [← hal, pat1_len]; simp [zeros]; omega
        rintro n st h2 ⟨a, rfl, ha, ⟨s6, s7, s10, s32, s33, s34, s9⟩, O⟩ K2 hK hE hQ
        have hwa : IntKind.wrap .i64 ((a : Int) + p.letters.size) = (a : Int) + p.letters.size := wrap_i64 (by omega) (by omega)
        simp [s6, s7, s10, s32, s33, s34, s9, hwa]
        by_cases hlt2 : (a : Int) + p.letters.size ≤ w.size
        · have hsl : slstrA (.str w) (some (.int .i64 (a : Int))) (some (.int .i64 ((a : Int) + p.letters.size))) h2 = some (.str (w.extract a (a + p.letters.size)), h2) := by
            simp only [slstrA, bound]
            rw [if_pos ⟨by omega, by omega⟩]
            simp only [Int.toNat_natCast]
            rw [show ((a : Int) + (p.letters.size : Int)).toNat = a + p.letters.size by omega, if_pos ⟨by omega, by omega⟩]
          have hwr2 : IntKind.wrap .i64 ((a : Int) + 1) = (a : Int) + 1 := wrap_i64 (by omega) (by omega)
          have hnext : ∀ (h3 : AH) (st2 : S), Own h 1 (encI .i64) h3 v (cut s.size (pos1 w p al (a + 1))) → st2 6 = v → st2 7 = .str w → st2 10 = .int .i64 ((a : Int) + 1) → st2 32 = .fs none (ps.map Pattern.enc) → st2 33 = .int .i64 ps.length → st2 34 = .int .i64 i → st2 100009 = .agg [.str p.letters, .fs none (p.marks.map (encI .i64))] → K2 .normal st2 h3 := fun h3 st2 O3 t6 t7 t10 t32 t33 t34 t9 =>
            hK (w.size + 1 - p.letters.size - (a + 1)) _ _ (by omega) ⟨a + 1, rfl, by omega, ⟨t6, t7, by simpa using t10, t32, t33, t34, t9⟩, O3⟩
          simp [hlt2, s6, s7, s10, s32, s33, s34, s9, hwa, hsl]
          by_cases hm : w.extract a (a + p.letters.size) = p.letters
          · have hpos : pos1 w p al (a + 1) = mk1 p.marks a (pos1 w p al a) p.marks.length := by rw [pos1, if_pos hm]
            rw [hpos] at hnext
            simp [hm, s6, s7, s10, s32, s33, s34, s9, (encI_ok .i64).toEncOk.len]
            have hpl : (pos1 w p al a).length = w.size + 1 := by rw [pos1_len, hall]
            refine awp_loop2 caM (fun n st h' => ∃ (j : Nat), n = p.marks.length - j ∧ j ≤ p.marks.length ∧ (st 6 = v ∧ st 7 = .str w ∧ st 10 = .int .i64 a ∧ st 32 = .fs none (ps.map Pattern.enc) ∧ st 33 = .int .i64 ps.length ∧ st 34 = .int .i64 i ∧ st 60 = .fs none (p.marks.map (encI .i64)) ∧ st 61 = .int .i64 p.marks.length ∧ st 62 = .int .i64 j ∧ st 100009 = .agg [.str p.letters, .fs none (p.marks.map (encI .i64))]) ∧ Own h 1 (encI .i64) h' v (cut s.size (mk1 p.marks a (pos1 w p al a) j))) ?_ (n := p.marks.length) ⟨0, by simp, by simp, by simp [s6, s7, s10, s32, s33, s34, s9], O⟩
            clear O s6 s7 s10 s32 s33 s34 s9 st hK hE hQ hK0
            rintro n st h3 ⟨j, rfl, hj, ⟨s6, s7, s10, s32, s33, s34, s60, s61, s62, s9⟩, O⟩ K3 hK hE hQ
            simp [s60, s61, s62]
            by_cases hlt3 : j < p.marks.length
            · have a3 := (encI_ok .i64).toEncOk.iaddr (by omega) none p.marks .i64 (j : Int) h3 (by omega) (by omega)
              simp only [Int.toNat_natCast] at a3
              have hml : (mk1 p.marks a (pos1 w p al a) j).length = s.size + 3 := by rw [mk1_len, hpl]; omega
              have hcl := cut_len hml
              have hwj : IntKind.wrap .i64 ((a : Int) + j) = (a : Int) + j := wrap_i64 (by omega) (by omega)
              have hwm : IntKind.wrap .i64 ((a : Int) + j - 1) = (a : Int) + j - 1 := wrap_i64 (by omega) (by omega)
              have hwr3 : IntKind.wrap .i64 ((j : Int) + 1) = (j : Int) + 1 := wrap_i64 (by omega) (by omega)
              have hln := O.len h3
              rw [hcl, show ((s.size + 1 : Nat) : Int) = (s.size : Int) + 1 by omega] at hln
              have fin : ∀ (h4 : AH) (st2 : S), Own h 1 (encI .i64) h4 v (cut s.size (mk1 p.marks a (pos1 w p al a) (j + 1))) → st2 6 = v → st2 7 = .str w → st2 10 = .int .i64 a → st2 32 = .fs none (ps.map Pattern.enc) → st2 33 = .int .i64 ps.length → st2 34 = .int .i64 i → st2 60 = .fs none (p.marks.map (encI .i64)) → st2 61 = .int .i64 p.marks.length → st2 62 = .int .i64 ((j : Int) + 1) → st2 100009 = .agg [.str p.letters, .fs none (p.marks.map (encI .i64))] → K3 .normal st2 h4 := fun h4 st2 O4 t6 t7 t10 t32 t33 t34 t60 t61 t62 t9 =>
                hK (p.marks.length - (j + 1)) _ _ (by omega) ⟨j + 1, rfl, by omega, ⟨t6, t7, t10, t32, t33, t34, t60, t61, by simpa using t62, t9⟩, O4⟩
              rw [mk1] at fin
              simp [hlt3, s6, s7, s10, s32, s33, s34, s60, s61, s62, s9, a3, hwj, hwm, hln]
              by_cases c1 : (1 : Int) ≤ (a : Int) + j
              · have c1' : ((1 : Int) ≤ (a : Int) + j) = True := eq_true c1
                by_cases c2 : (a : Int) + j - 1 < (s.size : Int) + 1
                · have c2' : ((a : Int) + j - 1 < (s.size : Int) + 1) = True := eq_true c2
                  rw [cut_in hml (by omega) (by omega)] at fin
                  have haj : a + j - 1 < (cut s.size (mk1 p.marks a (pos1 w p al a) j)).length := by omega
                  have ia : ∀ h4, iaddrA 1 v (.int .i64 ((a : Int) + j - 1)) h4 = some (elt 1 v (a + j - 1) 0, h4) := fun h4 => by
                    have := O.iaddr h4 .i64 ((a : Int) + j - 1) (by omega) (by omega)
                    rw [show ((a : Int) + (j : Int) - 1).toNat = a + j - 1 by omega] at this
                    exact this
                  have ld := O.load1 (a + j - 1) 0 haj (by omega)
                  have ld' : loadA false 1 (elt 1 v (a + j - 1) 0) h3 = some (.int .i64 (nth (cut s.size (mk1 p.marks a (pos1 w p al a) j)) (a + j - 1)), h3) := ld
                  obtain ⟨st1, O2⟩ := elt_store O haj (max (nth (cut s.size (mk1 p.marks a (pos1 w p al a) j)) (a + j - 1)) (nth p.marks j))
                  simp [-faddrA, -mxA, c1', c2', s6, s7, s10, s32, s33, s34, s60, s61, s62, s9, a3, ia, ld', mx_max, st1, hwr3, hln]
                  exact fin _ _ O2 (by simp [s6]) (by simp [s7]) (by simp [s10]) (by simp [s32]) (by simp [s33]) (by simp [s34]) (by simp [s60]) (by simp [s61]) (by simp) (by simp [s9])
                · have c2' : ((a : Int) + j - 1 < (s.size : Int) + 1) = False := eq_false c2
                  rw [cut_out (Or.inr (by omega))] at fin
                  simp [c1', c2', s6, s7, s10, s32, s33, s34, s60, s61, s62, s9, hwr3, hln]
                  exact fin _ _ O (by simp [s6]) (by simp [s7]) (by simp [s10]) (by simp [s32]) (by simp [s33]) (by simp [s34]) (by simp [s60]) (by simp [s61]) (by simp) (by simp [s9])
              · have c1' : ((1 : Int) ≤ (a : Int) + j) = False := eq_false c1
                rw [cut_out (Or.inl (by omega))] at fin
                simp [c1', s6, s7, s10, s32, s33, s34, s60, s61, s62, s9, hwr3, hln]
                exact fin _ _ O (by simp [s6]) (by simp [s7]) (by simp [s10]) (by simp [s32]) (by simp [s33]) (by simp [s34]) (by simp [s60]) (by simp [s61]) (by simp) (by simp [s9])
            · obtain rfl : j = p.marks.length := by omega
              simp [hE, hlt3, s6, s7, s10, s32, s33, s34, s9, hwr2]
              exact hnext _ _ O (by simp [s6]) (by simp [s7]) (by simp) (by simp [s32]) (by simp [s33]) (by simp [s34]) (by simp [s9])
          · have hpos : pos1 w p al (a + 1) = pos1 w p al a := by rw [pos1, if_neg hm]
            rw [hpos] at hnext
            simp [hm, s6, s7, s10, s32, s33, s34, s9, hwr2]
            exact hnext _ _ O (by simp [s6]) (by simp [s7]) (by simp) (by simp [s32]) (by simp [s33]) (by simp [s34]) (by simp [s9])
        · have hA : a = w.size + 1 - p.letters.size := by omega
          simp [hE, hlt2, s6, s7, s10, s32, s33, s34, s9, hwr]
          refine hK0 (ps.length - (i + 1)) _ _ (by omega) ⟨i + 1, rfl, by omega, ⟨by simp [s6], by simp [s7], by simp [s32], by simp [s33], by simp⟩, ?_⟩
          rw [pat1, hp0, hal, ← hA]
          exact O
      · obtain rfl : i = ps.length := by omega
        simp [hE, s6]
        exact hR _ _ O (fun e => by cases e)
end Go.Proofs.YtimpbgncgdaofaaDoor
