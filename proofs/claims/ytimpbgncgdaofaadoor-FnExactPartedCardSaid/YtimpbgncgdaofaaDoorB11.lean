/- Contracts: the reference's hyphens. -/
import Derived.Test.YtimpbgncgdaofaaDoorB10
namespace Go.Proofs.YtimpbgncgdaofaaDoor
open Go Go.Bm Go.Proofs
set_option linter.all false

def odds (ms : List Int) : Nat → List Int
  | 0 => []
  | q + 1 => if 1 ≤ q ∧ Int.tmod (nth ms q) 2 = 1 then odds ms q ++ [(q : Int)] else odds ms q
def keepF (left right n : Int) (q : Int) : Bool := decide (left ≤ q) && decide (right ≤ IntKind.wrap .i64 (n - q))
def placesL (ps : List Pattern) (ws : List Exception) (l : ByteArray) : List Int := if lookB ws l then (nth ws (lookI ws l)).places else odds (cut l.size (marksAll ps l)) l.size
theorem odds_len (ms : List Int) : ∀ q, (odds ms q).length ≤ q
  | 0 => Nat.le_refl _
  | q + 1 => by
    rw [odds]
    have := odds_len ms q
    split
    · rw [List.length_append]; simp; omega
    · omega
/-- A row of numbers to be read, wherever it stands. -/
structure Rd (h : AH) (v : AV) (xs : List Int) : Prop where
  len : ∀ h' : AH, lenA false v h' = some (.int .i64 xs.length, h')
  at_ : ∀ i, i < xs.length → ∃ ad, (∀ h' : AH, iaddrA 1 v (.int .i64 (i : Int)) h' = some (ad, h')) ∧ ∀ h' : AH, h.le h' → loadA false 1 ad h' = some (.int .i64 (nth xs i), h')
theorem Rd_fs (h : AH) (c : Option Nat) (xs : List Int) : Rd h (.fs c (xs.map (encI .i64))) xs := by
  refine ⟨fun h' => by simp, fun i hi => ⟨.fp (encI .i64 (nth xs i)) 0, fun h' => ?_, fun h' _ => by simp⟩⟩
  have := (encI_ok .i64).toEncOk.iaddr (by omega) c xs .i64 (i : Int) h' (by omega) (by omega)
  simpa using this
theorem Rd_own {h0 h : AH} {v : AV} {xs : List Int} (O : Own h0 1 (encI .i64) h v xs) : Rd h v xs := by
  refine ⟨fun h' => O.len h', fun i hi => ⟨elt 1 v i 0, fun h' => ?_, fun h' hle => (O.grow hle).load1 i 0 hi (by omega)⟩⟩
  have := O.iaddr h' .i64 (i : Int) (by omega) (by omega)
  simpa using this
theorem Rd.grow {h h' : AH} {v : AV} {xs : List Int} (r : Rd h v xs) (hle : h.le h') : Rd h' v xs :=
  ⟨r.len, fun i hi => by obtain ⟨ad, h1, h2⟩ := r.at_ i hi; exact ⟨ad, h1, fun h3 h4 => h2 h3 (AH.le_trans hle h4)⟩⟩
theorem filter_take {xs : List Int} {p : Int → Bool} {i : Nat} (hi : i < xs.length) : (xs.take (i + 1)).filter p = if p (nth xs i) then (xs.take i).filter p ++ [nth xs i] else (xs.take i).filter p := by
  rw [take_succ hi, List.filter_append]
  cases hp : p (nth xs i) <;> simp [hp]
theorem lookB_found {ws : List Exception} (h : ∀ k, k < ws.length → wrdF ws k = true) {name : ByteArray} {i : Nat} (hi : i < ws.length) (e : (nth ws i).word = name) : lookI ws name = i ∧ lookB ws name = true := by
  have := look_at h hi e
  exact ⟨this, by simp [lookB, this, hi, e]⟩
theorem bslice1i (n : Int) (h3 : AH) : bsliceFA 1 1 [.int .i64 0] [(0, .int .i64 n)] h3 = some (.fs (some 1) [[.int .i64 n]], h3) := bsliceF1 1 _ (.int .i64 n) h3 rfl rfl rfl rfl
set_option maxRecDepth 100000 in
theorem l7Hyphens_iff (ps : List Pattern) (ws : List Exception) (l : ByteArray) (left right : Int) (hs : l.size ≤ 1048576) (hW : Book.W ⟨ps, ws⟩ ≤ 1048576) (hk : bookB ⟨ps, ws⟩ = true) (h : AH) (R : AV → AH → Prop) :
    acallM CA .frz 42 [.agg [.fs none (ps.map Pattern.enc), .fs none (ws.map Exception.enc)], .str l, .int .i64 left, .int .i64 right] h R ↔ R (.fs none (((placesL ps ws l).filter (keepF left right l.size)).map (encI .i64))) h := by
  refine ca_frz (af := ac42) rfl ?_
  have w1 : WS Pattern.W ps ≤ 1048576 := by simp only [Book.W] at hW; omega
  have w2 : WS Exception.W ws ≤ 1048576 := by simp only [Book.W] at hW; omega
  have l2 := WS_len Exception.W ws
  have hwrd : ∀ k, k < ws.length → wrdF ws k = true := by
    simp only [bookB, Bool.and_eq_true] at hk
    exact rall_iff.1 hk.2
  simp [ac42]
  refine awp_loop2 caM (fun n st h' => h' = h ∧ ∃ i : Nat, n = ws.length - i ∧ i ≤ ws.length ∧ (st 1 = .str l ∧ st 2 = .int .i64 left ∧ st 3 = .int .i64 right ∧ st 9 = .int .i64 l.size ∧ st 10 = (if lookB ws l && decide (lookI ws l < i) then .fs none ((nth ws (lookI ws l)).places.map (encI .i64)) else .fs (some 0) []) ∧ st 11 = .bool (lookB ws l && decide (lookI ws l < i)) ∧ st 12 = .int .i64 i ∧ st 100004 = .agg [.fs none (ps.map Pattern.enc), .fs none (ws.map Exception.enc)])) ?_ (n := ws.length) ⟨rfl, 0, by simp, by simp, by simp⟩
  rintro n st h' ⟨rfl, i, rfl, hi, s1, s2, s3, s9, s10, s11, s12, s4⟩ K hK hE hQ
  simp [s12, s4, Exception.ok.toEncOk.len]
  by_cases hlt : i < ws.length
  · have a1 := Exception.ok.toEncOk.iaddr (by omega) none ws .i64 (i : Int) h' (by omega) (by omega)
    simp only [Int.toNat_natCast] at a1
    have hwr : IntKind.wrap .i64 ((i : Int) + 1) = (i : Int) + 1 := wrap_i64 (by omega) (by omega)
    simp [hlt, s1, s12, s4, a1]
    by_cases e : (nth ws i).word = l
    · obtain ⟨e1, e2⟩ := lookB_found hwrd hlt e
      simp [e, s1, s12, s4, a1, hwr]
      exact hK (ws.length - (i + 1)) _ _ (by omega) ⟨rfl, i + 1, rfl, by omega, by simp [s1], by simp [s2], by simp [s3], by simp [s9], by simp [e1, e2], by simp [e1, e2], by simp, by simp [s4]⟩
    · have hb : (lookB ws l && decide (lookI ws l < i + 1)) = (lookB ws l && decide (lookI ws l < i)) := by
        cases hl : lookB ws l with
        | false => simp
        | true =>
          have : lookI ws l ≠ i := fun e2 => by
            simp [lookB] at hl
            rw [e2] at hl; exact e hl.2
          simp; omega
      simp [e, s12, hwr]
      exact hK (ws.length - (i + 1)) _ _ (by omega) ⟨rfl, i + 1, rfl, by omega, by simp [s1], by simp [s2], by simp [s3], by simp [s9], by simp [hb, s10], by simp [hb, s11], by simp, by simp [s4]⟩
  · obtain rfl : i = ws.length := by omega
    cases hlb : lookB ws l with
    | true =>
      have hlt2 : lookI ws l < ws.length := by simp [lookB] at hlb; exact hlb.1
      have hxl : (nth ws (lookI ws l)).places.length ≤ 1048576 := (exc_le w2 hlt2).2
      have hx : placesL ps ws l = (nth ws (lookI ws l)).places := by simp [placesL, hlb]
      rw [hlb] at s10 s11
      simp [hlt2] at s10 s11
      have Rv := Rd_fs h' none (nth ws (lookI ws l)).places
      simp [hE, s11]
      refine awp_loop2 caM (fun n st g' => ∃ (i : Nat) (u : AV), n = ((nth ws (lookI ws l)).places).length - i ∧ i ≤ ((nth ws (lookI ws l)).places).length ∧ (st 2 = .int .i64 left ∧ st 3 = .int .i64 right ∧ st 9 = .int .i64 l.size ∧ st 10 = .fs none ((nth ws (lookI ws l)).places.map (encI .i64)) ∧ st 15 = u ∧ st 16 = .int .i64 i) ∧ Own h' 1 (encI .i64) g' u ((((nth ws (lookI ws l)).places).take i).filter (keepF left right l.size))) ?_ (n := ((nth ws (lookI ws l)).places).length) ⟨0, .fs (some 0) [], by simp, by simp, by simp [s2, s3, s9, s10], by simpa using Own.lit0 (encI_ok .i64).toEncOk (AH.le_refl h')⟩
      clear s2 s3 s9 s10 hK hE hQ
      rintro n st h3 ⟨i, u, rfl, hi, ⟨s2, s3, s9, s10, s15, s16⟩, O⟩ K hK hE hQ
      have hlen := Rv.len h3
      simp [s16, s10, hlen]
      by_cases hlt : i < ((nth ws (lookI ws l)).places).length
      · obtain ⟨ad, ia, ld⟩ := Rv.at_ i hlt
        have hld := ld h3 O.le
        have hf := filter_take (p := keepF left right l.size) hlt
        have hwr : IntKind.wrap .i64 ((i : Int) + 1) = (i : Int) + 1 := wrap_i64 (by omega) (by omega)
        have hfl : ((((nth ws (lookI ws l)).places).take i).filter (keepF left right l.size)).length ≤ i := Nat.le_trans (List.length_filter_le _ _) (by rw [List.length_take]; omega)
        simp [hlt, s2, s3, s9, s10, s15, s16, ia, hld]
        by_cases c1 : left ≤ nth ((nth ws (lookI ws l)).places) i
        · by_cases c2 : right ≤ IntKind.wrap .i64 ((l.size : Int) - nth ((nth ws (lookI ws l)).places) i)
          · rw [show keepF left right l.size (nth ((nth ws (lookI ws l)).places) i) = true by simp [keepF, c1, c2], if_pos rfl] at hf
            obtain ⟨u', h4, e1, O2, _, _⟩ := O.append1 (some 1) (nth ((nth ws (lookI ws l)).places) i) [.int .i64 (nth ((nth ws (lookI ws l)).places) i)] rfl 8 (by omega) (by omega)
            rw [← hf] at O2
            simp [c1, c2, s2, s3, s9, s10, s15, s16, ia, hld, bslice1i, e1, hwr]
            exact hK (((nth ws (lookI ws l)).places).length - (i + 1)) _ _ (by omega) ⟨i + 1, u', rfl, by omega, ⟨by simp [s2], by simp [s3], by simp [s9], by simp [s10], by simp, by simp⟩, O2⟩
          · rw [show keepF left right l.size (nth ((nth ws (lookI ws l)).places) i) = false by simp [keepF, c2], if_neg (by simp)] at hf
            simp [c1, c2, s2, s3, s9, s10, s15, s16, ia, hld, hwr]
            exact hK (((nth ws (lookI ws l)).places).length - (i + 1)) _ _ (by omega) ⟨i + 1, u, rfl, by omega, ⟨by simp [s2], by simp [s3], by simp [s9], by simp [s10], by simp [s15], by simp⟩, by rw [hf]; exact O⟩
        · rw [show keepF left right l.size (nth ((nth ws (lookI ws l)).places) i) = false by simp [keepF, c1], if_neg (by simp)] at hf
          simp [c1, s2, s3, s9, s10, s15, s16, ia, hld, hwr]
          exact hK (((nth ws (lookI ws l)).places).length - (i + 1)) _ _ (by omega) ⟨i + 1, u, rfl, by omega, ⟨by simp [s2], by simp [s3], by simp [s9], by simp [s10], by simp [s15], by simp⟩, by rw [hf]; exact O⟩
      · obtain rfl : i = ((nth ws (lookI ws l)).places).length := by omega
        rw [List.take_length] at O
        have O2 := O.weaken (AH.le_refl h')
        have hz := O2.frzD (encI_ok .i64)
        simp [hE, s15]
        exact ⟨O2.le, by rw [hz, hx]⟩
    | false =>
      rw [hlb] at s10 s11
      simp at s10 s11
      have hm := l7Marks_iff ps ws l hs w1 (book_pats hk)
      have hx : placesL ps ws l = odds (cut l.size (marksAll ps l)) l.size := by simp [placesL, hlb]
      have hcl := cut_len (n := l.size) (all := marksAll ps l) (marksAll_len ps l)
      generalize cut l.size (marksAll ps l) = ms at *
      simp [hE, s11, s1, s4, hm]
      refine awp_loop2 caM (fun n st h2 => ∃ (q : Nat) (u : AV), n = l.size - q ∧ 1 ≤ q ∧ (q ≤ l.size ∨ q = 1) ∧ (st 2 = .int .i64 left ∧ st 3 = .int .i64 right ∧ st 9 = .int .i64 l.size ∧ st 10 = u ∧ st 13 = .fs none (ms.map (encI .i64)) ∧ st 14 = .int .i64 q) ∧ Own h' 1 (encI .i64) h2 u (odds ms q)) ?_ (n := l.size - 1) ⟨1, .fs (some 0) [], rfl, Nat.le_refl _, .inr rfl, by simp [s2, s3, s9, s10], Own.lit0 (encI_ok .i64).toEncOk (AH.le_refl h')⟩
      clear s1 s2 s3 s9 s10 s11 s12 s4 hK hE hQ
      rintro n st h2 ⟨q, v, rfl, hq1, hq2, ⟨s2, s3, s9, s10, s13, s14⟩, Ov⟩ K hK hE hQ
      simp [s9, s14]
      by_cases hlt : q < l.size
      · have a1 := (encI_ok .i64).toEncOk.iaddr (by omega) none ms .i64 (q : Int) h2 (by omega) (by omega)
        simp only [Int.toNat_natCast] at a1
        have hwr : IntKind.wrap .i64 ((q : Int) + 1) = (q : Int) + 1 := wrap_i64 (by omega) (by omega)
        have hol := odds_len ms q
        simp [hlt, s2, s3, s9, s10, s13, s14, a1]
        by_cases c : Int.tmod (nth ms q) 2 = 1
        · have ho : odds ms (q + 1) = odds ms q ++ [(q : Int)] := by rw [odds, if_pos ⟨hq1, c⟩]
          obtain ⟨u', h4, e1, O2, _, _⟩ := Ov.append1 (some 1) (q : Int) [.int .i64 (q : Int)] rfl 8 (by omega) (by omega)
          rw [← ho] at O2
          simp [c, s2, s3, s9, s10, s13, s14, bslice1i, e1, hwr]
          exact hK (l.size - (q + 1)) _ _ (by omega) ⟨q + 1, u', rfl, by omega, .inl (by omega), ⟨by simp [s2], by simp [s3], by simp [s9], by simp, by simp [s13], by simp⟩, O2⟩
        · have ho : odds ms (q + 1) = odds ms q := by rw [odds, if_neg (fun x => c x.2)]
          simp [c, s2, s3, s9, s10, s13, s14, hwr]
          exact hK (l.size - (q + 1)) _ _ (by omega) ⟨q + 1, v, rfl, by omega, .inl (by omega), ⟨by simp [s2], by simp [s3], by simp [s9], by simp [s10], by simp [s13], by simp⟩, by rw [ho]; exact Ov⟩
      · have hodd : odds ms q = odds ms l.size := by
          rcases hq2 with e | e
          · rw [show q = l.size by omega]
          · subst e
            have : l.size = 0 ∨ l.size = 1 := by omega
            rcases this with e | e <;> rw [e] <;> rfl
        rw [hodd] at Ov
        have hxl : (odds ms l.size).length ≤ 1048576 := Nat.le_trans (odds_len ms l.size) hs
        have Rv := Rd_own Ov
        simp [hE, hlt]
        refine awp_loop2 caM (fun n st g' => ∃ (i : Nat) (u : AV), n = (odds ms l.size).length - i ∧ i ≤ (odds ms l.size).length ∧ (st 2 = .int .i64 left ∧ st 3 = .int .i64 right ∧ st 9 = .int .i64 l.size ∧ st 10 = v ∧ st 15 = u ∧ st 16 = .int .i64 i) ∧ Own h2 1 (encI .i64) g' u (((odds ms l.size).take i).filter (keepF left right l.size))) ?_ (n := (odds ms l.size).length) ⟨0, .fs (some 0) [], by simp, by simp, by simp [s2, s3, s9, s10], by simpa using Own.lit0 (encI_ok .i64).toEncOk (AH.le_refl h2)⟩
        clear s2 s3 s9 s10 hK hE hQ
        rintro n st h3 ⟨i, u, rfl, hi, ⟨s2, s3, s9, s10, s15, s16⟩, O⟩ K hK hE hQ
        have hlen := Rv.len h3
        simp [s16, s10, hlen]
        by_cases hlt : i < (odds ms l.size).length
        · obtain ⟨ad, ia, ld⟩ := Rv.at_ i hlt
          have hld := ld h3 O.le
          have hf := filter_take (p := keepF left right l.size) hlt
          have hwr : IntKind.wrap .i64 ((i : Int) + 1) = (i : Int) + 1 := wrap_i64 (by omega) (by omega)
          have hfl : (((odds ms l.size).take i).filter (keepF left right l.size)).length ≤ i := Nat.le_trans (List.length_filter_le _ _) (by rw [List.length_take]; omega)
          simp [hlt, s2, s3, s9, s10, s15, s16, ia, hld]
          by_cases c1 : left ≤ nth (odds ms l.size) i
          · by_cases c2 : right ≤ IntKind.wrap .i64 ((l.size : Int) - nth (odds ms l.size) i)
            · rw [show keepF left right l.size (nth (odds ms l.size) i) = true by simp [keepF, c1, c2], if_pos rfl] at hf
              obtain ⟨u', h4, e1, O2, _, _⟩ := O.append1 (some 1) (nth (odds ms l.size) i) [.int .i64 (nth (odds ms l.size) i)] rfl 8 (by omega) (by omega)
              rw [← hf] at O2
              simp [c1, c2, s2, s3, s9, s10, s15, s16, ia, hld, bslice1i, e1, hwr]
              exact hK ((odds ms l.size).length - (i + 1)) _ _ (by omega) ⟨i + 1, u', rfl, by omega, ⟨by simp [s2], by simp [s3], by simp [s9], by simp [s10], by simp, by simp⟩, O2⟩
            · rw [show keepF left right l.size (nth (odds ms l.size) i) = false by simp [keepF, c2], if_neg (by simp)] at hf
              simp [c1, c2, s2, s3, s9, s10, s15, s16, ia, hld, hwr]
              exact hK ((odds ms l.size).length - (i + 1)) _ _ (by omega) ⟨i + 1, u, rfl, by omega, ⟨by simp [s2], by simp [s3], by simp [s9], by simp [s10], by simp [s15], by simp⟩, by rw [hf]; exact O⟩
          · rw [show keepF left right l.size (nth (odds ms l.size) i) = false by simp [keepF, c1], if_neg (by simp)] at hf
            simp [c1, s2, s3, s9, s10, s15, s16, ia, hld, hwr]
            exact hK ((odds ms l.size).length - (i + 1)) _ _ (by omega) ⟨i + 1, u, rfl, by omega, ⟨by simp [s2], by simp [s3], by simp [s9], by simp [s10], by simp [s15], by simp⟩, by rw [hf]; exact O⟩
        · obtain rfl : i = (odds ms l.size).length := by omega
          rw [List.take_length] at O
          have O2 := O.weaken Ov.le
          have hz := O2.frzD (encI_ok .i64)
          simp [hE, s15]
          exact ⟨O2.le, by rw [hz, hx]⟩
end Go.Proofs.YtimpbgncgdaofaaDoor
