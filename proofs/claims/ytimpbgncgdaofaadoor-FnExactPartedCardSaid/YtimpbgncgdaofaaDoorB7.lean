/- Contracts: the reference's marks. -/
import Derived.Test.YtimpbgncgdaofaaDoorB6
namespace Go.Proofs.YtimpbgncgdaofaaDoor
open Go Go.Bm Go.Proofs
set_option linter.all false

theorem makeZ (n : Nat) (h : AH) : Own h 1 (encI .i64) (h.new (.cells true (rep n [.int .i64 0]))) (.sl h.next 0 1 n (some n)) (zeros n) := Own.make (z := (0 : Int)) (encI_ok .i64).toEncOk (AH.le_refl h) rfl n
theorem enc_cut (l : List Int) (lo hi : Nat) : ((l.flatMap (encI .i64)).drop lo).take (hi - lo) = ((l.take hi).drop lo).flatMap (encI .i64) := by
  have e : ∀ l : List Int, l.flatMap (encI .i64) = l.map fun n => AV.int .i64 n := fun l => by
    induction l with
    | nil => rfl
    | cons x l ih => rw [List.flatMap_cons, ih]; rfl
  rw [e, e, List.map_drop, List.map_take, List.drop_take]
/-- A part of a slice of one's own, frozen. -/
theorem own_cut {h0 h : AH} {v : AV} {xs : List Int} (O : Own h0 1 (encI .i64) h v xs) {lo hi : Nat} (h1 : lo ≤ hi) (h2 : hi ≤ xs.length) (h3 : 0 < xs.length) :
    ∃ v', sliceA 1 v (some (.int .i64 (lo : Int))) (some (.int .i64 (hi : Int))) none h = some (v', h) ∧ frzV h0.next h DF v' = some (.fs none (((xs.take hi).drop lo).map (encI .i64))) := by
  rcases O.at_ with ⟨rfl, _⟩ | ⟨b, c, rfl, hg, hc, hn⟩
  · simp at h3
  · refine ⟨.sl b (0 + lo * 1) 1 (hi - lo) (c.map (· - lo)), ?_, ?_⟩
    · have hcap : c.getD xs.length = xs.length := by rcases hc with rfl | rfl <;> rfl
      simp only [sliceA, bound, hcap, ne_eq, not_true, if_false]
      rw [if_pos ⟨by omega, by omega⟩]
      simp only [Int.toNat_natCast]
      rw [if_neg (by omega), if_pos ⟨by omega, by omega⟩]
    · show (if h0.next ≤ b then _ else _) = _
      rw [if_pos hn]
      have hl : (xs.flatMap (encI .i64)).length = xs.length * 1 := O.ok.flen xs
      have hr : h.readO b (0 + lo * 1) ((hi - lo) * 1) = some (((xs.take hi).drop lo).flatMap (encI .i64)) := by
        unfold AH.readO
        rw [hg]
        simp only
        rw [if_pos (by omega), ← enc_cut, show 0 + lo * 1 = lo by omega, show (hi - lo) * 1 = hi - lo by omega]
      rw [hr]
      simp only
      rw [(encI_ok .i64).ffz]
      simp only
      have hn2 : hi - lo = ((xs.take hi).drop lo).length := by simp; omega
      rw [hn2, (encI_ok .i64).toEncOk.chunk]
theorem elt_store {h0 h : AH} {v : AV} {all : List Int} (O : Own h0 1 (encI .i64) h v all) {i : Nat} (hi : i < all.length) (m : Int) :
    storeA 1 (elt 1 v i 0) (.int .i64 m) h = some (.tup [], h.setR v (encI .i64) (all.set i m)) ∧ Own h0 1 (encI .i64) (h.setR v (encI .i64) (all.set i m)) v (all.set i m) :=
  ⟨O.store1 i m (.int .i64 m) rfl rfl hi, O.setR (by omega) (by simp)⟩
theorem pat_marks {p : Pattern} (h : patB p = true) : p.marks.length = p.letters.size + 1 ∧ 1 ≤ p.letters.size ∧ p.letters.size ≤ 20 := by
  simp only [patB, Bool.and_eq_true, decide_eq_true_eq] at h
  omega
set_option maxRecDepth 100000 in
theorem l7Marks_iff (ps : List Pattern) (ws : List Exception) (s : ByteArray) (hs : s.size ≤ 1048576) (hp : WS Pattern.W ps ≤ 1048576) (hok : ∀ i, i < ps.length → patB (nth ps i) = true) (h : AH) (R : AV → AH → Prop) :
    acallM CA .frz 36 [.agg [.fs none (ps.map Pattern.enc), .fs none (ws.map Exception.enc)], .str s] h R ↔ R (.fs none ((cut s.size (marksAll ps s)).map (encI .i64))) h := by
  refine ca_frz (af := ac36) rfl ?_
  have l1 := WS_len Pattern.W ps
  have hd := dotted_size s
  have b1 := binStr_add ⟨#[46]⟩ s (by have : (⟨#[46]⟩ : ByteArray).size = 1 := rfl; omega)
  have b2 := binStr_add (⟨#[46]⟩ ++ s) ⟨#[46]⟩ (by rw [ByteArray.size_append]; have : (⟨#[46]⟩ : ByteArray).size = 1 := rfl; omega)
  have hms := mslice_eq 1 8 [.int .i64 0] .i64 .i64 (s.size + 3) h rfl rfl (by omega) (by omega)
  have hone : (⟨#[46]⟩ : ByteArray).size = 1 := rfl
  have hw1 : IntKind.wrap .i64 (1 + (s.size : Int) + 1 + 1) = ((s.size + 3 : Nat) : Int) := by rw [wrap_i64 (by omega) (by omega)]; omega
  have O0 := makeZ (s.size + 3) h
  have e3 : (⟨#[46]⟩ ++ s) ++ ⟨#[46]⟩ = dotted s := rfl
  have e3c : ((s.size + 3 : Nat) : Int) = (s.size : Int) + 3 := by omega
  rw [e3c] at hms hw1
  have hw2 : IntKind.wrap .i64 (((dotted s).size : Int) + 1) = (s.size : Int) + 3 := by rw [hd, wrap_i64 (by omega) (by omega)]; omega
  simp [ac36, b1, b2, e3, hone, hw1, hw2, hms]
  revert O0
  generalize h.new (.cells true (rep (s.size + 3) [.int .i64 0])) = h1
  generalize AV.sl h.next 0 1 (s.size + 3) (some (s.size + 3)) = v
  intro O0
  generalize hwd : dotted s = w at *
  refine awp_loop2 caM (fun n st h' => ∃ (i : Nat), n = ps.length - i ∧ i ≤ ps.length ∧ (st 1 = .str s ∧ st 5 = .str w ∧ st 6 = v ∧ st 7 = .int .i64 i ∧ st 100002 = .agg [.fs none (ps.map Pattern.enc), .fs none (ws.map Exception.enc)]) ∧ Own h 1 (encI .i64) h' v (pat1 w ps (zeros (s.size + 3)) i)) ?_ (n := ps.length) ⟨0, by simp, by simp, by simp [e3], O0⟩
  rintro n st h' ⟨i, rfl, hi, ⟨s1, s5, s6, s7, s2⟩, O⟩ K hK hE hQ
  simp [s1, s5, s6, s7, s2, Pattern.ok.toEncOk.len]
  by_cases hlt : i < ps.length
  · have a1 := Pattern.ok.toEncOk.iaddr (by omega) none ps .i64 (i : Int) h' (by omega) (by omega)
    simp only [Int.toNat_natCast] at a1
    have hwr : IntKind.wrap .i64 ((i : Int) + 1) = (i : Int) + 1 := wrap_i64 (by omega) (by omega)
    obtain ⟨pm1, pm2, pm3⟩ := pat_marks (hok i hlt)
    simp [hlt, s1, s5, s6, s7, s2, a1]
    refine awp_loop2 caM (fun n st h' => ∃ (a : Nat), n = w.size + 1 - (nth ps i).letters.size - a ∧ a ≤ w.size + 1 - (nth ps i).letters.size ∧ (st 1 = .str s ∧ st 5 = .str w ∧ st 6 = v ∧ st 7 = .int .i64 i ∧ st 9 = .int .i64 a ∧ st 100002 = .agg [.fs none (ps.map Pattern.enc), .fs none (ws.map Exception.enc)] ∧ st 100008 = .agg [.str (nth ps i).letters, .fs none ((nth ps i).marks.map (encI .i64))]) ∧ Own h 1 (encI .i64) h' v (pos1 w (nth ps i) (pat1 w ps (zeros (s.size + 3)) i) a)) ?_ (n := w.size + 1 - (nth ps i).letters.size) ⟨0, by simp, by simp, by simp [s1, s5, s6, s7, s2], O⟩
    have hK0 := hK
    clear O s1 s5 s6 s7 s2 st hE hQ
    generalize hp0 : nth ps i = p at *
    generalize hal : pat1 w ps (zeros (s.size + 3)) i = al at *
    have hall : al.length = w.size + 1 := by rw [← hal, pat1_len]; simp [zeros]; omega
    rintro n st h2 ⟨a, rfl, ha, ⟨s1, s5, s6, s7, s9, s2, s8⟩, O⟩ K2 hK hE hQ
    have hwa : IntKind.wrap .i64 ((a : Int) + p.letters.size) = (a : Int) + p.letters.size := wrap_i64 (by omega) (by omega)
    simp [s1, s5, s6, s7, s9, s2, s8, hwa]
    by_cases hlt2 : (a : Int) + p.letters.size ≤ w.size
    · have hsl : slstrA (.str w) (some (.int .i64 (a : Int))) (some (.int .i64 ((a : Int) + p.letters.size))) h2 = some (.str (w.extract a (a + p.letters.size)), h2) := by
        simp only [slstrA, bound]
        rw [if_pos ⟨by omega, by omega⟩]
        simp only [Int.toNat_natCast]
        rw [show ((a : Int) + (p.letters.size : Int)).toNat = a + p.letters.size by omega, if_pos ⟨by omega, by omega⟩]
      have hwr2 : IntKind.wrap .i64 ((a : Int) + 1) = (a : Int) + 1 := wrap_i64 (by omega) (by omega)
      have hnext : ∀ (h3 : AH) (st2 : S), Own h 1 (encI .i64) h3 v (pos1 w p al (a + 1)) → st2 1 = .str s → st2 5 = .str w → st2 6 = v → st2 7 = .int .i64 i → st2 9 = .int .i64 ((a : Int) + 1) → st2 100002 = .agg [.fs none (ps.map Pattern.enc), .fs none (ws.map Exception.enc)] → st2 100008 = .agg [.str p.letters, .fs none (p.marks.map (encI .i64))] → K2 .normal st2 h3 := fun h3 st2 O3 t1 t5 t6 t7 t9 t2 t8 =>
        hK (w.size + 1 - p.letters.size - (a + 1)) _ _ (by omega) ⟨a + 1, rfl, by omega, ⟨t1, t5, t6, t7, by simpa using t9, t2, t8⟩, O3⟩
      simp [hlt2, s1, s5, s6, s7, s9, s2, s8, hwa, hsl]
      by_cases hm : w.extract a (a + p.letters.size) = p.letters
      · have hpos : pos1 w p al (a + 1) = mk1 p.marks a (pos1 w p al a) p.marks.length := by rw [pos1, if_pos hm]
        rw [hpos] at hnext
        simp [hm, s1, s5, s6, s7, s9, s2, s8]
        have hpl : (pos1 w p al a).length = w.size + 1 := by rw [pos1_len, hall]
        refine awp_loop2 caM (fun n st h' => ∃ (j : Nat), n = p.marks.length - j ∧ j ≤ p.marks.length ∧ (st 1 = .str s ∧ st 5 = .str w ∧ st 6 = v ∧ st 7 = .int .i64 i ∧ st 9 = .int .i64 a ∧ st 10 = .int .i64 j ∧ st 100002 = .agg [.fs none (ps.map Pattern.enc), .fs none (ws.map Exception.enc)] ∧ st 100008 = .agg [.str p.letters, .fs none (p.marks.map (encI .i64))]) ∧ Own h 1 (encI .i64) h' v (mk1 p.marks a (pos1 w p al a) j)) ?_ (n := p.marks.length) ⟨0, by simp, by simp, by simp [s1, s5, s6, s7, s9, s2, s8], O⟩
        clear O s1 s5 s6 s7 s9 s2 s8 st hK hE hQ hK0
        rintro n st h3 ⟨j, rfl, hj, ⟨s1, s5, s6, s7, s9, s10, s2, s8⟩, O⟩ K3 hK hE hQ
        simp [s1, s5, s6, s7, s9, s10, s2, s8, (encI_ok .i64).toEncOk.len]
        by_cases hlt3 : j < p.marks.length
        · have a3 := (encI_ok .i64).toEncOk.iaddr (by omega) none p.marks .i64 (j : Int) h3 (by omega) (by omega)
          simp only [Int.toNat_natCast] at a3
          have hml : (mk1 p.marks a (pos1 w p al a) j).length = w.size + 1 := by rw [mk1_len, hpl]
          have hwj : IntKind.wrap .i64 ((a : Int) + j) = (a : Int) + j := wrap_i64 (by omega) (by omega)
          have hwr3 : IntKind.wrap .i64 ((j : Int) + 1) = (j : Int) + 1 := wrap_i64 (by omega) (by omega)
          have haj : a + j < (mk1 p.marks a (pos1 w p al a) j).length := by omega
          have ia : ∀ h4, iaddrA 1 v (.int .i64 ((a : Int) + j)) h4 = some (elt 1 v (a + j) 0, h4) := fun h4 => by
            have := O.iaddr h4 .i64 ((a : Int) + j) (by omega) (by omega)
            rw [show ((a : Int) + (j : Int)).toNat = a + j by omega] at this
            exact this
          have ld := O.load1 (a + j) 0 haj (by omega)
          have ld' : loadA false 1 (elt 1 v (a + j) 0) h3 = some (.int .i64 (nth (mk1 p.marks a (pos1 w p al a) j) (a + j)), h3) := ld
          have fin : ∀ (h4 : AH) (st2 : S), Own h 1 (encI .i64) h4 v (mk1 p.marks a (pos1 w p al a) (j + 1)) → st2 1 = .str s → st2 5 = .str w → st2 6 = v → st2 7 = .int .i64 i → st2 9 = .int .i64 a → st2 10 = .int .i64 ((j : Int) + 1) → st2 100002 = .agg [.fs none (ps.map Pattern.enc), .fs none (ws.map Exception.enc)] → st2 100008 = .agg [.str p.letters, .fs none (p.marks.map (encI .i64))] → K3 .normal st2 h4 := fun h4 st2 O4 t1 t5 t6 t7 t9 t10 t2 t8 =>
            hK (p.marks.length - (j + 1)) _ _ (by omega) ⟨j + 1, rfl, by omega, ⟨t1, t5, t6, t7, t9, by simpa using t10, t2, t8⟩, O4⟩
          rw [mk1] at fin
          simp [-faddrA, hlt3, s1, s5, s6, s7, s9, s10, s2, s8, a3, hwj, ia, ld']
          by_cases c1 : nth (mk1 p.marks a (pos1 w p al a) j) (a + j) < nth p.marks j
          · obtain ⟨st1, O2⟩ := elt_store O haj (nth p.marks j)
            rw [← upd_yes c1] at st1 O2
            simp [-faddrA, c1, s1, s5, s6, s7, s9, s10, s2, s8, a3, hwj, ia, st1, hwr3]
            exact fin _ _ O2 (by simp [s1]) (by simp [s5]) (by simp [s6]) (by simp [s7]) (by simp [s9]) (by simp) (by simp [s2]) (by simp [s8])
          · simp [c1, s1, s5, s6, s7, s9, s10, s2, s8, hwr3]
            exact fin _ _ (by rw [upd_no haj (by omega)]; exact O) (by simp [s1]) (by simp [s5]) (by simp [s6]) (by simp [s7]) (by simp [s9]) (by simp) (by simp [s2]) (by simp [s8])
        · obtain rfl : j = p.marks.length := by omega
          simp [hE, hlt3, s1, s5, s6, s7, s9, s2, s8, hwr2]
          exact hnext _ _ O (by simp [s1]) (by simp [s5]) (by simp [s6]) (by simp [s7]) (by simp) (by simp [s2]) (by simp [s8])
      · have hpos : pos1 w p al (a + 1) = pos1 w p al a := by rw [pos1, if_neg hm]
        rw [hpos] at hnext
        simp [hm, s1, s5, s6, s7, s9, s2, s8, hwr2]
        exact hnext _ _ O (by simp [s1]) (by simp [s5]) (by simp [s6]) (by simp [s7]) (by simp) (by simp [s2]) (by simp [s8])
    · have hA : a = w.size + 1 - p.letters.size := by omega
      simp [hE, hlt2, s1, s5, s6, s7, s9, s2, s8, hwr]
      refine hK0 (ps.length - (i + 1)) _ _ (by omega) ⟨i + 1, rfl, by omega, ⟨by simp [s1], by simp [s5], by simp [s6], by simp, by simp [s2]⟩, ?_⟩
      rw [pat1, hp0, hal, ← hA]
      exact O
  · obtain rfl : i = ps.length := by omega
    have hwn : IntKind.wrap .i64 ((s.size : Int) + 2) = (s.size : Int) + 2 := wrap_i64 (by omega) (by omega)
    simp [hE, s1, s6, hwn]
    obtain ⟨v', e1, e2⟩ := own_cut O (lo := 1) (hi := s.size + 2) (by omega) (by rw [pat1_len]; simp [zeros]) (by rw [pat1_len]; simp [zeros])
    have e1' : sliceA 1 v (some (.int .i64 1)) (some (.int .i64 ((s.size : Int) + 2))) none h' = some (v', h') := e1
    simp [e1']
    exact ⟨O.le, by rw [e2, ← hwd]; rfl⟩
end Go.Proofs.YtimpbgncgdaofaaDoor
