/- Plain: the marks of a word. Contracts: words lowered. -/
import Derived.Test.YtimpbgncgdaofaaDoorB5
namespace Go.Proofs.YtimpbgncgdaofaaDoor
open Go Go.Bm Go.Proofs
set_option linter.all false

/-! ### marks -/
def upd (all : List Int) (i : Nat) (m : Int) : List Int := all.set i (max (nth all i) m)
def mk1 (ms : List Int) (a : Nat) (all : List Int) : Nat → List Int
  | 0 => all
  | j + 1 => upd (mk1 ms a all j) (a + j) (nth ms j)
def pos1 (w : ByteArray) (p : Pattern) (all : List Int) : Nat → List Int
  | 0 => all
  | a + 1 => if w.extract a (a + p.letters.size) = p.letters then mk1 p.marks a (pos1 w p all a) p.marks.length else pos1 w p all a
def pat1 (w : ByteArray) (ps : List Pattern) (all : List Int) : Nat → List Int
  | 0 => all
  | i + 1 => pos1 w (nth ps i) (pat1 w ps all i) (w.size + 1 - (nth ps i).letters.size)
theorem upd_len (all : List Int) (i : Nat) (m : Int) : (upd all i m).length = all.length := by simp [upd]
theorem mk1_len (ms : List Int) (a : Nat) (all : List Int) : ∀ j, (mk1 ms a all j).length = all.length
  | 0 => rfl
  | j + 1 => by rw [mk1, upd_len, mk1_len ms a all j]
theorem pos1_len (w : ByteArray) (p : Pattern) (all : List Int) : ∀ a, (pos1 w p all a).length = all.length
  | 0 => rfl
  | a + 1 => by
    rw [pos1]
    split
    · rw [mk1_len, pos1_len w p all a]
    · exact pos1_len w p all a
theorem pat1_len (w : ByteArray) (ps : List Pattern) (all : List Int) : ∀ i, (pat1 w ps all i).length = all.length
  | 0 => rfl
  | i + 1 => by rw [pat1, pos1_len, pat1_len w ps all i]
theorem upd_no {all : List Int} {i : Nat} {m : Int} (hi : i < all.length) (h : m ≤ nth all i) : upd all i m = all := by
  unfold upd
  rw [Int.max_eq_left h, set_nth hi]
theorem upd_yes {all : List Int} {i : Nat} {m : Int} (h : nth all i < m) : upd all i m = all.set i m := by
  unfold upd
  rw [Int.max_eq_right (by omega)]
def dotted (s : ByteArray) : ByteArray := (⟨#[46]⟩ ++ s) ++ ⟨#[46]⟩
theorem dotted_size (s : ByteArray) : (dotted s).size = s.size + 2 := by
  unfold dotted
  rw [ByteArray.size_append, ByteArray.size_append]
  have : (⟨#[46]⟩ : ByteArray).size = 1 := rfl
  omega
def zeros (n : Nat) : List Int := List.replicate n 0
def marksAll (ps : List Pattern) (s : ByteArray) : List Int := pat1 (dotted s) ps (zeros (s.size + 3)) ps.length
theorem marksAll_len (ps : List Pattern) (s : ByteArray) : (marksAll ps s).length = s.size + 3 := by
  unfold marksAll; rw [pat1_len]; simp [zeros]
/-- The marks: what lies between the two ends. -/
def cut (n : Nat) (all : List Int) : List Int := (all.take (n + 2)).drop 1
theorem cut_len {n : Nat} {all : List Int} (h : all.length = n + 3) : (cut n all).length = n + 1 := by simp [cut, h]
theorem cut_nth {n : Nat} {all : List Int} (h : all.length = n + 3) {i : Nat} (hi : i < n + 1) : nth (cut n all) i = nth all (i + 1) := by
  rw [nth_eq (by rw [cut_len h]; exact hi), nth_eq (by omega)]
  simp [cut, Nat.add_comm]
/-- A mark that lies in it, and one that lies at an end. -/
theorem cut_in {n : Nat} {all : List Int} (h : all.length = n + 3) {i : Nat} {m : Int} (h0 : 0 < i) (hi : i < n + 2) : cut n (upd all i m) = upd (cut n all) (i - 1) m := by
  unfold upd
  rw [cut_nth h (by omega), show i - 1 + 1 = i by omega]
  unfold cut
  rw [List.take_set, List.drop_set, if_neg (by omega)]
theorem cut_out {n : Nat} {all : List Int} {i : Nat} {m : Int} (hi : i = 0 ∨ n + 2 ≤ i) : cut n (upd all i m) = cut n all := by
  unfold upd cut
  rcases hi with rfl | hi
  · rw [List.take_set, List.drop_set, if_pos (by omega)]
  · rw [List.take_set_of_le (by omega)]
theorem cut_zeros (n : Nat) : cut n (zeros (n + 3)) = zeros (n + 1) := by
  unfold cut zeros
  rw [List.take_replicate, List.drop_replicate]
  congr 1; omega
/-! ### letters, lowered -/
def lowU (b : UInt8) : UInt8 := if 65 ≤ b.toNat ∧ b.toNat ≤ 90 then UInt8.ofNat (b.toNat + 32) else b
def lowS (s : ByteArray) : ByteArray := ⟨(s.toList.map lowU).toArray⟩
theorem lowS_size (s : ByteArray) : (lowS s).size = s.size := by
  show ((s.toList.map lowU).toArray).size = s.size
  simp [Lib.toList_data]
def encB (b : UInt8) : List AV := [.int .u8 (b.toNat : Int)]
theorem encB_ok : EncF 1 encB := ⟨⟨fun _ => rfl, fun _ => rfl⟩, fun _ _ _ _ => rfl⟩
theorem bytesA_enc : ∀ l : List UInt8, bytesA (l.flatMap encB) = some l
  | [] => rfl
  | b :: l => by
    show bytesA (.int .u8 (b.toNat : Int) :: l.flatMap encB) = _
    unfold bytesA
    rw [bytesA_enc l, if_pos (by simp)]
    simp
theorem b2s_own {h0 h : AH} {v : AV} {l : List UInt8} (O : Own h0 1 encB h v l) : b2sA v h = some (.str ⟨l.toArray⟩, h) := by
  have : srcA h 1 v = some (l.length, l.flatMap encB) := by
    rcases O.at_ with ⟨rfl, rfl | rfl⟩ | ⟨b, c, rfl, hg, _, _⟩
    · rfl
    · rfl
    · have hl : (l.flatMap encB).length = l.length * 1 := O.ok.flen l
      simp only [srcA, if_true, AH.read, hg]
      rw [if_pos (by omega), List.drop_zero, List.take_of_length_le (by omega)]
      rfl
  unfold b2sA
  rw [this]
  simp only [bytesA_enc]
theorem lowU_wrap (b : UInt8) (h : 65 ≤ b.toNat ∧ b.toNat ≤ 90) : IntKind.wrap .u8 ((b.toNat : Int) + 32) = ((lowU b).toNat : Int) := by
  unfold lowU
  rw [if_pos h, wrap_u8 (by omega) (by omega), UInt8.toNat_ofNat']
  omega
theorem lowU_no (b : UInt8) (h : ¬ (65 ≤ b.toNat ∧ b.toNat ≤ 90)) : lowU b = b := if_neg h
theorem byt_nth (s : ByteArray) {i : Nat} (hi : i < s.size) : byt s i = nth s.toList i := by
  have hl : i < s.toList.length := by rw [Lib.toList_data, ← Lib.size_eq]; exact hi
  unfold byt
  rw [nth_eq hl, List.getD_eq_getElem?_getD, List.getElem?_eq_getElem hl]
  rfl
theorem sz_list (s : ByteArray) : s.toList.length = s.size := by rw [Lib.toList_data, ← Lib.size_eq]
theorem l7Lower_iff (s : ByteArray) (hs : s.size ≤ 1048576) (h : AH) (R : AV → AH → Prop) : acallM CA .frz 35 [.str s] h R ↔ R (.str (lowS s)) h := by
  refine ca_frz (af := ac35) rfl ?_
  simp [ac35]
  refine awp_loop2 caM (fun n st h' => ∃ (i : Nat) (v : AV), n = s.size - i ∧ i ≤ s.size ∧ (st 0 = .str s ∧ st 3 = v ∧ st 4 = .int .i64 i) ∧ Own h 1 encB h' v ((s.toList.take i).map lowU)) ?_ (n := s.size) ⟨0, .fs (some 0) [], by simp, by simp, by simp, Own.lit0 encB_ok.toEncOk (AH.le_refl h)⟩
  rintro n st h' ⟨i, v, rfl, hi, ⟨s0, s3, s4⟩, O⟩ K hK hE hQ
  simp [s0, s3, s4]
  by_cases hlt : i < s.size
  · have ij := str_ix s i .i64 h' hlt
    have hl : i < s.toList.length := by rw [sz_list]; exact hlt
    have hwr : IntKind.wrap .i64 ((i : Int) + 1) = (i : Int) + 1 := wrap_i64 (by omega) (by omega)
    have hln : ((s.toList.take i).map lowU).length = i := by rw [List.length_map, List.length_take]; omega
    obtain ⟨v', h2, e1, O2, _, _⟩ := O.append1 (some 1) (lowU (byt s i)) (encB (lowU (byt s i))) rfl 1 (by omega) (by omega)
    have ht : (s.toList.take i).map lowU ++ [lowU (byt s i)] = (s.toList.take (i + 1)).map lowU := by rw [take_succ hl, List.map_append, byt_nth s hlt]; rfl
    rw [ht] at O2
    have hbs : ∀ (n : Int) (h3 : AH), bsliceFA 1 1 [.int .u8 0] [(0, .int .u8 n)] h3 = some (.fs (some 1) [[.int .u8 n]], h3) := fun n h3 => bsliceF1 1 _ (.int .u8 n) h3 rfl rfl rfl rfl
    simp only [encB] at e1
    simp [hlt, s0, s3, s4, ij]
    have fin : ∀ st2 : S, st2 0 = .str s → st2 3 = v' → st2 4 = .int .i64 ((i : Int) + 1) → K .normal st2 h2 := fun st2 t0 t3 t4 =>
      hK (s.size - (i + 1)) _ _ (by omega) ⟨i + 1, v', rfl, by omega, ⟨t0, t3, by simpa using t4⟩, O2⟩
    by_cases c1 : (65 : Int) ≤ (byt s i).toNat
    · by_cases c2 : ((byt s i).toNat : Int) ≤ 90
      · have hw8 := lowU_wrap (byt s i) ⟨by omega, by omega⟩
        simp [c1, c2, s0, s3, s4, hw8, hbs, e1, hwr]
        exact fin _ (by simp [s0]) (by simp) (by simp)
      · have hn := lowU_no (byt s i) (by omega)
        rw [hn] at e1
        simp [c1, c2, s0, s3, s4, hbs, e1, hwr]
        exact fin _ (by simp [s0]) (by simp) (by simp)
    · have hn := lowU_no (byt s i) (by omega)
      rw [hn] at e1
      simp [c1, s0, s3, s4, hbs, e1, hwr]
      exact fin _ (by simp [s0]) (by simp) (by simp)
  · obtain rfl : i = s.size := by omega
    have e : s.toList.take s.size = s.toList := List.take_of_length_le (by rw [sz_list]; exact Nat.le_refl _)
    rw [e] at O
    have hb := b2s_own O
    simp [hE, s3, hb]
    exact ⟨O.le, rfl⟩
def half (l : List UInt8) (i : Nat) : List UInt8 := (l.take i).map lowU ++ l.drop i
theorem half_len (l : List UInt8) (i : Nat) : (half l i).length = l.length := by simp [half]; omega
theorem half_nth {l : List UInt8} {i : Nat} (hi : i < l.length) : nth (half l i) i = nth l i := by
  have h1 : ((l.take i).map lowU).length = i := by rw [List.length_map, List.length_take]; omega
  rw [nth_eq (by rw [half_len]; exact hi)]
  simp only [half]
  rw [List.getElem_append_right (by omega)]
  simp only [h1, Nat.sub_self, drop_eq hi, List.getElem_cons_zero]
theorem half_set {l : List UInt8} {i : Nat} (hi : i < l.length) : (half l i).set i (lowU (nth l i)) = half l (i + 1) := by
  have h1 : ((l.take i).map lowU).length = i := by rw [List.length_map, List.length_take]; omega
  unfold half
  rw [List.set_append_right _ _ (by omega), h1, Nat.sub_self, drop_eq hi, List.set_cons_zero, take_succ hi, List.map_append, List.append_assoc]
  rfl
theorem half_all (l : List UInt8) : half l l.length = l.map lowU := by simp [half]
theorem lowered_iff (s : ByteArray) (hs : s.size ≤ 1048576) (h : AH) (R : AV → AH → Prop) : acallM CA .frz 37 [.str s] h R ↔ R (.str (lowS s)) h := by
  refine ca_frz (af := ac37) rfl ?_
  have hsz := sz_list s
  have hO : Own h 1 encB (h.new (.cells true (s.toList.map fun c => AV.int .u8 (c.toNat : Int)))) (.sl h.next 0 1 s.size none) s.toList := by
    refine ⟨encB_ok.toEncOk, AH.le_new_of (AH.le_refl h) _, .inr ⟨h.next, none, by rw [hsz], ?_, .inl rfl, Nat.le_refl _⟩⟩
    rw [AH.get_new, if_pos rfl]
    congr 2
    induction s.toList with
    | nil => rfl
    | cons b l ih => rw [List.map_cons, List.flatMap_cons, ih]; rfl
  simp [ac37, s2bA]
  revert hO
  generalize h.new (.cells true (s.toList.map fun c => AV.int .u8 (c.toNat : Int))) = h1
  generalize AV.sl h.next 0 1 s.size none = v
  intro hO
  refine awp_loop2 caM (fun n st h' => ∃ (i : Nat), n = s.size - i ∧ i ≤ s.size ∧ (st 3 = v ∧ st 8 = v ∧ st 9 = .int .i64 s.size ∧ st 10 = .int .i64 i) ∧ Own h 1 encB h' v (half s.toList i)) ?_ (n := s.size) ⟨0, by simp, by simp, by simp [hsz], by simpa [half] using hO⟩
  rintro n st h' ⟨i, rfl, hi, ⟨s3, s8, s9, s10⟩, O⟩ K hK hE hQ
  simp [s3, s8, s9, s10]
  by_cases hlt : i < s.size
  · have hl : i < s.toList.length := by omega
    have hh : i < (half s.toList i).length := by rw [half_len]; exact hl
    have ia : ∀ h2, iaddrA 1 v (.int .i64 (i : Int)) h2 = some (elt 1 v i 0, h2) := fun h2 => by have := O.iaddr h2 .i64 (i : Int) (by omega) (by omega); simpa using this
    have ld := O.load1 i 0 hh (by omega)
    rw [half_nth hl, ← byt_nth s hlt] at ld
    have ld' : loadA false 1 (elt 1 v i 0) h' = some (.int .u8 ((byt s i).toNat : Int), h') := ld
    have hwr : IntKind.wrap .i64 ((i : Int) + 1) = (i : Int) + 1 := wrap_i64 (by omega) (by omega)
    simp [-faddrA, hlt, s3, s8, s9, s10, ia, ld', faddrA_elt]
    have same : lowU (byt s i) = byt s i → half s.toList (i + 1) = half s.toList i := fun e => by
      rw [← half_set hl, ← byt_nth s hlt, e, byt_nth s hlt, ← half_nth hl, set_nth hh]
    have fin : ∀ (h2 : AH), Own h 1 encB h2 v (half s.toList (i + 1)) → ∀ st2 : S, st2 3 = v → st2 8 = v → st2 9 = .int .i64 s.size → st2 10 = .int .i64 ((i : Int) + 1) → K .normal st2 h2 := fun h2 O2 st2 t3 t8 t9 t10 =>
      hK (s.size - (i + 1)) _ _ (by omega) ⟨i + 1, rfl, by omega, ⟨t3, t8, t9, by simpa using t10⟩, O2⟩
    by_cases c1 : (65 : Int) ≤ (byt s i).toNat
    · by_cases c2 : ((byt s i).toNat : Int) ≤ 90
      · have hw8 := lowU_wrap (byt s i) ⟨by omega, by omega⟩
        have st1 := O.store1 i (lowU (byt s i)) (.int .u8 ((lowU (byt s i)).toNat : Int)) rfl rfl hh
        have O2 := O.setR (by omega) (ys := (half s.toList i).set i (lowU (byt s i))) (by simp)
        rw [show (half s.toList i).set i (lowU (byt s i)) = half s.toList (i + 1) by rw [byt_nth s hlt]; exact half_set hl] at O2 st1
        simp [-faddrA, c1, c2, s3, s8, s9, s10, hw8, ia, st1, hwr, faddrA_elt]
        exact fin _ O2 _ (by simp [s3]) (by simp [s8]) (by simp [s9]) (by simp)
      · simp [c1, c2, s3, s8, s9, s10, hwr]
        exact fin _ (by rw [same (lowU_no _ (by omega))]; exact O) _ (by simp [s3]) (by simp [s8]) (by simp [s9]) (by simp)
    · simp [c1, s3, s8, s9, s10, hwr]
      exact fin _ (by rw [same (lowU_no _ (by omega))]; exact O) _ (by simp [s3]) (by simp [s8]) (by simp [s9]) (by simp)
  · obtain rfl : i = s.size := by omega
    rw [← hsz, half_all] at O
    have hb := b2s_own O
    simp [hE, s3, hb]
    exact ⟨O.le, rfl⟩
end Go.Proofs.YtimpbgncgdaofaaDoor
