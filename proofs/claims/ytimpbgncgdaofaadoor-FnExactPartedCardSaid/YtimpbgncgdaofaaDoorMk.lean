/- Marks, and copies of one's own. -/
import Derived.Test.YtimpbgncgdaofaaDoorEq
import Derived.Test.YtimpbgncgdaofaaDoorBmQ
namespace Go.Proofs.YtimpbgncgdaofaaDoor
open Go Go.Bm Go.Proofs
set_option linter.all false

theorem mt_iff (n : Int) (hn : n ≤ 1152921504606846976) (h : AH) (R : AV → AH → Prop) : CA 57 [.int .i64 n] h R ↔ R (.str (mtext n)) h := ca_pure (af := ac57) rfl (tplMT_ok n hn h)
set_option maxRecDepth 100000 in
theorem markInt64S_ok (d : Nat) {h : AH} {y : AV} {F : List Nat} {xs : List Int} (H : Tw h (d + 2) (.fs none (xs.map (encI .i64))) y F) (nd : F.Nodup) (hW : xs.length ≤ 67108864) (n : Int) (h0 : 0 ≤ n) (h1 : n + (ctL (fun _ => 1) xs : Nat) ≤ 1152921504606846976) (R : AV → AH → Prop) (hR : ∀ h', Tw h' (d + 2) (.fs none ((mkL (fun n _ => n) (fun _ => 1) n xs).map (encI .i64))) y F → h'.next = h.next → (∀ b, b ∉ F → h'.get b = h.get b) → R (.int .i64 (n + (ctL (fun _ => 1) xs : Nat))) h') : CA 16 [y, .int .i64 n] h R := by
  refine (ca_iff (af := ac16) rfl).2 ?_
  simp [ac16]
  refine awp_loop2 caM (fun m s h' => ∃ i : Nat, m = xs.length - i ∧ i ≤ xs.length ∧ (s 0 = y ∧ s 1 = .int .i64 (n + (ctL (fun _ => 1) (xs.take i) : Nat)) ∧ s 5 = .int .i64 i) ∧ Tw h' (d + 2) (.fs none ((mkU (fun n _ => n) (fun _ => 1) n xs i).map (encI .i64))) y F ∧ h'.next = h.next ∧ (∀ b, b ∉ F → h'.get b = h.get b)) ?_ (n := xs.length) ⟨0, by simp, by simp, by simp [ctL], by rw [mkU_zero]; exact H, rfl, fun _ _ => rfl⟩
  rintro m s h' ⟨i, rfl, hi, ⟨s0, s1, s5⟩, T, hn, hk⟩ K hK hE hQ
  have hlen := mkU_len (fun n _ => n) (fun _ => 1) n xs i
  have hl := Tw.lenA T
  simp [s0, s1, s5, hl, hlen]
  by_cases hlt : i < xs.length
  · have A0 := Arr.open_ (encI_ok .i64).toEncOk (by omega) T nd (i := i) (by omega)
    rw [mkU_nth (fun n _ => n) (fun _ => 1) n hlt] at A0
    have ia : ∀ h2, iaddrA 1 y (.int .i64 (i : Int)) h2 = some (elt 1 y i 0, h2) := fun h2 => by have := Tw.iaddrA (encI_ok .i64).toEncOk (by omega) T h2 .i64 (i : Int) (by omega) (by omega); simpa using this
    have hct := ctL_le (fun _ => 1) hlt
    have hct2 := ctL_take (fun _ => 1) hlt
    have hsucc := mkU_succ (fun n _ => n) (fun _ => 1) n hlt
    generalize hc : n + (ctL (fun _ => 1) (xs.take i) : Nat) = c at *
    have hw : IntKind.wrap .i64 ((i : Int) + 1) = (i : Int) + 1 := wrap_i64 (by omega) (by omega)
    simp [-faddrA, hlt, s0, s1, s5, ia, faddrA_elt]
    obtain ⟨g0, e0, A1, q0, k0⟩ := A0.store (off := 0) (x := .int .i64 (c)) rfl rfl rfl rfl rfl
    have w0 : IntKind.wrap .i64 (c + 1) = c + 1 := wrap_i64 (by omega) (by omega)
    simp [e0, w0, -faddrA, ia, faddrA_elt, s0, s1, s5]
    have T2 := (show Arr g0 _ 1 (encI .i64) y _ i ((encI .i64) c) F from A1).close
    rw [hsucc] at T2
    simp [hw, s0, s1, s5]
    refine hK (xs.length - (i + 1)) _ _ (by omega) ⟨i + 1, rfl, by omega, ⟨by simp [s0], ?_, by simp⟩, T2, q0.trans (hn), fun b hb => (k0 b hb).trans (hk b hb)⟩
    simp [hct2]
    omega
  · obtain rfl : i = xs.length := by omega
    rw [mkU_all] at T
    rw [List.take_length] at s1
    simp [hE, s1]
    exact hR h' T hn hk
def Pattern.ct (x : Pattern) : Nat := 1 + ctL (fun _ => 1) x.marks
def Pattern.mk_ (n : Int) (x : Pattern) : Pattern := ⟨mtext (n), mkL (fun n _ => n) (fun _ => 1) (n + 1) x.marks⟩
def Exception.ct (x : Exception) : Nat := 1 + ctL (fun _ => 1) x.places
def Exception.mk_ (n : Int) (x : Exception) : Exception := ⟨mtext (n), mkL (fun n _ => n) (fun _ => 1) (n + 1) x.places⟩
set_option maxRecDepth 100000 in
theorem markPatternS_ok (d : Nat) {h : AH} {y : AV} {F : List Nat} {xs : List Pattern} (H : Tw h (d + 3) (.fs none (xs.map Pattern.enc)) y F) (nd : F.Nodup) (hW : WS Pattern.W xs ≤ 67108864) (n : Int) (h0 : 0 ≤ n) (h1 : n + (ctL Pattern.ct xs : Nat) ≤ 1152921504606846976) (R : AV → AH → Prop) (hR : ∀ h', Tw h' (d + 3) (.fs none ((mkL Pattern.mk_ Pattern.ct n xs).map Pattern.enc)) y F → h'.next = h.next → (∀ b, b ∉ F → h'.get b = h.get b) → R (.int .i64 (n + (ctL Pattern.ct xs : Nat))) h') : CA 39 [y, .int .i64 n] h R := by
  refine (ca_iff (af := ac39) rfl).2 ?_
  simp [ac39]
  refine awp_loop2 caM (fun m s h' => ∃ i : Nat, m = xs.length - i ∧ i ≤ xs.length ∧ (s 0 = y ∧ s 1 = .int .i64 (n + (ctL Pattern.ct (xs.take i) : Nat)) ∧ s 5 = .int .i64 i) ∧ Tw h' (d + 3) (.fs none ((mkU Pattern.mk_ Pattern.ct n xs i).map Pattern.enc)) y F ∧ h'.next = h.next ∧ (∀ b, b ∉ F → h'.get b = h.get b)) ?_ (n := xs.length) ⟨0, by simp, by simp, by simp [ctL], by rw [mkU_zero]; exact H, rfl, fun _ _ => rfl⟩
  rintro m s h' ⟨i, rfl, hi, ⟨s0, s1, s5⟩, T, hn, hk⟩ K hK hE hQ
  have hlen := mkU_len Pattern.mk_ Pattern.ct n xs i
  have hl := Tw.lenA T
  simp [s0, s1, s5, hl, hlen]
  by_cases hlt : i < xs.length
  · have A0 := Arr.open_ Pattern.ok.toEncOk (by omega) T nd (i := i) (by omega)
    rw [mkU_nth Pattern.mk_ Pattern.ct n hlt] at A0
    have ia : ∀ h2, iaddrA 2 y (.int .i64 (i : Int)) h2 = some (elt 2 y i 0, h2) := fun h2 => by have := Tw.iaddrA Pattern.ok.toEncOk (by omega) T h2 .i64 (i : Int) (by omega) (by omega); simpa using this
    have hwl := WS_len Pattern.W xs
    have hwn := WS_nth Pattern.W hlt
    simp only [Pattern.W] at hwn
    have hct := ctL_le Pattern.ct hlt
    have hct2 := ctL_take Pattern.ct hlt
    have hsucc := mkU_succ Pattern.mk_ Pattern.ct n hlt
    generalize hc : n + (ctL Pattern.ct (xs.take i) : Nat) = c at *
    have hw : IntKind.wrap .i64 ((i : Int) + 1) = (i : Int) + 1 := wrap_i64 (by omega) (by omega)
    simp [-faddrA, hlt, s0, s1, s5, ia, faddrA_elt]
    simp only [Pattern.ct] at hct hct2
    simp [mt_iff (c) (by omega), -faddrA, ia, faddrA_elt, s0, s1, s5]
    obtain ⟨g0, e0, A1, q0, k0⟩ := A0.store (off := 0) (x := .str (mtext (c))) rfl rfl rfl rfl rfl
    have w0 : IntKind.wrap .i64 (c + 1) = c + 1 := wrap_i64 (by omega) (by omega)
    simp [e0, w0, -faddrA, ia, faddrA_elt, s0, s1, s5]
    obtain ⟨z1, G1, e1, t1, nd1, in1, back1⟩ := A1.sub (off := 1) rfl
    simp [e1, -faddrA, ia, faddrA_elt, s0, s1, s5]
    refine markInt64S_ok _ t1 nd1 (by omega) _ (by omega) (by omega) _ fun g1 t1' q1 p1 => ?_
    have A2 := back1 g1 _ t1' p1
    have k1 : ∀ b, b ∉ F → g1.get b = g0.get b := fun b hb => p1 b fun hG => hb (in1 b hG)
    simp [-faddrA, ia, faddrA_elt, s0, s1, s5]
    have T2 := (show Arr g1 _ 2 Pattern.enc y _ i (Pattern.enc (Pattern.mk_ c (nth xs i))) F from A2).close
    rw [hsucc] at T2
    simp [hw, s0, s1, s5]
    refine hK (xs.length - (i + 1)) _ _ (by omega) ⟨i + 1, rfl, by omega, ⟨by simp [s0], ?_, by simp⟩, T2, q1.trans (q0.trans (hn)), fun b hb => (k1 b hb).trans ((k0 b hb).trans (hk b hb))⟩
    simp [hct2]
    omega
  · obtain rfl : i = xs.length := by omega
    rw [mkU_all] at T
    rw [List.take_length] at s1
    simp [hE, s1]
    exact hR h' T hn hk
set_option maxRecDepth 100000 in
theorem markExceptionS_ok (d : Nat) {h : AH} {y : AV} {F : List Nat} {xs : List Exception} (H : Tw h (d + 3) (.fs none (xs.map Exception.enc)) y F) (nd : F.Nodup) (hW : WS Exception.W xs ≤ 67108864) (n : Int) (h0 : 0 ≤ n) (h1 : n + (ctL Exception.ct xs : Nat) ≤ 1152921504606846976) (R : AV → AH → Prop) (hR : ∀ h', Tw h' (d + 3) (.fs none ((mkL Exception.mk_ Exception.ct n xs).map Exception.enc)) y F → h'.next = h.next → (∀ b, b ∉ F → h'.get b = h.get b) → R (.int .i64 (n + (ctL Exception.ct xs : Nat))) h') : CA 40 [y, .int .i64 n] h R := by
  refine (ca_iff (af := ac40) rfl).2 ?_
  simp [ac40]
  refine awp_loop2 caM (fun m s h' => ∃ i : Nat, m = xs.length - i ∧ i ≤ xs.length ∧ (s 0 = y ∧ s 1 = .int .i64 (n + (ctL Exception.ct (xs.take i) : Nat)) ∧ s 5 = .int .i64 i) ∧ Tw h' (d + 3) (.fs none ((mkU Exception.mk_ Exception.ct n xs i).map Exception.enc)) y F ∧ h'.next = h.next ∧ (∀ b, b ∉ F → h'.get b = h.get b)) ?_ (n := xs.length) ⟨0, by simp, by simp, by simp [ctL], by rw [mkU_zero]; exact H, rfl, fun _ _ => rfl⟩
  rintro m s h' ⟨i, rfl, hi, ⟨s0, s1, s5⟩, T, hn, hk⟩ K hK hE hQ
  have hlen := mkU_len Exception.mk_ Exception.ct n xs i
  have hl := Tw.lenA T
  simp [s0, s1, s5, hl, hlen]
  by_cases hlt : i < xs.length
  · have A0 := Arr.open_ Exception.ok.toEncOk (by omega) T nd (i := i) (by omega)
    rw [mkU_nth Exception.mk_ Exception.ct n hlt] at A0
    have ia : ∀ h2, iaddrA 2 y (.int .i64 (i : Int)) h2 = some (elt 2 y i 0, h2) := fun h2 => by have := Tw.iaddrA Exception.ok.toEncOk (by omega) T h2 .i64 (i : Int) (by omega) (by omega); simpa using this
    have hwl := WS_len Exception.W xs
    have hwn := WS_nth Exception.W hlt
    simp only [Exception.W] at hwn
    have hct := ctL_le Exception.ct hlt
    have hct2 := ctL_take Exception.ct hlt
    have hsucc := mkU_succ Exception.mk_ Exception.ct n hlt
    generalize hc : n + (ctL Exception.ct (xs.take i) : Nat) = c at *
    have hw : IntKind.wrap .i64 ((i : Int) + 1) = (i : Int) + 1 := wrap_i64 (by omega) (by omega)
    simp [-faddrA, hlt, s0, s1, s5, ia, faddrA_elt]
    simp only [Exception.ct] at hct hct2
    simp [mt_iff (c) (by omega), -faddrA, ia, faddrA_elt, s0, s1, s5]
    obtain ⟨g0, e0, A1, q0, k0⟩ := A0.store (off := 0) (x := .str (mtext (c))) rfl rfl rfl rfl rfl
    have w0 : IntKind.wrap .i64 (c + 1) = c + 1 := wrap_i64 (by omega) (by omega)
    simp [e0, w0, -faddrA, ia, faddrA_elt, s0, s1, s5]
    obtain ⟨z1, G1, e1, t1, nd1, in1, back1⟩ := A1.sub (off := 1) rfl
    simp [e1, -faddrA, ia, faddrA_elt, s0, s1, s5]
    refine markInt64S_ok _ t1 nd1 (by omega) _ (by omega) (by omega) _ fun g1 t1' q1 p1 => ?_
    have A2 := back1 g1 _ t1' p1
    have k1 : ∀ b, b ∉ F → g1.get b = g0.get b := fun b hb => p1 b fun hG => hb (in1 b hG)
    simp [-faddrA, ia, faddrA_elt, s0, s1, s5]
    have T2 := (show Arr g1 _ 2 Exception.enc y _ i (Exception.enc (Exception.mk_ c (nth xs i))) F from A2).close
    rw [hsucc] at T2
    simp [hw, s0, s1, s5]
    refine hK (xs.length - (i + 1)) _ _ (by omega) ⟨i + 1, rfl, by omega, ⟨by simp [s0], ?_, by simp⟩, T2, q1.trans (q0.trans (hn)), fun b hb => (k1 b hb).trans ((k0 b hb).trans (hk b hb))⟩
    simp [hct2]
    omega
  · obtain rfl : i = xs.length := by omega
    rw [mkU_all] at T
    rw [List.take_length] at s1
    simp [hE, s1]
    exact hR h' T hn hk
def Book.ct (x : Book) : Nat := ctL Pattern.ct x.patterns + ctL Exception.ct x.words
def Book.mk_ (n : Int) (x : Book) : Book := ⟨mkL Pattern.mk_ Pattern.ct (n) x.patterns, mkL Exception.mk_ Exception.ct (n + (ctL Pattern.ct x.patterns : Nat)) x.words⟩
theorem toInt64S_new (d : Nat) (xs : List Int) (hW : xs.length ≤ 1048576) (h : AH) (c : Option Nat) (R : AV → AH → Prop) (hR : ∀ h' y F, New h h' (d + 2) (.fs none (xs.map (encI .i64))) y F → R y h') : CA 61 [.fs c (xs.map (encI .i64))] h R :=
  (ca_iff (af := ac61) rfl).2 (tplToIR_ok (bytes := 8) (z := (.int .i64 0)) (encI_ok .i64) (encI_flat .i64) rfl hW (by omega) d h c R hR)
set_option maxRecDepth 100000 in
theorem toPattern_new (d : Nat) (a_letters : ByteArray) (a_marks : List Int) (hW : Pattern.W ⟨a_letters, a_marks⟩ ≤ 1048576) (h : AH) (R : AV → AH → Prop) (hR : ∀ h' y_a_marks F, NewL h h' (d + 2) [.str a_letters, .fs none (a_marks.map (encI .i64))] [.str a_letters, y_a_marks] F → R (.agg [.str a_letters, y_a_marks]) h') : CA 49 [.agg [.str a_letters, .fs none (a_marks.map (encI .i64))]] h R := by
  refine (ca_iff (af := ac49) rfl).2 ?_
  simp only [Pattern.W] at hW
  (iterate 4 ((try simp [ac49]); (try simp (disch := omega) [ac49])))
  refine toInt64S_new (d + 0) a_marks (by omega) _ _ _ fun g0 z0 F0 N0 => ?_
  have o0 := N0.one1
  (iterate 4 ((try simp [-AV.one, -AV.cells, cells_agg, cells_one, cells_int, cells_str, cells_bool, cells_fs, one_int, one_str, one_bool, one_nils, one_fs, one_sl, o0]); (try simp (disch := omega) [-AV.one, -AV.cells, cells_agg, cells_one, cells_int, cells_str, cells_bool, cells_fs, one_int, one_str, one_bool, one_nils, one_fs, one_sl, o0])))
  exact hR _ z0 _ (NewL.append (flatNewL _ _ (TwL.flat _ rfl) : NewL _ _ (d + 2) [.str a_letters] [.str a_letters] []) N0.one)
theorem toPattern_iff' (a_letters : ByteArray) (a_marks : List Int) (hW : Pattern.W ⟨a_letters, a_marks⟩ ≤ 1048576) (h : AH) (R : AV → AH → Prop) : acallM CA .frz 49 [.agg [.str a_letters, .fs none (a_marks.map (encI .i64))]] h R ↔ R (.agg [.str a_letters, .fs none (a_marks.map (encI .i64))]) h :=
  own_frz (d := 0 + 2 + 1) (by decide) fun R hR => toPattern_new 0 a_letters a_marks hW h R fun h' y_a_marks F N => hR h' _ F N.agg
set_option maxRecDepth 100000 in
theorem toException_new (d : Nat) (a_word : ByteArray) (a_places : List Int) (hW : Exception.W ⟨a_word, a_places⟩ ≤ 1048576) (h : AH) (R : AV → AH → Prop) (hR : ∀ h' y_a_places F, NewL h h' (d + 2) [.str a_word, .fs none (a_places.map (encI .i64))] [.str a_word, y_a_places] F → R (.agg [.str a_word, y_a_places]) h') : CA 50 [.agg [.str a_word, .fs none (a_places.map (encI .i64))]] h R := by
  refine (ca_iff (af := ac50) rfl).2 ?_
  simp only [Exception.W] at hW
  (iterate 4 ((try simp [ac50]); (try simp (disch := omega) [ac50])))
  refine toInt64S_new (d + 0) a_places (by omega) _ _ _ fun g0 z0 F0 N0 => ?_
  have o0 := N0.one1
  (iterate 4 ((try simp [-AV.one, -AV.cells, cells_agg, cells_one, cells_int, cells_str, cells_bool, cells_fs, one_int, one_str, one_bool, one_nils, one_fs, one_sl, o0]); (try simp (disch := omega) [-AV.one, -AV.cells, cells_agg, cells_one, cells_int, cells_str, cells_bool, cells_fs, one_int, one_str, one_bool, one_nils, one_fs, one_sl, o0])))
  exact hR _ z0 _ (NewL.append (flatNewL _ _ (TwL.flat _ rfl) : NewL _ _ (d + 2) [.str a_word] [.str a_word] []) N0.one)
theorem toException_iff' (a_word : ByteArray) (a_places : List Int) (hW : Exception.W ⟨a_word, a_places⟩ ≤ 1048576) (h : AH) (R : AV → AH → Prop) : acallM CA .frz 50 [.agg [.str a_word, .fs none (a_places.map (encI .i64))]] h R ↔ R (.agg [.str a_word, .fs none (a_places.map (encI .i64))]) h :=
  own_frz (d := 0 + 2 + 1) (by decide) fun R hR => toException_new 0 a_word a_places hW h R fun h' y_a_places F N => hR h' _ F N.agg
theorem toPatternS_new (d : Nat) (xs : List Pattern) (hW : WS Pattern.W xs ≤ 1048576) (h : AH) (c : Option Nat) (R : AV → AH → Prop) (hR : ∀ h' y F, New h h' (d + 3) (.fs none (xs.map Pattern.enc)) y F → R y h') : CA 26 [.fs c (xs.map Pattern.enc)] h R :=
  (ca_iff (af := ac26) rfl).2 (tplToR_ok (es := 2) (bytes := 40) (zero := [(.str ⟨#[]⟩), .nils]) (g := true) (f := 49) Pattern.ok.toEncOk (by omega) (.inl rfl) rfl rfl (by have := WS_len Pattern.W xs; omega) (by omega) (d + 2) h c (fun i hi h1 R hR => toPattern_new d (nth xs i).letters (nth xs i).marks (show Pattern.W (nth xs i) ≤ 1048576 from by have := WS_nth Pattern.W hi; omega) h1 R fun h' _ F N => hR h' _ F N) R hR)
theorem toExceptionS_new (d : Nat) (xs : List Exception) (hW : WS Exception.W xs ≤ 1048576) (h : AH) (c : Option Nat) (R : AV → AH → Prop) (hR : ∀ h' y F, New h h' (d + 3) (.fs none (xs.map Exception.enc)) y F → R y h') : CA 27 [.fs c (xs.map Exception.enc)] h R :=
  (ca_iff (af := ac27) rfl).2 (tplToR_ok (es := 2) (bytes := 40) (zero := [(.str ⟨#[]⟩), .nils]) (g := true) (f := 50) Exception.ok.toEncOk (by omega) (.inl rfl) rfl rfl (by have := WS_len Exception.W xs; omega) (by omega) (d + 2) h c (fun i hi h1 R hR => toException_new d (nth xs i).word (nth xs i).places (show Exception.W (nth xs i) ≤ 1048576 from by have := WS_nth Exception.W hi; omega) h1 R fun h' _ F N => hR h' _ F N) R hR)
set_option maxRecDepth 100000 in
theorem toBook_new (d : Nat) (a_patterns : List Pattern) (a_words : List Exception) (hW : Book.W ⟨a_patterns, a_words⟩ ≤ 1048576) (h : AH) (R : AV → AH → Prop) (hR : ∀ h' y_a_patterns y_a_words F, NewL h h' (d + 3) [.fs none (a_patterns.map Pattern.enc), .fs none (a_words.map Exception.enc)] [y_a_patterns, y_a_words] F → R (.agg [y_a_patterns, y_a_words]) h') : CA 9 [.agg [.fs none (a_patterns.map Pattern.enc), .fs none (a_words.map Exception.enc)]] h R := by
  refine (ca_iff (af := ac9) rfl).2 ?_
  simp only [Book.W] at hW
  (iterate 4 ((try simp [ac9]); (try simp (disch := omega) [ac9])))
  refine toPatternS_new (d + 0) a_patterns (by omega) _ _ _ fun g0 z0 F0 N0 => ?_
  have o0 := N0.one1
  (iterate 4 ((try simp [-AV.one, -AV.cells, cells_agg, cells_one, cells_int, cells_str, cells_bool, cells_fs, one_int, one_str, one_bool, one_nils, one_fs, one_sl, o0]); (try simp (disch := omega) [-AV.one, -AV.cells, cells_agg, cells_one, cells_int, cells_str, cells_bool, cells_fs, one_int, one_str, one_bool, one_nils, one_fs, one_sl, o0])))
  refine toExceptionS_new (d + 0) a_words (by omega) _ _ _ fun g1 z1 F1 N1 => ?_
  have o1 := N1.one1
  (iterate 4 ((try simp [-AV.one, -AV.cells, cells_agg, cells_one, cells_int, cells_str, cells_bool, cells_fs, one_int, one_str, one_bool, one_nils, one_fs, one_sl, o0, o1]); (try simp (disch := omega) [-AV.one, -AV.cells, cells_agg, cells_one, cells_int, cells_str, cells_bool, cells_fs, one_int, one_str, one_bool, one_nils, one_fs, one_sl, o0, o1])))
  exact hR _ z0 z1 _ (NewL.append N0.one N1.one)
theorem toBook_iff' (a_patterns : List Pattern) (a_words : List Exception) (hW : Book.W ⟨a_patterns, a_words⟩ ≤ 1048576) (h : AH) (R : AV → AH → Prop) : acallM CA .frz 9 [.agg [.fs none (a_patterns.map Pattern.enc), .fs none (a_words.map Exception.enc)]] h R ↔ R (.agg [.fs none (a_patterns.map Pattern.enc), .fs none (a_words.map Exception.enc)]) h :=
  own_frz (d := 0 + 3 + 1) (by decide) fun R hR => toBook_new 0 a_patterns a_words hW h R fun h' y_a_patterns y_a_words F N => hR h' _ F N.agg
set_option maxRecDepth 100000 in
theorem heldInt64S_iff (xs : List Int) (hW : xs.length ≤ 67108864) (n : Int) (h0 : 0 ≤ n) (h1 : n + (ctL (fun _ => 1) xs : Nat) ≤ 1152921504606846976) (h : AH) (c0 : Option Nat) (R : AV → AH → Prop) : CA 17 [.fs c0 ((mkL (fun n _ => n) (fun _ => 1) n xs).map (encI .i64)), .int .i64 n] h R ↔ R (.int .i64 (n + (ctL (fun _ => 1) xs : Nat))) h := by
  refine ca_pure (af := ac17) rfl ?_
  have hlen := mkL_len (fun n _ => n) (fun _ => 1) n xs
  simp [ac17]
  refine awp_loop2 caM (fun m s h' => h' = h ∧ ∃ i : Nat, m = xs.length - i ∧ i ≤ xs.length ∧ (s 0 = .fs c0 ((mkL (fun n _ => n) (fun _ => 1) n xs).map (encI .i64)) ∧ s 1 = .int .i64 (n + (ctL (fun _ => 1) (xs.take i) : Nat)) ∧ s 5 = .int .i64 i)) ?_ (n := xs.length) ⟨rfl, 0, by simp, by simp, by simp [ctL]⟩
  rintro m s h' ⟨rfl, i, rfl, hi, s0, s1, s5⟩ K hK hE hQ
  simp [s0, s1, s5, (encI_ok .i64).toEncOk.len, hlen]
  by_cases hlt : i < xs.length
  · have hnth := mkL_nth (fun n _ => n) (fun _ => 1) n hlt
    have a1 : ∀ kk, iaddrA 1 (.fs c0 ((mkL (fun n _ => n) (fun _ => 1) n xs).map (encI .i64))) (.int kk (i : Int)) h' = some (.fp ((encI .i64) (nth (mkL (fun n _ => n) (fun _ => 1) n xs) i)) 0, h') := fun kk => by have := (encI_ok .i64).toEncOk.iaddr (by omega) c0 (mkL (fun n _ => n) (fun _ => 1) n xs) kk (i : Int) h' (by omega) (by omega); simpa only [Int.toNat_natCast] using this
    rw [hnth] at a1
    have hct := ctL_le (fun _ => 1) hlt
    have hct2 := ctL_take (fun _ => 1) hlt
    generalize hc : n + (ctL (fun _ => 1) (xs.take i) : Nat) = c at *
    have hw : IntKind.wrap .i64 ((i : Int) + 1) = (i : Int) + 1 := wrap_i64 (by omega) (by omega)
    simp [hlt, s0, s1, s5, a1]
    have w0 : IntKind.wrap .i64 (c + 1) = c + 1 := wrap_i64 (by omega) (by omega)
    simp [s0, s1, s5, a1, w0]
    simp [hw, s0, s1, s5, a1]
    refine hK (xs.length - (i + 1)) _ _ (by omega) ⟨rfl, i + 1, rfl, by omega, by simp [s0], ?_, by simp⟩
    simp [hct2]
    omega
  · obtain rfl : i = xs.length := by omega
    rw [List.take_length] at s1
    simp [hE, s1]
end Go.Proofs.YtimpbgncgdaofaaDoor
