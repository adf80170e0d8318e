/- Marks, and copies of one's own. -/
import Derived.Test.YtimpbgncgdaofaaDoorEq
import Derived.Test.YtimpbgncgdaofaaDoorBmQ
namespace Go.Proofs.YtimpbgncgdaofaaDoor
open Go Go.Bm Go.Proofs
set_option linter.all false

def Pattern.ct (x : Pattern) : Nat := 1 + ctL (fun _ => 1) x.marks
def Pattern.mk_ (n : Int) (x : Pattern) : Pattern := ⟨mtext (n), mkL (fun n _ => n) (fun _ => 1) (n + 1) x.marks⟩
def Exception.ct (x : Exception) : Nat := 1 + ctL (fun _ => 1) x.places
def Exception.mk_ (n : Int) (x : Exception) : Exception := ⟨mtext (n), mkL (fun n _ => n) (fun _ => 1) (n + 1) x.places⟩
def Book.ct (x : Book) : Nat := ctL Pattern.ct x.patterns + ctL Exception.ct x.words
def Book.mk_ (n : Int) (x : Book) : Book := ⟨mkL Pattern.mk_ Pattern.ct (n) x.patterns, mkL Exception.mk_ Exception.ct (n + (ctL Pattern.ct x.patterns : Nat)) x.words⟩
theorem toInt64S_new (d : Nat) (xs : List Int) (hW : xs.length ≤ 1048576) (h : AH) (c : Option Nat) (R : AV → AH → Prop) (hR : ∀ h' y F, New h h' (d + 2) (.fs none (xs.map (encI .i64))) y F → R y h') : CA 61 [.fs c (xs.map (encI .i64))] h R :=
  (ca_iff (af := ac61) rfl).2 (tplToIR_ok (bytes := 8) (z := (.int .i64 0)) (encI_ok .i64) (encI_flat .i64) rfl hW (by omega) d h c R hR)
set_option maxRecDepth 100000 in
theorem toPattern_new (d : Nat) (a_letters : ByteArray) (a_marks : List Int) (hW : Pattern.W ⟨a_letters, a_marks⟩ ≤ 1048576) (h : AH) (R : AV → AH → Prop) (hR : ∀ h' y_a_marks F, NewL h h' (d + 2) [.str a_letters, .fs none (a_marks.map (encI .i64))] [.str a_letters, y_a_marks] F → R (.agg [.str a_letters, y_a_marks]) h') : CA 49 [.agg [.str a_letters, .fs none (a_marks.map (encI .i64))]] h R := by
  refine (ca_iff (af := ac49) rfl).2 ?_
  simp only [Pattern.W] at hW
  (iterate 4 ((try simp [ac49]); (try simp (disch := omega) [ac49])))
  refine toInt64S_new (d + 0) a_marks (by omega) _ _ _ fun g0 z0 F0 N0 => ?_
  have o0 := N0.one1
  (iterate 4 ((try simp [-AV.one, -AV.cells, cells_agg, cells_one, cells_int, cells_str, cells_bool, cells_fs, one_int, one_str, one_bool, one_nils, one_fs, one_sl, o0]); (try simp (disch := omega) [-AV.one, -AV.cells, cells_agg, cells_one, cells_int, cells_str, cells_bool, cells_fs, one_int, one_str, one_bool, one_nils, one_fs, one_sl, o0])))
  exact hR _ z0 _ (NewL.append (flatNewL _ _ (TwL.flat _ rfl) : NewL _ _ (d + 2) [.str a_letters] [.str a_letters] []) N0.one)
theorem toPattern_iff' (a_letters : ByteArray) (a_marks : List Int) (hW : Pattern.W ⟨a_letters, a_marks⟩ ≤ 1048576) (h : AH) (R : AV → AH → Prop) : acallM CA .frz 49 [.agg [.str a_letters, .fs none (a_marks.map (encI .i64))]] h R ↔ R (.agg [.str a_letters, .fs none (a_marks.map (encI .i64))]) h :=
  own_frz (d := 0 + 2 + 1) (by decide) fun R hR => toPattern_new 0 a_letters a_marks hW h R fun h' y_a_marks F N => hR h' _ F N.agg
set_option maxRecDepth 100000 in
theorem toException_new (d : Nat) (a_word : ByteArray) (a_places : List Int) (hW : Exception.W ⟨a_word, a_places⟩ ≤ 1048576) (h : AH) (R : AV → AH → Prop) (hR : ∀ h' y_a_places F, NewL h h' (d + 2) [.str a_word, .fs none (a_places.map (encI .i64))] [.str a_word, y_a_places] F → R (.agg [.str a_word, y_a_places]) h') : CA 50 [.agg [.str a_word, .fs none (a_places.map (encI .i64))]] h R := by
  refine (ca_iff (af := ac50) rfl).2 ?_
  simp only [Exception.W] at hW
  (iterate 4 ((try simp [ac50]); (try simp (disch := omega) [ac50])))
  refine toInt64S_new (d + 0) a_places (by omega) _ _ _ fun g0 z0 F0 N0 => ?_
  have o0 := N0.one1
  (iterate 4 ((try simp [-AV.one, -AV.cells, cells_agg, cells_one, cells_int, cells_str, cells_bool, cells_fs, one_int, one_str, one_bool, one_nils, one_fs, one_sl, o0]); (try simp (disch := omega) [-AV.one, -AV.cells, cells_agg, cells_one, cells_int, cells_str, cells_bool, cells_fs, one_int, one_str, one_bool, one_nils, one_fs, one_sl, o0])))
  exact hR _ z0 _ (NewL.append (flatNewL _ _ (TwL.flat _ rfl) : NewL _ _ (d + 2) [.str a_word] [.str a_word] []) N0.one)
theorem toException_iff' (a_word : ByteArray) (a_places : List Int) (hW : Exception.W ⟨a_word, a_places⟩ ≤ 1048576) (h : AH) (R : AV → AH → Prop) : acallM CA .frz 50 [.agg [.str a_word, .fs none (a_places.map (encI .i64))]] h R ↔ R (.agg [.str a_word, .fs none (a_places.map (encI .i64))]) h :=
  own_frz (d := 0 + 2 + 1) (by decide) fun R hR => toException_new 0 a_word a_places hW h R fun h' y_a_places F N => hR h' _ F N.agg
theorem toPatternS_new (d : Nat) (xs : List Pattern) (hW : WS Pattern.W xs ≤ 1048576) (h : AH) (c : Option Nat) (R : AV → AH → Prop) (hR : ∀ h' y F, New h h' (d + 3) (.fs none (xs.map Pattern.enc)) y F → R y h') : CA 26 [.fs c (xs.map Pattern.enc)] h R :=
  (ca_iff (af := ac26) rfl).2 (tplToR_ok (es := 2) (bytes := 40) (zero := [(.str ⟨#[]⟩), .nils]) (g := true) (f := 49) Pattern.ok.toEncOk (by omega) (.inl rfl) rfl rfl (by have := WS_len Pattern.W xs; omega) (by omega) (d + 2) h c (fun i hi h1 R hR => toPattern_new d (nth xs i).letters (nth xs i).marks (show Pattern.W (nth xs i) ≤ 1048576 from by have := WS_nth Pattern.W hi; omega) h1 R fun h' _ F N => hR h' _ F N) R hR)
theorem toExceptionS_new (d : Nat) (xs : List Exception) (hW : WS Exception.W xs ≤ 1048576) (h : AH) (c : Option Nat) (R : AV → AH → Prop) (hR : ∀ h' y F, New h h' (d + 3) (.fs none (xs.map Exception.enc)) y F → R y h') : CA 27 [.fs c (xs.map Exception.enc)] h R :=
  (ca_iff (af := ac27) rfl).2 (tplToR_ok (es := 2) (bytes := 40) (zero := [(.str ⟨#[]⟩), .nils]) (g := true) (f := 50) Exception.ok.toEncOk (by omega) (.inl rfl) rfl rfl (by have := WS_len Exception.W xs; omega) (by omega) (d + 2) h c (fun i hi h1 R hR => toException_new d (nth xs i).word (nth xs i).places (show Exception.W (nth xs i) ≤ 1048576 from by have := WS_nth Exception.W hi; omega) h1 R fun h' _ F N => hR h' _ F N) R hR)
set_option maxRecDepth 100000 in
theorem toBook_new (d : Nat) (a_patterns : List Pattern) (a_words : List Exception) (hW : Book.W ⟨a_patterns, a_words⟩ ≤ 1048576) (h : AH) (R : AV → AH → Prop) (hR : ∀ h' y_a_patterns y_a_words F, NewL h h' (d + 3) [.fs none (a_patterns.map Pattern.enc), .fs none (a_words.map Exception.enc)] [y_a_patterns, y_a_words] F → R (.agg [y_a_patterns, y_a_words]) h') : CA 9 [.agg [.fs none (a_patterns.map Pattern.enc), .fs none (a_words.map Exception.enc)]] h R := by
  refine (ca_iff (af := ac9) rfl).2 ?_
  simp only [Book.W] at hW
  (iterate 4 ((try simp [ac9]); (try simp (disch := omega) [ac9])))
  refine toPatternS_new (d + 0) a_patterns (by omega) _ _ _ fun g0 z0 F0 N0 => ?_
  have o0 := N0.one1
  (iterate 4 ((try simp [-AV.one, -AV.cells, cells_agg, cells_one, cells_int, cells_str, cells_bool, cells_fs, one_int, one_str, one_bool, one_nils, one_fs, one_sl, o0]); (try simp (disch := omega) [-AV.one, -AV.cells, cells_agg, cells_one, cells_int, cells_str, cells_bool, cells_fs, one_int, one_str, one_bool, one_nils, one_fs, one_sl, o0])))
  refine toExceptionS_new (d + 0) a_words (by omega) _ _ _ fun g1 z1 F1 N1 => ?_
  have o1 := N1.one1
  (iterate 4 ((try simp [-AV.one, -AV.cells, cells_agg, cells_one, cells_int, cells_str, cells_bool, cells_fs, one_int, one_str, one_bool, one_nils, one_fs, one_sl, o0, o1]); (try simp (disch := omega) [-AV.one, -AV.cells, cells_agg, cells_one, cells_int, cells_str, cells_bool, cells_fs, one_int, one_str, one_bool, one_nils, one_fs, one_sl, o0, o1])))
  exact hR _ z0 z1 _ (NewL.append N0.one N1.one)
theorem toBook_iff' (a_patterns : List Pattern) (a_words : List Exception) (hW : Book.W ⟨a_patterns, a_words⟩ ≤ 1048576) (h : AH) (R : AV → AH → Prop) : acallM CA .frz 9 [.agg [.fs none (a_patterns.map Pattern.enc), .fs none (a_words.map Exception.enc)]] h R ↔ R (.agg [.fs none (a_patterns.map Pattern.enc), .fs none (a_words.map Exception.enc)]) h :=
  own_frz (d := 0 + 3 + 1) (by decide) fun R hR => toBook_new 0 a_patterns a_words hW h R fun h' y_a_patterns y_a_words F N => hR h' _ F N.agg
end Go.Proofs.YtimpbgncgdaofaaDoor
