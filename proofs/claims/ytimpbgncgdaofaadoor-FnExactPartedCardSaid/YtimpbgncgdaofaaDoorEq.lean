/- What the helpers of the laws tell. -/
import Derived.Test.YtimpbgncgdaofaaDoorTy
import Derived.Test.YtimpbgncgdaofaaDoorBc0
namespace Go.Proofs.YtimpbgncgdaofaaDoor
open Go Go.Bm Go.Proofs
set_option linter.all false

def CA : AQ := ACalls ap noE
theorem ca_iff {f : FuncId} {af : AFunc} (hf : ap f = some af) {args : List AV} {h : AH} {R : AV → AH → Prop} : CA f args h R ↔ abody CA af args h R := acall_iff hf
@[congr] theorem ca_congr {f : FuncId} {a a' : List AV} {h h' : AH} {R : AV → AH → Prop} (ea : tick a = a') (eh : h = h') : CA f a h R = CA f a' h' R := by rw [← ea, eh]; rfl
theorem ca_pure {f : FuncId} {af : AFunc} (hf : ap f = some af) {args : List AV} {h : AH} {v : AV} {R : AV → AH → Prop} (hb : abody CA af args h (fun v' h' => v' = v ∧ h' = h)) : CA f args h R ↔ R v h := call_pure hf hb
theorem ca_frz {f : FuncId} {af : AFunc} (hf : ap f = some af) {args : List AV} {h : AH} {v : AV} {R : AV → AH → Prop} (hb : abody CA af args h (fun v' h' => h.le h' ∧ frzV h.next h' DF v' = some v)) : acallM CA .frz f args h R ↔ R v h := call_frz hf hb
theorem caM : CA.Mono := acalls_mono noE_mono

theorem szInt64S_iff (xs : List Int) (hxl : xs.length ≤ maxLen) (left : Int) (h0 : 0 ≤ left) (h1 : left ≤ 1048576) (h : AH) (c : Option Nat) (R : AV → AH → Prop) : CA 60 [.fs c (xs.map (encI .i64)), .int .i64 left] h R ↔ R (.int .i64 (szr left xs.length)) h :=
  call_pure (af := ac60) rfl (by have := tplSzI_ok (ap := ap) (rows := xs.map (encI .i64)) (by rw [List.length_map]; exact Nat.le_trans hxl (by decide)) h0 h1 h c; rw [List.length_map] at this; exact this)
theorem eqInt64S_iff (xs ys : List Int) (hW : xs.length ≤ 67108864) (h : AH) (c d : Option Nat) (R : AV → AH → Prop) : CA 14 [.fs c (xs.map (encI .i64)), .fs d (ys.map (encI .i64))] h R ↔ R (.bool (decide (xs = ys))) h :=
  call_pure (af := ac14) rfl (tplEqI_ok hW h c d)
set_option maxRecDepth 100000 in
theorem szPattern_iff' (a_letters : ByteArray) (a_marks : List Int) (hx : Pattern.Ok ⟨a_letters, a_marks⟩) (left : Int) (h0 : 0 ≤ left) (h1 : left ≤ 1048576) (h : AH) (R : AV → AH → Prop) : CA 46 [.agg [.str a_letters, .fs none (a_marks.map (encI .i64))], .int .i64 left] h R ↔ R (.int .i64 (szr left (Pattern.W ⟨a_letters, a_marks⟩))) h := by
  refine ca_pure (af := ac46) rfl ?_
  have hmx : maxLen = 9223372036854775807 := by decide
  simp only [Pattern.Ok] at hx
  simp [ac46, Pattern.W]
  have w0 : IntKind.wrap .i64 (left - (a_letters.size : Nat)) = left - (a_letters.size : Nat) := wrap_i64 (by omega) (by omega)
  simp [w0]
  by_cases e0 : left - (a_letters.size : Nat) < 0
  · have : szr left (a_letters.size + a_marks.length) = -1 := szr_lt (by omega)
    simp [e0, this, w0]
  simp [show ¬ (left - (a_letters.size : Nat)) < 0 by omega, w0]
  simp [szInt64S_iff _ hx.2.1 (left - (a_letters.size : Nat)) (by omega) (by omega), w0]
  by_cases e1 : (left - (a_letters.size : Nat)) < (a_marks.length : Nat)
  · have : szr left (a_letters.size + a_marks.length) = -1 := szr_lt (by omega)
    simp [szr_lt e1, this, w0]
  rw [szr_nonneg (show ((a_marks.length : Nat) : Int) ≤ (left - (a_letters.size : Nat)) by omega)]
  simp [show ¬ ((left - (a_letters.size : Nat)) - (a_marks.length : Nat)) < 0 by omega, w0]
  all_goals (first | done | (rw [szr_nonneg (by omega)]; done) | (rw [szr_nonneg (by omega)]; omega))
theorem szPattern_iff (x : Pattern) (hx : x.Ok) (left : Int) (h0 : 0 ≤ left) (h1 : left ≤ 1048576) (h : AH) (R : AV → AH → Prop) : CA 46 [.agg x.enc, .int .i64 left] h R ↔ R (.int .i64 (szr left x.W)) h := szPattern_iff' _ _ hx left h0 h1 h R
set_option maxRecDepth 100000 in
theorem eqPattern_iff' (a_letters : ByteArray) (a_marks : List Int) (b_letters : ByteArray) (b_marks : List Int) (hW : Pattern.W ⟨a_letters, a_marks⟩ ≤ 67108864) (h : AH) (R : AV → AH → Prop) : CA 55 [.agg [.str a_letters, .fs none (a_marks.map (encI .i64))], .agg [.str b_letters, .fs none (b_marks.map (encI .i64))]] h R ↔ R (.bool (decide ((⟨a_letters, a_marks⟩ : Pattern) = ⟨b_letters, b_marks⟩))) h := by
  refine ca_pure (af := ac55) rfl ?_
  simp only [Pattern.W] at hW
  (iterate 9 ((try simp [ac55, eqInt64S_iff, -Pattern.mk.injEq]); (try simp (disch := omega) [ac55, eqInt64S_iff, -Pattern.mk.injEq])))
  by_cases e_letters : (a_letters) = b_letters
  case neg =>
    rw [decide_eq_false (fun q => e_letters (congrArg Pattern.letters q))]
    (iterate 4 ((try simp [e_letters, eqInt64S_iff, -Pattern.mk.injEq]); (try simp (disch := omega) [e_letters, eqInt64S_iff, -Pattern.mk.injEq])))
  cases e_letters
  (iterate 4 ((try simp [eqInt64S_iff, -Pattern.mk.injEq]); (try simp (disch := omega) [eqInt64S_iff, -Pattern.mk.injEq])))
  by_cases e_marks : (a_marks) = b_marks
  case neg =>
    rw [decide_eq_false (fun q => e_marks (congrArg Pattern.marks q))]
    (iterate 4 ((try simp [e_marks, eqInt64S_iff, -Pattern.mk.injEq]); (try simp (disch := omega) [e_marks, eqInt64S_iff, -Pattern.mk.injEq])))
  cases e_marks
  (iterate 4 ((try simp [eqInt64S_iff, -Pattern.mk.injEq]); (try simp (disch := omega) [eqInt64S_iff, -Pattern.mk.injEq])))
theorem eqPattern_iff (x y : Pattern) (hW : x.W ≤ 67108864) (h : AH) (R : AV → AH → Prop) : CA 55 [.agg x.enc, .agg y.enc] h R ↔ R (.bool (decide (x = y))) h := eqPattern_iff' _ _ _ _ hW h R
set_option maxRecDepth 100000 in
theorem szException_iff' (a_word : ByteArray) (a_places : List Int) (hx : Exception.Ok ⟨a_word, a_places⟩) (left : Int) (h0 : 0 ≤ left) (h1 : left ≤ 1048576) (h : AH) (R : AV → AH → Prop) : CA 47 [.agg [.str a_word, .fs none (a_places.map (encI .i64))], .int .i64 left] h R ↔ R (.int .i64 (szr left (Exception.W ⟨a_word, a_places⟩))) h := by
  refine ca_pure (af := ac47) rfl ?_
  have hmx : maxLen = 9223372036854775807 := by decide
  simp only [Exception.Ok] at hx
  simp [ac47, Exception.W]
  have w0 : IntKind.wrap .i64 (left - (a_word.size : Nat)) = left - (a_word.size : Nat) := wrap_i64 (by omega) (by omega)
  simp [w0]
  by_cases e0 : left - (a_word.size : Nat) < 0
  · have : szr left (a_word.size + a_places.length) = -1 := szr_lt (by omega)
    simp [e0, this, w0]
  simp [show ¬ (left - (a_word.size : Nat)) < 0 by omega, w0]
  simp [szInt64S_iff _ hx.2.1 (left - (a_word.size : Nat)) (by omega) (by omega), w0]
  by_cases e1 : (left - (a_word.size : Nat)) < (a_places.length : Nat)
  · have : szr left (a_word.size + a_places.length) = -1 := szr_lt (by omega)
    simp [szr_lt e1, this, w0]
  rw [szr_nonneg (show ((a_places.length : Nat) : Int) ≤ (left - (a_word.size : Nat)) by omega)]
  simp [show ¬ ((left - (a_word.size : Nat)) - (a_places.length : Nat)) < 0 by omega, w0]
  all_goals (first | done | (rw [szr_nonneg (by omega)]; done) | (rw [szr_nonneg (by omega)]; omega))
theorem szException_iff (x : Exception) (hx : x.Ok) (left : Int) (h0 : 0 ≤ left) (h1 : left ≤ 1048576) (h : AH) (R : AV → AH → Prop) : CA 47 [.agg x.enc, .int .i64 left] h R ↔ R (.int .i64 (szr left x.W)) h := szException_iff' _ _ hx left h0 h1 h R
set_option maxRecDepth 100000 in
theorem eqException_iff' (a_word : ByteArray) (a_places : List Int) (b_word : ByteArray) (b_places : List Int) (hW : Exception.W ⟨a_word, a_places⟩ ≤ 67108864) (h : AH) (R : AV → AH → Prop) : CA 56 [.agg [.str a_word, .fs none (a_places.map (encI .i64))], .agg [.str b_word, .fs none (b_places.map (encI .i64))]] h R ↔ R (.bool (decide ((⟨a_word, a_places⟩ : Exception) = ⟨b_word, b_places⟩))) h := by
  refine ca_pure (af := ac56) rfl ?_
  simp only [Exception.W] at hW
  (iterate 9 ((try simp [ac56, eqInt64S_iff, -Exception.mk.injEq]); (try simp (disch := omega) [ac56, eqInt64S_iff, -Exception.mk.injEq])))
  by_cases e_word : (a_word) = b_word
  case neg =>
    rw [decide_eq_false (fun q => e_word (congrArg Exception.word q))]
    (iterate 4 ((try simp [e_word, eqInt64S_iff, -Exception.mk.injEq]); (try simp (disch := omega) [e_word, eqInt64S_iff, -Exception.mk.injEq])))
  cases e_word
  (iterate 4 ((try simp [eqInt64S_iff, -Exception.mk.injEq]); (try simp (disch := omega) [eqInt64S_iff, -Exception.mk.injEq])))
  by_cases e_places : (a_places) = b_places
  case neg =>
    rw [decide_eq_false (fun q => e_places (congrArg Exception.places q))]
    (iterate 4 ((try simp [e_places, eqInt64S_iff, -Exception.mk.injEq]); (try simp (disch := omega) [e_places, eqInt64S_iff, -Exception.mk.injEq])))
  cases e_places
  (iterate 4 ((try simp [eqInt64S_iff, -Exception.mk.injEq]); (try simp (disch := omega) [eqInt64S_iff, -Exception.mk.injEq])))
theorem eqException_iff (x y : Exception) (hW : x.W ≤ 67108864) (h : AH) (R : AV → AH → Prop) : CA 56 [.agg x.enc, .agg y.enc] h R ↔ R (.bool (decide (x = y))) h := eqException_iff' _ _ _ _ hW h R
theorem szPatternS_iff (xs : List Pattern) (hx : xs.length ≤ maxLen ∧ ∀ y ∈ xs, Pattern.Ok y) (left : Int) (h0 : 0 ≤ left) (h1 : left ≤ 1048576) (h : AH) (c : Option Nat) (R : AV → AH → Prop) : CA 22 [.fs c (xs.map Pattern.enc), .int .i64 left] h R ↔ R (.int .i64 (szr left (WS Pattern.W xs))) h :=
  call_pure (af := ac22) rfl (tplSz_ok (es := 2) (g := true) (f := 46) Pattern.ok.toEncOk (by omega) (.inl rfl) (Nat.le_trans hx.1 (by decide)) Pattern.W h0 h1 h c (fun i hi l R a b => szPattern_iff (nth xs i) (hx.2 _ (nth_mem hi)) l a b h R))
theorem eqPatternS_iff (xs ys : List Pattern) (hW : WS Pattern.W xs ≤ 67108864) (h : AH) (c d : Option Nat) (R : AV → AH → Prop) : CA 32 [.fs c (xs.map Pattern.enc), .fs d (ys.map Pattern.enc)] h R ↔ R (.bool (decide (xs = ys))) h :=
  call_pure (af := ac32) rfl (tplEq_ok (es := 2) (g := true) (f := 55) Pattern.ok.toEncOk (by omega) (.inl rfl) (by have := WS_len Pattern.W xs; omega) h (fun i hi hj R => eqPattern_iff (nth xs i) (nth ys i) (by have := WS_nth Pattern.W hi; omega) h R) c d)
theorem szExceptionS_iff (xs : List Exception) (hx : xs.length ≤ maxLen ∧ ∀ y ∈ xs, Exception.Ok y) (left : Int) (h0 : 0 ≤ left) (h1 : left ≤ 1048576) (h : AH) (c : Option Nat) (R : AV → AH → Prop) : CA 23 [.fs c (xs.map Exception.enc), .int .i64 left] h R ↔ R (.int .i64 (szr left (WS Exception.W xs))) h :=
  call_pure (af := ac23) rfl (tplSz_ok (es := 2) (g := true) (f := 47) Exception.ok.toEncOk (by omega) (.inl rfl) (Nat.le_trans hx.1 (by decide)) Exception.W h0 h1 h c (fun i hi l R a b => szException_iff (nth xs i) (hx.2 _ (nth_mem hi)) l a b h R))
theorem eqExceptionS_iff (xs ys : List Exception) (hW : WS Exception.W xs ≤ 67108864) (h : AH) (c d : Option Nat) (R : AV → AH → Prop) : CA 33 [.fs c (xs.map Exception.enc), .fs d (ys.map Exception.enc)] h R ↔ R (.bool (decide (xs = ys))) h :=
  call_pure (af := ac33) rfl (tplEq_ok (es := 2) (g := true) (f := 56) Exception.ok.toEncOk (by omega) (.inl rfl) (by have := WS_len Exception.W xs; omega) h (fun i hi hj R => eqException_iff (nth xs i) (nth ys i) (by have := WS_nth Exception.W hi; omega) h R) c d)
set_option maxRecDepth 100000 in
theorem szBook_iff' (a_patterns : List Pattern) (a_words : List Exception) (hx : Book.Ok ⟨a_patterns, a_words⟩) (left : Int) (h0 : 0 ≤ left) (h1 : left ≤ 1048576) (h : AH) (R : AV → AH → Prop) : CA 7 [.agg [.fs none (a_patterns.map Pattern.enc), .fs none (a_words.map Exception.enc)], .int .i64 left] h R ↔ R (.int .i64 (szr left (Book.W ⟨a_patterns, a_words⟩))) h := by
  refine ca_pure (af := ac7) rfl ?_
  have hmx : maxLen = 9223372036854775807 := by decide
  simp only [Book.Ok] at hx
  simp [ac7, Book.W]
  simp [szPatternS_iff _ hx.1 left (by omega) (by omega)]
  by_cases e0 : left < (WS Pattern.W a_patterns : Nat)
  · have : szr left (WS Pattern.W a_patterns + WS Exception.W a_words) = -1 := szr_lt (by omega)
    simp [szr_lt e0, this]
  rw [szr_nonneg (show ((WS Pattern.W a_patterns : Nat) : Int) ≤ left by omega)]
  simp [show ¬ (left - (WS Pattern.W a_patterns : Nat)) < 0 by omega]
  simp [szExceptionS_iff _ hx.2 (left - (WS Pattern.W a_patterns : Nat)) (by omega) (by omega)]
  by_cases e1 : (left - (WS Pattern.W a_patterns : Nat)) < (WS Exception.W a_words : Nat)
  · have : szr left (WS Pattern.W a_patterns + WS Exception.W a_words) = -1 := szr_lt (by omega)
    simp [szr_lt e1, this]
  rw [szr_nonneg (show ((WS Exception.W a_words : Nat) : Int) ≤ (left - (WS Pattern.W a_patterns : Nat)) by omega)]
  simp [show ¬ ((left - (WS Pattern.W a_patterns : Nat)) - (WS Exception.W a_words : Nat)) < 0 by omega]
  all_goals (first | done | (rw [szr_nonneg (by omega)]; done) | (rw [szr_nonneg (by omega)]; omega))
theorem szBook_iff (x : Book) (hx : x.Ok) (left : Int) (h0 : 0 ≤ left) (h1 : left ≤ 1048576) (h : AH) (R : AV → AH → Prop) : CA 7 [.agg x.enc, .int .i64 left] h R ↔ R (.int .i64 (szr left x.W)) h := szBook_iff' _ _ hx left h0 h1 h R
set_option maxRecDepth 100000 in
theorem eqBook_iff' (a_patterns : List Pattern) (a_words : List Exception) (b_patterns : List Pattern) (b_words : List Exception) (hW : Book.W ⟨a_patterns, a_words⟩ ≤ 67108864) (h : AH) (R : AV → AH → Prop) : CA 11 [.agg [.fs none (a_patterns.map Pattern.enc), .fs none (a_words.map Exception.enc)], .agg [.fs none (b_patterns.map Pattern.enc), .fs none (b_words.map Exception.enc)]] h R ↔ R (.bool (decide ((⟨a_patterns, a_words⟩ : Book) = ⟨b_patterns, b_words⟩))) h := by
  refine ca_pure (af := ac11) rfl ?_
  simp only [Book.W] at hW
  (iterate 9 ((try simp [ac11, eqExceptionS_iff, eqPatternS_iff, -Book.mk.injEq]); (try simp (disch := omega) [ac11, eqExceptionS_iff, eqPatternS_iff, -Book.mk.injEq])))
  by_cases e_patterns : (a_patterns) = b_patterns
  case neg =>
    rw [decide_eq_false (fun q => e_patterns (congrArg Book.patterns q))]
    (iterate 4 ((try simp [e_patterns, eqExceptionS_iff, eqPatternS_iff, -Book.mk.injEq]); (try simp (disch := omega) [e_patterns, eqExceptionS_iff, eqPatternS_iff, -Book.mk.injEq])))
  cases e_patterns
  (iterate 4 ((try simp [eqExceptionS_iff, eqPatternS_iff, -Book.mk.injEq]); (try simp (disch := omega) [eqExceptionS_iff, eqPatternS_iff, -Book.mk.injEq])))
  by_cases e_words : (a_words) = b_words
  case neg =>
    rw [decide_eq_false (fun q => e_words (congrArg Book.words q))]
    (iterate 4 ((try simp [e_words, eqExceptionS_iff, eqPatternS_iff, -Book.mk.injEq]); (try simp (disch := omega) [e_words, eqExceptionS_iff, eqPatternS_iff, -Book.mk.injEq])))
  cases e_words
  (iterate 4 ((try simp [eqExceptionS_iff, eqPatternS_iff, -Book.mk.injEq]); (try simp (disch := omega) [eqExceptionS_iff, eqPatternS_iff, -Book.mk.injEq])))
theorem eqBook_iff (x y : Book) (hW : x.W ≤ 67108864) (h : AH) (R : AV → AH → Prop) : CA 11 [.agg x.enc, .agg y.enc] h R ↔ R (.bool (decide (x = y))) h := eqBook_iff' _ _ _ _ hW h R
end Go.Proofs.YtimpbgncgdaofaaDoor
