/- What the helpers of the laws tell. -/
import Derived.Test.YtojmemlbajnhhaaTy
import Derived.Test.YtojmemlbajnhhaaBc2
namespace Go.Proofs.Ytojmemlbajnhhaa
open Go Go.Bm Go.Proofs
set_option linter.all false

def CA : AQ := ACalls ap noE
theorem ca_iff {f : FuncId} {af : AFunc} (hf : ap f = some af) {args : List AV} {h : AH} {R : AV → AH → Prop} : CA f args h R ↔ abody CA af args h R := acall_iff hf
@[congr] theorem ca_congr {f : FuncId} {a a' : List AV} {h h' : AH} {R : AV → AH → Prop} (ea : tick a = a') (eh : h = h') : CA f a h R = CA f a' h' R := by rw [← ea, eh]; rfl
theorem ca_pure {f : FuncId} {af : AFunc} (hf : ap f = some af) {args : List AV} {h : AH} {v : AV} {R : AV → AH → Prop} (hb : abody CA af args h (fun v' h' => v' = v ∧ h' = h)) : CA f args h R ↔ R v h := call_pure hf hb
theorem ca_frz {f : FuncId} {af : AFunc} (hf : ap f = some af) {args : List AV} {h : AH} {v : AV} {R : AV → AH → Prop} (hb : abody CA af args h (fun v' h' => h.le h' ∧ frzV h.next h' DF v' = some v)) : acallM CA .frz f args h R ↔ R v h := call_frz hf hb
theorem caM : CA.Mono := acalls_mono noE_mono

set_option maxRecDepth 100000 in
theorem szToken_iff' (a_cat : Int) (a_char : Int) (a_name : ByteArray) (hx : Token.Ok ⟨a_cat, a_char, a_name⟩) (left : Int) (h0 : 0 ≤ left) (h1 : left ≤ 1048576) (h : AH) (R : AV → AH → Prop) : CA 27 [.agg [.int .i64 a_cat, .int .i64 a_char, .str a_name], .int .i64 left] h R ↔ R (.int .i64 (szr left (Token.W ⟨a_cat, a_char, a_name⟩))) h := by
  refine ca_pure (af := ac27) rfl ?_
  have hmx : maxLen = 9223372036854775807 := by decide
  simp only [Token.Ok] at hx
  simp [ac27, Token.W]
  have w0 : IntKind.wrap .i64 (left - (a_name.size : Nat)) = left - (a_name.size : Nat) := wrap_i64 (by omega) (by omega)
  simp [w0]
  by_cases e0 : left - (a_name.size : Nat) < 0
  · have : szr left (a_name.size) = -1 := szr_lt (by omega)
    simp [e0, this, w0]
  simp [show ¬ (left - (a_name.size : Nat)) < 0 by omega, w0]
  all_goals (first | done | (rw [szr_nonneg (by omega)]; done) | (rw [szr_nonneg (by omega)]; omega))
theorem szToken_iff (x : Token) (hx : x.Ok) (left : Int) (h0 : 0 ≤ left) (h1 : left ≤ 1048576) (h : AH) (R : AV → AH → Prop) : CA 27 [.agg x.enc, .int .i64 left] h R ↔ R (.int .i64 (szr left x.W)) h := szToken_iff' _ _ _ hx left h0 h1 h R
set_option maxRecDepth 100000 in
theorem toToken_iff' (a_cat : Int) (a_char : Int) (a_name : ByteArray) (hW : Token.W ⟨a_cat, a_char, a_name⟩ ≤ 1048576) (h : AH) (R : AV → AH → Prop) : CA 29 [.agg [.int .i64 a_cat, .int .i64 a_char, .str a_name]] h R ↔ R (.agg [.int .i64 a_cat, .int .i64 a_char, .str a_name]) h := by
  refine ca_pure (af := ac29) rfl ?_
  simp only [Token.W] at hW
  (iterate 9 ((try simp [ac29]); (try simp (disch := omega) [ac29])))
theorem toToken_iff (x : Token) (hW : x.W ≤ 1048576) (h : AH) (R : AV → AH → Prop) : CA 29 [.agg x.enc] h R ↔ R (.agg x.enc) h := toToken_iff' _ _ _ hW h R
set_option maxRecDepth 100000 in
theorem eqToken_iff' (a_cat : Int) (a_char : Int) (a_name : ByteArray) (b_cat : Int) (b_char : Int) (b_name : ByteArray) (hW : Token.W ⟨a_cat, a_char, a_name⟩ ≤ 67108864) (h : AH) (R : AV → AH → Prop) : CA 50 [.agg [.int .i64 a_cat, .int .i64 a_char, .str a_name], .agg [.int .i64 b_cat, .int .i64 b_char, .str b_name]] h R ↔ R (.bool (decide ((⟨a_cat, a_char, a_name⟩ : Token) = ⟨b_cat, b_char, b_name⟩))) h := by
  refine ca_pure (af := ac50) rfl ?_
  simp only [Token.W] at hW
  (iterate 9 ((try simp [ac50, -Token.mk.injEq]); (try simp (disch := omega) [ac50, -Token.mk.injEq])))
  by_cases e_cat : (a_cat) = b_cat
  case neg =>
    rw [decide_eq_false (fun q => e_cat (congrArg Token.cat q))]
    (iterate 4 ((try simp [e_cat, -Token.mk.injEq]); (try simp (disch := omega) [e_cat, -Token.mk.injEq])))
  cases e_cat
  (iterate 4 ((try simp [-Token.mk.injEq]); (try simp (disch := omega) [-Token.mk.injEq])))
  by_cases e_char : (a_char) = b_char
  case neg =>
    rw [decide_eq_false (fun q => e_char (congrArg Token.char q))]
    (iterate 4 ((try simp [e_char, -Token.mk.injEq]); (try simp (disch := omega) [e_char, -Token.mk.injEq])))
  cases e_char
  (iterate 4 ((try simp [-Token.mk.injEq]); (try simp (disch := omega) [-Token.mk.injEq])))
  by_cases e_name : (a_name) = b_name
  case neg =>
    rw [decide_eq_false (fun q => e_name (congrArg Token.name q))]
    (iterate 4 ((try simp [e_name, -Token.mk.injEq]); (try simp (disch := omega) [e_name, -Token.mk.injEq])))
  cases e_name
  (iterate 4 ((try simp [-Token.mk.injEq]); (try simp (disch := omega) [-Token.mk.injEq])))
theorem eqToken_iff (x y : Token) (hW : x.W ≤ 67108864) (h : AH) (R : AV → AH → Prop) : CA 50 [.agg x.enc, .agg y.enc] h R ↔ R (.bool (decide (x = y))) h := eqToken_iff' _ _ _ _ _ _ hW h R
theorem szTokenS_iff (xs : List Token) (hx : xs.length ≤ maxLen ∧ ∀ y ∈ xs, Token.Ok y) (left : Int) (h0 : 0 ≤ left) (h1 : left ≤ 1048576) (h : AH) (c : Option Nat) (R : AV → AH → Prop) : CA 165 [.fs c (xs.map Token.enc), .int .i64 left] h R ↔ R (.int .i64 (szr left (WS Token.W xs))) h :=
  call_pure (af := ac165) rfl (tplSz_ok (es := 3) (g := true) (f := 27) Token.ok.toEncOk (by omega) (.inl rfl) (Nat.le_trans hx.1 (by decide)) Token.W h0 h1 h c (fun i hi l R a b => szToken_iff (nth xs i) (hx.2 _ (nth_mem hi)) l a b h R))
theorem eqTokenS_iff (xs ys : List Token) (hW : WS Token.W xs ≤ 67108864) (h : AH) (c d : Option Nat) (R : AV → AH → Prop) : CA 113 [.fs c (xs.map Token.enc), .fs d (ys.map Token.enc)] h R ↔ R (.bool (decide (xs = ys))) h :=
  call_pure (af := ac113) rfl (tplEq_ok (es := 3) (g := true) (f := 50) Token.ok.toEncOk (by omega) (.inl rfl) (by have := WS_len Token.W xs; omega) h (fun i hi hj R => eqToken_iff (nth xs i) (nth ys i) (by have := WS_nth Token.W hi; omega) h R) c d)
set_option maxRecDepth 100000 in
theorem szMacro_iff' (a_pattern : List Token) (a_slots : Int) (a_body : List Token) (hx : Macro.Ok ⟨a_pattern, a_slots, a_body⟩) (left : Int) (h0 : 0 ≤ left) (h1 : left ≤ 1048576) (h : AH) (R : AV → AH → Prop) : CA 174 [.agg [.fs none (a_pattern.map Token.enc), .int .i64 a_slots, .fs none (a_body.map Token.enc)], .int .i64 left] h R ↔ R (.int .i64 (szr left (Macro.W ⟨a_pattern, a_slots, a_body⟩))) h := by
  refine ca_pure (af := ac174) rfl ?_
  have hmx : maxLen = 9223372036854775807 := by decide
  simp only [Macro.Ok] at hx
  simp [ac174, Macro.W]
  simp [szTokenS_iff _ hx.1 left (by omega) (by omega)]
  by_cases e0 : left < (WS Token.W a_pattern : Nat)
  · have : szr left (WS Token.W a_pattern + WS Token.W a_body) = -1 := szr_lt (by omega)
    simp [szr_lt e0, this]
  rw [szr_nonneg (show ((WS Token.W a_pattern : Nat) : Int) ≤ left by omega)]
  simp [show ¬ (left - (WS Token.W a_pattern : Nat)) < 0 by omega]
  simp [szTokenS_iff _ hx.2.2 (left - (WS Token.W a_pattern : Nat)) (by omega) (by omega)]
  by_cases e1 : (left - (WS Token.W a_pattern : Nat)) < (WS Token.W a_body : Nat)
  · have : szr left (WS Token.W a_pattern + WS Token.W a_body) = -1 := szr_lt (by omega)
    simp [szr_lt e1, this]
  rw [szr_nonneg (show ((WS Token.W a_body : Nat) : Int) ≤ (left - (WS Token.W a_pattern : Nat)) by omega)]
  simp [show ¬ ((left - (WS Token.W a_pattern : Nat)) - (WS Token.W a_body : Nat)) < 0 by omega]
  all_goals (first | done | (rw [szr_nonneg (by omega)]; done) | (rw [szr_nonneg (by omega)]; omega))
theorem szMacro_iff (x : Macro) (hx : x.Ok) (left : Int) (h0 : 0 ≤ left) (h1 : left ≤ 1048576) (h : AH) (R : AV → AH → Prop) : CA 174 [.agg x.enc, .int .i64 left] h R ↔ R (.int .i64 (szr left x.W)) h := szMacro_iff' _ _ _ hx left h0 h1 h R
set_option maxRecDepth 100000 in
theorem eqMacro_iff' (a_pattern : List Token) (a_slots : Int) (a_body : List Token) (b_pattern : List Token) (b_slots : Int) (b_body : List Token) (hW : Macro.W ⟨a_pattern, a_slots, a_body⟩ ≤ 67108864) (h : AH) (R : AV → AH → Prop) : CA 51 [.agg [.fs none (a_pattern.map Token.enc), .int .i64 a_slots, .fs none (a_body.map Token.enc)], .agg [.fs none (b_pattern.map Token.enc), .int .i64 b_slots, .fs none (b_body.map Token.enc)]] h R ↔ R (.bool (decide ((⟨a_pattern, a_slots, a_body⟩ : Macro) = ⟨b_pattern, b_slots, b_body⟩))) h := by
  refine ca_pure (af := ac51) rfl ?_
  simp only [Macro.W] at hW
  (iterate 9 ((try simp [ac51, eqTokenS_iff, -Macro.mk.injEq]); (try simp (disch := omega) [ac51, eqTokenS_iff, -Macro.mk.injEq])))
  by_cases e_pattern : (a_pattern) = b_pattern
  case neg =>
    rw [decide_eq_false (fun q => e_pattern (congrArg Macro.pattern q))]
    (iterate 4 ((try simp [e_pattern, eqTokenS_iff, -Macro.mk.injEq]); (try simp (disch := omega) [e_pattern, eqTokenS_iff, -Macro.mk.injEq])))
  cases e_pattern
  (iterate 4 ((try simp [eqTokenS_iff, -Macro.mk.injEq]); (try simp (disch := omega) [eqTokenS_iff, -Macro.mk.injEq])))
  by_cases e_slots : (a_slots) = b_slots
  case neg =>
    rw [decide_eq_false (fun q => e_slots (congrArg Macro.slots q))]
    (iterate 4 ((try simp [e_slots, eqTokenS_iff, -Macro.mk.injEq]); (try simp (disch := omega) [e_slots, eqTokenS_iff, -Macro.mk.injEq])))
  cases e_slots
  (iterate 4 ((try simp [eqTokenS_iff, -Macro.mk.injEq]); (try simp (disch := omega) [eqTokenS_iff, -Macro.mk.injEq])))
  by_cases e_body : (a_body) = b_body
  case neg =>
    rw [decide_eq_false (fun q => e_body (congrArg Macro.body q))]
    (iterate 4 ((try simp [e_body, eqTokenS_iff, -Macro.mk.injEq]); (try simp (disch := omega) [e_body, eqTokenS_iff, -Macro.mk.injEq])))
  cases e_body
  (iterate 4 ((try simp [eqTokenS_iff, -Macro.mk.injEq]); (try simp (disch := omega) [eqTokenS_iff, -Macro.mk.injEq])))
theorem eqMacro_iff (x y : Macro) (hW : x.W ≤ 67108864) (h : AH) (R : AV → AH → Prop) : CA 51 [.agg x.enc, .agg y.enc] h R ↔ R (.bool (decide (x = y))) h := eqMacro_iff' _ _ _ _ _ _ hW h R
set_option maxRecDepth 100000 in
theorem szMean_iff' (a_kind : Int) (a_num : Int) (a_token_cat : Int) (a_token_char : Int) (a_token_name : ByteArray) (a_macro__pattern : List Token) (a_macro__slots : Int) (a_macro__body : List Token) (hx : Mean.Ok ⟨a_kind, a_num, ⟨a_token_cat, a_token_char, a_token_name⟩, ⟨a_macro__pattern, a_macro__slots, a_macro__body⟩⟩) (left : Int) (h0 : 0 ≤ left) (h1 : left ≤ 1048576) (h : AH) (R : AV → AH → Prop) : CA 172 [.agg [.int .i64 a_kind, .int .i64 a_num, .int .i64 a_token_cat, .int .i64 a_token_char, .str a_token_name, .fs none (a_macro__pattern.map Token.enc), .int .i64 a_macro__slots, .fs none (a_macro__body.map Token.enc)], .int .i64 left] h R ↔ R (.int .i64 (szr left (Mean.W ⟨a_kind, a_num, ⟨a_token_cat, a_token_char, a_token_name⟩, ⟨a_macro__pattern, a_macro__slots, a_macro__body⟩⟩))) h := by
  refine ca_pure (af := ac172) rfl ?_
  have hmx : maxLen = 9223372036854775807 := by decide
  simp only [Mean.Ok] at hx
  simp [ac172, Mean.W]
  simp [szToken_iff' (hx := hx.2.2.1) (left := left) (h0 := by omega) (h1 := by omega)]
  by_cases e0 : left < (Token.W ⟨a_token_cat, a_token_char, a_token_name⟩ : Nat)
  · have : szr left (Token.W ⟨a_token_cat, a_token_char, a_token_name⟩ + Macro.W ⟨a_macro__pattern, a_macro__slots, a_macro__body⟩) = -1 := szr_lt (by omega)
    simp [szr_lt e0, this]
  rw [szr_nonneg (show ((Token.W ⟨a_token_cat, a_token_char, a_token_name⟩ : Nat) : Int) ≤ left by omega)]
  simp [show ¬ (left - (Token.W ⟨a_token_cat, a_token_char, a_token_name⟩ : Nat)) < 0 by omega]
  simp [szMacro_iff' (hx := hx.2.2.2) (left := (left - (Token.W ⟨a_token_cat, a_token_char, a_token_name⟩ : Nat))) (h0 := by omega) (h1 := by omega)]
  by_cases e1 : (left - (Token.W ⟨a_token_cat, a_token_char, a_token_name⟩ : Nat)) < (Macro.W ⟨a_macro__pattern, a_macro__slots, a_macro__body⟩ : Nat)
  · have : szr left (Token.W ⟨a_token_cat, a_token_char, a_token_name⟩ + Macro.W ⟨a_macro__pattern, a_macro__slots, a_macro__body⟩) = -1 := szr_lt (by omega)
    simp [szr_lt e1, this]
  rw [szr_nonneg (show ((Macro.W ⟨a_macro__pattern, a_macro__slots, a_macro__body⟩ : Nat) : Int) ≤ (left - (Token.W ⟨a_token_cat, a_token_char, a_token_name⟩ : Nat)) by omega)]
  simp [show ¬ ((left - (Token.W ⟨a_token_cat, a_token_char, a_token_name⟩ : Nat)) - (Macro.W ⟨a_macro__pattern, a_macro__slots, a_macro__body⟩ : Nat)) < 0 by omega]
  all_goals (first | done | (rw [szr_nonneg (by omega)]; done) | (rw [szr_nonneg (by omega)]; omega))
theorem szMean_iff (x : Mean) (hx : x.Ok) (left : Int) (h0 : 0 ≤ left) (h1 : left ≤ 1048576) (h : AH) (R : AV → AH → Prop) : CA 172 [.agg x.enc, .int .i64 left] h R ↔ R (.int .i64 (szr left x.W)) h := szMean_iff' _ _ _ _ _ _ _ _ hx left h0 h1 h R
set_option maxRecDepth 100000 in
theorem eqMean_iff' (a_kind : Int) (a_num : Int) (a_token_cat : Int) (a_token_char : Int) (a_token_name : ByteArray) (a_macro__pattern : List Token) (a_macro__slots : Int) (a_macro__body : List Token) (b_kind : Int) (b_num : Int) (b_token_cat : Int) (b_token_char : Int) (b_token_name : ByteArray) (b_macro__pattern : List Token) (b_macro__slots : Int) (b_macro__body : List Token) (hW : Mean.W ⟨a_kind, a_num, ⟨a_token_cat, a_token_char, a_token_name⟩, ⟨a_macro__pattern, a_macro__slots, a_macro__body⟩⟩ ≤ 67108864) (h : AH) (R : AV → AH → Prop) : CA 18 [.agg [.int .i64 a_kind, .int .i64 a_num, .int .i64 a_token_cat, .int .i64 a_token_char, .str a_token_name, .fs none (a_macro__pattern.map Token.enc), .int .i64 a_macro__slots, .fs none (a_macro__body.map Token.enc)], .agg [.int .i64 b_kind, .int .i64 b_num, .int .i64 b_token_cat, .int .i64 b_token_char, .str b_token_name, .fs none (b_macro__pattern.map Token.enc), .int .i64 b_macro__slots, .fs none (b_macro__body.map Token.enc)]] h R ↔ R (.bool (decide ((⟨a_kind, a_num, ⟨a_token_cat, a_token_char, a_token_name⟩, ⟨a_macro__pattern, a_macro__slots, a_macro__body⟩⟩ : Mean) = ⟨b_kind, b_num, ⟨b_token_cat, b_token_char, b_token_name⟩, ⟨b_macro__pattern, b_macro__slots, b_macro__body⟩⟩))) h := by
  refine ca_pure (af := ac18) rfl ?_
  simp only [Mean.W] at hW
  (iterate 9 ((try simp [ac18, eqMacro_iff', eqToken_iff', -Macro.mk.injEq, -Mean.mk.injEq, -Token.mk.injEq]); (try simp (disch := omega) [ac18, eqMacro_iff', eqToken_iff', -Macro.mk.injEq, -Mean.mk.injEq, -Token.mk.injEq])))
  by_cases e_kind : (a_kind) = b_kind
  case neg =>
    rw [decide_eq_false (fun q => e_kind (congrArg Mean.kind q))]
    (iterate 4 ((try simp [e_kind, eqMacro_iff', eqToken_iff', -Macro.mk.injEq, -Mean.mk.injEq, -Token.mk.injEq]); (try simp (disch := omega) [e_kind, eqMacro_iff', eqToken_iff', -Macro.mk.injEq, -Mean.mk.injEq, -Token.mk.injEq])))
  cases e_kind
  (iterate 4 ((try simp [eqMacro_iff', eqToken_iff', -Macro.mk.injEq, -Mean.mk.injEq, -Token.mk.injEq]); (try simp (disch := omega) [eqMacro_iff', eqToken_iff', -Macro.mk.injEq, -Mean.mk.injEq, -Token.mk.injEq])))
  by_cases e_num : (a_num) = b_num
  case neg =>
    rw [decide_eq_false (fun q => e_num (congrArg Mean.num q))]
    (iterate 4 ((try simp [e_num, eqMacro_iff', eqToken_iff', -Macro.mk.injEq, -Mean.mk.injEq, -Token.mk.injEq]); (try simp (disch := omega) [e_num, eqMacro_iff', eqToken_iff', -Macro.mk.injEq, -Mean.mk.injEq, -Token.mk.injEq])))
  cases e_num
  (iterate 4 ((try simp [eqMacro_iff', eqToken_iff', -Macro.mk.injEq, -Mean.mk.injEq, -Token.mk.injEq]); (try simp (disch := omega) [eqMacro_iff', eqToken_iff', -Macro.mk.injEq, -Mean.mk.injEq, -Token.mk.injEq])))
  by_cases e_token : (⟨a_token_cat, a_token_char, a_token_name⟩ : Token) = ⟨b_token_cat, b_token_char, b_token_name⟩
  case neg =>
    rw [decide_eq_false (fun q => e_token (congrArg Mean.token q))]
    (iterate 4 ((try simp [e_token, eqMacro_iff', eqToken_iff', -Macro.mk.injEq, -Mean.mk.injEq, -Token.mk.injEq]); (try simp (disch := omega) [e_token, eqMacro_iff', eqToken_iff', -Macro.mk.injEq, -Mean.mk.injEq, -Token.mk.injEq])))
  cases e_token
  (iterate 4 ((try simp [eqMacro_iff', eqToken_iff', -Macro.mk.injEq, -Mean.mk.injEq, -Token.mk.injEq]); (try simp (disch := omega) [eqMacro_iff', eqToken_iff', -Macro.mk.injEq, -Mean.mk.injEq, -Token.mk.injEq])))
  by_cases e_macro_ : (⟨a_macro__pattern, a_macro__slots, a_macro__body⟩ : Macro) = ⟨b_macro__pattern, b_macro__slots, b_macro__body⟩
  case neg =>
    rw [decide_eq_false (fun q => e_macro_ (congrArg Mean.macro_ q))]
    (iterate 4 ((try simp [e_macro_, eqMacro_iff', eqToken_iff', -Macro.mk.injEq, -Mean.mk.injEq, -Token.mk.injEq]); (try simp (disch := omega) [e_macro_, eqMacro_iff', eqToken_iff', -Macro.mk.injEq, -Mean.mk.injEq, -Token.mk.injEq])))
  cases e_macro_
  (iterate 4 ((try simp [eqMacro_iff', eqToken_iff', -Macro.mk.injEq, -Mean.mk.injEq, -Token.mk.injEq]); (try simp (disch := omega) [eqMacro_iff', eqToken_iff', -Macro.mk.injEq, -Mean.mk.injEq, -Token.mk.injEq])))
theorem eqMean_iff (x y : Mean) (hW : x.W ≤ 67108864) (h : AH) (R : AV → AH → Prop) : CA 18 [.agg x.enc, .agg y.enc] h R ↔ R (.bool (decide (x = y))) h := eqMean_iff' _ _ _ _ _ _ _ _ _ _ _ _ _ _ _ _ hW h R
set_option maxRecDepth 100000 in
theorem szBind_iff' (a_name : ByteArray) (a_mean_kind : Int) (a_mean_num : Int) (a_mean_token_cat : Int) (a_mean_token_char : Int) (a_mean_token_name : ByteArray) (a_mean_macro__pattern : List Token) (a_mean_macro__slots : Int) (a_mean_macro__body : List Token) (hx : Bind.Ok ⟨a_name, ⟨a_mean_kind, a_mean_num, ⟨a_mean_token_cat, a_mean_token_char, a_mean_token_name⟩, ⟨a_mean_macro__pattern, a_mean_macro__slots, a_mean_macro__body⟩⟩⟩) (left : Int) (h0 : 0 ≤ left) (h1 : left ≤ 1048576) (h : AH) (R : AV → AH → Prop) : CA 164 [.agg [.str a_name, .int .i64 a_mean_kind, .int .i64 a_mean_num, .int .i64 a_mean_token_cat, .int .i64 a_mean_token_char, .str a_mean_token_name, .fs none (a_mean_macro__pattern.map Token.enc), .int .i64 a_mean_macro__slots, .fs none (a_mean_macro__body.map Token.enc)], .int .i64 left] h R ↔ R (.int .i64 (szr left (Bind.W ⟨a_name, ⟨a_mean_kind, a_mean_num, ⟨a_mean_token_cat, a_mean_token_char, a_mean_token_name⟩, ⟨a_mean_macro__pattern, a_mean_macro__slots, a_mean_macro__body⟩⟩⟩))) h := by
  refine ca_pure (af := ac164) rfl ?_
  have hmx : maxLen = 9223372036854775807 := by decide
  simp only [Bind.Ok] at hx
  simp [ac164, Bind.W]
  have w0 : IntKind.wrap .i64 (left - (a_name.size : Nat)) = left - (a_name.size : Nat) := wrap_i64 (by omega) (by omega)
  simp [w0]
  by_cases e0 : left - (a_name.size : Nat) < 0
  · have : szr left (a_name.size + Mean.W ⟨a_mean_kind, a_mean_num, ⟨a_mean_token_cat, a_mean_token_char, a_mean_token_name⟩, ⟨a_mean_macro__pattern, a_mean_macro__slots, a_mean_macro__body⟩⟩) = -1 := szr_lt (by omega)
    simp [e0, this, w0]
  simp [show ¬ (left - (a_name.size : Nat)) < 0 by omega, w0]
  simp [szMean_iff' (hx := hx.2) (left := (left - (a_name.size : Nat))) (h0 := by omega) (h1 := by omega), w0]
  by_cases e1 : (left - (a_name.size : Nat)) < (Mean.W ⟨a_mean_kind, a_mean_num, ⟨a_mean_token_cat, a_mean_token_char, a_mean_token_name⟩, ⟨a_mean_macro__pattern, a_mean_macro__slots, a_mean_macro__body⟩⟩ : Nat)
  · have : szr left (a_name.size + Mean.W ⟨a_mean_kind, a_mean_num, ⟨a_mean_token_cat, a_mean_token_char, a_mean_token_name⟩, ⟨a_mean_macro__pattern, a_mean_macro__slots, a_mean_macro__body⟩⟩) = -1 := szr_lt (by omega)
    simp [szr_lt e1, this, w0]
  rw [szr_nonneg (show ((Mean.W ⟨a_mean_kind, a_mean_num, ⟨a_mean_token_cat, a_mean_token_char, a_mean_token_name⟩, ⟨a_mean_macro__pattern, a_mean_macro__slots, a_mean_macro__body⟩⟩ : Nat) : Int) ≤ (left - (a_name.size : Nat)) by omega)]
  simp [show ¬ ((left - (a_name.size : Nat)) - (Mean.W ⟨a_mean_kind, a_mean_num, ⟨a_mean_token_cat, a_mean_token_char, a_mean_token_name⟩, ⟨a_mean_macro__pattern, a_mean_macro__slots, a_mean_macro__body⟩⟩ : Nat)) < 0 by omega, w0]
  all_goals (first | done | (rw [szr_nonneg (by omega)]; done) | (rw [szr_nonneg (by omega)]; omega))
theorem szBind_iff (x : Bind) (hx : x.Ok) (left : Int) (h0 : 0 ≤ left) (h1 : left ≤ 1048576) (h : AH) (R : AV → AH → Prop) : CA 164 [.agg x.enc, .int .i64 left] h R ↔ R (.int .i64 (szr left x.W)) h := szBind_iff' _ _ _ _ _ _ _ _ _ hx left h0 h1 h R
set_option maxRecDepth 100000 in
theorem eqBind_iff' (a_name : ByteArray) (a_mean_kind : Int) (a_mean_num : Int) (a_mean_token_cat : Int) (a_mean_token_char : Int) (a_mean_token_name : ByteArray) (a_mean_macro__pattern : List Token) (a_mean_macro__slots : Int) (a_mean_macro__body : List Token) (b_name : ByteArray) (b_mean_kind : Int) (b_mean_num : Int) (b_mean_token_cat : Int) (b_mean_token_char : Int) (b_mean_token_name : ByteArray) (b_mean_macro__pattern : List Token) (b_mean_macro__slots : Int) (b_mean_macro__body : List Token) (hW : Bind.W ⟨a_name, ⟨a_mean_kind, a_mean_num, ⟨a_mean_token_cat, a_mean_token_char, a_mean_token_name⟩, ⟨a_mean_macro__pattern, a_mean_macro__slots, a_mean_macro__body⟩⟩⟩ ≤ 67108864) (h : AH) (R : AV → AH → Prop) : CA 169 [.agg [.str a_name, .int .i64 a_mean_kind, .int .i64 a_mean_num, .int .i64 a_mean_token_cat, .int .i64 a_mean_token_char, .str a_mean_token_name, .fs none (a_mean_macro__pattern.map Token.enc), .int .i64 a_mean_macro__slots, .fs none (a_mean_macro__body.map Token.enc)], .agg [.str b_name, .int .i64 b_mean_kind, .int .i64 b_mean_num, .int .i64 b_mean_token_cat, .int .i64 b_mean_token_char, .str b_mean_token_name, .fs none (b_mean_macro__pattern.map Token.enc), .int .i64 b_mean_macro__slots, .fs none (b_mean_macro__body.map Token.enc)]] h R ↔ R (.bool (decide ((⟨a_name, ⟨a_mean_kind, a_mean_num, ⟨a_mean_token_cat, a_mean_token_char, a_mean_token_name⟩, ⟨a_mean_macro__pattern, a_mean_macro__slots, a_mean_macro__body⟩⟩⟩ : Bind) = ⟨b_name, ⟨b_mean_kind, b_mean_num, ⟨b_mean_token_cat, b_mean_token_char, b_mean_token_name⟩, ⟨b_mean_macro__pattern, b_mean_macro__slots, b_mean_macro__body⟩⟩⟩))) h := by
  refine ca_pure (af := ac169) rfl ?_
  simp only [Bind.W] at hW
  (iterate 9 ((try simp [ac169, eqMean_iff', -Bind.mk.injEq, -Macro.mk.injEq, -Mean.mk.injEq, -Token.mk.injEq]); (try simp (disch := omega) [ac169, eqMean_iff', -Bind.mk.injEq, -Macro.mk.injEq, -Mean.mk.injEq, -Token.mk.injEq])))
  by_cases e_name : (a_name) = b_name
  case neg =>
    rw [decide_eq_false (fun q => e_name (congrArg Bind.name q))]
    (iterate 4 ((try simp [e_name, eqMean_iff', -Bind.mk.injEq, -Macro.mk.injEq, -Mean.mk.injEq, -Token.mk.injEq]); (try simp (disch := omega) [e_name, eqMean_iff', -Bind.mk.injEq, -Macro.mk.injEq, -Mean.mk.injEq, -Token.mk.injEq])))
  cases e_name
  (iterate 4 ((try simp [eqMean_iff', -Bind.mk.injEq, -Macro.mk.injEq, -Mean.mk.injEq, -Token.mk.injEq]); (try simp (disch := omega) [eqMean_iff', -Bind.mk.injEq, -Macro.mk.injEq, -Mean.mk.injEq, -Token.mk.injEq])))
  by_cases e_mean : (⟨a_mean_kind, a_mean_num, ⟨a_mean_token_cat, a_mean_token_char, a_mean_token_name⟩, ⟨a_mean_macro__pattern, a_mean_macro__slots, a_mean_macro__body⟩⟩ : Mean) = ⟨b_mean_kind, b_mean_num, ⟨b_mean_token_cat, b_mean_token_char, b_mean_token_name⟩, ⟨b_mean_macro__pattern, b_mean_macro__slots, b_mean_macro__body⟩⟩
  case neg =>
    rw [decide_eq_false (fun q => e_mean (congrArg Bind.mean q))]
    (iterate 4 ((try simp [e_mean, eqMean_iff', -Bind.mk.injEq, -Macro.mk.injEq, -Mean.mk.injEq, -Token.mk.injEq]); (try simp (disch := omega) [e_mean, eqMean_iff', -Bind.mk.injEq, -Macro.mk.injEq, -Mean.mk.injEq, -Token.mk.injEq])))
  cases e_mean
  (iterate 4 ((try simp [eqMean_iff', -Bind.mk.injEq, -Macro.mk.injEq, -Mean.mk.injEq, -Token.mk.injEq]); (try simp (disch := omega) [eqMean_iff', -Bind.mk.injEq, -Macro.mk.injEq, -Mean.mk.injEq, -Token.mk.injEq])))
theorem eqBind_iff (x y : Bind) (hW : x.W ≤ 67108864) (h : AH) (R : AV → AH → Prop) : CA 169 [.agg x.enc, .agg y.enc] h R ↔ R (.bool (decide (x = y))) h := eqBind_iff' _ _ _ _ _ _ _ _ _ _ _ _ _ _ _ _ _ _ hW h R
set_option maxRecDepth 100000 in
theorem toGlue_iff' (a_size : Int) (a_plus : Int) (a_plusOrder : Int) (a_minus : Int) (a_minusOrder : Int) (h : AH) (R : AV → AH → Prop) : CA 167 [.agg [.int .i64 a_size, .int .i64 a_plus, .int .i64 a_plusOrder, .int .i64 a_minus, .int .i64 a_minusOrder]] h R ↔ R (.agg [.int .i64 a_size, .int .i64 a_plus, .int .i64 a_plusOrder, .int .i64 a_minus, .int .i64 a_minusOrder]) h := by
  refine ca_pure (af := ac167) rfl ?_
  (iterate 9 ((try simp [ac167]); (try simp (disch := omega) [ac167])))
theorem toGlue_iff (x : Glue) (h : AH) (R : AV → AH → Prop) : CA 167 [.agg x.enc] h R ↔ R (.agg x.enc) h := toGlue_iff' _ _ _ _ _ h R
set_option maxRecDepth 100000 in
theorem eqGlue_iff' (a_size : Int) (a_plus : Int) (a_plusOrder : Int) (a_minus : Int) (a_minusOrder : Int) (b_size : Int) (b_plus : Int) (b_plusOrder : Int) (b_minus : Int) (b_minusOrder : Int) (h : AH) (R : AV → AH → Prop) : CA 170 [.agg [.int .i64 a_size, .int .i64 a_plus, .int .i64 a_plusOrder, .int .i64 a_minus, .int .i64 a_minusOrder], .agg [.int .i64 b_size, .int .i64 b_plus, .int .i64 b_plusOrder, .int .i64 b_minus, .int .i64 b_minusOrder]] h R ↔ R (.bool (decide ((⟨a_size, a_plus, a_plusOrder, a_minus, a_minusOrder⟩ : Glue) = ⟨b_size, b_plus, b_plusOrder, b_minus, b_minusOrder⟩))) h := by
  refine ca_pure (af := ac170) rfl ?_
  (iterate 9 ((try simp [ac170, -Glue.mk.injEq]); (try simp (disch := omega) [ac170, -Glue.mk.injEq])))
  by_cases e_size : (a_size) = b_size
  case neg =>
    rw [decide_eq_false (fun q => e_size (congrArg Glue.size q))]
    (iterate 4 ((try simp [e_size, -Glue.mk.injEq]); (try simp (disch := omega) [e_size, -Glue.mk.injEq])))
  cases e_size
  (iterate 4 ((try simp [-Glue.mk.injEq]); (try simp (disch := omega) [-Glue.mk.injEq])))
  by_cases e_plus : (a_plus) = b_plus
  case neg =>
    rw [decide_eq_false (fun q => e_plus (congrArg Glue.plus q))]
    (iterate 4 ((try simp [e_plus, -Glue.mk.injEq]); (try simp (disch := omega) [e_plus, -Glue.mk.injEq])))
  cases e_plus
  (iterate 4 ((try simp [-Glue.mk.injEq]); (try simp (disch := omega) [-Glue.mk.injEq])))
  by_cases e_plusOrder : (a_plusOrder) = b_plusOrder
  case neg =>
    rw [decide_eq_false (fun q => e_plusOrder (congrArg Glue.plusOrder q))]
    (iterate 4 ((try simp [e_plusOrder, -Glue.mk.injEq]); (try simp (disch := omega) [e_plusOrder, -Glue.mk.injEq])))
  cases e_plusOrder
  (iterate 4 ((try simp [-Glue.mk.injEq]); (try simp (disch := omega) [-Glue.mk.injEq])))
  by_cases e_minus : (a_minus) = b_minus
  case neg =>
    rw [decide_eq_false (fun q => e_minus (congrArg Glue.minus q))]
    (iterate 4 ((try simp [e_minus, -Glue.mk.injEq]); (try simp (disch := omega) [e_minus, -Glue.mk.injEq])))
  cases e_minus
  (iterate 4 ((try simp [-Glue.mk.injEq]); (try simp (disch := omega) [-Glue.mk.injEq])))
  by_cases e_minusOrder : (a_minusOrder) = b_minusOrder
  case neg =>
    rw [decide_eq_false (fun q => e_minusOrder (congrArg Glue.minusOrder q))]
    (iterate 4 ((try simp [e_minusOrder, -Glue.mk.injEq]); (try simp (disch := omega) [e_minusOrder, -Glue.mk.injEq])))
  cases e_minusOrder
  (iterate 4 ((try simp [-Glue.mk.injEq]); (try simp (disch := omega) [-Glue.mk.injEq])))
theorem eqGlue_iff (x y : Glue) (h : AH) (R : AV → AH → Prop) : CA 170 [.agg x.enc, .agg y.enc] h R ↔ R (.bool (decide (x = y))) h := eqGlue_iff' _ _ _ _ _ _ _ _ _ _ h R
theorem szInt64S_iff (xs : List Int) (hxl : xs.length ≤ maxLen) (left : Int) (h0 : 0 ≤ left) (h1 : left ≤ 1048576) (h : AH) (c : Option Nat) (R : AV → AH → Prop) : CA 142 [.fs c (xs.map (encI .i64)), .int .i64 left] h R ↔ R (.int .i64 (szr left xs.length)) h :=
  call_pure (af := ac142) rfl (by have := tplSzI_ok (ap := ap) (rows := xs.map (encI .i64)) (by rw [List.length_map]; exact Nat.le_trans hxl (by decide)) h0 h1 h c; rw [List.length_map] at this; exact this)
theorem eqInt64S_iff (xs ys : List Int) (hW : xs.length ≤ 67108864) (h : AH) (c d : Option Nat) (R : AV → AH → Prop) : CA 158 [.fs c (xs.map (encI .i64)), .fs d (ys.map (encI .i64))] h R ↔ R (.bool (decide (xs = ys))) h :=
  call_pure (af := ac158) rfl (tplEqI_ok hW h c d)
theorem szBindS_iff (xs : List Bind) (hx : xs.length ≤ maxLen ∧ ∀ y ∈ xs, Bind.Ok y) (left : Int) (h0 : 0 ≤ left) (h1 : left ≤ 1048576) (h : AH) (c : Option Nat) (R : AV → AH → Prop) : CA 143 [.fs c (xs.map Bind.enc), .int .i64 left] h R ↔ R (.int .i64 (szr left (WS Bind.W xs))) h :=
  call_pure (af := ac143) rfl (tplSz_ok (es := 9) (g := true) (f := 164) Bind.ok.toEncOk (by omega) (.inl rfl) (Nat.le_trans hx.1 (by decide)) Bind.W h0 h1 h c (fun i hi l R a b => szBind_iff (nth xs i) (hx.2 _ (nth_mem hi)) l a b h R))
theorem eqBindS_iff (xs ys : List Bind) (hW : WS Bind.W xs ≤ 67108864) (h : AH) (c d : Option Nat) (R : AV → AH → Prop) : CA 159 [.fs c (xs.map Bind.enc), .fs d (ys.map Bind.enc)] h R ↔ R (.bool (decide (xs = ys))) h :=
  call_pure (af := ac159) rfl (tplEq_ok (es := 9) (g := true) (f := 169) Bind.ok.toEncOk (by omega) (.inl rfl) (by have := WS_len Bind.W xs; omega) h (fun i hi hj R => eqBind_iff (nth xs i) (nth ys i) (by have := WS_nth Bind.W hi; omega) h R) c d)
theorem szGlueS_iff (xs : List Glue) (hxl : xs.length ≤ maxLen) (left : Int) (h0 : 0 ≤ left) (h1 : left ≤ 1048576) (h : AH) (c : Option Nat) (R : AV → AH → Prop) : CA 144 [.fs c (xs.map Glue.enc), .int .i64 left] h R ↔ R (.int .i64 (szr left xs.length)) h :=
  call_pure (af := ac144) rfl (by have := tplSzI_ok (ap := ap) (rows := xs.map Glue.enc) (by rw [List.length_map]; exact Nat.le_trans hxl (by decide)) h0 h1 h c; rw [List.length_map] at this; exact this)
theorem eqGlueS_iff (xs ys : List Glue) (hW : xs.length ≤ 67108864) (h : AH) (c d : Option Nat) (R : AV → AH → Prop) : CA 160 [.fs c (xs.map Glue.enc), .fs d (ys.map Glue.enc)] h R ↔ R (.bool (decide (xs = ys))) h :=
  call_pure (af := ac160) rfl (tplEq_ok (es := 5) (g := true) (f := 170) Glue.ok.toEncOk (by omega) (.inl rfl) hW h (fun i hi hj R => eqGlue_iff (nth xs i) (nth ys i) h R) c d)
theorem szTokenSS_iff (xs : List (List Token)) (hx : xs.length ≤ maxLen ∧ ∀ y ∈ xs, (fun z => z.length ≤ maxLen ∧ ∀ y ∈ z, Token.Ok y) y) (left : Int) (h0 : 0 ≤ left) (h1 : left ≤ 1048576) (h : AH) (c : Option Nat) (R : AV → AH → Prop) : CA 145 [.fs c (xs.map (encS Token.enc)), .int .i64 left] h R ↔ R (.int .i64 (szr left (WS (WS Token.W) xs))) h :=
  call_pure (af := ac145) rfl (tplSz_ok (es := 1) (g := false) (f := 165) (encS_ok Token.enc).toEncOk (by omega) (.inr rfl) (Nat.le_trans hx.1 (by decide)) (WS Token.W) h0 h1 h c (fun i hi l R a b => szTokenS_iff (nth xs i) (hx.2 _ (nth_mem hi)) l a b h none R))
theorem eqTokenSS_iff (xs ys : List (List Token)) (hW : WS (WS Token.W) xs ≤ 67108864) (h : AH) (c d : Option Nat) (R : AV → AH → Prop) : CA 161 [.fs c (xs.map (encS Token.enc)), .fs d (ys.map (encS Token.enc))] h R ↔ R (.bool (decide (xs = ys))) h :=
  call_pure (af := ac161) rfl (tplEq_ok (es := 1) (g := false) (f := 113) (encS_ok Token.enc).toEncOk (by omega) (.inr rfl) (by have := WS_len (WS Token.W) xs; omega) h (fun i hi hj R => eqTokenS_iff (nth xs i) (nth ys i) (by have := WS_nth (WS Token.W) hi; omega) h none none R) c d)
set_option maxRecDepth 100000 in
theorem szLevel_iff' (a_cats : List Int) (a_binds : List Bind) (a_counts : List Int) (a_lens : List Int) (a_glues : List Glue) (a_toks : List (List Token)) (hx : Level.Ok ⟨a_cats, a_binds, a_counts, a_lens, a_glues, a_toks⟩) (left : Int) (h0 : 0 ≤ left) (h1 : left ≤ 1048576) (h : AH) (R : AV → AH → Prop) : CA 96 [.agg [.fs none (a_cats.map (encI .i64)), .fs none (a_binds.map Bind.enc), .fs none (a_counts.map (encI .i64)), .fs none (a_lens.map (encI .i64)), .fs none (a_glues.map Glue.enc), .fs none (a_toks.map (encS Token.enc))], .int .i64 left] h R ↔ R (.int .i64 (szr left (Level.W ⟨a_cats, a_binds, a_counts, a_lens, a_glues, a_toks⟩))) h := by
  refine ca_pure (af := ac96) rfl ?_
  have hmx : maxLen = 9223372036854775807 := by decide
  simp only [Level.Ok] at hx
  simp [ac96, Level.W]
  simp [szInt64S_iff _ hx.1.1 left (by omega) (by omega)]
  by_cases e0 : left < (a_cats.length : Nat)
  · have : szr left (a_cats.length + WS Bind.W a_binds + a_counts.length + a_lens.length + a_glues.length + WS (WS Token.W) a_toks) = -1 := szr_lt (by omega)
    simp [szr_lt e0, this]
  rw [szr_nonneg (show ((a_cats.length : Nat) : Int) ≤ left by omega)]
  simp [show ¬ (left - (a_cats.length : Nat)) < 0 by omega]
  simp [szBindS_iff _ hx.2.1 (left - (a_cats.length : Nat)) (by omega) (by omega)]
  by_cases e1 : (left - (a_cats.length : Nat)) < (WS Bind.W a_binds : Nat)
  · have : szr left (a_cats.length + WS Bind.W a_binds + a_counts.length + a_lens.length + a_glues.length + WS (WS Token.W) a_toks) = -1 := szr_lt (by omega)
    simp [szr_lt e1, this]
  rw [szr_nonneg (show ((WS Bind.W a_binds : Nat) : Int) ≤ (left - (a_cats.length : Nat)) by omega)]
  simp [show ¬ ((left - (a_cats.length : Nat)) - (WS Bind.W a_binds : Nat)) < 0 by omega]
  simp [szInt64S_iff _ hx.2.2.1.1 ((left - (a_cats.length : Nat)) - (WS Bind.W a_binds : Nat)) (by omega) (by omega)]
  by_cases e2 : ((left - (a_cats.length : Nat)) - (WS Bind.W a_binds : Nat)) < (a_counts.length : Nat)
  · have : szr left (a_cats.length + WS Bind.W a_binds + a_counts.length + a_lens.length + a_glues.length + WS (WS Token.W) a_toks) = -1 := szr_lt (by omega)
    simp [szr_lt e2, this]
  rw [szr_nonneg (show ((a_counts.length : Nat) : Int) ≤ ((left - (a_cats.length : Nat)) - (WS Bind.W a_binds : Nat)) by omega)]
  simp [show ¬ (((left - (a_cats.length : Nat)) - (WS Bind.W a_binds : Nat)) - (a_counts.length : Nat)) < 0 by omega]
  simp [szInt64S_iff _ hx.2.2.2.1.1 (((left - (a_cats.length : Nat)) - (WS Bind.W a_binds : Nat)) - (a_counts.length : Nat)) (by omega) (by omega)]
  by_cases e3 : (((left - (a_cats.length : Nat)) - (WS Bind.W a_binds : Nat)) - (a_counts.length : Nat)) < (a_lens.length : Nat)
  · have : szr left (a_cats.length + WS Bind.W a_binds + a_counts.length + a_lens.length + a_glues.length + WS (WS Token.W) a_toks) = -1 := szr_lt (by omega)
    simp [szr_lt e3, this]
  rw [szr_nonneg (show ((a_lens.length : Nat) : Int) ≤ (((left - (a_cats.length : Nat)) - (WS Bind.W a_binds : Nat)) - (a_counts.length : Nat)) by omega)]
  simp [show ¬ ((((left - (a_cats.length : Nat)) - (WS Bind.W a_binds : Nat)) - (a_counts.length : Nat)) - (a_lens.length : Nat)) < 0 by omega]
  simp [szGlueS_iff _ hx.2.2.2.2.1.1 ((((left - (a_cats.length : Nat)) - (WS Bind.W a_binds : Nat)) - (a_counts.length : Nat)) - (a_lens.length : Nat)) (by omega) (by omega)]
  by_cases e4 : ((((left - (a_cats.length : Nat)) - (WS Bind.W a_binds : Nat)) - (a_counts.length : Nat)) - (a_lens.length : Nat)) < (a_glues.length : Nat)
  · have : szr left (a_cats.length + WS Bind.W a_binds + a_counts.length + a_lens.length + a_glues.length + WS (WS Token.W) a_toks) = -1 := szr_lt (by omega)
    simp [szr_lt e4, this]
  rw [szr_nonneg (show ((a_glues.length : Nat) : Int) ≤ ((((left - (a_cats.length : Nat)) - (WS Bind.W a_binds : Nat)) - (a_counts.length : Nat)) - (a_lens.length : Nat)) by omega)]
  simp [show ¬ (((((left - (a_cats.length : Nat)) - (WS Bind.W a_binds : Nat)) - (a_counts.length : Nat)) - (a_lens.length : Nat)) - (a_glues.length : Nat)) < 0 by omega]
  simp [szTokenSS_iff _ hx.2.2.2.2.2 (((((left - (a_cats.length : Nat)) - (WS Bind.W a_binds : Nat)) - (a_counts.length : Nat)) - (a_lens.length : Nat)) - (a_glues.length : Nat)) (by omega) (by omega)]
  by_cases e5 : (((((left - (a_cats.length : Nat)) - (WS Bind.W a_binds : Nat)) - (a_counts.length : Nat)) - (a_lens.length : Nat)) - (a_glues.length : Nat)) < (WS (WS Token.W) a_toks : Nat)
  · have : szr left (a_cats.length + WS Bind.W a_binds + a_counts.length + a_lens.length + a_glues.length + WS (WS Token.W) a_toks) = -1 := szr_lt (by omega)
    simp [szr_lt e5, this]
  rw [szr_nonneg (show ((WS (WS Token.W) a_toks : Nat) : Int) ≤ (((((left - (a_cats.length : Nat)) - (WS Bind.W a_binds : Nat)) - (a_counts.length : Nat)) - (a_lens.length : Nat)) - (a_glues.length : Nat)) by omega)]
  simp [show ¬ ((((((left - (a_cats.length : Nat)) - (WS Bind.W a_binds : Nat)) - (a_counts.length : Nat)) - (a_lens.length : Nat)) - (a_glues.length : Nat)) - (WS (WS Token.W) a_toks : Nat)) < 0 by omega]
  all_goals (first | done | (rw [szr_nonneg (by omega)]; done) | (rw [szr_nonneg (by omega)]; omega))
theorem szLevel_iff (x : Level) (hx : x.Ok) (left : Int) (h0 : 0 ≤ left) (h1 : left ≤ 1048576) (h : AH) (R : AV → AH → Prop) : CA 96 [.agg x.enc, .int .i64 left] h R ↔ R (.int .i64 (szr left x.W)) h := szLevel_iff' _ _ _ _ _ _ hx left h0 h1 h R
set_option maxRecDepth 100000 in
theorem eqLevel_iff' (a_cats : List Int) (a_binds : List Bind) (a_counts : List Int) (a_lens : List Int) (a_glues : List Glue) (a_toks : List (List Token)) (b_cats : List Int) (b_binds : List Bind) (b_counts : List Int) (b_lens : List Int) (b_glues : List Glue) (b_toks : List (List Token)) (hW : Level.W ⟨a_cats, a_binds, a_counts, a_lens, a_glues, a_toks⟩ ≤ 67108864) (h : AH) (R : AV → AH → Prop) : CA 108 [.agg [.fs none (a_cats.map (encI .i64)), .fs none (a_binds.map Bind.enc), .fs none (a_counts.map (encI .i64)), .fs none (a_lens.map (encI .i64)), .fs none (a_glues.map Glue.enc), .fs none (a_toks.map (encS Token.enc))], .agg [.fs none (b_cats.map (encI .i64)), .fs none (b_binds.map Bind.enc), .fs none (b_counts.map (encI .i64)), .fs none (b_lens.map (encI .i64)), .fs none (b_glues.map Glue.enc), .fs none (b_toks.map (encS Token.enc))]] h R ↔ R (.bool (decide ((⟨a_cats, a_binds, a_counts, a_lens, a_glues, a_toks⟩ : Level) = ⟨b_cats, b_binds, b_counts, b_lens, b_glues, b_toks⟩))) h := by
  refine ca_pure (af := ac108) rfl ?_
  simp only [Level.W] at hW
  (iterate 9 ((try simp [ac108, eqBindS_iff, eqGlueS_iff, eqInt64S_iff, eqTokenSS_iff, -Level.mk.injEq]); (try simp (disch := omega) [ac108, eqBindS_iff, eqGlueS_iff, eqInt64S_iff, eqTokenSS_iff, -Level.mk.injEq])))
  by_cases e_cats : (a_cats) = b_cats
  case neg =>
    rw [decide_eq_false (fun q => e_cats (congrArg Level.cats q))]
    (iterate 4 ((try simp [e_cats, eqBindS_iff, eqGlueS_iff, eqInt64S_iff, eqTokenSS_iff, -Level.mk.injEq]); (try simp (disch := omega) [e_cats, eqBindS_iff, eqGlueS_iff, eqInt64S_iff, eqTokenSS_iff, -Level.mk.injEq])))
  cases e_cats
  (iterate 4 ((try simp [eqBindS_iff, eqGlueS_iff, eqInt64S_iff, eqTokenSS_iff, -Level.mk.injEq]); (try simp (disch := omega) [eqBindS_iff, eqGlueS_iff, eqInt64S_iff, eqTokenSS_iff, -Level.mk.injEq])))
  by_cases e_binds : (a_binds) = b_binds
  case neg =>
    rw [decide_eq_false (fun q => e_binds (congrArg Level.binds q))]
    (iterate 4 ((try simp [e_binds, eqBindS_iff, eqGlueS_iff, eqInt64S_iff, eqTokenSS_iff, -Level.mk.injEq]); (try simp (disch := omega) [e_binds, eqBindS_iff, eqGlueS_iff, eqInt64S_iff, eqTokenSS_iff, -Level.mk.injEq])))
  cases e_binds
  (iterate 4 ((try simp [eqBindS_iff, eqGlueS_iff, eqInt64S_iff, eqTokenSS_iff, -Level.mk.injEq]); (try simp (disch := omega) [eqBindS_iff, eqGlueS_iff, eqInt64S_iff, eqTokenSS_iff, -Level.mk.injEq])))
  by_cases e_counts : (a_counts) = b_counts
  case neg =>
    rw [decide_eq_false (fun q => e_counts (congrArg Level.counts q))]
    (iterate 4 ((try simp [e_counts, eqBindS_iff, eqGlueS_iff, eqInt64S_iff, eqTokenSS_iff, -Level.mk.injEq]); (try simp (disch := omega) [e_counts, eqBindS_iff, eqGlueS_iff, eqInt64S_iff, eqTokenSS_iff, -Level.mk.injEq])))
  cases e_counts
  (iterate 4 ((try simp [eqBindS_iff, eqGlueS_iff, eqInt64S_iff, eqTokenSS_iff, -Level.mk.injEq]); (try simp (disch := omega) [eqBindS_iff, eqGlueS_iff, eqInt64S_iff, eqTokenSS_iff, -Level.mk.injEq])))
  by_cases e_lens : (a_lens) = b_lens
  case neg =>
    rw [decide_eq_false (fun q => e_lens (congrArg Level.lens q))]
    (iterate 4 ((try simp [e_lens, eqBindS_iff, eqGlueS_iff, eqInt64S_iff, eqTokenSS_iff, -Level.mk.injEq]); (try simp (disch := omega) [e_lens, eqBindS_iff, eqGlueS_iff, eqInt64S_iff, eqTokenSS_iff, -Level.mk.injEq])))
  cases e_lens
  (iterate 4 ((try simp [eqBindS_iff, eqGlueS_iff, eqInt64S_iff, eqTokenSS_iff, -Level.mk.injEq]); (try simp (disch := omega) [eqBindS_iff, eqGlueS_iff, eqInt64S_iff, eqTokenSS_iff, -Level.mk.injEq])))
  by_cases e_glues : (a_glues) = b_glues
  case neg =>
    rw [decide_eq_false (fun q => e_glues (congrArg Level.glues q))]
    (iterate 4 ((try simp [e_glues, eqBindS_iff, eqGlueS_iff, eqInt64S_iff, eqTokenSS_iff, -Level.mk.injEq]); (try simp (disch := omega) [e_glues, eqBindS_iff, eqGlueS_iff, eqInt64S_iff, eqTokenSS_iff, -Level.mk.injEq])))
  cases e_glues
  (iterate 4 ((try simp [eqBindS_iff, eqGlueS_iff, eqInt64S_iff, eqTokenSS_iff, -Level.mk.injEq]); (try simp (disch := omega) [eqBindS_iff, eqGlueS_iff, eqInt64S_iff, eqTokenSS_iff, -Level.mk.injEq])))
  by_cases e_toks : (a_toks) = b_toks
  case neg =>
    rw [decide_eq_false (fun q => e_toks (congrArg Level.toks q))]
    (iterate 4 ((try simp [e_toks, eqBindS_iff, eqGlueS_iff, eqInt64S_iff, eqTokenSS_iff, -Level.mk.injEq]); (try simp (disch := omega) [e_toks, eqBindS_iff, eqGlueS_iff, eqInt64S_iff, eqTokenSS_iff, -Level.mk.injEq])))
  cases e_toks
  (iterate 4 ((try simp [eqBindS_iff, eqGlueS_iff, eqInt64S_iff, eqTokenSS_iff, -Level.mk.injEq]); (try simp (disch := omega) [eqBindS_iff, eqGlueS_iff, eqInt64S_iff, eqTokenSS_iff, -Level.mk.injEq])))
theorem eqLevel_iff (x y : Level) (hW : x.W ≤ 67108864) (h : AH) (R : AV → AH → Prop) : CA 108 [.agg x.enc, .agg y.enc] h R ↔ R (.bool (decide (x = y))) h := eqLevel_iff' _ _ _ _ _ _ _ _ _ _ _ _ hW h R
theorem szLevelS_iff (xs : List Level) (hx : xs.length ≤ maxLen ∧ ∀ y ∈ xs, Level.Ok y) (left : Int) (h0 : 0 ≤ left) (h1 : left ≤ 1048576) (h : AH) (c : Option Nat) (R : AV → AH → Prop) : CA 41 [.fs c (xs.map Level.enc), .int .i64 left] h R ↔ R (.int .i64 (szr left (WS Level.W xs))) h :=
  call_pure (af := ac41) rfl (tplSz_ok (es := 6) (g := true) (f := 96) Level.ok.toEncOk (by omega) (.inl rfl) (Nat.le_trans hx.1 (by decide)) Level.W h0 h1 h c (fun i hi l R a b => szLevel_iff (nth xs i) (hx.2 _ (nth_mem hi)) l a b h R))
theorem eqLevelS_iff (xs ys : List Level) (hW : WS Level.W xs ≤ 67108864) (h : AH) (c d : Option Nat) (R : AV → AH → Prop) : CA 45 [.fs c (xs.map Level.enc), .fs d (ys.map Level.enc)] h R ↔ R (.bool (decide (xs = ys))) h :=
  call_pure (af := ac45) rfl (tplEq_ok (es := 6) (g := true) (f := 108) Level.ok.toEncOk (by omega) (.inl rfl) (by have := WS_len Level.W xs; omega) h (fun i hi hj R => eqLevel_iff (nth xs i) (nth ys i) (by have := WS_nth Level.W hi; omega) h R) c d)
set_option maxRecDepth 100000 in
theorem szEnv_iff' (a_levels : List Level) (hx : Env.Ok ⟨a_levels⟩) (left : Int) (h0 : 0 ≤ left) (h1 : left ≤ 1048576) (h : AH) (R : AV → AH → Prop) : CA 11 [.agg [.fs none (a_levels.map Level.enc)], .int .i64 left] h R ↔ R (.int .i64 (szr left (Env.W ⟨a_levels⟩))) h := by
  refine ca_pure (af := ac11) rfl ?_
  have hmx : maxLen = 9223372036854775807 := by decide
  simp only [Env.Ok] at hx
  simp [ac11, Env.W]
  simp [szLevelS_iff _ hx left (by omega) (by omega)]
  by_cases e0 : left < (WS Level.W a_levels : Nat)
  · have : szr left (WS Level.W a_levels) = -1 := szr_lt (by omega)
    simp [szr_lt e0, this]
  rw [szr_nonneg (show ((WS Level.W a_levels : Nat) : Int) ≤ left by omega)]
  simp [show ¬ (left - (WS Level.W a_levels : Nat)) < 0 by omega]
  all_goals (first | done | (rw [szr_nonneg (by omega)]; done) | (rw [szr_nonneg (by omega)]; omega))
theorem szEnv_iff (x : Env) (hx : x.Ok) (left : Int) (h0 : 0 ≤ left) (h1 : left ≤ 1048576) (h : AH) (R : AV → AH → Prop) : CA 11 [.agg x.enc, .int .i64 left] h R ↔ R (.int .i64 (szr left x.W)) h := szEnv_iff' _ hx left h0 h1 h R
set_option maxRecDepth 100000 in
theorem eqEnv_iff' (a_levels : List Level) (b_levels : List Level) (hW : Env.W ⟨a_levels⟩ ≤ 67108864) (h : AH) (R : AV → AH → Prop) : CA 15 [.agg [.fs none (a_levels.map Level.enc)], .agg [.fs none (b_levels.map Level.enc)]] h R ↔ R (.bool (decide ((⟨a_levels⟩ : Env) = ⟨b_levels⟩))) h := by
  refine ca_pure (af := ac15) rfl ?_
  simp only [Env.W] at hW
  (iterate 9 ((try simp [ac15, eqLevelS_iff, -Env.mk.injEq]); (try simp (disch := omega) [ac15, eqLevelS_iff, -Env.mk.injEq])))
  by_cases e_levels : (a_levels) = b_levels
  case neg =>
    rw [decide_eq_false (fun q => e_levels (congrArg Env.levels q))]
    (iterate 4 ((try simp [e_levels, eqLevelS_iff, -Env.mk.injEq]); (try simp (disch := omega) [e_levels, eqLevelS_iff, -Env.mk.injEq])))
  cases e_levels
  (iterate 4 ((try simp [eqLevelS_iff, -Env.mk.injEq]); (try simp (disch := omega) [eqLevelS_iff, -Env.mk.injEq])))
theorem eqEnv_iff (x y : Env) (hW : x.W ≤ 67108864) (h : AH) (R : AV → AH → Prop) : CA 15 [.agg x.enc, .agg y.enc] h R ↔ R (.bool (decide (x = y))) h := eqEnv_iff' _ _ hW h R
end Go.Proofs.Ytojmemlbajnhhaa
