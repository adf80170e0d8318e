/- Contracts: a page. -/
import Derived.Test.YtnaainlddcpfgaaLPageBreaks
namespace Go.Proofs.Ytnaainlddcpfgaa
open Go Go.Am Go.Proofs
set_option linter.all false

structure Sh where
  height : Int
  deep : Int
  size : Int
  plus : Int
  plusO : Int
  minus : Int
  minusO : Int
  notes : Int
def Sh.enc (x : Sh) : List AV := [.int .i64 x.height, .int .i64 x.deep, .int .i64 x.size, .int .i64 x.plus, .int .i64 x.plusO, .int .i64 x.minus, .int .i64 x.minusO, .int .i64 x.notes]

theorem toSheet_iff (x : Sh) (h : AH) (R : AV → AH → Prop) : CA 32 [.agg x.enc] h R ↔ R (.agg x.enc) h := by
  refine ca_pure (af := ac32) rfl ?_
  simp [ac32, Sh.enc, toGlue_iff]
def lenB (n : Int) : Bool := decide (0 ≤ n ∧ n ≤ 1073741823)
theorem oLen_iff (n : Int) (h : AH) (R : AV → AH → Prop) : CA 101 [.int .i64 n] h R ↔ R (.bool (lenB n)) h := by
  refine ca_pure (af := ac101) rfl ?_
  simp [ac101, lenB]
  repeat' (first
    | (with_reducible refine condR_splitND ?_ ?_ <;> intro e_ <;> (try simp [*]))
    | (with_reducible refine condR_splitD ?_ ?_ <;> intro e_ <;> (try simp [*]))
    | (with_reducible refine condR_splitN ?_ ?_ <;> intro e_ <;> (try simp [*]))
    | (with_reducible refine condR_split ?_ ?_ <;> intro e_ <;> (try simp [*]))
    | (with_reducible refine guardR_splitT ?_ ?_ <;> intro e_ <;> (try simp [*]))
    | (with_reducible refine guardR_splitF ?_ ?_ <;> intro e_ <;> (try simp [*]))
    | (with_reducible refine guardR_splitNT ?_ ?_ <;> intro e_ <;> (try simp [*]))
    | (with_reducible refine guardR_splitNF ?_ ?_ <;> intro e_ <;> (try simp [*]))
    | (with_reducible refine guardR_sT ?_ ?_ <;> intro e_ <;> (try simp [*]))
    | (with_reducible refine guardR_sF ?_ ?_ <;> intro e_ <;> (try simp [*])))
def sheetB (x : Sh) : Bool := lenB x.height && lenB x.deep && lenB x.notes && glueB x.size x.plus x.plusO x.minus x.minusO
theorem sheetOk_iff (x : Sh) (h : AH) (R : AV → AH → Prop) : CA 81 [.agg x.enc] h R ↔ R (.bool (sheetB x)) h := by
  refine ca_pure (af := ac81) rfl ?_
  simp [ac81, Sh.enc, sheetB, oLen_iff]
  repeat' (first
    | (with_reducible refine condR_splitND ?_ ?_ <;> intro e_ <;> (try simp [*, oLen_iff, glueOk_iff]))
    | (with_reducible refine condR_splitD ?_ ?_ <;> intro e_ <;> (try simp [*, oLen_iff, glueOk_iff]))
    | (with_reducible refine condR_splitN ?_ ?_ <;> intro e_ <;> (try simp [*, oLen_iff, glueOk_iff]))
    | (with_reducible refine condR_split ?_ ?_ <;> intro e_ <;> (try simp [*, oLen_iff, glueOk_iff]))
    | (with_reducible refine guardR_splitT ?_ ?_ <;> intro e_ <;> (try simp [*, oLen_iff, glueOk_iff]))
    | (with_reducible refine guardR_splitF ?_ ?_ <;> intro e_ <;> (try simp [*, oLen_iff, glueOk_iff]))
    | (with_reducible refine guardR_splitNT ?_ ?_ <;> intro e_ <;> (try simp [*, oLen_iff, glueOk_iff]))
    | (with_reducible refine guardR_splitNF ?_ ?_ <;> intro e_ <;> (try simp [*, oLen_iff, glueOk_iff]))
    | (with_reducible refine guardR_sT ?_ ?_ <;> intro e_ <;> (try simp [*, oLen_iff, glueOk_iff]))
    | (with_reducible refine guardR_sF ?_ ?_ <;> intro e_ <;> (try simp [*, oLen_iff, glueOk_iff])))
theorem l10SheetOk_iff (x : Sh) (h : AH) (R : AV → AH → Prop) : CA 79 [.agg x.enc] h R ↔ R (.bool (sheetB x)) h := by
  refine ca_pure (af := ac79) rfl ?_
  simp [ac79, Sh.enc, sheetB, lenB]
  repeat' (first
    | (with_reducible refine condR_splitND ?_ ?_ <;> intro e_ <;> (try simp [*, l1GlueOk_iff]))
    | (with_reducible refine condR_splitD ?_ ?_ <;> intro e_ <;> (try simp [*, l1GlueOk_iff]))
    | (with_reducible refine condR_splitN ?_ ?_ <;> intro e_ <;> (try simp [*, l1GlueOk_iff]))
    | (with_reducible refine condR_split ?_ ?_ <;> intro e_ <;> (try simp [*, l1GlueOk_iff]))
    | (with_reducible refine guardR_splitT ?_ ?_ <;> intro e_ <;> (try simp [*, l1GlueOk_iff]))
    | (with_reducible refine guardR_splitF ?_ ?_ <;> intro e_ <;> (try simp [*, l1GlueOk_iff]))
    | (with_reducible refine guardR_splitNT ?_ ?_ <;> intro e_ <;> (try simp [*, l1GlueOk_iff]))
    | (with_reducible refine guardR_splitNF ?_ ?_ <;> intro e_ <;> (try simp [*, l1GlueOk_iff]))
    | (with_reducible refine guardR_sT ?_ ?_ <;> intro e_ <;> (try simp [*, l1GlueOk_iff]))
    | (with_reducible refine guardR_sF ?_ ?_ <;> intro e_ <;> (try simp [*, l1GlueOk_iff])))
  all_goals (first | (simp_all; done) | omega | grind | skip)

def beginI (xss : List (List Nd)) : Nat → Nat → Nat → Nat
  | 0, i, _ => i
  | f + 1, i, t => if i < t ∧ discB (headN xss i).kind = true then beginI xss f (i + 1) t else i
theorem beginI_le (xss : List (List Nd)) : ∀ (f i t : Nat), i ≤ t → i ≤ beginI xss f i t ∧ beginI xss f i t ≤ t
  | 0, i, t, h => ⟨Nat.le_refl _, h⟩
  | f + 1, i, t, h => by
    unfold beginI
    split
    · rename_i e
      have := beginI_le xss f (i + 1) t e.1
      omega
    · omega
theorem beginI_end (xss : List (List Nd)) (f i t : Nat) (h : ¬ (i < t ∧ discB (headN xss i).kind = true)) : beginI xss f i t = i := by
  cases f with
  | zero => rfl
  | succ f => unfold beginI; rw [if_neg h]

set_option maxRecDepth 100000 in
theorem oBegin_iff {h : AH} {v : AV} {vs : List AV} {xss : List (List Nd)} (H : Rss h v vs xss) (hne : ∀ i, i < xss.length → 0 < (nth xss i).length) (hb : xss.length ≤ 1048576) (i0 t : Nat) (hi : i0 ≤ t) (ht : t ≤ xss.length) (R : AV → AH → Prop) :
    CA 82 [v, .int .i64 i0, .int .i64 t] h R ↔ R (.int .i64 (beginI xss (t - i0) i0 t : Nat)) h := by
  refine ca_pure (af := ac82) rfl ?_
  simp [ac82]
  refine awp_loop2 ca_mono (fun n s h' => h' = h ∧ ∃ i : Nat, n = t - i ∧ i ≤ t ∧ (s 0 = v ∧ s 1 = .int .i64 i ∧ s 2 = .int .i64 t) ∧ beginI xss (t - i0) i0 t = beginI xss (t - i) i t) ?_ (n := t - i0) ⟨rfl, i0, rfl, hi, by simp, rfl⟩
  rintro n s h' ⟨rfl, i, rfl, hi, ⟨s0, s1, s2⟩, hbg⟩ K hK hE hQ
  simp [s1, s2]
  by_cases hlt : i < t
  · have Hi := H.inn i (by omega)
    have hs := rs_slv Hi
    have hn := hne i (by omega)
    have l1 : i < vs.length := by rw [H.len]; omega
    have hh : nth (nth xss i) 0 = headN xss i := rfl
    have hd := fun a1 a2 a3 a4 a5 a6 a7 a8 a9 a10 a11 a12 a13 a14 a15 => oDiscard_iff ⟨a1, a2, a3, a4, a5, a6, a7, a8, a9, a10, a11, a12, a13, a14, a15⟩
    simp only [Nd.enc] at hd
    (iterate 4 ((try simp [hlt, s0, s1, s2, H.out.iaddr, H.out.load1, encV, hs, Hi.iaddr, Hi.load, hn, hh, Nd.enc, hd]); (try simp (disch := omega) [hlt, s0, s1, s2, H.out.iaddr, H.out.load1, encV, hs, Hi.iaddr, Hi.load, hn, hh, Nd.enc, hd])))
    cases hdc : discB (headN xss i).kind with
    | true =>
      (iterate 4 ((try simp [s1, wrap_i64]); (try simp (disch := omega) [s1, wrap_i64])))
      refine hK (t - (i + 1)) _ _ (by omega) ⟨rfl, i + 1, rfl, by omega, ⟨by simp [s0], by simp, by simp [s2]⟩, ?_⟩
      rw [hbg, show t - i = (t - (i + 1)) + 1 by omega, beginI, if_pos ⟨hlt, hdc⟩]
    | false =>
      simp [hE, s1]
      rw [hbg, beginI_end _ _ _ _ (fun e => by rw [hdc] at e; exact absurd e.2 (by simp))]
  · simp [hlt, hE, s1]
    rw [hbg, beginI_end _ _ _ _ (fun e => hlt e.1)]
set_option maxRecDepth 100000 in
theorem l10Begin_iff {h : AH} {v : AV} {vs : List AV} {xss : List (List Nd)} (H : Rss h v vs xss) (hne : ∀ i, i < xss.length → 0 < (nth xss i).length) (hb : xss.length ≤ 1048576) (i0 t : Nat) (hi : i0 ≤ t) (ht : t ≤ xss.length) (R : AV → AH → Prop) :
    CA 80 [v, .int .i64 i0, .int .i64 t] h R ↔ R (.int .i64 (beginI xss (t - i0) i0 t : Nat)) h := by
  refine ca_pure (af := ac80) rfl ?_
  simp [ac80]
  refine awp_loop2 ca_mono (fun n s h' => h' = h ∧ ∃ i : Nat, n = t - i ∧ i ≤ t ∧ (s 0 = v ∧ s 1 = .int .i64 i ∧ s 2 = .int .i64 t) ∧ beginI xss (t - i0) i0 t = beginI xss (t - i) i t) ?_ (n := t - i0) ⟨rfl, i0, rfl, hi, by simp, rfl⟩
  rintro n s h' ⟨rfl, i, rfl, hi, ⟨s0, s1, s2⟩, hbg⟩ K hK hE hQ
  simp [s1, s2]
  by_cases hlt : i < t
  · have Hi := H.inn i (by omega)
    have hs := rs_slv Hi
    have hn := hne i (by omega)
    have l1 : i < vs.length := by rw [H.len]; omega
    have hh : nth (nth xss i) 0 = headN xss i := rfl
    have hd := fun a1 a2 a3 a4 a5 a6 a7 a8 a9 a10 a11 a12 a13 a14 a15 => l9Discard_iff ⟨a1, a2, a3, a4, a5, a6, a7, a8, a9, a10, a11, a12, a13, a14, a15⟩
    simp only [Nd.enc] at hd
    (iterate 4 ((try simp [hlt, s0, s1, s2, H.out.iaddr, H.out.load1, encV, hs, Hi.iaddr, Hi.load, hn, hh, Nd.enc, hd]); (try simp (disch := omega) [hlt, s0, s1, s2, H.out.iaddr, H.out.load1, encV, hs, Hi.iaddr, Hi.load, hn, hh, Nd.enc, hd])))
    cases hdc : discB (headN xss i).kind with
    | true =>
      (iterate 4 ((try simp [s1, wrap_i64]); (try simp (disch := omega) [s1, wrap_i64])))
      refine hK (t - (i + 1)) _ _ (by omega) ⟨rfl, i + 1, rfl, by omega, ⟨by simp [s0], by simp, by simp [s2]⟩, ?_⟩
      rw [hbg, show t - i = (t - (i + 1)) + 1 by omega, beginI, if_pos ⟨hlt, hdc⟩]
    | false =>
      simp [hE, s1]
      rw [hbg, beginI_end _ _ _ _ (fun e => by rw [hdc] at e; exact absurd e.2 (by simp))]
  · simp [hlt, hE, s1]
    rw [hbg, beginI_end _ _ _ _ (fun e => hlt e.1)]

/-! ### the page itself -/
def pgOut (xss : List (List Nd)) (a : Nat) : Nat → List Nd
  | 0 => []
  | n + 1 => pgOut xss a n ++ (if (headN xss (a + n)).kind = 11 then [] else nth xss (a + n))
def pgNotes (xss : List (List Nd)) (a : Nat) : Nat → List Nd
  | 0 => []
  | n + 1 => pgNotes xss a n ++ (if (headN xss (a + n)).kind = 11 then (nth xss (a + n)).drop 1 else [])
def pgSome (xss : List (List Nd)) (a : Nat) : Nat → Bool
  | 0 => false
  | n + 1 => pgSome xss a n || decide ((headN xss (a + n)).kind = 11)
def gapN (g : Sh) : Nd := ⟨3, 0, 0, 0, 0, 0, 0, 0, g.size, g.plus, g.plusO, g.minus, g.minusO, ⟨#[]⟩, 0⟩
def pageL (xss : List (List Nd)) (g : Sh) (i0 t : Nat) : List Nd :=
  let a := beginI xss (t - i0) i0 t
  if pgSome xss a (t - a) then pgOut xss a (t - a) ++ [gapN g] ++ pgNotes xss a (t - a) else pgOut xss a (t - a)
theorem pg_len (xss : List (List Nd)) (a : Nat) : ∀ n, a + n ≤ xss.length → (pgOut xss a n).length + (pgNotes xss a n).length ≤ tot (xss.take (a + n))
  | 0, h => by simp [pgOut, pgNotes]
  | n + 1, h => by
    have ih := pg_len xss a n (by omega)
    have := tot_succ xss (i := a + n) (by omega)
    rw [show a + (n + 1) = a + n + 1 by omega, this]
    simp only [pgOut, pgNotes, List.length_append]
    split <;> simp <;> omega

/-- An append, and another row beside it. -/
theorem rn_append2 {α : Type} {h0 h : AH} {es : Nat} {enc : α → List AV} {v : AV} {xs : List α} (H : Rn h0 es enc h v xs) (hle : h0.le h) {y : AV} {ys : List α} (Hy : Rs es enc h y ys) (bytes : Nat) (hb : (xs.length + ys.length) * bytes ≤ 2 ^ 47) (hb2 : xs.length + ys.length ≤ 2 ^ 47)
    {w : AV} {ws : List α} (N : Rn h0 es enc h w ws) (hne : ∀ b, blk w = some b → blk v ≠ some b) :
    ∃ v' h', appendA es bytes v y h = some (v', h') ∧ h0.le h' ∧ Rn h0 es enc h' v' (xs ++ ys) ∧ Rn h0 es enc h' w ws ∧ ∀ b, blk w = some b → blk v' ≠ some b := by
  obtain ⟨v', h', e, hn, hf, hv⟩ := H.own.q.append Hy bytes hb hb2
  refine ⟨v', h', e, ⟨Nat.le_trans hle.1 hn, fun c hc => ?_⟩, ?_, ?_, ?_⟩
  · exact (hf c (Nat.lt_of_lt_of_le hc hle.1) (fun e => absurd (H.new c e) (by omega))).trans (hle.2 c hc)
  · rcases hv with ⟨rfl, rfl, rfl⟩ | ⟨_, hv, ho, _⟩
    · simpa using H
    · exact ⟨ho, fun b hb => by rw [hv] at hb; cases hb; exact hle.1⟩
  · exact N.frame fun b hb => hf b (N.own.lt hb) (hne b hb)
  · intro b hb
    rcases hv with ⟨_, rfl, _⟩ | ⟨_, hv, _, _⟩
    · exact hne b hb
    · rw [hv]; have := N.own.lt hb; simp; omega

set_option maxRecDepth 100000 in
set_option maxHeartbeats 1000000 in
theorem oPage_ok {h : AH} {v : AV} {vs : List AV} {xss : List (List Nd)} (H : Rss h v vs xss) (hne : ∀ i, i < xss.length → 0 < (nth xss i).length) (hb : xss.length ≤ 1048576) (hbt : tot xss ≤ 1048576) (g : Sh) (i0 t : Nat) (hi0 : i0 ≤ t) (ht : t ≤ xss.length) {R : AV → AH → Prop}
    (hR : ∀ v' h', h.le h' → Rn h 15 Nd.enc h' v' (pageL xss g i0 t) → R v' h') : CA 60 [v, .agg g.enc, .int .i64 i0, .int .i64 t] h R := by
  rw [ca_iff (af := ac60) rfl]
  obtain ⟨ba, bt⟩ := beginI_le xss (t - i0) i0 t hi0
  have hbeg := fun R => oBegin_iff H hne hb i0 t hi0 ht R
  simp [ac60, hbeg, Sh.enc]
  revert hR ba bt
  unfold pageL
  generalize beginI xss (t - i0) i0 t = a
  intro hR ba bt
  refine awp_loop2 ca_mono (fun m s h' => ∃ n : Nat, m = t - (a + n) ∧ a + n ≤ t ∧ (s 0 = v ∧ s 3 = .int .i64 t ∧ s 11 = .bool (pgSome xss a n) ∧ s 12 = .int .i64 (a + n : Nat) ∧ s 100005 = .agg g.enc) ∧ h.le h' ∧ Rn h 15 Nd.enc h' (s 9) (pgOut xss a n) ∧ Rn h 15 Nd.enc h' (s 10) (pgNotes xss a n) ∧ (∀ b, blk (s 9) = some b → blk (s 10) ≠ some b)) ?_ (n := t - a) ⟨0, by simp, by simpa using bt, by simp [Sh.enc, pgSome], AH.le_refl _, by simpa [pgOut] using Rn.nils Nd.ok h h, by simpa [pgNotes] using Rn.nils Nd.ok h h, by simp [blk]⟩
  rintro m s h' ⟨n, rfl, hn, ⟨s0, s3, s11, s12, sg⟩, hle, No, Nn, hsep⟩ K hK hE hQ
  have S := H.le hle
  simp [s12, s3]
  refine condR_splitD ?_ ?_ <;> intro hlt
  · have hlt : a + n < t := by omega
    have Hi := S.inn (a + n) (by omega)
    have hs := rs_slv Hi
    have hni := hne (a + n) (by omega)
    have l1 : a + n < vs.length := by rw [H.len]; omega
    have e1 : ((a : Int) + n).toNat = a + n := by omega
    have hh : nth (nth xss (a + n)) 0 = headN xss (a + n) := rfl
    have hpl := pg_len xss a n (by omega)
    have hts := tot_succ xss (i := a + n) (by omega)
    have htl := tot_le xss (a + n + 1)
    (iterate 4 ((try simp [s0, s12, S.out.iaddr, S.out.load1, e1, encV, hs, Hi.iaddr, Hi.load1, hni, hh, Nd.enc]); (try simp (disch := omega) [s0, s12, S.out.iaddr, S.out.load1, e1, encV, hs, Hi.iaddr, Hi.load1, hni, hh, Nd.enc])))
    refine condR_splitD ?_ ?_ <;> intro hk
    · have Hc := Hi.cut (i := 1) (j := (nth xss (a + n)).length) (by omega) (Nat.le_refl _)
      rw [List.take_of_length_le (by simp)] at Hc
      obtain ⟨v2, h2, ea, hle2, Nn2, No2, hs2⟩ := rn_append2 Nn hle Hc 128 (by simp; omega) (by simp; omega) No hsep
      (iterate 4 ((try simp [s0, s12, S.out.iaddr, S.out.load1, e1, encV, hs, Hi.sliceLo, ea, hE, wrap_i64]); (try simp (disch := omega) [s0, s12, S.out.iaddr, S.out.load1, e1, encV, hs, Hi.sliceLo, ea, hE, wrap_i64])))
      refine hK (t - (a + (n + 1))) _ _ (by omega) ⟨n + 1, rfl, by omega, ⟨by simp [s0], by simp [s3], by simp [pgSome, hk], by simp; omega, by simp [sg]⟩, hle2, ?_, ?_, by simpa using hs2⟩
      · simp only [pgOut, hk, if_true, List.append_nil]; simpa using No2
      · simp only [pgNotes, hk, if_true]; simpa using Nn2
    · obtain ⟨v2, h2, ea, hle2, No2, Nn2, hs2⟩ := rn_append2 No hle Hi 128 (by omega) (by omega) Nn (fun b hb1 hb2 => hsep b hb2 hb1)
      (iterate 4 ((try simp [s0, s12, S.out.iaddr, S.out.load1, e1, encV, hs, ea, hE, wrap_i64]); (try simp (disch := omega) [s0, s12, S.out.iaddr, S.out.load1, e1, encV, hs, ea, hE, wrap_i64])))
      refine hK (t - (a + (n + 1))) _ _ (by omega) ⟨n + 1, rfl, by omega, ⟨by simp [s0], by simp [s3], by simp [pgSome, hk, s11], by simp; omega, by simp [sg]⟩, hle2, ?_, ?_, fun b hb1 hb2 => hs2 b (by simpa using hb2) (by simpa using hb1)⟩
      · simp only [pgOut, hk, if_false]; simpa using No2
      · simp only [pgNotes, hk, if_false, List.append_nil]; simpa using Nn2
  · have hna : n = t - a := by omega
    have hpl := pg_len xss a n (by omega)
    have htl := tot_le xss (a + n)
    simp [hE, s11]
    cases hsm : pgSome xss a n with
    | false =>
      simp
      exact hR _ _ hle (by simp only [← hna, hsm]; exact No)
    | true =>
      have hcs : [AV.int .i64 3, .int .i64 0, .int .i64 0, .int .i64 0, .int .i64 0, .int .i64 0, .int .i64 0, .int .i64 0, .int .i64 g.size, .int .i64 g.plus, .int .i64 g.plusO, .int .i64 g.minus, .int .i64 g.minusO, .str ⟨#[]⟩, .int .i64 0] = (gapN g).enc := rfl
      obtain ⟨v2, h2, ea, hle2, No2, _, hbk, hn2, hf2⟩ := No.append1 hle (gapN g) _ hcs 128 (by omega) (by omega)
      have Nn2 : Rn h 15 Nd.enc h2 (s 10) (pgNotes xss a n) := Nn.frame fun b hb1 => hf2 b (Nn.own.lt hb1) (fun e => hsep b e hb1)
      obtain ⟨v3, h3, ea3, hle3, No3, _⟩ := No2.append hle2 Nn2.rows 128 (by simp; omega) (by simp; omega)
      (iterate 4 ((try simp [sg, Sh.enc, bslice1, ea, ea3]); (try simp (disch := omega) [sg, Sh.enc, bslice1, ea, ea3])))
      exact hR _ _ hle3 (by simp only [← hna, hsm, if_true]; exact No3)

set_option maxRecDepth 100000 in
set_option maxHeartbeats 1000000 in
theorem l10Page_ok {h : AH} {v : AV} {vs : List AV} {xss : List (List Nd)} (H : Rss h v vs xss) (hne : ∀ i, i < xss.length → 0 < (nth xss i).length) (hb : xss.length ≤ 1048576) (hbt : tot xss ≤ 1048576) (g : Sh) (i0 t : Nat) (hi0 : i0 ≤ t) (ht : t ≤ xss.length) {R : AV → AH → Prop}
    (hR : ∀ v' h', h.le h' → Rn h 15 Nd.enc h' v' (pageL xss g i0 t) → R v' h') : CA 57 [v, .agg g.enc, .int .i64 i0, .int .i64 t] h R := by
  rw [ca_iff (af := ac57) rfl]
  obtain ⟨ba, bt⟩ := beginI_le xss (t - i0) i0 t hi0
  have hbeg := fun h1 (l1 : h.le h1) R => l10Begin_iff (H.le l1) hne hb i0 t hi0 ht R
  have f1 := Rn.fresh (h0 := h) (h := h) (es := 15) (enc := Nd.enc) (xs := []) (n := 0) Nd.ok (AH.le_refl h) rfl
  have l1 := AH.le_new h (.cells true (([] : List Nd).flatMap Nd.enc))
  have f2 := Rn.fresh (h0 := h) (h := h.new (.cells true (([] : List Nd).flatMap Nd.enc))) (es := 15) (enc := Nd.enc) (xs := []) (n := 0) Nd.ok l1 rfl
  have l2 := AH.new_le_of l1 (.cells true (([] : List Nd).flatMap Nd.enc))
  have f1 := f1.le (AH.le_new (h.new (.cells true (([] : List Nd).flatMap Nd.enc))) (.cells true (([] : List Nd).flatMap Nd.enc)))
  simp only [List.flatMap_nil] at f1 f2 l1 l2
  have hbeg2 := hbeg _ l2
  simp [ac57, hbeg2, Sh.enc]
  revert hR ba bt
  unfold pageL
  generalize beginI xss (t - i0) i0 t = a
  intro hR ba bt
  refine awp_loop2 ca_mono (fun m s h' => ∃ n : Nat, m = t - (a + n) ∧ a + n ≤ t ∧ (s 0 = v ∧ s 3 = .int .i64 t ∧ s 11 = .bool (pgSome xss a n) ∧ s 12 = .int .i64 (a + n : Nat) ∧ s 100005 = .agg g.enc) ∧ h.le h' ∧ Rn h 15 Nd.enc h' (s 9) (pgOut xss a n) ∧ Rn h 15 Nd.enc h' (s 10) (pgNotes xss a n) ∧ (∀ b, blk (s 9) = some b → blk (s 10) ≠ some b)) ?_ (n := t - a) ⟨0, by simp, by simpa using bt, by simp [Sh.enc, pgSome], l2, by simpa [pgOut] using f1, by simpa [pgNotes] using f2, by simp [blk, AH.next_new]⟩
  rintro m s h' ⟨n, rfl, hn, ⟨s0, s3, s11, s12, sg⟩, hle, No, Nn, hsep⟩ K hK hE hQ
  have S := H.le hle
  simp [s12, s3]
  refine condR_splitD ?_ ?_ <;> intro hlt
  · have hlt : a + n < t := by omega
    have Hi := S.inn (a + n) (by omega)
    have hs := rs_slv Hi
    have hni := hne (a + n) (by omega)
    have l1 : a + n < vs.length := by rw [H.len]; omega
    have e1 : ((a : Int) + n).toNat = a + n := by omega
    have hh : nth (nth xss (a + n)) 0 = headN xss (a + n) := rfl
    have hpl := pg_len xss a n (by omega)
    have hts := tot_succ xss (i := a + n) (by omega)
    have htl := tot_le xss (a + n + 1)
    (iterate 4 ((try simp [s0, s12, S.out.iaddr, S.out.load1, e1, encV, hs, Hi.iaddr, Hi.load1, hni, hh, Nd.enc]); (try simp (disch := omega) [s0, s12, S.out.iaddr, S.out.load1, e1, encV, hs, Hi.iaddr, Hi.load1, hni, hh, Nd.enc])))
    refine condR_splitD ?_ ?_ <;> intro hk
    · have Hc := Hi.cut (i := 1) (j := (nth xss (a + n)).length) (by omega) (Nat.le_refl _)
      rw [List.take_of_length_le (by simp)] at Hc
      obtain ⟨v2, h2, ea, hle2, Nn2, No2, hs2⟩ := rn_append2 Nn hle Hc 128 (by simp; omega) (by simp; omega) No hsep
      (iterate 4 ((try simp [s0, s12, S.out.iaddr, S.out.load1, e1, encV, hs, Hi.sliceLo, ea, hE, wrap_i64]); (try simp (disch := omega) [s0, s12, S.out.iaddr, S.out.load1, e1, encV, hs, Hi.sliceLo, ea, hE, wrap_i64])))
      refine hK (t - (a + (n + 1))) _ _ (by omega) ⟨n + 1, rfl, by omega, ⟨by simp [s0], by simp [s3], by simp [pgSome, hk], by simp; omega, by simp [sg]⟩, hle2, ?_, ?_, by simpa using hs2⟩
      · simp only [pgOut, hk, if_true, List.append_nil]; simpa using No2
      · simp only [pgNotes, hk, if_true]; simpa using Nn2
    · obtain ⟨v2, h2, ea, hle2, No2, Nn2, hs2⟩ := rn_append2 No hle Hi 128 (by omega) (by omega) Nn (fun b hb1 hb2 => hsep b hb2 hb1)
      (iterate 4 ((try simp [s0, s12, S.out.iaddr, S.out.load1, e1, encV, hs, ea, hE, wrap_i64]); (try simp (disch := omega) [s0, s12, S.out.iaddr, S.out.load1, e1, encV, hs, ea, hE, wrap_i64])))
      refine hK (t - (a + (n + 1))) _ _ (by omega) ⟨n + 1, rfl, by omega, ⟨by simp [s0], by simp [s3], by simp [pgSome, hk, s11], by simp; omega, by simp [sg]⟩, hle2, ?_, ?_, fun b hb1 hb2 => hs2 b (by simpa using hb2) (by simpa using hb1)⟩
      · simp only [pgOut, hk, if_false]; simpa using No2
      · simp only [pgNotes, hk, if_false, List.append_nil]; simpa using Nn2
  · have hna : n = t - a := by omega
    have hpl := pg_len xss a n (by omega)
    have htl := tot_le xss (a + n)
    simp [hE, s11]
    cases hsm : pgSome xss a n with
    | false =>
      simp
      exact hR _ _ hle (by simp only [← hna, hsm]; exact No)
    | true =>
      have hcs : [AV.int .i64 3, .int .i64 0, .int .i64 0, .int .i64 0, .int .i64 0, .int .i64 0, .int .i64 0, .int .i64 0, .int .i64 g.size, .int .i64 g.plus, .int .i64 g.plusO, .int .i64 g.minus, .int .i64 g.minusO, .str ⟨#[]⟩, .int .i64 0] = (gapN g).enc := rfl
      obtain ⟨v2, h2, ea, hle2, No2, _, hbk, hn2, hf2⟩ := No.append1 hle (gapN g) _ hcs 128 (by omega) (by omega)
      have Nn2 : Rn h 15 Nd.enc h2 (s 10) (pgNotes xss a n) := Nn.frame fun b hb1 => hf2 b (Nn.own.lt hb1) (fun e => hsep b e hb1)
      obtain ⟨v3, h3, ea3, hle3, No3, _⟩ := No2.append hle2 Nn2.rows 128 (by simp; omega) (by simp; omega)
      (iterate 4 ((try simp [sg, Sh.enc, bslice1, ea, ea3]); (try simp (disch := omega) [sg, Sh.enc, bslice1, ea, ea3])))
      exact hR _ _ hle3 (by simp only [← hna, hsm, if_true]; exact No3)
end Go.Proofs.Ytnaainlddcpfgaa
