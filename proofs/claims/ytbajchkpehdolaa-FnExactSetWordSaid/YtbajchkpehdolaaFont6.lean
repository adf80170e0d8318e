/- Contracts: a word set in a font, by the program. -/
import Derived.Test.YtbajchkpehdolaaFont5
namespace Go.Proofs.Ytbajchkpehdolaa
open Go Go.Bm Go.Proofs
set_option linter.all false

/-! ### maps whose keys are pairs -/
def kP (p : Pair) : AV × AV := (.agg [.int .i64 p.left, .int .i64 p.right], .agg p.enc)
theorem findA_pair (a b : Int) : ∀ (ps : List Pair) (i : Nat), ∃ j, findA (.agg [.int .i64 a, .int .i64 b]) (ps.map kP) i = some ((findP ps a b).map fun p => (j, .agg p.enc))
  | [], i => ⟨i, rfl⟩
  | p :: ps, i => by
    simp only [List.map_cons, findA, kP, keyEq, eqIntsA, if_true]
    by_cases e1 : p.left = a
    · by_cases e2 : p.right = b
      · refine ⟨i, ?_⟩
        have : findP (p :: ps) a b = some p := by simp [findP, isP, e1, e2]
        rw [this]
        simp [e1, e2]
      · obtain ⟨j, hj⟩ := findA_pair a b ps (i + 1)
        refine ⟨j, ?_⟩
        have : findP (p :: ps) a b = findP ps a b := by simp [findP, isP, e2]
        rw [this, ← hj, show (b == p.right) = false by simpa using fun e => e2 e.symm]
        simp [kP]
    · obtain ⟨j, hj⟩ := findA_pair a b ps (i + 1)
      refine ⟨j, ?_⟩
      have : findP (p :: ps) a b = findP ps a b := by simp [findP, isP, e1]
      rw [this, ← hj, show (a == p.left) = false by simpa using fun e => e1 e.symm]
      simp [kP]
theorem mget_pair {h : AH} {b : Nat} {ps : List Pair} (g : h.get b = some (.map (ps.map kP))) (x y : Int) : mgetA (.arr .i64 2) true (.agg [.int .i64 0, .int .i64 0, .int .i64 0, .int .i64 0]) (.mp b) (.agg [.int .i64 x, .int .i64 y]) h = some (.tup [.agg ((findP ps x y).getD ⟨0, 0, 0, 0⟩).enc, .bool (findP ps x y).isSome], h) := by
  obtain ⟨j, e⟩ := findA_pair x y ps 0
  simp only [mgetA, g, e]
  cases findP ps x y <;> simp [AV.hasKT]
theorem mset_pair {h : AH} {b : Nat} {ps : List Pair} (g : h.get b = some (.map (ps.map kP))) (p : Pair) (hn : findP ps p.left p.right = none) : msetA (.arr .i64 2) (.mp b) (.agg [.int .i64 p.left, .int .i64 p.right]) (.agg [.int .i64 p.left, .int .i64 p.right, .int .i64 p.lig, .int .i64 p.kern]) h = some (.tup [], h.upd b (some (.map ((ps ++ [p]).map kP)))) := by
  obtain ⟨j, e⟩ := findA_pair p.left p.right ps 0
  rw [hn] at e
  simp only [msetA, g, e]
  have : (AV.agg [.int .i64 p.left, .int .i64 p.right, .int .i64 p.lig, .int .i64 p.kern]).clo = true := rfl
  simp [AV.hasKT, this, kP]
theorem pair_new {gs : List Glyph} {ps : List Pair} (h : pairsB gs ps = true) {i : Nat} (hi : i < ps.length) : findP (ps.take i) (nth ps i).left (nth ps i).right = none := by
  rw [findP, List.find?_eq_none]
  intro p hp e
  obtain ⟨j, hj, rfl⟩ := List.getElem_of_mem hp
  rw [List.length_take] at hj
  have lt := pairs_lt (Nat.le_refl ps.length) h i j (by omega) hi
  rw [nth_eq (show j < ps.length by omega)] at lt
  simp [isP] at e
  simp [pairLt] at lt
  omega
theorem tailA {α : Type} {h0 h : AH} {es : Nat} {enc : α → List AV} {v : AV} {xs : List α} (H : Own h0 es enc h v xs) (hx : 0 < xs.length) : ∃ v', (∀ h2, sliceA es v (some (.int .i64 1)) none none h2 = some (v', h2)) ∧ (∀ h3, lenA false v' h3 = some (.int .i64 ((xs.length - 1 : Nat) : Int), h3)) ∧ ∀ (k : IntKind) (j : Nat) (h3 : AH), j < xs.length - 1 → iaddrA es v' (.int k (j : Int)) h3 = some (elt es v (j + 1) 0, h3) := by
  rcases H.at_ with ⟨rfl, _⟩ | ⟨b, c, rfl, g, _⟩
  · simp at hx
  · refine ⟨.sl b (0 + 1 * es) es (xs.length - 1) (c.map (· - 1)), fun h2 => ?_, fun h3 => rfl, fun k j h3 hj => ?_⟩
    · have e1 : bound (some (.int .i64 1)) 0 xs.length = some 1 := by simp only [bound]; rw [if_pos ⟨by omega, by omega⟩]; rfl
      simp only [sliceA, ne_eq, not_true, if_false, e1, show bound none xs.length (c.getD xs.length) = some xs.length from rfl]
      rw [if_neg (by omega)]
    · simp only [iaddrA]
      rw [if_pos ⟨by first | rfl | trivial, by omega, by omega⟩]
      simp only [elt, sb, Int.toNat_natCast, Nat.succ_mul]
      congr 3
      omega
theorem litI (x : Int) (h : AH) : bsliceFA 1 1 [.int .i64 0] [(0, .int .i64 x)] h = some (.fs (some 1) [[.int .i64 x]], h) := rfl
theorem le_upd {h0 h : AH} {b : Nat} {x : AB} (hle : h0.le h) (hb : h0.next ≤ b) (hl : b < h.next) : h0.le (h.upd b (some x)) := ⟨hle.1, fun c hc => by rw [AH.get_upd hl, if_neg (by omega)]; exact hle.2 c hc⟩
set_option maxRecDepth 100000 in
set_option maxHeartbeats 1000000 in
theorem SetWord_ok (nm : ByteArray) (gs : List Glyph) (ps : List Pair) (a b c d e q r : Int) (w : List Int) (hb : gs.length ≤ 1048576) (hb2 : ps.length ≤ 1048576) (hb3 : nm.size ≤ 1048576) (hw : w.length ≤ 1048576) (hw0 : ∀ x ∈ w, 0 ≤ x ∧ x ≤ 255) (cp : Option Nat) (h : AH) (R : AV → AH → Prop)
    (hR : ∀ h' v, Own h 2 Piece.enc h' v (setW ⟨nm, gs, ps, ⟨a, b, c, d, e⟩, q, r⟩ w) → R v h') : CA 14 [.agg (fcells nm gs ps a b c d e q r), .fs cp (w.map (encI .u8))] h R := by
  refine (ca_iff (af := ac14) rfl).2 ?_
  have fo := FontOk_iff nm gs ps a b c d e q r hb hb2 hb3
  have gl := fun x => glyph_iff nm gs ps a b c d e q r x hb
  have nilR : ∀ h', h.le h' → setW ⟨nm, gs, ps, ⟨a, b, c, d, e⟩, q, r⟩ w = [] → R .nils h' := fun h' hle e => hR _ _ (by rw [e]; exact Own.nils Piece.ok.toEncOk hle)
  simp only [fcells] at fo gl
  simp [ac14, fo]
  cases hf : fontB ⟨nm, gs, ps, ⟨a, b, c, d, e⟩, q, r⟩ with
  | false => simp; exact nilR _ (AH.le_refl h) (by simp [setW, hf])
  | true =>
  by_cases hl : (1000 : Int) < w.length
  · simp [hl]; exact nilR _ (AH.le_refl h) (by simp [setW, show ¬ w.length ≤ 1000 by omega])
  have hset : setW ⟨nm, gs, ps, ⟨a, b, c, d, e⟩, q, r⟩ w = setC ps (w.filter (hasG gs)) := by simp [setW, hf, show w.length ≤ 1000 by omega, wordL]
  rw [fontB_eq] at hf
  simp only [Bool.and_eq_true] at hf
  obtain ⟨⟨_, hg⟩, hp⟩ := hf
  simp [hl]
  clear fo
  refine awp_loop2 caM (fun n s h' => ∃ (i : Nat), n = ps.length - i ∧ i ≤ ps.length ∧ (s 1 = .fs cp (w.map (encI .u8)) ∧ s 5 = .mp h.next ∧ s 29 = .fs none (ps.map Pair.enc) ∧ s 30 = .int .i64 ps.length ∧ s 31 = .int .i64 i ∧ s 100002 = .agg (fcells nm gs ps a b c d e q r)) ∧ h.le h' ∧ h'.get h.next = some (.map ((ps.take i).map kP))) ?_ (n := ps.length) ⟨0, by simp, by simp, by simp, AH.le_new h _, by rw [AH.get_new, if_pos rfl]; rfl⟩
  rintro n s h1 ⟨i, rfl, hi, ⟨s1, s5, s29, s30, s31, sb⟩, hle, hm⟩ K hK hE hQ
  simp only [fcells] at sb
  simp [s1, s5, s29, s30, s31, sb]
  by_cases hlt : i < ps.length
  · have w1 : IntKind.wrap .i64 ((i : Int) + 1) = (i : Int) + 1 := wrap_i64 (by omega) (by omega)
    have a1 := fun k => Pair.ok.toEncOk.iaddr (by omega) none ps k (i : Int) h1 (by omega) (by omega)
    simp only [Int.toNat_natCast] at a1
    have put := mset_pair hm (nth ps i) (pair_new hp hlt)
    have hbl := AH.get_lt hm
    simp [hlt, s5, s29, s31, a1, put, w1]
    refine hK (ps.length - (i + 1)) _ _ (by omega) ⟨i + 1, rfl, by omega, ⟨by simp [s1], by simp [s5], by simp [s29], by simp [s30], by simp, by simp [sb]⟩, le_upd hle (Nat.le_refl _) hbl, ?_⟩
    have e : ps.take (i + 1) = ps.take i ++ [nth ps i] := by rw [nth_eq hlt]; exact (List.take_append_getElem hlt).symm
    rw [AH.get_upd hbl, if_pos rfl, e]
    simp
  obtain rfl : i = ps.length := by omega
  rw [List.take_length] at hm
  have hbl := AH.get_lt hm
  have mp : ∀ h2, h1.le h2 → ∀ x y, mgetA (.arr .i64 2) true (.agg [.int .i64 0, .int .i64 0, .int .i64 0, .int .i64 0]) (.mp h.next) (.agg [.int .i64 x, .int .i64 y]) h2 = some (.tup [.agg ((findP ps x y).getD ⟨0, 0, 0, 0⟩).enc, .bool (findP ps x y).isSome], h2) := fun h2 hle2 => mget_pair (AH.le_of_get hle2 hm)
  simp [hE, s1]
  clear hK hE hQ s29 s30 s31
  refine awp_loop2 caM (fun n s h2 => ∃ (i : Nat) (v : AV), n = w.length - i ∧ i ≤ w.length ∧ (s 5 = .mp h.next ∧ s 8 = v ∧ s 43 = .fs cp (w.map (encI .u8)) ∧ s 44 = .int .i64 w.length ∧ s 45 = .int .i64 i ∧ s 100002 = .agg (fcells nm gs ps a b c d e q r)) ∧ Own h1 1 (encI .i64) h2 v ((w.take i).filter (hasG gs))) ?_ (n := w.length) ⟨0, .nils, by simp, by simp, by simp [s5, sb], by simpa using Own.nils (encI_ok .i64).toEncOk (AH.le_refl h1)⟩
  clear s1 s5 sb
  rintro n s h2 ⟨i, v, rfl, hi, ⟨s5, s8, s43, s44, s45, sb⟩, O⟩ K hK hE hQ
  simp only [fcells] at sb
  simp [s5, s8, s43, s44, s45, sb]
  by_cases hlt : i < w.length
  · have w1 : IntKind.wrap .i64 ((i : Int) + 1) = (i : Int) + 1 := wrap_i64 (by omega) (by omega)
    have a1 := fun k => (encI_ok .u8).toEncOk.iaddr (by omega) cp w k (i : Int) h2 (by omega) (by omega)
    simp only [Int.toNat_natCast] at a1
    have hx := hw0 _ (nth_mem hlt)
    have wc : IntKind.wrap .i64 (nth w i) = nth w i := wrap_i64 (by omega) (by omega)
    have e1 : w.take (i + 1) = w.take i ++ [nth w i] := by rw [nth_eq hlt]; exact (List.take_append_getElem hlt).symm
    have hfl : ((w.take i).filter (hasG gs)).length ≤ i := Nat.le_trans (List.length_filter_le _ _) (by rw [List.length_take]; omega)
    simp [hlt, s5, s8, s43, s45, sb, a1, wc, gl]
    cases hx1 : hasG gs (nth w i) with
    | false =>
      simp [s45, w1]
      exact hK (w.length - (i + 1)) _ _ (by omega) ⟨i + 1, v, rfl, by omega, ⟨by simp [s5], by simp [s8], by simp [s43], by simp [s44], by simp, by simp [sb]⟩, by rw [e1, List.filter_append]; simpa [hx1] using O⟩
    | true =>
      obtain ⟨v2, h3, ea, O2, _⟩ := O.append1 (some 1) (nth w i) _ rfl 8 (by omega) (by omega)
      simp only [encI] at ea
      simp [s8, s45, wc, litI, ea, w1]
      exact hK (w.length - (i + 1)) _ _ (by omega) ⟨i + 1, v2, rfl, by omega, ⟨by simp [s5], by simp, by simp [s43], by simp [s44], by simp, by simp [sb]⟩, by rw [e1, List.filter_append]; simpa [hx1] using O2⟩
  obtain rfl : i = w.length := by omega
  rw [List.take_length] at O
  rw [hset] at hR nilR
  have hfl : (w.filter (hasG gs)).length ≤ w.length := List.length_filter_le _ _
  generalize w.filter (hasG gs) = l at *
  simp [hE, s8, O.len]
  by_cases hl0 : l.length = 0
  · have : l = [] := List.eq_nil_of_length_eq_zero hl0
    subst this
    simp
    exact nilR _ (AH.le_trans hle O.le) rfl
  have hl1 : 0 < l.length := by omega
  have hl2 : ¬ l = [] := fun e => hl0 (by rw [e]; rfl)
  obtain ⟨vt, et, lt_, it⟩ := tailA O hl1
  have i0 := O.iaddr h2 .i64 0 (by omega) (by omega)
  have i1 := O.load1 0 0 hl1 (by omega)
  simp only [Int.toNat_zero] at i0
  simp [hl2, s5, s8, i0, i1, et, lt_]
  clear hK hE hQ s43 s44 s45 sb
  have hcons : l = nth l 0 :: l.drop 1 := by rw [nth_eq hl1]; have := List.drop_eq_getElem_cons (i := 0) (l := l) hl1; simpa using this
  have hset0 : setC ps l = setL ps (nth l 0) (l.drop 1) := by
    have e : ∀ c cs, setC ps (c :: cs) = setL ps c cs := fun _ _ => rfl
    rw [← e, ← hcons]
  rw [hset0] at hR
  refine awp_loop2 caM (fun n s h3 => ∃ (j : Nat) (now : Int) (v2 : AV) (out : List Piece), n = l.length - 1 - j ∧ j ≤ l.length - 1 ∧ (s 5 = .mp h.next ∧ s 13 = v2 ∧ s 14 = .int .i64 now ∧ s 70 = vt ∧ s 71 = .int .i64 ((l.length - 1 : Nat) : Int) ∧ s 72 = .int .i64 j) ∧ Own h2 2 Piece.enc h3 v2 out ∧ out.length ≤ 2 * j ∧ out ++ setL ps now (l.drop (j + 1)) = setL ps (nth l 0) (l.drop 1)) ?_ (n := l.length - 1) ⟨0, nth l 0, .nils, [], by simp, by simp, by simp [s5], Own.nils Piece.ok.toEncOk (AH.le_refl h2), by simp, by simp⟩
  clear s5 s8
  rintro n s h3 ⟨j, now, v2, out, rfl, hj, ⟨s5, s13, s14, s70, s71, s72⟩, O2, ho, hout⟩ K hK hE hQ
  simp [s5, s13, s14, s70, s71, s72]
  by_cases hlt : j < l.length - 1
  · have w1 : IntKind.wrap .i64 ((j : Int) + 1) = (j : Int) + 1 := wrap_i64 (by omega) (by omega)
    have a1 := fun k => it k j h3 hlt
    have a2 := (O.grow O2.le).load1 (j + 1) 0 (by omega) (by omega)
    have hd : l.drop (j + 1) = nth l (j + 1) :: l.drop (j + 2) := by rw [nth_eq (show j + 1 < l.length by omega)]; exact List.drop_eq_getElem_cons (by omega)
    have mg := mp h3 (AH.le_trans O.le O2.le)
    rw [hd] at hout
    have next : ∀ (s' : S) (h4 : AH) (now2 : Int) (v3 : AV) (out2 : List Piece), Own h2 2 Piece.enc h4 v3 out2 → out2.length ≤ 2 * (j + 1) → out2 ++ setL ps now2 (l.drop (j + 2)) = setL ps (nth l 0) (l.drop 1) → s' 5 = s 5 → s' 13 = v3 → s' 14 = .int .i64 now2 → s' 70 = s 70 → s' 71 = s 71 → s' 72 = .int .i64 ((j : Int) + 1) → K .normal s' h4 := fun s' h4 now2 v3 out2 P2 l2 e2 t5 t13 t14 t70 t71 t72 =>
      hK (l.length - 1 - (j + 1)) _ _ (by omega) ⟨j + 1, now2, v3, out2, rfl, by omega, ⟨t5.trans s5, t13, t14, t70.trans s70, t71.trans s71, by simpa using t72⟩, P2, l2, e2⟩
    generalize nth l (j + 1) = x at *
    have hlt' : (j : Int) < ((l.length - 1 : Nat) : Int) := by omega
    obtain ⟨v3, h4, ea, P2, _⟩ := O2.append1 (some 1) ⟨now, 0⟩ _ rfl 16 (by omega) (by omega)
    simp only [Piece.enc] at ea
    simp [hlt, hlt', s5, s13, s14, s70, s72, a1, a2, mg]
    cases hf : findP ps now x with
    | none =>
      simp [s13, s14, s72, litP, ea, w1]
      exact next _ _ x v3 _ P2 (by simp; omega) (by rw [List.append_assoc, ← hout, setL, hf]; rfl) (by simp) (by simp) (by simp) (by simp) (by simp) (by simp)
    | some p =>
      by_cases hl' : p.lig = -1
      · by_cases hk : p.kern = 0
        · simp [hl', hk, s13, s14, s72, litP, ea, w1]
          exact next _ _ x v3 _ P2 (by simp; omega) (by rw [List.append_assoc, ← hout, setL, hf]; simp [hl', hk]) (by simp) (by simp) (by simp) (by simp) (by simp) (by simp)
        · obtain ⟨v4, h5, eb, P3, _⟩ := P2.append1 (some 1) ⟨-1, p.kern⟩ _ rfl 16 (by simp; omega) (by simp; omega)
          simp only [Piece.enc] at eb
          simp [hl', hk, s13, s14, s72, litP, ea, eb, w1]
          exact next _ _ x v4 _ P3 (by simp; omega) (by rw [← hout, setL, hf]; simp [hl', hk]) (by simp) (by simp) (by simp) (by simp) (by simp) (by simp)
      · simp [hl', s72, w1]
        exact next _ _ p.lig v2 out O2 (by omega) (by rw [← hout, setL, hf]; simp [hl']) (by simp) (by simp [s13]) (by simp) (by simp) (by simp) (by simp)
  · obtain rfl : j = l.length - 1 := by omega
    rw [show l.length - 1 + 1 = l.length by omega, List.drop_length, setL] at hout
    obtain ⟨v3, h4, ea, P2, _⟩ := O2.append1 (some 1) ⟨now, 0⟩ _ rfl 16 (by omega) (by omega)
    simp only [Piece.enc] at ea
    simp [hE, s13, s14, litP, ea]
    refine hR _ _ ?_
    rw [← hout]
    exact P2.weaken (AH.le_trans hle O.le)
end Go.Proofs.Ytbajchkpehdolaa
