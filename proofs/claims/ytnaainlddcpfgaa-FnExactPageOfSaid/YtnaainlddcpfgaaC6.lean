/- Contracts: lists of lists of nodes; Items. -/
import Derived.Test.YtnaainlddcpfgaaC5
namespace Go.Proofs.Ytnaainlddcpfgaa
open Go Go.Am Go.Proofs
set_option linter.all false

/-- Rows of rows, to be read. -/
structure Rss (h : AH) (v : AV) (vs : List AV) (xss : List (List Nd)) : Prop where
  out : Rs 1 encV h v vs
  len : vs.length = xss.length
  inn : ∀ i, i < xss.length → Rs 15 Nd.enc h (nth vs i) (nth xss i)
theorem Rss.le {h h' : AH} {v : AV} {vs : List AV} {xss : List (List Nd)} (H : Rss h v vs xss) (hle : h.le h') : Rss h' v vs xss := ⟨H.out.le hle, H.len, fun i hi => (H.inn i hi).le hle⟩

theorem eqNodeSS_iff {h : AH} {v w : AV} {vs ws : List AV} {xss yss : List (List Nd)} (H : Rss h v vs xss) (G : Rss h w ws yss) (hb : xss.length ≤ 1099511627776) (hb2 : ∀ i, i < xss.length → (nth xss i).length ≤ 1099511627776) (R : AV → AH → Prop) :
    CA 19 [v, w] h R ↔ R (.bool (decide (xss = yss))) h := by
  refine ca_pure (af := ac19) rfl ?_
  simp [ac19, H.out.len, G.out.len, H.len, G.len]
  by_cases hl : xss.length = yss.length
  case neg =>
    have : xss ≠ yss := fun e => hl (by rw [e])
    have hl' : ¬ (xss.length : Int) = yss.length := by omega
    simp [hl', hl, this]
  simp [hl]
  refine awp_loop2 ca_mono (fun n s h' => h' = h ∧ ∃ i : Nat, n = xss.length - i ∧ i ≤ xss.length ∧ (s 0 = v ∧ s 1 = w ∧ s 5 = .int .i64 i) ∧ xss.take i = yss.take i) ?_ (n := xss.length) ⟨rfl, 0, by simp⟩
  rintro n s h' ⟨rfl, i, rfl, hi, ⟨h0, h1, h5⟩, ht⟩ K hK hE hQ
  simp [h0, h1, h5, H.out.len, H.len]
  refine condR_splitD ?_ ?_ <;> intro hlt
  · have hv := H.inn i hlt
    have hw := G.inn i (by omega)
    have ev : slv (nth vs i) = nth vs i := rs_slv hv
    have ew : slv (nth ws i) = nth ws i := rs_slv hw
    have l1 : i < vs.length := by rw [H.len]; exact hlt
    have l2 : i < ws.length := by rw [G.len]; omega
    have heq := fun R => eqNodeS_iff hv hw (hb2 i hlt) R
    (iterate 4 ((try simp [h0, h1, h5, H.out.iaddr, G.out.iaddr, H.out.load1, G.out.load1, encV, ev, ew, heq]); (try simp (disch := omega) [h0, h1, h5, H.out.iaddr, G.out.iaddr, H.out.load1, G.out.load1, encV, ev, ew, heq])))
    refine condR_splitND ?_ ?_ <;> intro e
    · (iterate 4 ((try simp [h0, h1, h5, wrap_i64]); (try simp (disch := omega) [h0, h1, h5, wrap_i64])))
      refine hK (xss.length - (i + 1)) _ _ (by omega) ⟨rfl, i + 1, rfl, by omega, by simp [h0, h1], ?_⟩
      rw [take_succ hlt, take_succ (by omega), ht, e]
    · simp [hQ]
      intro he; rw [he] at e; exact e rfl
  · obtain rfl : i = xss.length := by omega
    have : xss = yss := by rw [List.take_length, hl, List.take_length] at ht; exact ht
    simp [hE, this]

theorem Rss.frame {h h' : AH} {v : AV} {vs : List AV} {xss : List (List Nd)} (H : Rss h v vs xss) (e : ∀ b, (blk v = some b ∨ ∃ i, i < xss.length ∧ blk (nth vs i) = some b) → h'.get b = h.get b) : Rss h' v vs xss :=
  ⟨H.out.frame fun b hb => e b (.inl hb), H.len, fun i hi => (H.inn i hi).frame fun b hb => e b (.inr ⟨i, hi, hb⟩)⟩

/-- What both answer. -/
def itemsL (xs : List Nd) : List (List Nd) := if listB xs then (starts xs 0).map (itemL xs) else []

theorem nth_app_lt {α : Type} [Inhabited α] {xs ys : List α} {i : Nat} (h : i < xs.length) : nth (xs ++ ys) i = nth xs i := by
  simp [nth, List.getD, List.getElem?_append_left h]
theorem nth_app_len {α : Type} [Inhabited α] (xs : List α) (y : α) : nth (xs ++ [y]) xs.length = y := by simp [nth]

set_option maxHeartbeats 1000000 in
theorem l8Items_ok {h : AH} {v : AV} {xs : List Nd} (H : Rs 15 Nd.enc h v xs) (hb : xs.length ≤ 1048576) {R : AV → AH → Prop}
    (hR : ∀ v' h' vs, h.le h' → Rss h' v' vs (itemsL xs) → (∀ b, (blk v' = some b ∨ ∃ i, i < (itemsL xs).length ∧ blk (nth vs i) = some b) → h.next ≤ b ∧ b < h'.next) → R v' h') : CA 17 [v] h R := by
  rw [ca_iff (af := ac17) rfl]
  simp [ac17]
  have hfr := Rn.fresh (h0 := h) (h := h) (es := 1) (enc := encV) (xs := []) (n := 0) encV_ok (AH.le_refl h) rfl
  have hle1 := AH.le_new h (.cells true (([] : List AV).flatMap encV))
  simp only [List.flatMap_nil] at hfr hle1
  refine l8ListOk_ok (H.le hle1) fun ha hlea => ?_
  have hfra := hfr.le hlea
  have l0a := AH.le_trans hle1 hlea
  cases hli : listB xs with
  | false =>
    simp
    exact hR _ _ [] l0a ⟨hfra.rows, by simp [itemsL, hli], fun i hi => by simp [itemsL, hli] at hi⟩ (fun b hb => by
      rcases hb with hb | ⟨i, hi, _⟩
      · exact ⟨hfra.new b hb, hfra.own.lt hb⟩
      · simp [itemsL, hli] at hi)
  | true =>
  obtain ⟨h20, hok⟩ := listB_ok hli
  simp
  refine l8Starts_ok (H.le l0a) hb hok fun va hd hled hNa => ?_
  have hNo := hfra.le hled
  have hsep : ∀ b, blk va = some b → blk (.sl h.next 0 1 0 (some 0)) ≠ some b := fun b hb1 hb2 => by
    have := hNa.new b hb1
    have := hfra.own.lt hb2
    omega
  simp
  refine awp_loop2 ca_mono (fun n s h' => ∃ (i : Nat) (pre : List Nat) (vs : List AV), n = xs.length - i ∧ OkF xs i ∧ (s 0 = v ∧ s 4 = va ∧ s 5 = .int .i64 (pre.length : Nat)) ∧ h.le h' ∧ Rn h 1 encV h' (s 3) vs ∧ Ro 1 encI h' va ((starts xs 0).map fun i : Nat => (i : Int)) ∧ (∀ b, blk va = some b → blk (s 3) ≠ some b) ∧
      pre.length ≤ i ∧ starts xs 0 = pre ++ starts xs i ∧ vs.length = pre.length ∧ (∀ k, k < pre.length → Rn h 15 Nd.enc h' (nth vs k) (itemL xs (nth pre k)) ∧ ∀ b, blk (nth vs k) = some b → blk (s 3) ≠ some b)) ?_ (n := xs.length) ⟨0, [], [], by simp, hok, by simp, AH.le_trans l0a hled, by simpa using hNo, hNa.own, by simpa using hsep, by simp, by simp, rfl, fun k hk => by simp at hk⟩
  rintro n s h' ⟨i, pre, vs, rfl, ho, ⟨s0, s4, s5⟩, hle, hN, Ha, hsp, hpi, hst, hvl, hin⟩ K hK hE hQ
  have hi := ho.le
  have Hi := Ha.rows
  have H' := H.le hle
  simp [s0, s4, s5, Hi.len]
  refine condR_splitD ?_ ?_ <;> intro hlt
  · have hlt' : i < xs.length := by
      by_cases e : i < xs.length
      · exact e
      · obtain rfl : i = xs.length := by omega
        rw [starts_end, List.append_nil] at hst
        rw [hst] at hlt; omega
    obtain ⟨hk0, hk1, ho'⟩ := ho.next hlt'
    have hpl : pre.length < ((starts xs 0).map fun i : Nat => (i : Int)).length := by simpa using hlt
    have hnth : nth ((starts xs 0).map fun i : Nat => (i : Int)) pre.length = (i : Int) := by
      rw [nth_eq hpl]; simp [hst, starts_lt hlt']
    have e1 : ((i : Int) + 1 + (nth xs i).kids).toNat = i + 1 + (nth xs i).kids.toNat := by omega
    have hil := itemL_len xs hk1
    -- a new row for the item
    have hf2 := Rn.fresh (h0 := h') (h := h') (es := 15) (enc := Nd.enc) (xs := []) (n := 0) Nd.ok (AH.le_refl h') rfl
    have hl2 := AH.le_new h' (.cells true (([] : List Nd).flatMap Nd.enc))
    simp only [List.flatMap_nil] at hf2 hl2
    have Hit := item_rows (H'.le hl2) hlt' hk1
    obtain ⟨vn, hb', ea, hleb, hNn, _⟩ := hf2.append hl2 Hit 128 (by simp [hil]; omega) (by simp [hil]; omega)
    simp only [List.nil_append] at hNn
    have hsn := rs_slv hNn.rows
    have hcn : vn.cells = [vn] := by rw [← hsn]; cases vn <;> rfl
    have h1n : vn.one = true := by rw [← hsn]; cases vn <;> rfl
    obtain ⟨v2, h2, ea2, hle2, hN2, hnc, hblk, hnn, hfr2⟩ := (hN.le hleb).append1 (AH.le_trans hle hleb) vn [vn] (by rw [encV, hsn]) 24 (by rw [hvl]; omega) (by rw [hvl]; omega)
    have hbs := bslice1 1 [AV.nils] vn hb' rfl (by rw [hcn]; rfl) (by rw [hcn, List.all_cons, h1n]; rfl)
    rw [hcn] at hbs
    (iterate 4 ((try simp [s0, s4, s5, Hi.iaddr, Hi.load1, hnth, encI, H'.iaddr, H'.load, Nd.enc, wrap_i64]); (try simp (disch := omega) [s0, s4, s5, Hi.iaddr, Hi.load1, hnth, encI, H'.iaddr, H'.load, Nd.enc, wrap_i64])))
    have ea' : appendA 15 128 (.sl h'.next 0 15 0 (some 0)) (cutv 15 v i (i + 1 + (nth xs i).kids.toNat)) (h'.new (.cells true [])) = some (vn, hb') := ea
    (iterate 4 ((try simp [H'.slice, e1, ea', hbs, ea2, s5, wrap_i64]); (try simp (disch := omega) [H'.slice, e1, ea', hbs, ea2, s5, wrap_i64])))
    refine hK (xs.length - (i + 1 + (nth xs i).kids.toNat)) _ _ (by omega) ⟨i + 1 + (nth xs i).kids.toNat, pre ++ [i], vs ++ [vn], rfl, ho', ⟨by simp [s0], by simp [s4], by simp⟩, hle2, by simpa using hN2, ?_, ?_, by simp; omega, ?_, by simp [hvl], ?_⟩
    · exact (Ha.le hleb).frame fun b hb1 => hfr2 b ((Ha.le hleb).lt hb1) (hsp b hb1)
    · intro b hb1
      have := (Ha.le hleb).lt hb1
      simp [hblk]; omega
    · rw [hst, starts_lt hlt']; simp
    · intro k hk
      simp only [List.length_append, List.length_cons, List.length_nil] at hk
      by_cases hkl : k < pre.length
      · obtain ⟨Ok, hsk⟩ := hin k hkl
        rw [nth_app_lt (by omega), nth_app_lt hkl]
        have Ok' := Ok.le hleb
        refine ⟨Ok'.frame fun b hb1 => hfr2 b (Ok'.own.lt hb1) (hsk b hb1), fun b hb1 => ?_⟩
        have := Ok'.own.lt hb1
        simp [hblk]; omega
      · obtain rfl : k = pre.length := by omega
        rw [nth_app_len, ← hvl, nth_app_len]
        refine ⟨(hNn.weaken hle).frame fun b hb1 => hfr2 b (hNn.own.lt hb1) (fun e => ?_), fun b hb1 => ?_⟩
        · have a := hNn.new b hb1
          have c := hN.own.lt e
          omega
        · have := hNn.own.lt hb1
          simp [hblk]; omega
  · have hie : i = xs.length := by
      by_cases e : i < xs.length
      · rw [hst, starts_lt e] at hlt; simp at hlt
      · omega
    subst hie
    rw [starts_end, List.append_nil] at hst
    simp [hE]
    have hln : (itemsL xs).length = pre.length := by simp [itemsL, hli, hst]
    refine hR _ _ vs hle ⟨hN.rows, by simp [itemsL, hli, hvl, hst], fun k hk => ?_⟩ (fun b hb => ?_)
    · have hk : k < pre.length := by omega
      have := (hin k hk).1.rows
      have e : nth (itemsL xs) k = itemL xs (nth pre k) := by
        rw [nth_eq (by omega), nth_eq hk]; simp [itemsL, hli, hst]
      rwa [e]
    · rcases hb with hb | ⟨k, hk, hb⟩
      · exact ⟨hN.new b hb, hN.own.lt hb⟩
      · have N := (hin k (by omega)).1
        exact ⟨N.new b hb, N.own.lt hb⟩
end Go.Proofs.Ytnaainlddcpfgaa
