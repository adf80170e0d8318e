/- Contracts: lists of lists of nodes, marked and held; the program's Items. -/
import Derived.Test.YtnaainlddcpfgaaC6
namespace Go.Proofs.Ytnaainlddcpfgaa
open Go Go.Am Go.Proofs
set_option linter.all false

/-- Rows of rows, new since h0, each in a block of its own. -/
structure Oss (h0 h : AH) (v : AV) (vs : List AV) (xss : List (List Nd)) : Prop where
  out : Rn h0 1 encV h v vs
  len : vs.length = xss.length
  inn : ∀ i, i < xss.length → Rn h0 15 Nd.enc h (nth vs i) (nth xss i)
  apart : ∀ i j b, i < xss.length → j < xss.length → blk (nth vs i) = some b → blk (nth vs j) = some b → i = j
  outa : ∀ i b, i < xss.length → blk (nth vs i) = some b → blk v ≠ some b

section
variable {h0 h h' : AH} {v : AV} {vs : List AV} {xss : List (List Nd)}
theorem Oss.ss (H : Oss h0 h v vs xss) : Rss h v vs xss := ⟨H.out.rows, H.len, fun i hi => (H.inn i hi).rows⟩
theorem Oss.le (H : Oss h0 h v vs xss) (hle : h.le h') : Oss h0 h' v vs xss := ⟨H.out.le hle, H.len, fun i hi => (H.inn i hi).le hle, H.apart, H.outa⟩
/-- Is b a block of these? -/
def inV (vs : List AV) (n : Nat) (b : Nat) : Prop := ∃ i, i < n ∧ blk (nth vs i) = some b
theorem Oss.new (H : Oss h0 h v vs xss) {b : Nat} (hb : inV vs xss.length b) : h0.next ≤ b := by
  obtain ⟨i, hi, e⟩ := hb; exact (H.inn i hi).new b e
theorem Oss.frame (H : Oss h0 h v vs xss) (e : ∀ b, (blk v = some b ∨ inV vs xss.length b) → h'.get b = h.get b) : Oss h0 h' v vs xss :=
  ⟨H.out.frame fun b hb => e b (.inl hb), H.len, fun i hi => (H.inn i hi).frame fun b hb => e b (.inr ⟨i, hi, hb⟩), H.apart, H.outa⟩
end

def tot (xss : List (List Nd)) : Nat := (xss.map List.length).sum
def mkSS : Nat → List (List Nd) → List (List Nd)
  | _, [] => []
  | k, x :: r => mkNds k x.length :: mkSS (k + 15 * x.length) r
theorem mkSS_len : ∀ (k : Nat) (xss : List (List Nd)), (mkSS k xss).length = xss.length
  | _, [] => rfl
  | k, x :: r => by simp [mkSS, mkSS_len]
theorem mkSS_nth : ∀ (xss : List (List Nd)) (k i : Nat), i < xss.length → nth (mkSS k xss) i = mkNds (k + 15 * tot (xss.take i)) (nth xss i).length
  | [], k, i, hi => by simp at hi
  | x :: r, k, 0, hi => by simp [mkSS, nth, tot]
  | x :: r, k, i + 1, hi => by
    have := mkSS_nth r (k + 15 * x.length) i (by simpa using hi)
    simp only [mkSS, nth_cons_succ, List.take_succ_cons]
    rw [this]
    simp only [tot, List.map_cons, List.sum_cons]
    congr 1
    omega
theorem tot_succ (xss : List (List Nd)) {i : Nat} (hi : i < xss.length) : tot (xss.take (i + 1)) = tot (xss.take i) + (nth xss i).length := by
  rw [take_succ hi]; simp [tot]
theorem tot_le (xss : List (List Nd)) (i : Nat) : tot (xss.take i) ≤ tot xss := by
  have : tot xss = tot (xss.take i) + tot (xss.drop i) := by
    unfold tot
    rw [← List.sum_append, ← List.map_append, List.take_append_drop]
  omega

set_option maxHeartbeats 1000000 in
theorem markNodeSS_ok {h0 h : AH} {v : AV} {vs : List AV} {xss : List (List Nd)} (H : Oss h0 h v vs xss) (hl : xss.length ≤ 1099511627776) (hk : 15 * tot xss ≤ 4611686018427387000) {R : AV → AH → Prop}
    (hR : ∀ h', Oss h0 h' v vs (mkSS 1 xss) → h.next ≤ h'.next → (∀ c, c < h.next → ¬ inV vs xss.length c → h'.get c = h.get c) → R (.int .i64 (1 + 15 * tot xss : Nat)) h') : CA 20 [v, .int .i64 1] h R := by
  rw [ca_iff (af := ac20) rfl]
  simp [ac20]
  refine awp_loop2 ca_mono (fun n s h' => ∃ i : Nat, n = xss.length - i ∧ i ≤ xss.length ∧ (s 0 = v ∧ s 1 = .int .i64 (1 + 15 * tot (xss.take i) : Nat) ∧ s 5 = .int .i64 i) ∧ Oss h0 h' v vs ((mkSS 1 xss).take i ++ xss.drop i) ∧ h.next ≤ h'.next ∧ (∀ c, c < h.next → ¬ inV vs xss.length c → h'.get c = h.get c)) ?_ (n := xss.length) ⟨0, by simp, by simp, by simp [tot], by simpa using H, Nat.le_refl _, fun _ _ _ => rfl⟩
  rintro n s h' ⟨i, rfl, hi, ⟨s0, s1, s5⟩, H', hn, hf⟩ K hK hE hQ
  have hzl : ((mkSS 1 xss).take i ++ xss.drop i).length = xss.length := by simp [mkSS_len]; omega
  have hvl : vs.length = xss.length := by rw [H.len]
  simp [s0, s1, s5, H'.out.rows.len, hvl]
  refine condR_splitD ?_ ?_ <;> intro hlt
  · have hni : nth ((mkSS 1 xss).take i ++ xss.drop i) i = nth xss i := by
      have a : ((mkSS 1 xss).take i).length = i := by simp [mkSS_len]; omega
      simp only [nth, List.getD]
      rw [List.getElem?_append_right (by omega), a]
      simp
    have Hi := H'.inn i (by rw [hzl]; exact hlt)
    rw [hni] at Hi
    have hs := rs_slv Hi.rows
    have ht := tot_le xss (i + 1)
    have hts := tot_succ xss hlt
    have l1 : i < vs.length := by omega
    (iterate 4 ((try simp [s0, s1, s5, H'.out.rows.iaddr, H'.out.rows.load1, encV, hs]); (try simp (disch := omega) [s0, s1, s5, H'.out.rows.iaddr, H'.out.rows.load1, encV, hs])))
    refine markNodeS_ok Hi.own (1 + 15 * tot (xss.take i)) (by omega) fun h2 M n2 f2 => ?_
    (iterate 4 ((try simp [s5, wrap_i64]); (try simp (disch := omega) [s5, wrap_i64])))
    have hle2 : ∀ c, c < h'.next → (∀ b, blk (nth vs i) = some b → c ≠ b) → h2.get c = h'.get c := fun c hc hne => f2 c hc (fun e => hne c e rfl)
    refine hK (xss.length - (i + 1)) _ _ (by omega) ⟨i + 1, rfl, by omega, ⟨by simp [s0], ?_, by simp⟩, ?_, Nat.le_trans hn n2, ?_⟩
    · simp [hts]; omega
    · have e : (mkSS 1 xss).take (i + 1) ++ xss.drop (i + 1) = ((mkSS 1 xss).take i ++ xss.drop i).set i (mkNds (1 + 15 * tot (xss.take i)) (nth xss i).length) := by
        have a : ((mkSS 1 xss).take i).length = i := by simp [mkSS_len]; omega
        rw [take_succ (by rw [mkSS_len]; exact hlt), mkSS_nth xss 1 i hlt, drop_eq hlt, List.set_append_right _ _ (by omega), a]
        simp
      rw [e]
      refine ⟨H'.out.frame fun b hb => f2 b (H'.out.own.lt hb) (fun e => H'.outa i b (by rw [hzl]; exact hlt) e hb), by rw [List.length_set]; exact H'.len, fun j hj => ?_, fun a b c ha hb => H'.apart a b c (by simpa using ha) (by simpa using hb), fun a b ha => H'.outa a b (by simpa using ha)⟩
      rw [List.length_set] at hj
      by_cases hij : i = j
      · subst hij
        have : nth (((mkSS 1 xss).take i ++ xss.drop i).set i (mkNds (1 + 15 * tot (xss.take i)) (nth xss i).length)) i = mkNds (1 + 15 * tot (xss.take i)) (nth xss i).length := by
          rw [nth_eq (by simpa using hj)]; simp
        rw [this]
        exact ⟨M, Hi.new⟩
      · have : nth (((mkSS 1 xss).take i ++ xss.drop i).set i (mkNds (1 + 15 * tot (xss.take i)) (nth xss i).length)) j = nth ((mkSS 1 xss).take i ++ xss.drop i) j := by
          rw [nth_eq (by simpa using hj), nth_eq hj]; simp [hij]
        rw [this]
        have Hj := H'.inn j hj
        exact Hj.frame fun b hb => f2 b (Hj.own.lt hb) (fun e => hij (H'.apart i j b (by rw [hzl]; exact hlt) hj e hb))
    · intro c hc hnv
      rw [f2 c (by omega) (fun e => hnv ⟨i, hlt, e⟩)]
      exact hf c hc hnv
  · obtain rfl : i = xss.length := by omega
    have e : (mkSS 1 xss).take xss.length ++ xss.drop xss.length = mkSS 1 xss := by
      rw [List.drop_length, List.append_nil, List.take_of_length_le (by rw [mkSS_len]; exact Nat.le_refl _)]
    rw [e] at H'
    simp [s1, hE]
    exact hR _ H' hn hf

set_option maxHeartbeats 1000000 in
theorem heldNodeSS_ok {h : AH} {v : AV} {vs : List AV} {xss : List (List Nd)} (H : Rss h v vs (mkSS 1 xss)) (hl : xss.length ≤ 1099511627776) (hk : 15 * tot xss ≤ 4611686018427387000) {R : AV → AH → Prop}
    (hR : ∀ h', h.le h' → R (.int .i64 (1 + 15 * tot xss : Nat)) h') : CA 21 [v, .int .i64 1] h R := by
  rw [ca_iff (af := ac21) rfl]
  simp [ac21]
  have hvl : vs.length = xss.length := by rw [H.len, mkSS_len]
  refine awp_loop2 ca_mono (fun n s h' => ∃ i : Nat, n = xss.length - i ∧ i ≤ xss.length ∧ (s 0 = v ∧ s 1 = .int .i64 (1 + 15 * tot (xss.take i) : Nat) ∧ s 5 = .int .i64 i) ∧ h.le h') ?_ (n := xss.length) ⟨0, by simp, by simp, by simp [tot], AH.le_refl _⟩
  rintro n s h' ⟨i, rfl, hi, ⟨s0, s1, s5⟩, hle⟩ K hK hE hQ
  have H' := H.le hle
  simp [s0, s1, s5, H'.out.len, hvl]
  refine condR_splitD ?_ ?_ <;> intro hlt
  · have Hi := H'.inn i (by rw [mkSS_len]; exact hlt)
    rw [mkSS_nth xss 1 i hlt] at Hi
    have hs := rs_slv Hi
    have ht := tot_le xss (i + 1)
    have hts := tot_succ xss hlt
    have l1 : i < vs.length := by omega
    (iterate 4 ((try simp [s0, s1, s5, H'.out.iaddr, H'.out.load1, encV, hs]); (try simp (disch := omega) [s0, s1, s5, H'.out.iaddr, H'.out.load1, encV, hs])))
    refine heldNodeS_ok _ _ Hi (by omega) fun h2 l2 => ?_
    have hk1 : ¬ ((1 : Int) + 15 * (tot (xss.take i) : Nat) + 15 * ((nth xss i).length : Nat) < 0) := by omega
    (iterate 4 ((try simp [s5, hk1, wrap_i64]); (try simp (disch := omega) [s5, hk1, wrap_i64])))
    refine hK (xss.length - (i + 1)) _ _ (by omega) ⟨i + 1, rfl, by omega, ⟨by simp [s0], ?_, by simp⟩, AH.le_trans hle l2⟩
    simp [hts]; omega
  · obtain rfl : i = xss.length := by omega
    simp [s1, hE]
    exact hR _ hle

theorem starts_mem {xs : List Nd} {i : Nat} (h : OkF xs i) : ∀ j ∈ starts xs i, j < xs.length ∧ 0 ≤ (nth xs j).kids ∧ j + 1 + (nth xs j).kids.toNat ≤ xs.length := by
  induction h with
  | fin => intro j hj; rw [starts_end] at hj; cases hj
  | item i hi hk hn _ ih =>
    intro j hj
    rw [starts_lt hi] at hj
    rcases List.mem_cons.1 hj with rfl | hj
    · exact ⟨hi, hk, hn⟩
    · exact ih j hj
theorem starts_len {xs : List Nd} {i : Nat} (h : OkF xs i) : (starts xs i).length ≤ xs.length - i := by
  induction h with
  | fin => rw [starts_end]; simp
  | item i hi hk hn _ ih => rw [starts_lt hi]; simp; omega

set_option maxHeartbeats 1000000 in
theorem implItems_ok {h : AH} {v : AV} {xs : List Nd} (H : Rs 15 Nd.enc h v xs) (hb : xs.length ≤ 1048576) {R : AV → AH → Prop}
    (hR : ∀ v' h' vs, h.le h' → Oss h h' v' vs (itemsL xs) → R v' h') : CA 18 [v] h R := by
  rw [ca_iff (af := ac18) rfl]
  have hL := fun R => ListOk_iff H (by omega) R
  simp [ac18, hL]
  cases hli : listB xs with
  | false =>
    simp
    exact hR _ _ [] (AH.le_refl h) ⟨Rn.nils encV_ok h h, by simp [itemsL, hli], fun i hi => by simp [itemsL, hli] at hi, fun i j b hi => by simp [itemsL, hli] at hi, fun i b hi => by simp [itemsL, hli] at hi⟩
  | true =>
  obtain ⟨h20, hok⟩ := listB_ok hli
  simp
  refine items_ok H hb hok fun vi h1 hle1 hNi => ?_
  have hsl := starts_len hok
  have hmem := starts_mem hok
  simp [hNi.rows.len]
  revert hNi hsl hmem
  generalize hst : starts xs 0 = st
  intro hNi hsl hmem
  refine awp_loop2 ca_mono (fun n s h' => ∃ (i : Nat) (cs : List AV), n = st.length - i ∧ i ≤ st.length ∧ (s 3 = vi ∧ s 11 = .int .i64 (st.length : Nat) ∧ s 12 = .int .i64 (i : Nat)) ∧ h.le h' ∧ cs.length = i ∧ Rn h 1 encV h' vi (cs ++ (st.map (itemV v xs)).drop i) ∧
      (∀ k, k < i → Rn h 15 Nd.enc h' (nth cs k) (itemL xs (nth st k)) ∧ ∀ b, blk (nth cs k) = some b → blk vi ≠ some b) ∧ (∀ k j b, k < i → j < i → blk (nth cs k) = some b → blk (nth cs j) = some b → k = j)) ?_ (n := st.length) ⟨0, [], by simp, by simp, by simp, hle1, rfl, by simpa using hNi, fun k hk => by simp at hk, fun k j b hk => by simp at hk⟩
  rintro n s h' ⟨i, cs, rfl, hi, ⟨s3, s11, s12⟩, hle, hcl, hN, hin, hap⟩ K hK hE hQ
  have hml : (st.map (itemV v xs)).length = st.length := by simp
  have hol : (cs ++ (st.map (itemV v xs)).drop i).length = st.length := by simp [hcl]; omega
  simp [s3, s11, s12]
  refine condR_splitD ?_ ?_ <;> intro hlt
  · obtain ⟨j1, j2, j3⟩ := hmem (nth st i) (by rw [nth_eq hlt]; exact List.getElem_mem hlt)
    have hni : nth (cs ++ (st.map (itemV v xs)).drop i) i = itemV v xs (nth st i) := by
      rw [nth_eq (by omega), nth_eq hlt]
      rw [List.getElem_append_right (by omega)]
      simp [hcl]
    have Hit := item_rows (H.le hle) j1 j3
    have hsi := rs_slv Hit
    have hil := itemL_len xs j3
    (iterate 4 ((try simp [s3, s12, hN.rows.iaddr, hN.rows.load1, hol, hni, encV, hsi]); (try simp (disch := omega) [s3, s12, hN.rows.iaddr, hN.rows.load1, hol, hni, encV, hsi])))
    refine clone_ok Hit (by omega) fun c h2 l2 Nc => ?_
    have hsc := rs_slv Nc.rows
    have h1c : c.one = true := by rw [← hsc]; cases c <;> rfl
    have hN2 := hN.le l2
    have hst1 := hN2.own.store1 i c c h1c (by rw [encV, hsc]) (by omega)
    have hle3 := hN2.setR_le (AH.le_trans hle l2) (ys := (cs ++ (st.map (itemV v xs)).drop i).set i c) (by omega)
    have hRn := hN2.setR (ys := (cs ++ (st.map (itemV v xs)).drop i).set i c) (by simp)
    have hset : (cs ++ (st.map (itemV v xs)).drop i).set i c = (cs ++ [c]) ++ (st.map (itemV v xs)).drop (i + 1) := by
      rw [List.set_append_right _ _ (by omega), hcl, drop_eq (by rw [hml]; exact hlt)]
      simp
    revert hst1 hle3 hset hRn
    generalize (cs ++ (st.map (itemV v xs)).drop i).set i c = zs
    intro hst1 hle3 hRn hset
    (iterate 4 ((try simp [s3, s12, hN.rows.iaddr, hol, hst1, wrap_i64]); (try simp (disch := omega) [s3, s12, hN.rows.iaddr, hol, hst1, wrap_i64])))
    have hfr : ∀ b, blk vi ≠ some b → (h2.setR vi encV zs).get b = h2.get b := fun b hb1 => AH.get_setR_ne _ _ _ _ (fun e => hb1 (by
      rcases hN2.own.at_ with ⟨e1, e2⟩ | ⟨b', o', e1, _⟩
      · rw [e2] at hol; simp at hol; omega
      · rw [e1] at e ⊢; rw [← e]; rfl))
    have hcv : ∀ b, blk c = some b → blk vi ≠ some b := fun b hb1 hb2 => by
      have a := Nc.new b hb1
      have d := hN.own.lt hb2
      omega
    refine hK (st.length - (i + 1)) _ _ (by omega) ⟨i + 1, cs ++ [c], rfl, by omega, ⟨by simp [s3], by simp [s11], by simp⟩, hle3, by simp [hcl], ?_, ?_, ?_⟩
    · rw [← hset]; exact hRn
    · intro k hk
      by_cases hki : k < i
      · obtain ⟨Nk, hkv⟩ := hin k hki
        rw [nth_app_lt (by omega)]
        exact ⟨(Nk.le l2).frame fun b hb1 => hfr b (hkv b hb1), hkv⟩
      · obtain rfl : k = i := by omega
        rw [← hcl, nth_app_len, hcl]
        exact ⟨(Nc.frame fun b hb1 => hfr b (hcv b hb1)).weaken hle, hcv⟩
    · intro k j b hk hj hb1 hb2
      by_cases hki : k < i
      · rw [nth_app_lt (by omega)] at hb1
        by_cases hji : j < i
        · rw [nth_app_lt (by omega)] at hb2
          exact hap k j b hki hji hb1 hb2
        · obtain rfl : j = i := by omega
          rw [← hcl, nth_app_len] at hb2
          have a := Nc.new b hb2
          have d := (hin k hki).1.own.lt hb1
          omega
      · obtain rfl : k = i := by omega
        rw [← hcl, nth_app_len] at hb1
        by_cases hji : j < k
        · rw [nth_app_lt (by omega)] at hb2
          have a := Nc.new b hb1
          have d := (hin j hji).1.own.lt hb2
          omega
        · omega
  · obtain rfl : i = st.length := by omega
    simp [hE, s3]
    have e0 : cs ++ (st.map (itemV v xs)).drop st.length = cs := by rw [List.drop_of_length_le (by simp), List.append_nil]
    rw [e0] at hN
    have hit : itemsL xs = st.map (itemL xs) := by simp [itemsL, hli, hst]
    have hnt : ∀ k, k < st.length → nth (itemsL xs) k = itemL xs (nth st k) := fun k hk => by
      rw [nth_eq (by rw [hit]; simpa using hk), nth_eq hk]; simp [hit]
    have hil : (itemsL xs).length = st.length := by simp [hit]
    exact hR _ _ cs hle ⟨hN, by rw [hil, hcl], fun k hk => by rw [hnt k (by omega)]; exact (hin k (by omega)).1, fun k j b hk hj => hap k j b (by omega) (by omega), fun k b hk => (hin k (by omega)).2 b⟩
end Go.Proofs.Ytnaainlddcpfgaa
