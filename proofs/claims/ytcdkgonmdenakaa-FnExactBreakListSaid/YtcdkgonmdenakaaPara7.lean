/- Contracts: the row of a paragraph and its breaks, as the program has them. -/
import Derived.Test.YtcdkgonmdenakaaPara6
namespace Go.Proofs.Ytcdkgonmdenakaa
open Go Go.Bm Go.Proofs
set_option linter.all false

theorem cloneRows_ok (l : List (List Node)) (hb : l.length ≤ 1048576) (c : Option Nat) (h : AH) (R : AV → AH → Prop) (hR : ∀ h' v, Own h 1 (encS Node.enc) h' v l → R v h') : CA 46 [.fs c (l.map (encS Node.enc))] h R :=
  (ca_iff (af := ac46) rfl).2 (tplClone_ok (es := 1) (bytes := 24) (zero := [.nils]) (encS_ok Node.enc).toEncOk hb (by omega) h c R hR)
/-- A row in memory: a style, the items, the breaks. -/
structure RowAt (h0 h : AH) (b : Nat) (va vb : AV) (st : Style) (l : List (List Node)) (bs : List Int) : Prop where
  cell : h.get b = some (.cells true (st.enc ++ [va, vb]))
  new : h0.next ≤ b
  rows : Own h0 1 (encS Node.enc) h va l
  brk : Own h0 1 (encI .i64) h vb bs
  s1 : blk va ≠ some b
  s2 : blk vb ≠ some b
  s3 : ∀ k, blk va = some k → blk vb ≠ some k
theorem RowAt.ldb {h0 h : AH} {b : Nat} {va vb : AV} {st : Style} {l : List (List Node)} {bs : List Int} (H : RowAt h0 h b va vb st l bs) : loadA false 1 (.ptr b 24) h = some (vb, h) := ld1 H.cell 24 rfl
theorem RowAt.lda {h0 h : AH} {b : Nat} {va vb : AV} {st : Style} {l : List (List Node)} {bs : List Int} (H : RowAt h0 h b va vb st l bs) : loadA false 1 (.ptr b 23) h = some (va, h) := ld1 H.cell 23 rfl
theorem RowAt.put {h0 h : AH} {b : Nat} {va vb : AV} {st : Style} {l : List (List Node)} {bs : List Int} (H : RowAt h0 h b va vb st l bs) (i : Int) (hb : bs.length ≤ 1048576) :
    ∃ v2 h2, appendA 1 8 vb (.fs (some 1) [[.int .i64 i]]) h = some (v2, h2) ∧ ∃ h3, storeA 1 (.ptr b 24) v2 h2 = some (.tup [], h3) ∧ RowAt h0 h3 b va v2 st l (bs ++ [i]) := by
  obtain ⟨v2, h2, ea, O2, hn, hf⟩ := H.brk.append1 (some 1) i [.int .i64 i] rfl 8 (by omega) (by omega)
  have hblk := appendA_blk ea
  have hbl := AH.get_lt H.cell
  have c2 : h2.get b = some (.cells true (st.enc ++ [va, vb])) := (hf b hbl H.s2).trans H.cell
  have hb2 := AH.get_lt c2
  have e3 := st1 c2 24 v2 O2.one1 (by simp)
  have nb : ∀ k, blk v2 = some k → k ≠ b := fun k hk e => by
    subst e
    rcases hblk k hk with h1 | h1
    · exact H.s2 h1
    · omega
  have le3 : h0.le (h2.upd b (some (.cells true ((st.enc ++ [va, vb]).set 24 v2)))) := ⟨O2.le.1, fun c hc => by rw [AH.get_upd hb2, if_neg (by have := H.new; omega)]; exact O2.le.2 c hc⟩
  refine ⟨v2, h2, ea, _, e3, ⟨by rw [AH.get_upd hb2, if_pos rfl]; rfl, H.new, H.rows.frame le3 fun k hk => ?_, O2.frame le3 fun k hk => ?_, H.s1, fun e => nb b e rfl, fun k hk e => ?_⟩⟩
  · rw [AH.get_upd hb2, if_neg (fun e => H.s1 (by rw [← e]; exact hk))]
    exact hf k (H.rows.lt hk) (H.s3 k hk)
  · rw [AH.get_upd hb2, if_neg (nb k hk)]
  · rcases hblk k e with h1 | h1
    · exact H.s3 k hk h1
    · have := H.rows.lt hk; omega
theorem boxed (v : AV) (h : AH) (hv : v.cells.all AV.one = true) : boxA v h = some (.ptr h.next 0, h.new (.cells true v.cells)) := by simp only [boxA]; rw [if_pos hv]
set_option maxRecDepth 100000 in
set_option maxHeartbeats 1000000 in
theorem rowOf_ok (xs : List Node) (hb : xs.length ≤ 1048576) (st : Style) (h : AH) (R : AV → AH → Prop)
    (hN : paraB xs st = false → ∀ h', h.le h' → R .nilp h')
    (hR : paraB xs st = true → ∀ h' b va vb, RowAt h h' b va vb st (rowL xs st) (brkL xs st) → R (.ptr b 0) h') : CA 28 [.fs none (xs.map Node.enc), .agg st.enc] h R := by
  refine (ca_iff (af := ac28) rfl).2 ?_
  have hp : paraB xs st = (styleB st && listB xs && decide ((itemsL xs).length ≤ 2000) && decide ((brks (rowL xs st) (rowL xs st).length).length ≤ 300)) := rfl
  have hle := AH.le_refl h
  simp [ac28, StyleOk_iff]
  cases h1 : styleB st with
  | false => simp [h1] at hp; simp; exact hN hp h hle
  | true =>
  simp [ListOk_iff xs hb none (CapOk.none _)]
  cases h2 : listB xs with
  | false => simp [h1, h2] at hp; simp; exact hN hp h hle
  | true =>
  obtain ⟨_, ho⟩ := listB_ok h2
  have hil := itemsL_len ho
  simp [items_iff xs hb ho]
  by_cases h3 : 2000 < ((itemsL xs).length : Int)
  · have : ¬ (itemsL xs).length ≤ 2000 := by omega
    simp [h1, h2, this] at hp
    simp [h3]
    exact hN hp h hle
  simp [h3]
  simp [h1, h2, show (itemsL xs).length ≤ 2000 by omega] at hp
  refine awp_loop2 caM (fun n s h' => h' = h ∧ ∃ (l : List (List Node)), n = l.length ∧ l.length ≤ xs.length ∧ (∀ x ∈ l, 0 < x.length) ∧ trimR l = trimR (itemsL xs) ∧ (s 5 = .fs none (l.map (encS Node.enc)) ∧ s 100003 = .agg st.enc)) ?_ (n := (itemsL xs).length) ⟨rfl, itemsL xs, rfl, hil, item_ne, rfl, by simp⟩
  rintro n s h' ⟨rfl, l, rfl, hll, hne, htr, s5, sb⟩ K hK hE hQ
  have fin : trimR l = l → ∀ s2 : S, s2 5 = s 5 → s2 100003 = s 100003 → K (.exit 0) s2 h' := by
    intro e s2 t5 tb
    rw [s5] at t5
    rw [sb] at tb
    have hrl : l ++ tailR st = rowL xs st := by rw [rowL, ← htr, e]
    have hrl2 := rowL_len (xs := xs) st
    have hbk : paraB xs st = true → brkL xs st = brks (rowL xs st) (rowL xs st).length := fun e => by rw [brkL, if_pos e]
    have hrne := fun x hx => row_ne (xs := xs) (st := st) x hx
    simp only [Style.enc] at tb
    have p1 := fun h => lit1N (pen 10000) h
    have p2 := fun h => lit1N (pen (-10000)) h
    have p3 := fun h => lit1N (glu st.fill) h
    simp only [pen, glu] at p1 p2 p3
    simp [hE, t5, tb, p1, p2, p3, lit3]
    refine cloneRows_ok l (by omega) _ _ _ fun h1 v1 O1 => ?_
    obtain ⟨v2, h2, ea, O2, _, _⟩ := O1.appendR (some 3) (tailR st) 24 (by simp [tailR]; omega) (by simp [tailR]; omega)
    rw [hrl] at O2
    simp only [tailR, List.map_cons, List.map_nil, encS, Node.enc, pen, glu] at ea
    have o2 := O2.one1
    have bx := boxed (.agg (st.enc ++ [v2, .nils])) h2 (by simp [-AV.one, o2, one_int, one_nils, cells_agg])
    simp only [cells_agg] at bx
    have R0 : RowAt h' (h2.new (.cells true (st.enc ++ [v2, .nils]))) h2.next v2 .nils st (rowL xs st) (brks (rowL xs st) 0) :=
      ⟨by rw [AH.get_new, if_pos rfl], O2.le.1, O2.grow (AH.le_new h2 _), by simpa [brks] using Own.nils (encI_ok .i64).toEncOk (AH.le_new_of O2.le _), (fun e => by have := O2.lt e; omega), (fun e => by cases e), fun k _ e => by cases e⟩
    generalize h2.new (.cells true (st.enc ++ [v2, .nils])) = h3 at R0 bx
    generalize h2.next = b at R0 bx
    simp only [Style.enc, List.cons_append, List.nil_append] at bx
    simp [-AV.one, -AV.cells, cells_agg, cells_one, cells_int, one_int, ea, o2, tb, one_nils, O2.len, bx]
    generalize rowL xs st = rw_ at *
    refine awp_loop2 caM (fun n s h4 => ∃ (i : Nat) (vb : AV), n = rw_.length - i ∧ i ≤ rw_.length ∧ (s 5 = v2 ∧ s 6 = .ptr b 0 ∧ s 59 = v2 ∧ s 60 = .int .i64 rw_.length ∧ s 61 = .int .i64 i) ∧ RowAt h' h4 b v2 vb st rw_ (brks rw_ i)) ?_ (n := rw_.length) ⟨0, .nils, by simp, by simp, by simp, R0⟩
    clear R0 bx ea O2 O1 t5 tb s5 sb hK hE hQ
    rintro n s h4 ⟨i, vb, rfl, hi, ⟨s5, s6, s59, s60, s61⟩, P⟩ K hK hE hQ
    simp [s5, s6, s59, s60, s61]
    by_cases hlt : i < rw_.length
    · have i1 := fun k (hi : i < rw_.length) => P.rows.iaddr h4 k (i : Int) (by omega) (by omega)
      have i2 := P.rows.load1 i 0 hlt (by omega)
      have w1 : IntKind.wrap .i64 ((i : Int) + 1) = (i : Int) + 1 := wrap_i64 (by omega) (by omega)
      have hbl := brks_len rw_ i
      simp only [Int.toNat_natCast] at i1
      have no : isBrk rw_ i = false → ∀ s2 : S, s2 5 = v2 → s2 6 = .ptr b 0 → s2 59 = v2 → s2 60 = .int .i64 rw_.length → s2 61 = .int .i64 ((i : Int) + 1) → K .normal s2 h4 := fun e s2 t5 t6 t59 t60 t61 =>
        hK (rw_.length - (i + 1)) _ _ (by omega) ⟨i + 1, vb, rfl, by omega, ⟨t5, t6, t59, t60, by simpa using t61⟩, by rw [brks_succ, e]; exact P⟩
      obtain ⟨v3, h5, ea, h6, eb, P2⟩ := P.put (i : Int) (by omega)
      have yes : isBrk rw_ i = true → ∀ s2 : S, s2 5 = v2 → s2 6 = .ptr b 0 → s2 59 = v2 → s2 60 = .int .i64 rw_.length → s2 61 = .int .i64 ((i : Int) + 1) → K .normal s2 h6 := fun e s2 t5 t6 t59 t60 t61 =>
        hK (rw_.length - (i + 1)) _ _ (by omega) ⟨i + 1, v3, rfl, by omega, ⟨t5, t6, t59, t60, by simpa using t61⟩, by rw [brks_succ, e]; exact P2⟩
      simp [hlt, s5, s6, s59, s60, s61, i1, i2, hd_load rw_ hrne hlt]
      by_cases k3 : (hd1 (nth rw_ i)).kind = 3
      · by_cases h0 : 0 < i
        · have j1 := fun k => P.rows.iaddr h4 k ((i - 1 : Nat) : Int) (by omega) (by omega)
          have j2 := P.rows.load1 (i - 1) 0 (by omega) (by omega)
          have w2 : IntKind.wrap .i64 ((i : Int) - 1) = ((i - 1 : Nat) : Int) := by rw [wrap_i64 (by omega) (by omega)]; omega
          simp only [Int.toNat_natCast] at j1
          simp [k3, h0, s5, w2, j1, j2, hd_load rw_ hrne (show i - 1 < rw_.length by omega), discardable_iff]
          cases hd : discB (hd1 (nth rw_ (i - 1))).kind with
          | true =>
            simp [k3, s61, w1]
            exact no (by simp [isBrk, k3, hd]) _ (by simp [s5]) (by simp [s6]) (by simp [s59]) (by simp [s60]) (by simp)
          | false =>
            simp [k3, s6, P.ldb, lit1I, ea, eb, s61, w1]
            exact yes (by simp [isBrk, k3, hd, h0]) _ (by simp [s5]) (by simp [s6]) (by simp [s59]) (by simp [s60]) (by simp)
        · simp [k3, h0, s61, w1]
          exact no (by simp [isBrk, k3, h0]) _ (by simp [s5]) (by simp [s6]) (by simp [s59]) (by simp [s60]) (by simp)
      · by_cases k4 : (hd1 (nth rw_ i)).kind = 4
        · by_cases hn : (hd1 (nth rw_ i)).n < 10000
          · simp [k3, k4, hn, s6, P.ldb, lit1I, ea, eb, s61, w1]
            exact yes (by simp [isBrk, k3, k4, hn]) _ (by simp [s5]) (by simp [s6]) (by simp [s59]) (by simp [s60]) (by simp)
          · simp [k3, k4, hn, s61, w1]
            exact no (by simp [isBrk, k3, k4]; omega) _ (by simp [s5]) (by simp [s6]) (by simp [s59]) (by simp [s60]) (by simp)
        · by_cases k8 : (hd1 (nth rw_ i)).kind = 8
          · simp [k3, k4, k8, s6, P.ldb, lit1I, ea, eb, s61, w1]
            exact yes (by simp [isBrk, k3, k4, k8]) _ (by simp [s5]) (by simp [s6]) (by simp [s59]) (by simp [s60]) (by simp)
          · simp [k3, k4, k8, s61, w1]
            exact no (by simp [isBrk, k3, k4, k8]) _ (by simp [s5]) (by simp [s6]) (by simp [s59]) (by simp [s60]) (by simp)
    · obtain rfl : i = rw_.length := by omega
      simp [hE, s6, P.ldb, P.brk.len]
      by_cases h9 : 300 < ((brks rw_ rw_.length).length : Int)
      · have : ¬ (brks rw_ rw_.length).length ≤ 300 := by omega
        simp [this] at hp
        simp [h9]
        exact hN hp _ P.rows.le
      · simp [show (brks rw_ rw_.length).length ≤ 300 by omega] at hp
        simp [h9, s6]
        refine hR hp _ b v2 vb ?_
        rw [hbk hp]; exact P
  by_cases h0 : 0 < l.length
  · have w1 : IntKind.wrap .i64 ((l.length : Int) - 1) = ((l.length - 1 : Nat) : Int) := by rw [wrap_i64 (by omega) (by omega)]; omega
    have i1 := fun k => (encS_ok Node.enc).toEncOk.iaddr (by omega) none l k ((l.length - 1 : Nat) : Int) h' (by omega) (by omega)
    simp only [Int.toNat_natCast] at i1
    simp [h0, s5, w1, i1, hd_load l hne (show l.length - 1 < l.length by omega)]
    by_cases k3 : (hd1 (nth l (l.length - 1))).kind = 3
    · have sl := (encS_ok Node.enc).toEncOk.sliceHi l h' .i64 ((l.length - 1 : Nat) : Int) (by omega) (by omega)
      rw [Int.toNat_natCast] at sl
      simp [-List.map_take, k3, s5, w1, sl]
      refine hK (l.length - 1) _ _ (by omega) ⟨rfl, l.take (l.length - 1), by simp, by simp; omega, fun x hx => hne x (List.mem_of_mem_take hx), ?_, by simp [sb]⟩
      rw [← htr]
      conv => rhs; rw [trimR, dif_pos ⟨h0, k3⟩]
    · simp [k3]
      exact fin (by rw [trimR, dif_neg (fun e => k3 e.2)]) _ (by simp) (by simp)
  · simp [s5, h0]
    exact fin (by rw [trimR, dif_neg (fun e => h0 e.1)]) _ (by simp) (by simp)
end Go.Proofs.Ytcdkgonmdenakaa
