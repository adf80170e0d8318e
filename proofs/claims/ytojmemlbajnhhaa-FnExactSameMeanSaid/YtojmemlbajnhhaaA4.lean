/- Contracts: cats, levels, environments. -/
import Derived.Test.YtojmemlbajnhhaaA3
import Derived.Test.YtojmemlbajnhhaaMk
namespace Go.Proofs.Ytojmemlbajnhhaa
open Go Go.Bm Go.Proofs
set_option linter.all false

def catB (n : Int) : Bool := decide (0 ≤ n ∧ n ≤ 15)
def catsB (ns : List Int) : Bool := decide ((ns.length : Int) = 256) && ns.all catB
theorem CatsOk_iff (ts : List Int) (hb : ts.length ≤ 1048576) (h : AH) (c : Option Nat) (R : AV → AH → Prop) : CA 103 [.fs c (ts.map (encI .i64))] h R ↔ R (.bool (catsB ts)) h := by
  refine ca_pure (af := ac103) rfl ?_
  simp [ac103, catsB]
  refine awp_loop2 caM (fun n s h' => h' = h ∧ ∃ i : Nat, n = ts.length - i ∧ i ≤ ts.length ∧ (s 0 = .fs c (ts.map (encI .i64)) ∧ s 5 = .fs c (ts.map (encI .i64)) ∧ s 6 = .int .i64 ts.length ∧ s 7 = .int .i64 i) ∧ (ts.take i).all catB = true) ?_ (n := ts.length) ⟨rfl, 0, by simp⟩
  rintro n s h' ⟨rfl, i, rfl, hi, ⟨h0, h5, h6, h7⟩, ht⟩ K hK hE hQ
  simp [h0, h5, h6, h7]
  by_cases hlt : i < ts.length
  · have a1 := fun c k => (encI_ok .i64).toEncOk.iaddr (by omega) c ts k (i : Int) h' (by omega) (by omega)
    have hw : IntKind.wrap .i64 ((i : Int) + 1) = (i : Int) + 1 := wrap_i64 (by omega) (by omega)
    simp [hlt, h0, h5, h6, h7, a1]
    by_cases c1 : nth ts i < 0
    · simp [c1, hQ, all_no hlt (show catB (nth ts i) = false by simp [catB]; omega)]
    by_cases c2 : 15 < nth ts i
    · simp [c1, c2, hQ, all_no hlt (show catB (nth ts i) = false by simp [catB]; omega)]
    · simp [c1, c2, h7, hw]
      exact hK (ts.length - (i + 1)) _ _ (by omega) ⟨rfl, i + 1, rfl, by omega, by simp [h0, h5, h6], by rw [all_succ hlt, ht]; simp [catB]; omega⟩
  · obtain rfl : i = ts.length := by omega
    rw [List.take_length] at ht
    simp [hE, ht, h0]
theorem l1CatsOk_iff (ts : List Int) (h : AH) (c : Option Nat) (R : AV → AH → Prop) : CA 97 [.fs c (ts.map (encI .i64))] h R ↔ R (.bool (catsB ts)) h := by
  refine ca_pure (af := ac97) rfl ?_
  simp [ac97, catsB]
  by_cases hl : (ts.length : Int) = 256
  case neg => simp [hl]
  simp [hl]
  have hl' : ts.length = 256 := by omega
  refine awp_loop2 caM (fun n s h' => h' = h ∧ ∃ i : Nat, n = ts.length - i ∧ i ≤ ts.length ∧ (s 0 = .fs c (ts.map (encI .i64)) ∧ s 3 = .int .i64 i) ∧ (ts.take i).all catB = true) ?_ (n := ts.length) ⟨rfl, 0, by simp⟩
  rintro n s h' ⟨rfl, i, rfl, hi, ⟨h0, h3⟩, ht⟩ K hK hE hQ
  simp [h0, h3]
  by_cases hlt : i < ts.length
  · have a1 := fun c k => (encI_ok .i64).toEncOk.iaddr (by omega) c ts k (i : Int) h' (by omega) (by omega)
    have hw : IntKind.wrap .i64 ((i : Int) + 1) = (i : Int) + 1 := wrap_i64 (by omega) (by omega)
    have hlt' : (i : Int) < 256 := by omega
    simp [hlt', h0, h3, a1]
    by_cases c1 : nth ts i < 0
    · simp [c1, hQ, all_no hlt (show catB (nth ts i) = false by simp [catB]; omega)]
    by_cases c2 : 15 < nth ts i
    · simp [c1, c2, h0, h3, a1, hQ, all_no hlt (show catB (nth ts i) = false by simp [catB]; omega)]
    · simp [c1, c2, h0, h3, a1, hw]
      exact hK (ts.length - (i + 1)) _ _ (by omega) ⟨rfl, i + 1, rfl, by omega, by simp [h0], by rw [all_succ hlt, ht]; simp [catB]; omega⟩
  · obtain rfl : i = ts.length := by omega
    rw [List.take_length] at ht
    have : ¬ (ts.length : Int) < 256 := by omega
    simp [hE, ht, h0, this]

theorem binStr_geq (a b : ByteArray) : binStr .geq a b = some (.bool (!Op.bytesLess a.toList b.toList)) := rfl
/-- The binding at a place: a short name, above the one before it, and a meaning that holds. -/
def bindAt (bs : List Bind) (i : Nat) : Bool := !decide ((nth bs i).name.size > 40) && !(decide (0 < i) && !Op.bytesLess (nth bs (i - 1)).name.toList (nth bs i).name.toList) && !decide ((nth bs i).mean.kind = 0) && meanB (nth bs i).mean
def bindsB (bs : List Bind) : Bool := (List.range bs.length).all (bindAt bs)
theorem range_succ_all {p : Nat → Bool} {i : Nat} (h : (List.range i).all p = true) (hp : p i = true) : (List.range (i + 1)).all p = true := by
  rw [List.range_succ, List.all_append, h]; simp [hp]
theorem range_no {p : Nat → Bool} {i n : Nat} (h : i < n) (hp : p i = false) : (List.range n).all p = false := by
  rw [List.all_eq_false]; exact ⟨i, List.mem_range.2 h, by simp [hp]⟩
/-- The registers of one number. -/
def regAt (l : Level) (i : Nat) : Bool := !decide (nth l.counts i < -2147483647) && !decide (2147483647 < nth l.counts i) && fitsB (nth l.lens i) && glueB (nth l.glues i) && toksB 2000 0 (nth l.toks i)
def regsB (l : Level) : Bool := (List.range 32).all (regAt l)
def levelB (l : Level) : Bool := catsB l.cats && !decide (500 < (l.binds.length : Int)) && decide ((l.counts.length : Int) = 32) && decide ((l.lens.length : Int) = 32) && decide ((l.glues.length : Int) = 32) && decide ((l.toks.length : Int) = 32) && bindsB l.binds && regsB l
theorem bind_le {bs : List Bind} {i : Nat} (h : i < bs.length) (hw : WS Bind.W bs ≤ 1048576) : (nth bs i).mean.macro_.pattern.length ≤ 1048576 ∧ (nth bs i).mean.macro_.body.length ≤ 1048576 := by
  have h1 := WS_nth Bind.W h
  have h2 := WS_len Token.W (nth bs i).mean.macro_.pattern
  have h3 := WS_len Token.W (nth bs i).mean.macro_.body
  simp only [Bind.W, Mean.W, Macro.W] at h1
  omega
theorem toks_le {ts : List (List Token)} {i : Nat} (h : i < ts.length) (hw : WS (WS Token.W) ts ≤ 1048576) : (nth ts i).length ≤ 1048576 := by
  have h1 := WS_nth (WS Token.W) h
  have h2 := WS_len Token.W (nth ts i)
  omega
theorem levelOk_iff (a : List Int) (b : List Bind) (c d : List Int) (e : List Glue) (f : List (List Token)) (hb : Level.W ⟨a, b, c, d, e, f⟩ ≤ 1048576) (h : AH) (R : AV → AH → Prop) : CA 44 [.agg [.fs none (a.map (encI .i64)), .fs none (b.map Bind.enc), .fs none (c.map (encI .i64)), .fs none (d.map (encI .i64)), .fs none (e.map Glue.enc), .fs none (f.map (encS Token.enc))]] h R ↔ R (.bool (levelB ⟨a, b, c, d, e, f⟩)) h := by
  refine ca_pure (af := ac44) rfl ?_
  have w1 : WS Bind.W b ≤ 1048576 := by simp only [Level.W] at hb; omega
  have w2 : WS (WS Token.W) f ≤ 1048576 := by simp only [Level.W] at hb; omega
  have l0 : a.length ≤ 1048576 := by simp only [Level.W] at hb; omega
  have l1 := WS_len Bind.W b
  simp [ac44, levelB, CatsOk_iff _ l0]
  cases h0 : catsB a <;> simp
  by_cases h1 : 500 < (b.length : Int) <;> simp [h1]
  by_cases h2 : (c.length : Int) = 32 <;> simp [h2]
  by_cases h3 : (d.length : Int) = 32 <;> simp [h3]
  by_cases h4 : (e.length : Int) = 32 <;> simp [h4]
  by_cases h5 : (f.length : Int) = 32 <;> simp [h5]
  refine awp_loop2 caM (fun n s h' => h' = h ∧ ∃ i : Nat, n = b.length - i ∧ i ≤ b.length ∧ (s 42 = .fs none (b.map Bind.enc) ∧ s 43 = .int .i64 b.length ∧ s 44 = .int .i64 i ∧ s 100001 = .agg [.fs none (a.map (encI .i64)), .fs none (b.map Bind.enc), .fs none (c.map (encI .i64)), .fs none (d.map (encI .i64)), .fs none (e.map Glue.enc), .fs none (f.map (encS Token.enc))]) ∧ (List.range i).all (bindAt b) = true) ?_ (n := b.length) ⟨rfl, 0, by simp⟩
  rintro n s h' ⟨rfl, i, rfl, hi, ⟨e42, e43, e44, e1⟩, ht⟩ K hK hE hQ
  simp [e42, e43, e44, e1]
  by_cases hlt : i < b.length
  · have a1 := fun c k => Bind.ok.toEncOk.iaddr (by omega) c b k (i : Int) h' (by omega) (by omega)
    have hw : IntKind.wrap .i64 ((i : Int) + 1) = (i : Int) + 1 := wrap_i64 (by omega) (by omega)
    obtain ⟨m1, m2⟩ := bind_le hlt w1
    simp [hlt, e42, e43, e44, e1, a1]
    have no : bindAt b i = false → bindsB b = false := fun h1 => range_no hlt h1
    have yes : ∀ s' : S, bindAt b i = true → s' 42 = .fs none (b.map Bind.enc) → s' 43 = .int .i64 b.length → s' 44 = .int .i64 ((i : Int) + 1) → s' 100001 = .agg [.fs none (a.map (encI .i64)), .fs none (b.map Bind.enc), .fs none (c.map (encI .i64)), .fs none (d.map (encI .i64)), .fs none (e.map Glue.enc), .fs none (f.map (encS Token.enc))] → K .normal s' h' := fun s' hb q1 q2 q3 q4 =>
      hK (b.length - (i + 1)) _ _ (by omega) ⟨rfl, i + 1, rfl, by omega, ⟨q1, q2, by rw [q3]; simp, q4⟩, range_succ_all ht hb⟩
    by_cases c1 : 40 < ((nth b i).name.size : Int)
    · simp [c1, hQ, no (by simp [bindAt]; intros; omega)]
    have c1' : ¬ 40 < (nth b i).name.size := by omega
    have c1'' : (nth b i).name.size ≤ 40 := by omega
    by_cases c2 : 0 < i
    · have hw' : IntKind.wrap .i64 ((i : Int) - 1) = ((i - 1 : Nat) : Int) := by rw [wrap_i64 (by omega) (by omega)]; omega
      have a2 := fun c k => Bind.ok.toEncOk.iaddr (by omega) c b k ((i - 1 : Nat) : Int) h' (by omega) (by omega)
      simp [c1, c2, hw', a2, binStr_geq, e1]
      cases c3 : Op.bytesLess (nth b (i - 1)).name.toList (nth b i).name.toList with
      | false => simp [hQ, no (by simp [bindAt, c2, c3])]
      | true =>
      by_cases c4 : (nth b i).mean.kind = 0
      · simp [c4, hQ, no (by simp [bindAt, c4])]
      simp [c4, MeanOk_iff _ _ _ _ _ _ _ _ m1 m2]
      cases c5 : meanB (nth b i).mean with
      | false => simp [hQ, no (by simp [bindAt, c5])]
      | true =>
        simp [e44, hw]
        exact yes _ (by simp [bindAt, c1'', c2, c3, c4, c5]) (by simp [e42]) (by simp [e43]) (by simp) (by simp [e1])
    · simp [c1, c2]
      by_cases c4 : (nth b i).mean.kind = 0
      · simp [c4, hQ, no (by simp [bindAt, c4])]
      simp [c4, MeanOk_iff _ _ _ _ _ _ _ _ m1 m2]
      cases c5 : meanB (nth b i).mean with
      | false => simp [hQ, no (by simp [bindAt, c5])]
      | true =>
        simp [e44, hw]
        exact yes _ (by simp [bindAt, c1'', c2, c4, c5]) (by simp [e42]) (by simp [e43]) (by simp) (by simp [e1])
  · obtain rfl : i = b.length := by omega
    simp [hE, e1]
    have hbs : bindsB b = true := ht
    refine awp_loop2 caM (fun n s h'' => h'' = h' ∧ ∃ j : Nat, n = 32 - j ∧ j ≤ 32 ∧ (s 82 = .int .i64 j ∧ s 100001 = .agg [.fs none (a.map (encI .i64)), .fs none (b.map Bind.enc), .fs none (c.map (encI .i64)), .fs none (d.map (encI .i64)), .fs none (e.map Glue.enc), .fs none (f.map (encS Token.enc))]) ∧ (List.range j).all (regAt ⟨a, b, c, d, e, f⟩) = true) ?_ (n := 32) ⟨rfl, 0, by simp [e1]⟩
    clear hE hK
    rintro n s h' ⟨rfl, j, rfl, hj, ⟨q0, q1⟩, hs⟩ K hK hE hQ'
    simp [q0, q1]
    by_cases hlt : j < 32
    · have hlt' : (j : Int) < 32 := by omega
      have r2 := fun c' k => (encI_ok .i64).toEncOk.iaddr (by omega) c' c k (j : Int) h' (by omega) (by omega)
      have r3 := fun c' k => (encI_ok .i64).toEncOk.iaddr (by omega) c' d k (j : Int) h' (by omega) (by omega)
      have r4 := fun c' k => Glue.ok.toEncOk.iaddr (by omega) c' e k (j : Int) h' (by omega) (by omega)
      have r5 := fun c' k => (encS_ok Token.enc).toEncOk.iaddr (by omega) c' f k (j : Int) h' (by omega) (by omega)
      have hw : IntKind.wrap .i64 ((j : Int) + 1) = (j : Int) + 1 := wrap_i64 (by omega) (by omega)
      have m1 : (nth f j).length ≤ 1048576 := toks_le (by omega) w2
      have no : regAt ⟨a, b, c, d, e, f⟩ j = false → regsB ⟨a, b, c, d, e, f⟩ = false := fun h1 => range_no hlt h1
      have yes : ∀ s' : S, regAt ⟨a, b, c, d, e, f⟩ j = true → s' 82 = .int .i64 ((j : Int) + 1) → s' 100001 = .agg [.fs none (a.map (encI .i64)), .fs none (b.map Bind.enc), .fs none (c.map (encI .i64)), .fs none (d.map (encI .i64)), .fs none (e.map Glue.enc), .fs none (f.map (encS Token.enc))] → K .normal s' h' := fun s' hb q3 q4 =>
        hK (32 - (j + 1)) _ _ (by omega) ⟨rfl, j + 1, rfl, by omega, ⟨by rw [q3]; simp, q4⟩, range_succ_all hs hb⟩
      simp [hlt', q0, q1, r2]
      by_cases c1 : nth c j < -2147483647
      · simp [c1, hQ', hQ, no (by simp [regAt, c1])]
      by_cases c2 : 2147483647 < nth c j
      · simp [c1, c2, q0, q1, r2, hQ', hQ, no (by simp [regAt, c2])]
      simp [c1, c2, q0, q1, r2, r3, fits_iff]
      cases c3 : fitsB (nth d j) with
      | false => simp [hQ', hQ, no (by simp [regAt, c3])]
      | true =>
      simp [q0, q1, r4, GlueOk_iff]
      cases c4 : glueB (nth e j) with
      | false => simp [hQ', hQ, no (by simp [regAt, c4])]
      | true =>
      simp [q0, q1, r5, listOk_iff _ m1, listB_eq]
      cases c5 : toksB 2000 0 (nth f j) with
      | false => simp [hQ', hQ, no (by simp [regAt, c5])]
      | true =>
        simp [q0, hw]
        exact yes _ (by simp [regAt, c1, c2, c3, c4, c5]) (by simp) (by simp [q1])
    · obtain rfl : j = 32 := by omega
      have hrs : regsB ⟨a, b, c, d, e, f⟩ = true := hs
      simp [hE, hQ, hbs, hrs]
      omega
theorem l3LevelOk_iff (a : List Int) (b : List Bind) (c d : List Int) (e : List Glue) (f : List (List Token)) (hb : Level.W ⟨a, b, c, d, e, f⟩ ≤ 1048576) (h : AH) (R : AV → AH → Prop) : CA 42 [.agg [.fs none (a.map (encI .i64)), .fs none (b.map Bind.enc), .fs none (c.map (encI .i64)), .fs none (d.map (encI .i64)), .fs none (e.map Glue.enc), .fs none (f.map (encS Token.enc))]] h R ↔ R (.bool (levelB ⟨a, b, c, d, e, f⟩)) h := by
  refine ca_pure (af := ac42) rfl ?_
  have w1 : WS Bind.W b ≤ 1048576 := by simp only [Level.W] at hb; omega
  have w2 : WS (WS Token.W) f ≤ 1048576 := by simp only [Level.W] at hb; omega
  have l0 : a.length ≤ 1048576 := by simp only [Level.W] at hb; omega
  have l1 := WS_len Bind.W b
  simp [ac42, levelB, l1CatsOk_iff]
  cases h0 : catsB a <;> simp
  by_cases h1 : 500 < (b.length : Int) <;> simp [h1]
  by_cases h2 : (c.length : Int) = 32 <;> simp [h2]
  by_cases h3 : (d.length : Int) = 32 <;> simp [h3]
  by_cases h4 : (e.length : Int) = 32 <;> simp [h4]
  by_cases h5 : (f.length : Int) = 32 <;> simp [h5]
  refine awp_loop2 caM (fun n s h' => h' = h ∧ ∃ i : Nat, n = b.length - i ∧ i ≤ b.length ∧ (s 3 = .int .i64 i ∧ s 100001 = .agg [.fs none (a.map (encI .i64)), .fs none (b.map Bind.enc), .fs none (c.map (encI .i64)), .fs none (d.map (encI .i64)), .fs none (e.map Glue.enc), .fs none (f.map (encS Token.enc))]) ∧ (List.range i).all (bindAt b) = true) ?_ (n := b.length) ⟨rfl, 0, by simp⟩
  rintro n s h' ⟨rfl, i, rfl, hi, ⟨e3, e1⟩, ht⟩ K hK hE hQ
  simp [e3, e1, Bind.ok.toEncOk.len]
  by_cases hlt : i < b.length
  · have a1 := fun c k => Bind.ok.toEncOk.iaddr (by omega) c b k (i : Int) h' (by omega) (by omega)
    have hw : IntKind.wrap .i64 ((i : Int) + 1) = (i : Int) + 1 := wrap_i64 (by omega) (by omega)
    obtain ⟨m1, m2⟩ := bind_le hlt w1
    simp [hlt, e3, e1, Bind.ok.toEncOk.len, a1]
    have no : bindAt b i = false → bindsB b = false := fun h1 => range_no hlt h1
    have yes : ∀ s' : S, bindAt b i = true → s' 3 = .int .i64 ((i : Int) + 1) → s' 100001 = .agg [.fs none (a.map (encI .i64)), .fs none (b.map Bind.enc), .fs none (c.map (encI .i64)), .fs none (d.map (encI .i64)), .fs none (e.map Glue.enc), .fs none (f.map (encS Token.enc))] → K .normal s' h' := fun s' hb q3 q4 =>
      hK (b.length - (i + 1)) _ _ (by omega) ⟨rfl, i + 1, rfl, by omega, ⟨by rw [q3]; simp, q4⟩, range_succ_all ht hb⟩
    by_cases c1 : 40 < ((nth b i).name.size : Int)
    · simp [c1, hQ, no (by simp [bindAt]; intros; omega)]
    have c1' : ¬ 40 < (nth b i).name.size := by omega
    have c1'' : (nth b i).name.size ≤ 40 := by omega
    by_cases c2 : 0 < i
    · have hw' : IntKind.wrap .i64 ((i : Int) - 1) = ((i - 1 : Nat) : Int) := by rw [wrap_i64 (by omega) (by omega)]; omega
      have a2 := fun c k => Bind.ok.toEncOk.iaddr (by omega) c b k ((i - 1 : Nat) : Int) h' (by omega) (by omega)
      simp [c1, c2, hw', a2, binStr_geq, e1, e3]
      cases c3 : Op.bytesLess (nth b (i - 1)).name.toList (nth b i).name.toList with
      | false => simp [hQ, no (by simp [bindAt, c2, c3])]
      | true =>
      by_cases c4 : (nth b i).mean.kind = 0
      · simp [c4, hQ, no (by simp [bindAt, c4])]
      simp [c4, l3MeanOk_iff _ _ _ _ _ _ _ _ m1 m2]
      cases c5 : meanB (nth b i).mean with
      | false => simp [hQ, no (by simp [bindAt, c5])]
      | true =>
        simp [e3, hw]
        exact yes _ (by simp [bindAt, c1'', c2, c3, c4, c5]) (by simp) (by simp [e1])
    · simp [c1, c2, e3]
      by_cases c4 : (nth b i).mean.kind = 0
      · simp [c4, hQ, no (by simp [bindAt, c4])]
      simp [c4, l3MeanOk_iff _ _ _ _ _ _ _ _ m1 m2]
      cases c5 : meanB (nth b i).mean with
      | false => simp [hQ, no (by simp [bindAt, c5])]
      | true =>
        simp [e3, hw]
        exact yes _ (by simp [bindAt, c1'', c2, c4, c5]) (by simp) (by simp [e1])
  · obtain rfl : i = b.length := by omega
    simp [hE, e1]
    have hbs : bindsB b = true := ht
    refine awp_loop2 caM (fun n s h'' => h'' = h' ∧ ∃ j : Nat, n = 32 - j ∧ j ≤ 32 ∧ (s 5 = .int .i64 j ∧ s 100001 = .agg [.fs none (a.map (encI .i64)), .fs none (b.map Bind.enc), .fs none (c.map (encI .i64)), .fs none (d.map (encI .i64)), .fs none (e.map Glue.enc), .fs none (f.map (encS Token.enc))]) ∧ (List.range j).all (regAt ⟨a, b, c, d, e, f⟩) = true) ?_ (n := 32) ⟨rfl, 0, by simp [e1]⟩
    clear hE hK
    rintro n s h' ⟨rfl, j, rfl, hj, ⟨q0, q1⟩, hs⟩ K hK hE hQ'
    simp [q0, q1]
    by_cases hlt : j < 32
    · have hlt' : (j : Int) < 32 := by omega
      have r2 := fun c' k => (encI_ok .i64).toEncOk.iaddr (by omega) c' c k (j : Int) h' (by omega) (by omega)
      have r3 := fun c' k => (encI_ok .i64).toEncOk.iaddr (by omega) c' d k (j : Int) h' (by omega) (by omega)
      have r4 := fun c' k => Glue.ok.toEncOk.iaddr (by omega) c' e k (j : Int) h' (by omega) (by omega)
      have r5 := fun c' k => (encS_ok Token.enc).toEncOk.iaddr (by omega) c' f k (j : Int) h' (by omega) (by omega)
      have hw : IntKind.wrap .i64 ((j : Int) + 1) = (j : Int) + 1 := wrap_i64 (by omega) (by omega)
      have m1 : (nth f j).length ≤ 1048576 := toks_le (by omega) w2
      have no : regAt ⟨a, b, c, d, e, f⟩ j = false → regsB ⟨a, b, c, d, e, f⟩ = false := fun h1 => range_no hlt h1
      have yes : ∀ s' : S, regAt ⟨a, b, c, d, e, f⟩ j = true → s' 5 = .int .i64 ((j : Int) + 1) → s' 100001 = .agg [.fs none (a.map (encI .i64)), .fs none (b.map Bind.enc), .fs none (c.map (encI .i64)), .fs none (d.map (encI .i64)), .fs none (e.map Glue.enc), .fs none (f.map (encS Token.enc))] → K .normal s' h' := fun s' hb q3 q4 =>
        hK (32 - (j + 1)) _ _ (by omega) ⟨rfl, j + 1, rfl, by omega, ⟨by rw [q3]; simp, q4⟩, range_succ_all hs hb⟩
      simp [hlt', q0, q1, r2]
      by_cases c1 : nth c j < -2147483647
      · simp [c1, hQ', hQ, no (by simp [regAt, c1])]
      by_cases c2 : 2147483647 < nth c j
      · simp [c1, c2, q0, q1, r2, hQ', hQ, no (by simp [regAt, c2])]
      simp [c1, c2, q0, q1, r2, r3, l1Fits_iff]
      cases c3 : fitsB (nth d j) with
      | false => simp [hQ', hQ, no (by simp [regAt, c3])]
      | true =>
      simp [q0, q1, r4, l1GlueOk_iff]
      cases c4 : glueB (nth e j) with
      | false => simp [hQ', hQ, no (by simp [regAt, c4])]
      | true =>
      simp [q0, q1, r5, l3Toks_iff _ _ _ m1]
      cases c5 : toksB 2000 0 (nth f j) with
      | false => simp [hQ', hQ, no (by simp [regAt, c5])]
      | true =>
        simp [q0, hw]
        exact yes _ (by simp [regAt, c1, c2, c3, c4, c5]) (by simp) (by simp [q1])
    · obtain rfl : j = 32 := by omega
      have hrs : regsB ⟨a, b, c, d, e, f⟩ = true := hs
      simp [hE, hQ, hbs, hrs]
      omega
def envB (e : Env) : Bool := decide (1 ≤ (e.levels.length : Int)) && decide ((e.levels.length : Int) ≤ 20) && e.levels.all levelB
theorem EnvOk_iff (ls : List Level) (hb : Env.W ⟨ls⟩ ≤ 1048576) (h : AH) (R : AV → AH → Prop) : CA 14 [.agg [.fs none (ls.map Level.enc)]] h R ↔ R (.bool (envB ⟨ls⟩)) h := by
  refine ca_pure (af := ac14) rfl ?_
  have hl := WS_len Level.W ls
  simp only [Env.W] at hb
  simp [ac14, envB]
  by_cases h1 : (ls.length : Int) < 1
  · have : ¬ 1 ≤ (ls.length : Int) := by omega
    simp [h1, this]
  by_cases h2 : 20 < (ls.length : Int)
  · have : ¬ (ls.length : Int) ≤ 20 := by omega
    simp [h1, h2, this]
  have h3 : 1 ≤ (ls.length : Int) := by omega
  have h4 : (ls.length : Int) ≤ 20 := by omega
  simp [h1, h2]
  refine awp_loop2 caM (fun n s h' => h' = h ∧ ∃ i : Nat, n = ls.length - i ∧ i ≤ ls.length ∧ (s 16 = .fs none (ls.map Level.enc) ∧ s 17 = .int .i64 ls.length ∧ s 18 = .int .i64 i) ∧ (ls.take i).all levelB = true) ?_ (n := ls.length) ⟨rfl, 0, by simp⟩
  rintro n s h' ⟨rfl, i, rfl, hi, ⟨e16, e17, e18⟩, ht⟩ K hK hE hQ
  simp [e16, e17, e18]
  by_cases hlt : i < ls.length
  · have a1 := fun c k => Level.ok.toEncOk.iaddr (by omega) c ls k (i : Int) h' (by omega) (by omega)
    have hw : IntKind.wrap .i64 ((i : Int) + 1) = (i : Int) + 1 := wrap_i64 (by omega) (by omega)
    have m1 : Level.W (nth ls i) ≤ 1048576 := Nat.le_trans (WS_nth Level.W hlt) hb
    simp [hlt, e16, e17, e18, a1, levelOk_iff (nth ls i).cats (nth ls i).binds (nth ls i).counts (nth ls i).lens (nth ls i).glues (nth ls i).toks m1]
    cases hp : levelB (nth ls i) with
    | false => simp [hQ, all_no hlt hp]
    | true =>
      simp [e18, hw]
      exact hK (ls.length - (i + 1)) _ _ (by omega) ⟨rfl, i + 1, rfl, by omega, by simp [e16, e17], by rw [all_succ hlt, ht, hp]; rfl⟩
  · obtain rfl : i = ls.length := by omega
    rw [List.take_length] at ht
    simp [hE, ht, h3, h4]
theorem l3EnvOk_iff (ls : List Level) (hb : Env.W ⟨ls⟩ ≤ 1048576) (h : AH) (R : AV → AH → Prop) : CA 12 [.agg [.fs none (ls.map Level.enc)]] h R ↔ R (.bool (envB ⟨ls⟩)) h := by
  refine ca_pure (af := ac12) rfl ?_
  have hl := WS_len Level.W ls
  simp only [Env.W] at hb
  simp [ac12, envB]
  by_cases h1 : (ls.length : Int) < 1
  · have : ¬ 1 ≤ (ls.length : Int) := by omega
    simp [h1, this]
  by_cases h2 : 20 < (ls.length : Int)
  · have : ¬ (ls.length : Int) ≤ 20 := by omega
    simp [h1, h2, this]
  have h3 : 1 ≤ (ls.length : Int) := by omega
  have h4 : (ls.length : Int) ≤ 20 := by omega
  simp [h1, h2]
  refine awp_loop2 caM (fun n s h' => h' = h ∧ ∃ i : Nat, n = ls.length - i ∧ i ≤ ls.length ∧ (s 3 = .int .i64 i ∧ s 100001 = .agg [.fs none (ls.map Level.enc)]) ∧ (ls.take i).all levelB = true) ?_ (n := ls.length) ⟨rfl, 0, by simp⟩
  rintro n s h' ⟨rfl, i, rfl, hi, ⟨e3, e1⟩, ht⟩ K hK hE hQ
  simp [e3, e1, Level.ok.toEncOk.len]
  by_cases hlt : i < ls.length
  · have a1 := fun c k => Level.ok.toEncOk.iaddr (by omega) c ls k (i : Int) h' (by omega) (by omega)
    have hw : IntKind.wrap .i64 ((i : Int) + 1) = (i : Int) + 1 := wrap_i64 (by omega) (by omega)
    have m1 : Level.W (nth ls i) ≤ 1048576 := Nat.le_trans (WS_nth Level.W hlt) hb
    simp [hlt, e3, e1, a1, l3LevelOk_iff (nth ls i).cats (nth ls i).binds (nth ls i).counts (nth ls i).lens (nth ls i).glues (nth ls i).toks m1]
    cases hp : levelB (nth ls i) with
    | false => simp [hQ, all_no hlt hp]
    | true =>
      simp [e3, hw]
      exact hK (ls.length - (i + 1)) _ _ (by omega) ⟨rfl, i + 1, rfl, by omega, by simp [e1], by rw [all_succ hlt, ht, hp]; rfl⟩
  · obtain rfl : i = ls.length := by omega
    rw [List.take_length] at ht
    simp [hE, ht, h3, h4]
/-- The law answers true at every environment. -/
theorem lawEnvOk_ok (x : Env) (hx : x.Ok) (h : AH) : CA 3 [.agg x.enc] h (fun v _ => v = .bool true) := by
  obtain ⟨ls⟩ := x
  refine (ca_iff (af := ac3) rfl).2 ?_
  simp [ac3, szEnv_iff' _ hx, szr_neg]
  by_cases hW : (1048576 : Int) < Env.W ⟨ls⟩
  · simp [hW]
  have hw : Env.W ⟨ls⟩ ≤ 1048576 := by omega
  simp [hW, toEnv_iff' _ hw, l3EnvOk_iff _ hw, EnvOk_iff _ hw, eqEnv_iff' _ _ (Nat.le_trans hw (by decide))]
end Go.Proofs.Ytojmemlbajnhhaa
