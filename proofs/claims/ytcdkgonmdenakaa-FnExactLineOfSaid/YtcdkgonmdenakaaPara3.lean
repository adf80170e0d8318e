/- Contracts: the row and its breaks, as the reference has them. -/
import Derived.Test.YtcdkgonmdenakaaPara2
namespace Go.Proofs.Ytcdkgonmdenakaa
open Go Go.Bm Go.Proofs
set_option linter.all false

theorem lit1N (x : Node) (h : AH) : bsliceFA 1 15 [.int .i64 0, .int .i64 0, .int .i64 0, .int .i64 0, .int .i64 0, .int .i64 0, .int .i64 0, .int .i64 0, .int .i64 0, .int .i64 0, .int .i64 0, .int .i64 0, .int .i64 0, .str ⟨#[]⟩, .int .i64 0] [(0, .agg [.int .i64 x.kind, .int .i64 x.width, .int .i64 x.height, .int .i64 x.depth, .int .i64 x.shift, .int .i64 x.font, .int .i64 x.char, .int .i64 x.n, .int .i64 x.glue.size, .int .i64 x.glue.plus, .int .i64 x.glue.plusOrder, .int .i64 x.glue.minus, .int .i64 x.glue.minusOrder, .str x.text, .int .i64 x.kids])] h = some (.fs (some 1) [[.int .i64 x.kind, .int .i64 x.width, .int .i64 x.height, .int .i64 x.depth, .int .i64 x.shift, .int .i64 x.font, .int .i64 x.char, .int .i64 x.n, .int .i64 x.glue.size, .int .i64 x.glue.plus, .int .i64 x.glue.plusOrder, .int .i64 x.glue.minus, .int .i64 x.glue.minusOrder, .str x.text, .int .i64 x.kids]], h) :=
  Node.ok.bsliceF1 _ rfl x h
theorem lit3 (a b c : List (List AV)) (h : AH) : bsliceFA 3 1 [.nils] [(0, .fs (some 1) a), (1, .fs (some 1) b), (2, .fs (some 1) c)] h = some (.fs (some 3) [[.fs none a], [.fs none b], [.fs none c]], h) := rfl
theorem hd_load (l : List (List Node)) (hl : ∀ x ∈ l, 0 < x.length) {i : Nat} (hi : i < l.length) (c : Option Nat) (h : AH) : iaddrA 15 (.fs c ((nth l i).map Node.enc)) (.int .i64 0) h = some (.fp (hd1 (nth l i)).enc 0, h) := by
  have := Node.ok.toEncOk.iaddr (by omega) c (nth l i) .i64 0 h (by omega) (by have := nth_ne hl hi; omega)
  exact this
set_option maxRecDepth 100000 in
theorem l9Row_iff (xs : List Node) (hb : xs.length ≤ 1048576) (hl : listB xs = true) (a1 a2 a3 a4 a5 a6 a7 a8 b1 b2 b3 b4 b5 c1 c2 c3 c4 c5 d1 d2 d3 d4 d5 : Int) (h : AH) (R : AV → AH → Prop) : acallM CA .frz 43 [.fs none (xs.map Node.enc), .agg [.int .i64 a1, .int .i64 a2, .int .i64 a3, .int .i64 a4, .int .i64 a5, .int .i64 a6, .int .i64 a7, .int .i64 a8, .int .i64 b1, .int .i64 b2, .int .i64 b3, .int .i64 b4, .int .i64 b5, .int .i64 c1, .int .i64 c2, .int .i64 c3, .int .i64 c4, .int .i64 c5, .int .i64 d1, .int .i64 d2, .int .i64 d3, .int .i64 d4, .int .i64 d5]] h R ↔
    R (.fs none ((rowL xs ⟨a1, a2, a3, a4, a5, a6, a7, a8, ⟨b1, b2, b3, b4, b5⟩, ⟨c1, c2, c3, c4, c5⟩, ⟨d1, d2, d3, d4, d5⟩⟩).map (encS Node.enc))) h := by
  refine ca_frz (af := ac43) rfl ?_
  simp [ac43]
  refine specItems_ok xs hb _ _ fun h1 v O => ?_
  simp [hl] at O ⊢
  obtain ⟨_, ho⟩ := listB_ok hl
  have hil := itemsL_len ho
  refine awp_loop2 caM (fun n s h' => ∃ (l : List (List Node)), n = l.length ∧ l.length ≤ xs.length ∧ (∀ x ∈ l, 0 < x.length) ∧ trimR l = trimR (itemsL xs) ∧ (s 100003 = .agg [.int .i64 a1, .int .i64 a2, .int .i64 a3, .int .i64 a4, .int .i64 a5, .int .i64 a6, .int .i64 a7, .int .i64 a8, .int .i64 b1, .int .i64 b2, .int .i64 b3, .int .i64 b4, .int .i64 b5, .int .i64 c1, .int .i64 c2, .int .i64 c3, .int .i64 c4, .int .i64 c5, .int .i64 d1, .int .i64 d2, .int .i64 d3, .int .i64 d4, .int .i64 d5]) ∧ Stk h 1 (encS Node.enc) h' (s 5) l) ?_ (n := (itemsL xs).length) ⟨itemsL xs, rfl, hil, item_ne, rfl, by simp, by simpa using O⟩
  clear O
  rintro n s h' ⟨l, rfl, hll, hne, htr, sb, O⟩ K hK hE hQ
  have ol := O.len
  simp [ol, sb]
  have fin : trimR l = l → ∀ s2 : S, s2 5 = s 5 → s2 100003 = s 100003 → K (.exit 0) s2 h' := by
    intro e s2 t5 tb
    rw [sb] at tb
    obtain ⟨v2, h2, ea, O2, _⟩ := O.appendR (some 3) (tailR ⟨a1, a2, a3, a4, a5, a6, a7, a8, ⟨b1, b2, b3, b4, b5⟩, ⟨c1, c2, c3, c4, c5⟩, ⟨d1, d2, d3, d4, d5⟩⟩) 24 (by simp [tailR]; omega) (by simp [tailR]; omega)
    rw [htr] at e
    rw [← e] at O2
    have p1 := lit1N (pen 10000) h'
    have p2 := lit1N (pen (-10000)) h'
    have p3 := lit1N (glu ⟨d1, d2, d3, d4, d5⟩) h'
    simp only [pen, glu] at p1 p2 p3
    simp only [tailR, List.map_cons, List.map_nil, encS, Node.enc, pen, glu] at ea
    simp [hE, t5, tb, p1, p2, p3, lit3, ea]
    exact ⟨O2.le, O2.frzD (encS_ok Node.enc)⟩
  by_cases h0 : 0 < l.length
  · have w1 : IntKind.wrap .i64 ((l.length : Int) - 1) = ((l.length - 1 : Nat) : Int) := by rw [wrap_i64 (by omega) (by omega)]; omega
    have i1 := fun k => O.iaddr h' k ((l.length - 1 : Nat) : Int) (by omega) (by omega)
    have i2 := O.load1 (l.length - 1) 0 (by omega) (by omega)
    simp only [Int.toNat_natCast] at i1
    simp [h0, ol, sb, w1, i1, i2, hd_load l hne (show l.length - 1 < l.length by omega)]
    by_cases k3 : (hd1 (nth l (l.length - 1))).kind = 3
    · obtain ⟨v2, e1, O2, _⟩ := O.cut .i64 ((l.length - 1 : Nat) : Int) (by omega) (by omega) h0 h'
      simp [k3, ol, w1, e1]
      refine hK (l.length - 1) _ _ (by omega) ⟨l.take (l.length - 1), by simp, by simp; omega, fun x hx => hne x (List.mem_of_mem_take hx), ?_, by simp [sb], by simpa using O2⟩
      rw [← htr]
      conv => rhs; rw [trimR, dif_pos ⟨h0, k3⟩]
    · simp [k3]
      exact fin (by rw [trimR, dif_neg (fun e => k3 e.2)]) _ (by simp) (by simp)
  · simp [h0]
    exact fin (by rw [trimR, dif_neg (fun e => h0 e.1)]) _ (by simp) (by simp)
theorem l9Is_iff (l : List (List Node)) (hl : ∀ x ∈ l, 0 < x.length) (hb : l.length ≤ 1048576) (i : Nat) (hi : i < l.length) (h : AH) (R : AV → AH → Prop) : CA 44 [.fs none (l.map (encS Node.enc)), .int .i64 i] h R ↔ R (.bool (isBrk l i)) h := by
  refine ca_pure (af := ac44) rfl ?_
  have a1 := fun k => (encS_ok Node.enc).toEncOk.iaddr (by omega) none l k (i : Int) h (by omega) (by omega)
  simp only [Int.toNat_natCast] at a1
  simp [ac44, a1, hd_load l hl hi]
  unfold isBrk
  by_cases k3 : (hd1 (nth l i)).kind = 3
  · simp [k3]
    by_cases h0 : 0 < i
    · have a2 := fun k => (encS_ok Node.enc).toEncOk.iaddr (by omega) none l k ((i - 1 : Nat) : Int) h (by omega) (by omega)
      have w1 : IntKind.wrap .i64 ((i : Int) - 1) = ((i - 1 : Nat) : Int) := by rw [wrap_i64 (by omega) (by omega)]; omega
      simp only [Int.toNat_natCast] at a2
      simp [h0, w1, a2, hd_load l hl (show i - 1 < l.length by omega), l9Discard_iff]
      exact fun e => absurd k3 e
    · simp [h0]
      exact fun e => absurd k3 e
  · by_cases k4 : (hd1 (nth l i)).kind = 4
    · simp [k3, k4]
    · simp [k3, k4]
end Go.Proofs.Ytcdkgonmdenakaa
