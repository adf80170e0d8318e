/- Values that are frozen: what they lead to will not turn. -/
import Derived.Test.YtbajchkpehdolaaBmC
namespace Go.Bm
set_option linter.all false
open Go Go.RowKit
set_option linter.unusedVariables false
set_option linter.unusedSimpArgs false

/-- None of the blocks that h owns is g. -/
def NoOwn (ν : V) (h : AH) (g : Nat) : Prop := Sep ν h (fun k => k = g)

/-- As Fr, of blocks below lo; what is frozen anew was owned, or is new. -/
structure FrL (lo base : Nat) (ν : V) (h : AH) (w : World) (ν' : V) (h' : AH) (w' : World) : Prop where
  below : Below base w w'
  sep : ∀ X : Nat → Prop, (∀ g, X g → g < lo) → Sep ν h X → Sep ν' h' X ∧ ∀ g, X g → w'.heap[g]? = w.heap[g]?
  zg : ∀ g k, g < lo → ν.z g k = none → NoOwn ν h g → ν'.z g k = none

theorem FrL.refl (lo base : Nat) (ν : V) (h : AH) (w : World) : FrL lo base ν h w ν h w := ⟨Below.refl _ _, fun X _ hs => ⟨hs, fun _ _ => rfl⟩, fun _ _ _ h _ => h⟩
theorem FrL.trans {lo base : Nat} {ν ν' ν2 : V} {h h' h2 : AH} {w w' w2 : World} (a : FrL lo base ν h w ν' h' w') (b : FrL lo base ν' h' w' ν2 h2 w2) : FrL lo base ν h w ν2 h2 w2 :=
  ⟨a.below.trans b.below, fun X hX hs => by
    obtain ⟨s1, k1⟩ := a.sep X hX hs
    obtain ⟨s2, k2⟩ := b.sep X hX s1
    exact ⟨s2, fun g hg => (k2 g hg).trans (k1 g hg)⟩, fun g k hg hz hn => b.zg g k hg (a.zg g k hg hz hn) (a.sep (fun j => j = g) (fun j hj => hj ▸ hg) hn).1⟩
theorem FrL.mono {lo lo' base : Nat} {ν ν' : V} {h h' : AH} {w w' : World} (a : FrL lo' base ν h w ν' h' w') (hlo : lo ≤ lo') : FrL lo base ν h w ν' h' w' :=
  ⟨a.below, fun X hX hs => a.sep X (fun g hg => Nat.lt_of_lt_of_le (hX g hg) hlo) hs, fun g k hg => a.zg g k (Nat.lt_of_lt_of_le hg hlo)⟩
theorem Fr.toL {lo base : Nat} {ν ν' : V} {h h' : AH} {w w' : World} (a : Fr base ν h w ν' h' w') (hlo : lo ≤ w.heap.size) (hz : ν'.z = ν.z) : FrL lo base ν h w ν' h' w' :=
  ⟨a.below, fun X hX hs => a.sep X (fun g hg => Nat.lt_of_lt_of_le (hX g hg) hlo) hs, fun g k _ h _ => by rw [hz]; exact h⟩

theorem HR.frame {base : Nat} {ν : V} {h : AH} {w w' : World} (H : HR ν base h w) (hs : w.heap.size ≤ w'.heap.size) (hk : ∀ b x p, h.get b = some x → ν b = some p → w'.heap[p.g]? = w.heap[p.g]?) : HR ν base h w' :=
  ⟨Nat.le_trans H.size hs, H.lt, fun b x hb => let ⟨p, hp, hB⟩ := H.blk b x hb; ⟨p, hp, hB.of_block (V.le_refl _) (hk b x p hb hp)⟩, H.inj⟩

theorem HR.there {base : Nat} {ν : V} {h : AH} {w : World} (H : HR ν base h w) {b : Nat} {x : AB} {p : P3} (hb : h.get b = some x) (hp : ν b = some p) : p.g < w.heap.size ∧ (x.own = false → p.g < base) := by
  obtain ⟨q, hq, hB⟩ := H.blk b x hb
  rw [hp] at hq; cases hq
  cases x with
  | map l => exact ⟨hB.1, fun e => by cases e⟩
  | cells own l => exact ⟨hB.1, fun e => hB.2.2.2 e⟩

theorem HB.re {ν ν' : V} {base : Nat} {w : World} {p : P3} {x : AB} (h : HB ν base w p x) (hc : ∀ y v, VR ν y v → ((∃ own l, x = .cells own l ∧ y ∈ l) ∨ ((∃ l, x = .map l) ∧ y.clo = true)) → VR ν' y v) : HB ν' base w p x := by
  cases x with
  | map l =>
    obtain ⟨h0, hb, es, clock, h1, h2, h3⟩ := h
    exact ⟨h0, hb, es, clock, h1, h2, fun k y z hk => let ⟨c1, c2, e, a, b, c⟩ := h3 k y z hk; ⟨c1, c2, e, a, hc y _ b (.inr ⟨⟨_, rfl⟩, c1⟩), hc z _ c (.inr ⟨⟨_, rfl⟩, c2⟩)⟩⟩
  | cells own l =>
    obtain ⟨h0, h1, h2, h3⟩ := h
    exact ⟨h0, fun k y hy => let ⟨a, v, b, c⟩ := h1 k y hy; ⟨a, v, b, hc y v c (.inl ⟨_, _, rfl, List.mem_of_getElem? hy⟩)⟩, h2, h3⟩

/-! ### the same value, told by other maps -/
mutual
theorem VR.clo {ν ν' : V} (hz : ∀ g k v, ν.z g k = some v → ν'.z g k = some v) : ∀ (x : AV) (v : Value), x.clo = true → VR ν x v → VR ν' x v
  | .any, _, _, _ => trivial
  | .bool _, _, _, h => h
  | .int _ _, _, _, h => h
  | .str _, _, _, h => h
  | .nilp, _, _, h => h
  | .ptr _ _, _, c, _ => by cases c
  | .nils, _, _, h => h
  | .sl _ _ _ _ _, _, c, _ => by cases c
  | .nilm, _, _, h => h
  | .mp _, _, c, _ => by cases c
  | .nilf, _, _, h => h
  | .fn _ l, _, c, ⟨vs, e, h⟩ => ⟨vs, e, VRs.clo hz l _ c h⟩
  | .nili, _, _, h => h
  | .ifc _ x, _, c, ⟨u, e, h⟩ => ⟨u, e, VR.clo hz x _ c h⟩
  | .agg l, _, c, ⟨vs, e, h⟩ => ⟨vs, e, VRs.clo hz l _ c h⟩
  | .tup l, _, c, ⟨vs, e, h⟩ => ⟨vs, e, VRs.clo hz l _ c h⟩
  | .fs _ l, _, c, h => h.imp id fun ⟨A, cap, us, h1, h2, h3, h4, h5, h6⟩ => ⟨A, cap, us, h1, h2, h3, VRss.clo hz l _ c h4, h5, fun hn => let ⟨g, off, e, hzz⟩ := h6 hn; ⟨g, off, e, fun j x hx => hz _ _ _ (hzz j x hx)⟩⟩
  | .fp l o, _, c, ⟨g, off, us, h1, h2, h3, h4⟩ => ⟨g, off, us, h1, VRs.clo hz l _ c h2, h3, fun j x hx => hz _ _ _ (h4 j x hx)⟩
theorem VRs.clo {ν ν' : V} (hz : ∀ g k v, ν.z g k = some v → ν'.z g k = some v) : ∀ (xs : List AV) (vs : List Value), cloL xs = true → VRs ν xs vs → VRs ν' xs vs
  | [], _, _, h => h
  | x :: xs, _, c, ⟨v, vs, e, h, hs⟩ => by
    simp only [cloL, Bool.and_eq_true] at c
    exact ⟨v, vs, e, VR.clo hz x v c.1 h, VRs.clo hz xs vs c.2 hs⟩
theorem VRss.clo {ν ν' : V} (hz : ∀ g k v, ν.z g k = some v → ν'.z g k = some v) : ∀ (xs : List (List AV)) (vs : List Value), cloLL xs = true → VRss ν xs vs → VRss ν' xs vs
  | [], _, _, h => h
  | x :: xs, _, c, ⟨v, vs, e, h, hs⟩ => by
    simp only [cloLL, Bool.and_eq_true] at c
    exact ⟨v, vs, e, VRs.clo hz x v c.1 h, VRss.clo hz xs vs c.2 hs⟩
end

mutual
theorem VR.scal {ν ν' : V} : ∀ (x : AV) (v : Value), x.scal = true → VR ν x v → VR ν' x v
  | .any, _, c, _ => by cases c
  | .bool _, _, _, h => h
  | .int _ _, _, _, h => h
  | .str _, _, _, h => h
  | .nilp, _, c, _ => by cases c
  | .ptr _ _, _, c, _ => by cases c
  | .nils, _, c, _ => by cases c
  | .sl _ _ _ _ _, _, c, _ => by cases c
  | .nilm, _, c, _ => by cases c
  | .mp _, _, c, _ => by cases c
  | .nilf, _, c, _ => by cases c
  | .fn _ l, _, c, _ => by cases c
  | .nili, _, c, _ => by cases c
  | .ifc _ x, _, c, _ => by cases c
  | .agg l, _, c, ⟨vs, e, h⟩ => ⟨vs, e, VRs.scal l _ c h⟩
  | .tup l, _, c, ⟨vs, e, h⟩ => ⟨vs, e, VRs.scal l _ c h⟩
  | .fs _ l, _, c, _ => by cases c
  | .fp l o, _, c, _ => by cases c
theorem VRs.scal {ν ν' : V} : ∀ (xs : List AV) (vs : List Value), scalL xs = true → VRs ν xs vs → VRs ν' xs vs
  | [], _, _, h => h
  | x :: xs, _, c, ⟨v, vs, e, h, hs⟩ => by
    simp only [scalL, Bool.and_eq_true] at c
    exact ⟨v, vs, e, VR.scal x v c.1 h, VRs.scal xs vs c.2 hs⟩
end

mutual
/-- Told by ν at some time, by ν' now: told now by what ν knows of blocks. -/
theorem VR.back {ν ν' ν2 : V} (hf : ν2.f = ν.f) (hle : V.le ν ν') (hz : ∀ g k v, ν'.z g k = some v → ν2.z g k = some v) : ∀ (x : AV) (v0 v : Value), VR ν x v0 → VR ν' x v → VR ν2 x v
  | .any, _, _, _, _ => trivial
  | .bool _, _, _, _, h => h
  | .int _ _, _, _, _, h => h
  | .str _, _, _, _, h => h
  | .nilp, _, _, _, h => h
  | .ptr b o, _, _, ⟨p, hp, _⟩, ⟨q, hq, e⟩ => by
    rw [hle.f _ _ hp] at hq; cases hq
    exact ⟨p, by rw [hf]; exact hp, e⟩
  | .nils, _, _, _, h => h
  | .sl b o es n c, _, _, ⟨p, _, _, hp, _⟩, ⟨q, A, cap, hq, e⟩ => by
    rw [hle.f _ _ hp] at hq; cases hq
    exact ⟨p, A, cap, by rw [hf]; exact hp, e⟩
  | .nilm, _, _, _, h => h
  | .mp _, _, _, ⟨p, hp, _⟩, ⟨q, hq, e⟩ => by
    rw [hle.f _ _ hp] at hq; cases hq
    exact ⟨p, by rw [hf]; exact hp, e⟩
  | .nilf, _, _, _, h => h
  | .fn _ l, _, _, ⟨_, _, h0⟩, ⟨vs, e, h⟩ => ⟨vs, e, VRs.back hf hle hz l _ _ h0 h⟩
  | .nili, _, _, _, h => h
  | .ifc _ x, _, _, ⟨_, _, h0⟩, ⟨u, e, h⟩ => ⟨u, e, VR.back hf hle hz x _ _ h0 h⟩
  | .agg l, _, _, ⟨_, _, h0⟩, ⟨vs, e, h⟩ => ⟨vs, e, VRs.back hf hle hz l _ _ h0 h⟩
  | .tup l, _, _, ⟨_, _, h0⟩, ⟨vs, e, h⟩ => ⟨vs, e, VRs.back hf hle hz l _ _ h0 h⟩
  | .fs _ l, _, _, h0, h => h.imp id fun ⟨A, cap, us, h1, h2, h3, h4, h5, h6⟩ => ⟨A, cap, us, h1, h2, h3, by
      rcases h0 with ⟨_, rfl, _⟩ | ⟨_, _, us0, _, _, _, h40, _⟩
      · exact h4
      · exact VRss.back hf hle hz l _ _ h40 h4, h5, fun hn => let ⟨g, off, e, hzz⟩ := h6 hn; ⟨g, off, e, fun j x hx => hz _ _ _ (hzz j x hx)⟩⟩
  | .fp l o, _, _, ⟨_, _, _, _, h20, _⟩, ⟨g, off, us, h1, h2, h3, h4⟩ => ⟨g, off, us, h1, VRs.back hf hle hz l _ _ h20 h2, h3, fun j x hx => hz _ _ _ (h4 j x hx)⟩
theorem VRs.back {ν ν' ν2 : V} (hf : ν2.f = ν.f) (hle : V.le ν ν') (hz : ∀ g k v, ν'.z g k = some v → ν2.z g k = some v) : ∀ (xs : List AV) (us vs : List Value), VRs ν xs us → VRs ν' xs vs → VRs ν2 xs vs
  | [], _, _, _, h => h
  | x :: xs, _, _, ⟨_, _, _, h0, hs0⟩, ⟨v, vs, e, h, hs⟩ => ⟨v, vs, e, VR.back hf hle hz x _ v h0 h, VRs.back hf hle hz xs _ vs hs0 hs⟩
theorem VRss.back {ν ν' ν2 : V} (hf : ν2.f = ν.f) (hle : V.le ν ν') (hz : ∀ g k v, ν'.z g k = some v → ν2.z g k = some v) : ∀ (xs : List (List AV)) (us vs : List Value), VRss ν xs us → VRss ν' xs vs → VRss ν2 xs vs
  | [], _, _, _, h => h
  | x :: xs, _, _, ⟨_, _, _, h0, hs0⟩, ⟨v, vs, e, h, hs⟩ => ⟨v, vs, e, VRs.back hf hle hz x _ v h0 h, VRss.back hf hle hz xs _ vs hs0 hs⟩
end

/-! ### what is frozen -/
/-- All that the owned blocks from lo on hold will not turn. -/
noncomputable def zOf (ν : V) (h : AH) (w : World) (lo : Nat) (g k : Nat) : Option Value :=
  open Classical in
  match ν.z g k with
  | some v => some v
  | none => if ∃ b l p, lo ≤ b ∧ h.get b = some (.cells true l) ∧ ν b = some p ∧ p.g = g ∧ p.o ≤ k ∧ k < p.o + l.length then w.cell? ⟨g, k, none⟩ else none

theorem zOf_some {ν : V} {h : AH} {w : World} {lo g k : Nat} {v : Value} (e : zOf ν h w lo g k = some v) : ν.z g k = some v ∨ (∃ b l p, lo ≤ b ∧ h.get b = some (.cells true l) ∧ ν b = some p ∧ p.g = g ∧ p.o ≤ k ∧ k < p.o + l.length) ∧ w.cell? ⟨g, k, none⟩ = some v := by
  unfold zOf at e
  split at e
  · rename_i u hu; cases e; exact .inl hu
  · split at e
    · rename_i hx; exact .inr ⟨hx, e⟩
    · cases e
theorem zOf_old {ν : V} {h : AH} {w : World} {lo g k : Nat} {v : Value} (e : ν.z g k = some v) : zOf ν h w lo g k = some v := by
  unfold zOf; rw [e]
theorem zOf_new {ν : V} {h : AH} {w : World} (hz : HZ ν h w) {lo b : Nat} {l : List AV} {p : P3} (hb : lo ≤ b) (hg : h.get b = some (.cells true l)) (hp : ν b = some p) {k : Nat} (hk : k < l.length) : zOf ν h w lo p.g (p.o + k) = w.cell? ⟨p.g, p.o + k, none⟩ := by
  unfold zOf
  rw [hz.zsep b _ p hg rfl hp]
  simp only
  rw [if_pos ⟨b, l, p, hb, hg, hp, rfl, by omega, by omega⟩]
theorem zOf_none {ν : V} {h : AH} {w : World} {lo g k : Nat} (e : ν.z g k = none) (hn : ∀ b l p, lo ≤ b → h.get b = some (.cells true l) → ν b = some p → p.g ≠ g) : zOf ν h w lo g k = none := by
  cases hz : zOf ν h w lo g k with
  | none => rfl
  | some v =>
    rcases zOf_some hz with h1 | ⟨⟨b, l, p, h1, h2, h3, h4, _⟩, _⟩
    · rw [e] at h1; cases h1
    · exact (hn b l p h1 h2 h3 h4).elim

theorem AH.readO_read {h : AH} {b o n : Nat} {l : List AV} (e : h.readO b o n = some l) : h.read b o n = some l ∧ ∃ m, h.get b = some (.cells true m) ∧ o + n ≤ m.length := by
  unfold AH.readO at e
  split at e
  · rename_i m hg
    split at e
    · rename_i hle; cases e
      refine ⟨?_, m, hg, hle⟩
      unfold AH.read; rw [hg]; simp only; rw [if_pos hle]
    · cases e
  · cases e

theorem chunk_flat {es : Nat} : ∀ {n : Nat} {l : List AV}, l.length = n * es → (chunk es n l).flatten = l ∧ (chunk es n l).length = n ∧ ∀ r ∈ chunk es n l, r.length = es ∧ ∀ x ∈ r, x ∈ l
  | 0, l, h => by
    have : l = [] := List.eq_nil_of_length_eq_zero (by simpa using h)
    subst this
    exact ⟨rfl, rfl, fun r hr => by cases hr⟩
  | n + 1, l, h => by
    rw [Nat.add_mul] at h
    obtain ⟨a, b, c⟩ := chunk_flat (es := es) (n := n) (l := l.drop es) (by rw [List.length_drop]; omega)
    refine ⟨by simp [chunk, a], by simp [chunk, b], fun r hr => ?_⟩
    rcases List.mem_cons.1 hr with rfl | hr
    · exact ⟨by rw [List.length_take]; omega, fun x hx => List.mem_of_mem_take hx⟩
    · exact ⟨(c r hr).1, fun x hx => List.mem_of_mem_drop ((c r hr).2 x hx)⟩

theorem cloL_iff : ∀ {l : List AV}, cloL l = true ↔ ∀ x ∈ l, x.clo = true
  | [] => by simp [cloL]
  | x :: xs => by simp [cloL, cloL_iff (l := xs)]
theorem cloLL_iff : ∀ {l : List (List AV)}, cloLL l = true ↔ ∀ r ∈ l, cloL r = true
  | [] => by simp [cloLL]
  | x :: xs => by simp [cloLL, cloLL_iff (l := xs)]

/-- A slice of a block of one's own, frozen. -/
theorem freeze_row {ν ν2 : V} {base : Nat} {h : AH} {w : World} (H : HR ν base h w) {lo b o es n : Nat} {c : Option Nat} {u : Value} (hv : VR ν (.sl b o es n c) u) {l : List AV} (hr : h.readO b o (n * es) = some l) (hlo : lo ≤ b)
    (hz : ∀ b l p k, lo ≤ b → h.get b = some (.cells true l) → ν b = some p → k < l.length → ν2.z p.g (p.o + k) = w.cell? ⟨p.g, p.o + k, none⟩)
    {l' : List AV} (hl' : l'.length = l.length) (hone : l'.all AV.one = true) (hcl : cloL l' = true) (hvr : ∀ vs, VRs ν l vs → VRs ν2 l' vs) : VR ν2 (.fs none (chunk es n l')) u := by
  obtain ⟨hrd, m, hg, hom⟩ := AH.readO_read hr
  obtain ⟨p, vs, hp, h1, h2, h3, h4⟩ := H.read hrd
  obtain ⟨q, A, cap, hq, rfl, hle, _, hA⟩ := hv
  rw [hp] at hq; cases hq
  obtain ⟨c1, c2, c3⟩ := chunk_flat (es := es) (n := n) (l := l') (by rw [hl', h4])
  refine .inr ⟨A, cap, vs, by rw [c2], by rw [c2]; exact hle, (fun k hk => nomatch hk), VRss.of_flat (by rw [c1]; exact hvr _ h2), ⟨es, fun r hr => ⟨(c3 r hr).1, ?_, ?_⟩⟩, fun hne => ?_⟩
  · rw [List.all_eq_true]; intro x hx; exact List.all_eq_true.1 hone x ((c3 r hr).2 x hx)
  · rw [cloL_iff]; intro x hx; exact cloL_iff.1 hcl x ((c3 r hr).2 x hx)
  · have hl := h2.length
    have hn : 0 < n := by
      rcases Nat.eq_zero_or_pos n with e | e
      · exfalso; apply hne; subst e
        rw [Nat.zero_mul] at h4
        exact List.eq_nil_of_length_eq_zero (by omega)
      · exact e
    obtain ⟨rfl, _⟩ := hA (by omega)
    refine ⟨_, _, rfl, fun j x hx => ?_⟩
    have hj : j < vs.length := (List.getElem?_eq_some_iff.1 hx).1
    have := hz b m p (o + j) hlo hg hp (by omega)
    rw [Nat.add_assoc, this, ← Nat.add_assoc]
    exact h1 j x hx

theorem mapO_mem {α β : Type} {f : α → Option β} {l : List α} {r : List β} (h : mapO f l = some r) : ∀ y ∈ r, ∃ x ∈ l, f x = some y := by
  intro y hy
  obtain ⟨hl, hk⟩ := mapO_get h
  obtain ⟨k, hkr, rfl⟩ := List.getElem_of_mem hy
  have hk' : k < l.length := by omega
  obtain ⟨z, hz, hz'⟩ := hk k l[k] (List.getElem?_eq_getElem hk')
  rw [List.getElem?_eq_getElem hkr] at hz'; cases hz'
  exact ⟨_, List.getElem_mem hk', hz⟩

theorem frzV_one {lo : Nat} {h : AH} {d : Nat} {x y : AV} (hx : x.one = true) (hf : frzV lo h d x = some y) : y.one = true := by
  cases d with
  | zero => cases hf
  | succ d =>
    cases x <;> simp [AV.one] at hx <;> simp only [frzV] at hf
    all_goals first
      | (cases hf; rfl)
      | (cases hf; done)
      | (repeat' (split at hf)
         all_goals first | (cases hf; rfl) | (cases hf; done))

/-- A value and its frozen form stand for the same. -/
theorem frz_ok {ν ν2 : V} {base : Nat} {h : AH} {w : World} (H : HR ν base h w) {lo : Nat} (hzz : ∀ g k v, ν.z g k = some v → ν2.z g k = some v)
    (hz : ∀ b l p k, lo ≤ b → h.get b = some (.cells true l) → ν b = some p → k < l.length → ν2.z p.g (p.o + k) = w.cell? ⟨p.g, p.o + k, none⟩) :
    ∀ (d : Nat) (v r : AV) (u : Value), VR ν v u → frzV lo h d v = some r → VR ν2 r u ∧ r.clo = true := by
  intro d
  induction d with
  | zero => intro v r u _ hf; cases hf
  | succ d ih =>
    have ihs : ∀ {l l' : List AV} {vs : List Value}, mapO (frzV lo h d) l = some l' → VRs ν l vs → VRs ν2 l' vs ∧ cloL l' = true := by
      intro l
      induction l with
      | nil => intro l' vs hm hv; simp only [mapO, Option.some.injEq] at hm; subst hm; exact ⟨hv, rfl⟩
      | cons x xs ihl =>
        intro l' vs hm hv
        simp only [mapO] at hm
        split at hm
        · rename_i y ys hy hys
          cases hm
          obtain ⟨u, us, rfl, hu, hus⟩ := hv
          obtain ⟨a1, a2⟩ := ih x y u hu hy
          obtain ⟨b1, b2⟩ := ihl hys hus
          exact ⟨⟨u, us, rfl, a1, b1⟩, by simp only [cloL, a2, b2]; rfl⟩
        · cases hm
    intro v r u hv hf
    cases v <;> simp only [frzV] at hf
    case any => cases hf; exact ⟨trivial, rfl⟩
    case bool => cases hf; exact ⟨hv, rfl⟩
    case int => cases hf; exact ⟨hv, rfl⟩
    case str => cases hf; exact ⟨hv, rfl⟩
    case nilp => cases hf; exact ⟨hv, rfl⟩
    case ptr => cases hf
    case nils => cases hf; exact ⟨.inl ⟨hv, rfl, .inl rfl⟩, rfl⟩
    case nilm => cases hf; exact ⟨hv, rfl⟩
    case mp => cases hf
    case nilf => cases hf; exact ⟨hv, rfl⟩
    case nili => cases hf; exact ⟨hv, rfl⟩
    case fn f c =>
      split at hf
      · rename_i l' hm
        cases hf
        obtain ⟨vs, e, hvs⟩ := hv
        obtain ⟨a, b⟩ := ihs hm hvs
        exact ⟨⟨vs, e, a⟩, b⟩
      · cases hf
    case ifc t x =>
      split at hf
      · rename_i y hy
        cases hf
        obtain ⟨u', e, hu⟩ := hv
        obtain ⟨a, b⟩ := ih x y u' hu hy
        exact ⟨⟨u', e, a⟩, b⟩
      · cases hf
    case agg l =>
      split at hf
      · rename_i l' hm
        cases hf
        obtain ⟨vs, e, hvs⟩ := hv
        obtain ⟨a, b⟩ := ihs hm hvs
        exact ⟨⟨vs, e, a⟩, b⟩
      · cases hf
    case tup l =>
      split at hf
      · rename_i l' hm
        cases hf
        obtain ⟨vs, e, hvs⟩ := hv
        obtain ⟨a, b⟩ := ihs hm hvs
        exact ⟨⟨vs, e, a⟩, b⟩
      · cases hf
    case fs c l =>
      cases hf
      rcases hv with ⟨e, rfl, _⟩ | ⟨A, cap, us, h1, h2, h3, h4, h5, h6⟩
      · exact ⟨.inl ⟨e, rfl, .inl rfl⟩, rfl⟩
      · have hc : cloLL l = true := by
          obtain ⟨es, h5⟩ := h5
          rw [cloLL_iff]; exact fun r hr => (h5 r hr).2.2
        exact ⟨.inr ⟨A, cap, us, h1, h2, (fun k hk => nomatch hk), VRss.clo hzz l us hc h4, h5, fun hn => let ⟨g, off, e, hq⟩ := h6 hn; ⟨g, off, e, fun j x hx => hzz _ _ _ (hq j x hx)⟩⟩, hc⟩
    case fp c o =>
      cases hf
      have hc : cloL c = true := by obtain ⟨_, _, _, _, _, hc, _⟩ := hv; exact hc
      exact ⟨VR.clo hzz (.fp c o) u hc hv, hc⟩
    case sl b o es n c =>
      split at hf
      · rename_i hlo
        split at hf
        · rename_i l hl
          split at hf
          · rename_i l' hm
            cases hf
            obtain ⟨hrd, m, hg, hom⟩ := AH.readO_read hl
            obtain ⟨p, vs, hp, h1, h2, h3, h4⟩ := H.read hrd
            have hone : l'.all AV.one = true := by
              rw [List.all_eq_true]
              intro y hy
              obtain ⟨x, hx, hxy⟩ := mapO_mem hm y hy
              exact frzV_one (List.all_eq_true.1 h3 x hx) hxy
            have hcl := (ihs hm h2).2
            refine ⟨freeze_row H hv hl hlo hz (mapO_get hm).1.symm hone hcl fun vs hvs => (ihs hm hvs).1, ?_⟩
            show cloLL (chunk es n l') = true
            obtain ⟨c1, c2, c3⟩ := chunk_flat (es := es) (n := n) (l := l') (by rw [← (mapO_get hm).1, h4])
            rw [cloLL_iff]
            intro r hr
            rw [cloL_iff]
            intro x hx
            exact cloL_iff.1 hcl x ((c3 r hr).2 x hx)
          · cases hf
        · cases hf
      · cases hf

/-- WHAT A CALL HAS MADE, FROZEN: the memory is what it was. -/
theorem freeze {ν ν' : V} {base : Nat} {h h' : AH} {w w' : World} (H0 : HR ν base h w) (H : HR ν' base h' w') (Z : HZ ν' h' w') (hν : V.le ν ν') (hle : h.le h') (hf : FrL w.heap.size base ν h w ν' h' w') :
    ∃ ν2 : V, V.le ν ν2 ∧ (∀ g k v, ν'.z g k = some v → ν2.z g k = some v) ∧ (∀ b l p k, h.next ≤ b → h'.get b = some (.cells true l) → ν' b = some p → k < l.length → ν2.z p.g (p.o + k) = w'.cell? ⟨p.g, p.o + k, none⟩) ∧
      HR ν2 base h w' ∧ HZ ν2 h w' ∧ FrL w.heap.size base ν h w ν2 h w' := by
  have hget : ∀ b x, h.get b = some x → h'.get b = some x := fun b x hb => by rw [hle.2 b (AH.get_lt hb)]; exact hb
  refine ⟨⟨ν.f, zOf ν' h' w' h.next⟩, ⟨fun _ _ h => h, fun g k v hv => zOf_old (hν.z _ _ _ hv)⟩, fun g k v hv => zOf_old hv, fun b l p k hb hg hp hk => zOf_new Z hb hg hp hk, ⟨H.size, H0.lt, fun b x hb => ?_, fun b b' x x' p p' hb hb' ho ho' hp hp' hg => H.inj b b' x x' p p' (hget b x hb) (hget b' x' hb') ho ho' (hν.f _ _ hp) (hν.f _ _ hp') hg⟩, ⟨fun g k v hv => ?_, fun b x p hb ho hp k => ?_⟩, ⟨hf.below, fun X hX hs => ⟨hs, (hf.sep X hX hs).2⟩, fun g k hg hz hn => ?_⟩⟩
  · obtain ⟨p, hp, hB0⟩ := H0.blk b x hb
    obtain ⟨p', hp', hB⟩ := H.blk b x (hget b x hb)
    rw [hν.f _ _ hp] at hp'; cases hp'
    refine ⟨p, hp, hB.re fun y v hy hcase => ?_⟩
    rcases hcase with ⟨own, l, e, hm⟩ | ⟨_, hclo⟩
    case inr => exact VR.clo (fun g k v hv => zOf_old hv) y v hclo hy
    subst e
    obtain ⟨k, hk, rfl⟩ := List.getElem_of_mem hm
    obtain ⟨_, v0, _, h0⟩ := hB0.2.1 k _ (List.getElem?_eq_getElem hk)
    exact VR.back (ν := ν) (ν' := ν') (ν2 := ⟨ν.f, zOf ν' h' w' h.next⟩) rfl hν (fun g k v hv => zOf_old hv) _ v0 v h0 hy
  · rcases zOf_some hv with h1 | ⟨⟨b, l, p, h1, h2, h3, h4, _⟩, hc⟩
    · exact Z.zin _ _ _ h1
    · exact ⟨h4 ▸ (H.there h2 h3).1, hc⟩
  · refine zOf_none (Z.zsep b x p (hget b x hb) ho (hν.f _ _ hp) k) fun b' l p' h1 h2 h3 e => ?_
    have := H.inj b' b _ x p' p h2 (hget b x hb) rfl ho h3 (hν.f _ _ hp) e
    have := AH.get_lt hb
    omega
  · refine zOf_none (hf.zg g k hg hz hn) fun b l p h1 h2 h3 e => ?_
    exact (hf.sep (fun j => j = g) (fun j hj => hj ▸ hg) hn).1 b _ p h2 rfl h3 e

/-- WHAT A CALL IS HANDED, FROZEN FOR ITS TIME. -/
theorem borrow {ν : V} {base : Nat} {h : AH} {w : World} (H : HR ν base h w) (Z : HZ ν h w) :
    ∃ ν1 : V, ν1.f = ν.f ∧ V.le ν ν1 ∧ (∀ b l p k, 0 ≤ b → h.get b = some (.cells true l) → ν b = some p → k < l.length → ν1.z p.g (p.o + k) = w.cell? ⟨p.g, p.o + k, none⟩) ∧ HR ν1 base h.hide w ∧ HZ ν1 h.hide w := by
  have hno : ∀ b x, h.hide.get b = some x → False := fun b x hb => by
    unfold AH.hide AH.get at hb; simp at hb
  refine ⟨⟨ν.f, zOf ν h w 0⟩, rfl, ⟨fun _ _ h => h, fun g k v hv => zOf_old hv⟩, fun b l p k hb hg hp hk => zOf_new Z hb hg hp hk, ⟨H.size, H.lt, fun b x hb => (hno b x hb).elim, fun b b' x x' p p' hb => (hno b x hb).elim⟩, ⟨fun g k v hv => ?_, fun b x p hb => (hno b x hb).elim⟩⟩
  rcases zOf_some hv with h1 | ⟨⟨b, l, p, h1, h2, h3, h4, _⟩, hc⟩
  · exact Z.zin _ _ _ h1
  · exact ⟨h4 ▸ (H.there h2 h3).1, hc⟩

theorem give_back {ν ν1 ν' : V} {base : Nat} {h h' : AH} {w w' : World} (H : HR ν base h w) (Z : HZ ν h w) (hf : FrL w.heap.size base ν1 h.hide w ν' h' w') :
    HR ν base h w' ∧ HZ ν h w' ∧ FrL w.heap.size base ν h w ν h w' := by
  have hs : ∀ X : Nat → Prop, Sep ν1 h.hide X := fun X b x p hb => by
    unfold AH.hide AH.get at hb; simp at hb
  have hk : ∀ g, g < w.heap.size → w'.heap[g]? = w.heap[g]? := fun g hg => (hf.sep (fun j => j = g) (fun j hj => hj ▸ hg) (hs _)).2 g rfl
  refine ⟨H.frame hf.below.size fun b x p hb hp => hk _ (H.there hb hp).1, ⟨fun g k v hv => ?_, Z.zsep⟩, ⟨hf.below, fun X hX hsx => ⟨hsx, fun g hg => hk g (hX g hg)⟩, fun g k _ h _ => h⟩⟩
  obtain ⟨h1, h2⟩ := Z.zin g k v hv
  exact ⟨Nat.lt_of_lt_of_le h1 hf.below.size, (World.cell?_of_block (a := ⟨g, k, Option.none⟩) (hk g h1)).trans h2⟩

mutual
theorem VR.rawz {ν ν' : V} (hf : ∀ b p, ν b = some p → ν' b = some p) : ∀ (x : AV) (v : Value), x.raw = true → VR ν x v → VR ν' x v
  | .any, _, _, _ => trivial
  | .bool _, _, _, h => h
  | .int _ _, _, _, h => h
  | .str _, _, _, h => h
  | .nilp, _, _, h => h
  | .ptr _ _, _, _, ⟨p, h, e⟩ => ⟨p, hf _ _ h, e⟩
  | .nils, _, _, h => h
  | .sl _ _ _ _ _, _, _, ⟨p, A, c, h, e⟩ => ⟨p, A, c, hf _ _ h, e⟩
  | .nilm, _, _, h => h
  | .mp _, _, _, ⟨p, h, e⟩ => ⟨p, hf _ _ h, e⟩
  | .nilf, _, _, h => h
  | .fn _ l, _, c, ⟨vs, e, h⟩ => ⟨vs, e, VRs.rawz hf l _ c h⟩
  | .nili, _, _, h => h
  | .ifc _ x, _, c, ⟨u, e, h⟩ => ⟨u, e, VR.rawz hf x _ c h⟩
  | .agg l, _, c, ⟨vs, e, h⟩ => ⟨vs, e, VRs.rawz hf l _ c h⟩
  | .tup l, _, c, ⟨vs, e, h⟩ => ⟨vs, e, VRs.rawz hf l _ c h⟩
  | .fs _ [], _, _, h => h.imp id fun ⟨A, cap, us, h1, h2, h3, h4, h5, h6⟩ => ⟨A, cap, us, h1, h2, h3, h4, h5, fun hn => (hn h4).elim⟩
  | .fs _ (_ :: _), _, c, _ => by cases c
  | .fp _ _, _, c, _ => by cases c
theorem VRs.rawz {ν ν' : V} (hf : ∀ b p, ν b = some p → ν' b = some p) : ∀ (xs : List AV) (vs : List Value), rawL xs = true → VRs ν xs vs → VRs ν' xs vs
  | [], _, _, h => h
  | x :: xs, _, c, ⟨v, vs, e, h, hs⟩ => by
    simp only [rawL, Bool.and_eq_true] at c
    exact ⟨v, vs, e, VR.rawz hf x v c.1 h, VRs.rawz hf xs vs c.2 hs⟩
end
theorem rawL_iff : ∀ {l : List AV}, rawL l = true ↔ ∀ x ∈ l, x.raw = true
  | [] => by simp [rawL]
  | x :: xs => by simp [rawL, rawL_iff (l := xs)]

theorem AH.get_join {h h' : AH} (hn : h.next ≤ h'.next) (b : Nat) : (h.join h').get b = if b < h.next then h.get b else match h'.get b with
  | some (.cells own l) => if own && rawL l then some (.cells own l) else none
  | _ => none := by
  unfold AH.join AH.get
  simp only
  by_cases e : b < h.next
  · simp [e, show b < h'.next by omega]
  · by_cases e' : b < h'.next
    · rw [if_neg e, if_neg e, if_pos e', if_pos e']; rfl
    · rw [if_neg e, if_neg e, if_neg e', if_neg e']
theorem AH.get_join_some {h h' : AH} (hn : h.next ≤ h'.next) {b : Nat} {x : AB} (e : (h.join h').get b = some x) : (b < h.next ∧ h.get b = some x) ∨ (h.next ≤ b ∧ h'.get b = some x ∧ ∃ l, x = .cells true l ∧ rawL l = true) := by
  rw [AH.get_join hn] at e
  split at e
  · rename_i hb; exact .inl ⟨hb, e⟩
  · rename_i hb
    split at e
    · rename_i own l hg
      split at e
      · rename_i hc
        simp only [Bool.and_eq_true] at hc
        obtain ⟨rfl, hl⟩ := hc
        cases e
        exact .inr ⟨by omega, hg, l, rfl, hl⟩
      · cases e
    · cases e

/-- What was handed over is one's own again; and so is what is new and holds nothing frozen. -/
theorem give_more {ν ν1 ν' : V} {base : Nat} {h h' : AH} {w w' : World} (H : HR ν base h w) (Z : HZ ν h w) (h1 : ν1.f = ν.f) (hz1 : ∀ g k v, ν.z g k = some v → ν1.z g k = some v) (hle : V.le ν1 ν') (H' : HR ν' base h' w') (Z' : HZ ν' h' w') (hn : h.next ≤ h'.next) (hf : FrL w.heap.size base ν1 h.hide w ν' h' w') :
    V.le ν ⟨ν'.f, ν.z⟩ ∧ HR ⟨ν'.f, ν.z⟩ base (h.join h') w' ∧ HZ ⟨ν'.f, ν.z⟩ (h.join h') w' ∧ FrL w.heap.size base ν h w ⟨ν'.f, ν.z⟩ (h.join h') w' := by
  have hs : ∀ X : Nat → Prop, Sep ν1 h.hide X := fun X b x p hb => by
    unfold AH.hide AH.get at hb; simp at hb
  have hk : ∀ g, g < w.heap.size → w'.heap[g]? = w.heap[g]? := fun g hg => (hf.sep (fun j => j = g) (fun j hj => hj ▸ hg) (hs _)).2 g rfl
  have hfar : ∀ b x p, h'.get b = some x → x.own = true → ν' b = some p → ¬ p.g < w.heap.size := fun b x p hb ho hp => (hf.sep (fun j => j < w.heap.size) (fun j hj => hj) (hs _)).1 b x p hb ho hp
  have hff : ∀ b p, ν b = some p → ν' b = some p := fun b p hp => hle.f b p (by rw [h1]; exact hp)
  have hle2 : V.le ν ⟨ν'.f, ν.z⟩ := ⟨hff, fun _ _ _ h => h⟩
  have old : ∀ b x p, h.get b = some x → ν' b = some p → ν b = some p := fun b x p hb hp => by
    obtain ⟨q, hq, _⟩ := H.blk b x hb
    have := hff b q hq
    rw [hp] at this; cases this; exact hq
  refine ⟨hle2, ⟨Nat.le_trans H.size hf.below.size, fun b p hp => H'.lt b p hp, fun b x hb => ?_, fun b b' x x' p p' hb hb' ho ho' hp hp' e => ?_⟩, ⟨fun g k v hv => ?_, fun b x p hb ho hp k => ?_⟩, ⟨hf.below, fun X hX hsx => ⟨fun b x p hb ho hp => ?_, fun g hg => hk g (hX g hg)⟩, fun g k _ h _ => h⟩⟩
  · rcases AH.get_join_some hn hb with ⟨_, hb⟩ | ⟨_, hb, l, rfl, hl⟩
    · obtain ⟨p, hp, hB⟩ := H.blk b x hb
      exact ⟨p, hff _ _ hp, hB.of_block hle2 (hk _ (H.there hb hp).1)⟩
    · obtain ⟨p, hp, hB⟩ := H'.blk b _ hb
      refine ⟨p, hp, HB.re (ν := ν') hB fun y v hv hcase => ?_⟩
      rcases hcase with ⟨own, l', e, hy⟩ | ⟨⟨_, e⟩, _⟩
      case inr => cases e
      cases e
      exact VR.rawz (ν := ν') (ν' := ⟨ν'.f, ν.z⟩) (fun _ _ h => h) y v (rawL_iff.1 hl y hy) hv
  · rcases AH.get_join_some hn hb with ⟨_, hb⟩ | ⟨_, hb, l, rfl, hl⟩ <;> rcases AH.get_join_some hn hb' with ⟨_, hb'⟩ | ⟨_, hb', l', rfl, hl'⟩
    · exact H.inj b b' x x' p p' hb hb' ho ho' (old _ _ _ hb hp) (old _ _ _ hb' hp') e
    · exact (hfar b' _ p' hb' ho' hp' (e ▸ (H.there hb (old _ _ _ hb hp)).1)).elim
    · exact (hfar b _ p hb ho hp (e ▸ (H.there hb' (old _ _ _ hb' hp')).1)).elim
    · exact H'.inj b b' _ _ p p' hb hb' ho ho' hp hp' e
  · obtain ⟨z1, z2⟩ := Z.zin g k v hv
    exact ⟨Nat.lt_of_lt_of_le z1 hf.below.size, (World.cell?_of_block (a := ⟨g, k, Option.none⟩) (hk g z1)).trans z2⟩
  · rcases AH.get_join_some hn hb with ⟨_, hb⟩ | ⟨_, hb, l, rfl, hl⟩
    · exact Z.zsep b x p hb ho (old _ _ _ hb hp) k
    · have := Z'.zsep b _ p hb ho hp k
      cases hc : ν.z p.g k with
      | none => rfl
      | some v => rw [hle.z _ _ _ (hz1 _ _ _ hc)] at this; cases this
  · rcases AH.get_join_some hn hb with ⟨_, hb⟩ | ⟨_, hb, l, rfl, hl⟩
    · exact hsx b x p hb ho (old _ _ _ hb hp)
    · exact fun hx => hfar b _ p hb ho hp (hX _ hx)

end Go.Bm
