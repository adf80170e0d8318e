/- The abstract machine's memory and the model's: what it is that one stands for the other, and what reading, making and writing do to that. -/
import Derived.Test.YtbajchkpehdolaaBmA
import Derived.Deep.MidRow
import Derived.Deep.Upon
namespace Go.Bm
set_option linter.all false
open Go Go.RowKit
set_option linter.unusedVariables false
set_option linter.unusedSimpArgs false

structure P3 where
  g : Nat
  o : Nat
  sz : Nat
/-- Where the blocks lie; and what lies in cells that will not turn. -/
structure V where
  f : Nat → Option P3
  z : Nat → Nat → Option Value
instance : CoeFun V (fun _ => Nat → Option P3) := ⟨V.f⟩
structure V.le (ν ν' : V) : Prop where
  f : ∀ b p, ν b = some p → ν' b = some p
  z : ∀ g k v, ν.z g k = some v → ν'.z g k = some v
theorem V.le_refl (ν : V) : V.le ν ν := ⟨fun _ _ h => h, fun _ _ _ h => h⟩
theorem V.le_trans {a b c : V} (h : V.le a b) (k : V.le b c) : V.le a c := ⟨fun x p hx => k.f x p (h.f x p hx), fun g j v hv => k.z g j v (h.z g j v hv)⟩
def V.upd (ν : V) (b : Nat) (p : P3) : V := ⟨fun k => if k = b then some p else ν k, ν.z⟩
theorem V.le_upd {ν : V} {b : Nat} (p : P3) (h : ν b = none) : V.le ν (ν.upd b p) := ⟨by
  intro x q hx
  unfold V.upd
  show (if x = b then some p else ν x) = some q
  split
  · rename_i e; subst e; rw [h] at hx; cases hx
  · exact hx, fun _ _ _ h => h⟩
theorem V.upd_same (ν : V) (b : Nat) (p : P3) : ν.upd b p b = some p := by simp [V.upd]

mutual
def VR (ν : V) : AV → Value → Prop
  | .any, _ => True
  | .bool b, v => v = .bool b
  | .int k n, v => v = .int k n
  | .str s, v => v = .string s
  | .nilp, v => v = .pointer none
  | .ptr b o, v => ∃ p, ν b = some p ∧ v = .pointer (some ⟨p.g, p.o + o, none⟩)
  | .nils, v => v = .slice none 0 0
  | .sl b o es n cp, v => ∃ p A cap, ν b = some p ∧ v = .slice (some A) n cap ∧ n ≤ cap ∧ (∀ c, cp = some c → c = cap) ∧ (0 < cap → A = ⟨p.g, p.o + o, none⟩ ∧ o + cap * es ≤ p.sz)
  | .nilm, v => v = .map none
  | .mp b, v => ∃ p, ν b = some p ∧ v = .map (some p.g)
  | .nilf, v => v = .nilFunc
  | .fn f c, v => ∃ vs, v = .func (.func f) #[] vs ∧ VRs ν c vs.toList
  | .nili, v => v = .nilIface
  | .ifc t x, v => ∃ u, v = .iface t u ∧ VR ν x u
  | .agg l, v => ∃ vs, v = .agg vs ∧ VRs ν l vs.toList
  | .tup l, v => ∃ vs, v = .tuple vs ∧ VRs ν l vs.toList
  | .fs c l, v => (v = .slice none 0 0 ∧ l = [] ∧ (c = none ∨ c = some 0)) ∨ ∃ A cap us, v = .slice (some A) l.length cap ∧ l.length ≤ cap ∧ (∀ k, c = some k → k = cap) ∧ VRss ν l us ∧ (∃ es, ∀ r ∈ l, r.length = es ∧ r.all AV.one = true ∧ cloL r = true) ∧ (us ≠ [] → ∃ g off, A = ⟨g, off, none⟩ ∧ ∀ j x, us[j]? = some x → ν.z g (off + j) = some x)
  | .fp c o, v => ∃ g off us, v = .pointer (some ⟨g, off + o, none⟩) ∧ VRs ν c us ∧ cloL c = true ∧ ∀ j x, us[j]? = some x → ν.z g (off + j) = some x
def VRs (ν : V) : List AV → List Value → Prop
  | [], l => l = []
  | x :: xs, l => ∃ v vs, l = v :: vs ∧ VR ν x v ∧ VRs ν xs vs
def VRss (ν : V) : List (List AV) → List Value → Prop
  | [], l => l = []
  | r :: rs, l => ∃ a b, l = a ++ b ∧ VRs ν r a ∧ VRss ν rs b
end

mutual
theorem VR.mono {ν ν' : V} (hν : V.le ν ν') : ∀ (x : AV) (v : Value), VR ν x v → VR ν' x v
  | .any, _, _ => trivial
  | .bool _, _, h => h
  | .int _ _, _, h => h
  | .str _, _, h => h
  | .nilp, _, h => h
  | .ptr _ _, _, ⟨p, h, e⟩ => ⟨p, hν.f _ _ h, e⟩
  | .nils, _, h => h
  | .sl _ _ _ _ _, _, ⟨p, A, c, h, e⟩ => ⟨p, A, c, hν.f _ _ h, e⟩
  | .nilm, _, h => h
  | .mp _, _, ⟨p, h, e⟩ => ⟨p, hν.f _ _ h, e⟩
  | .nilf, _, h => h
  | .fn _ c, _, ⟨vs, e, h⟩ => ⟨vs, e, VRs.mono hν c _ h⟩
  | .nili, _, h => h
  | .ifc _ x, _, ⟨u, e, h⟩ => ⟨u, e, VR.mono hν x _ h⟩
  | .agg l, _, ⟨vs, e, h⟩ => ⟨vs, e, VRs.mono hν l _ h⟩
  | .tup l, _, ⟨vs, e, h⟩ => ⟨vs, e, VRs.mono hν l _ h⟩
  | .fs c l, _, h => h.imp id fun ⟨A, cap, us, h1, h2, h3, h4, h5, h6⟩ => ⟨A, cap, us, h1, h2, h3, VRss.mono hν l _ h4, h5, fun hn => let ⟨g, off, e, hz⟩ := h6 hn; ⟨g, off, e, fun j x hx => hν.z _ _ _ (hz j x hx)⟩⟩
  | .fp c o, _, ⟨g, off, us, h1, h2, hc, h3⟩ => ⟨g, off, us, h1, VRs.mono hν c _ h2, hc, fun j x hx => hν.z _ _ _ (h3 j x hx)⟩
theorem VRs.mono {ν ν' : V} (hν : V.le ν ν') : ∀ (xs : List AV) (vs : List Value), VRs ν xs vs → VRs ν' xs vs
  | [], _, h => h
  | x :: xs, _, ⟨v, vs, e, h, hs⟩ => ⟨v, vs, e, VR.mono hν x v h, VRs.mono hν xs vs hs⟩
theorem VRss.mono {ν ν' : V} (hν : V.le ν ν') : ∀ (xs : List (List AV)) (vs : List Value), VRss ν xs vs → VRss ν' xs vs
  | [], _, h => h
  | x :: xs, _, ⟨v, vs, e, h, hs⟩ => ⟨v, vs, e, VRs.mono hν x v h, VRss.mono hν xs vs hs⟩
end

theorem VRs.length {ν : V} : ∀ {xs : List AV} {vs : List Value}, VRs ν xs vs → xs.length = vs.length
  | [], _, h => by have e : _ = ([] : List Value) := h; subst e; rfl
  | _ :: _, _, ⟨_, _, e, _, hs⟩ => by rw [e]; simp [VRs.length hs]

theorem VRs.get {ν : V} : ∀ {xs : List AV} {vs : List Value}, VRs ν xs vs → ∀ (k : Nat) (x : AV), xs[k]? = some x → ∃ v, vs[k]? = some v ∧ VR ν x v
  | [], _, _, k, x, hx => by simp at hx
  | y :: ys, _, ⟨v, vs, e, h, hs⟩, 0, x, hx => by subst e; simp at hx; subst hx; exact ⟨v, rfl, h⟩
  | y :: ys, _, ⟨v, vs, e, h, hs⟩, k + 1, x, hx => by
    subst e
    obtain ⟨u, hu, r⟩ := VRs.get hs k x (by simpa using hx)
    exact ⟨u, by simpa using hu, r⟩

theorem VRs.of {ν : V} : ∀ {xs : List AV} {vs : List Value}, xs.length = vs.length → (∀ (k : Nat) (x : AV), xs[k]? = some x → ∃ v, vs[k]? = some v ∧ VR ν x v) → VRs ν xs vs
  | [], [], _, _ => rfl
  | [], _ :: _, h, _ => by simp at h
  | _ :: _, [], h, _ => by simp at h
  | x :: xs, v :: vs, h, hk => by
    obtain ⟨u, hu, r⟩ := hk 0 x rfl
    simp at hu; subst hu
    exact ⟨v, vs, rfl, r, VRs.of (by simpa using h) (fun k y hy => hk (k + 1) y (by simpa using hy))⟩

theorem VRs.append {ν : V} {xs ys : List AV} {vs us : List Value} (h : VRs ν xs vs) (k : VRs ν ys us) : VRs ν (xs ++ ys) (vs ++ us) := by
  induction xs generalizing vs with
  | nil => rw [show vs = [] from h]; exact k
  | cons x xs ih =>
    obtain ⟨v, vs, rfl, hx, hs⟩ := h
    exact ⟨v, vs ++ us, rfl, hx, ih hs⟩

theorem VRs.drop {ν : V} {xs : List AV} {vs : List Value} (h : VRs ν xs vs) (n : Nat) : VRs ν (xs.drop n) (vs.drop n) :=
  VRs.of (by simp [h.length]) fun k x hx => by
    rw [List.getElem?_drop] at hx ⊢
    exact h.get _ _ hx
theorem VRs.take {ν : V} {xs : List AV} {vs : List Value} (h : VRs ν xs vs) (n : Nat) : VRs ν (xs.take n) (vs.take n) :=
  VRs.of (by simp [h.length]) fun k x hx => by
    rw [List.getElem?_take] at hx ⊢
    split at hx
    · rename_i hk; rw [if_pos hk]; exact h.get _ _ hx
    · cases hx

theorem VR.one {ν : V} {x : AV} {v : Value} (h : VR ν x v) (hx : x.one = true) : v.oneCell' = true := by
  cases x <;> simp [AV.one] at hx <;> simp only [VR] at h
  all_goals first
    | (subst h; rfl)
    | (obtain ⟨_, _, rfl⟩ := h; rfl)
    | (obtain ⟨_, _, _, _, rfl, _⟩ := h; rfl)
    | (obtain ⟨_, rfl, _⟩ := h; rfl)
    | (obtain ⟨_, _, _, rfl, _⟩ := h; rfl)
    | (rcases h with ⟨rfl, _⟩ | ⟨_, _, _, rfl, _⟩ <;> rfl)

theorem VRs.one {ν : V} {xs : List AV} {vs : List Value} (h : VRs ν xs vs) (hx : xs.all AV.one = true) : ∀ v ∈ vs, v.oneCell' = true := by
  intro v hv
  obtain ⟨k, hk, rfl⟩ := List.getElem_of_mem hv
  have hl : k < xs.length := by rw [h.length]; exact hk
  obtain ⟨u, hu, r⟩ := h.get k xs[k] (by simp [hl])
  rw [List.getElem?_eq_getElem hk] at hu
  cases hu
  exact r.one (List.all_eq_true.1 hx _ (List.getElem_mem hl))

/-- A value whose cells are told has them. -/
theorem VR.cells {ν : V} {x : AV} {v : Value} (h : VR ν x v) (hx : x.cells.all AV.one = true) : VRs ν x.cells v.cells.toList := by
  by_cases ha : ∃ l, x = .agg l
  · obtain ⟨l, rfl⟩ := ha
    obtain ⟨vs, rfl, hs⟩ := h
    exact hs
  · have hc : x.cells = [x] := by cases x <;> first | rfl | exact absurd ⟨_, rfl⟩ ha
    rw [hc] at hx ⊢
    have ho : x.one = true := by simpa using hx
    have hv := h.one ho
    have hvc : v.cells = #[v] := by cases v <;> first | rfl | simp [Value.oneCell'] at hv
    rw [hvc]
    exact ⟨v, [], rfl, h, rfl⟩

theorem VRss.flat {ν : V} : ∀ {l : List (List AV)} {us : List Value}, VRss ν l us → VRs ν l.flatten us
  | [], _, h => h
  | r :: rs, _, ⟨a, b, e, h, hs⟩ => by rw [e, List.flatten_cons]; exact h.append (VRss.flat hs)
theorem VRss.of_flat {ν : V} : ∀ {l : List (List AV)} {us : List Value}, VRs ν l.flatten us → VRss ν l us
  | [], _, h => h
  | r :: rs, us, h => by
    rw [List.flatten_cons] at h
    have hl := h.length
    rw [List.length_append] at hl
    refine ⟨us.take r.length, us.drop r.length, (List.take_append_drop _ _).symm, ?_, VRss.of_flat ?_⟩
    · have := h.take r.length; simpa using this
    · have := h.drop r.length; simpa using this
theorem flatten_rows {es : Nat} : ∀ {l : List (List AV)}, (∀ r ∈ l, r.length = es) → l.flatten.length = l.length * es
  | [], _ => by simp
  | r :: rs, h => by
    rw [List.flatten_cons, List.length_append, h r (by simp), flatten_rows (fun r hr => h r (List.mem_cons_of_mem _ hr)), List.length_cons, Nat.add_mul]; omega
theorem flatten_at {es : Nat} : ∀ {l : List (List AV)}, (∀ r ∈ l, r.length = es) → ∀ {i : Nat} {r : List AV}, l[i]? = some r → (l.flatten.drop (i * es)).take es = r
  | [], _, i, r, h => by simp at h
  | q :: l, hl, 0, r, h => by
    simp only [List.getElem?_cons_zero, Option.some.injEq] at h; subst h
    rw [Nat.zero_mul, List.drop_zero, List.flatten_cons, List.take_append_of_le_length (by rw [hl q (by simp)]; exact Nat.le_refl _), List.take_of_length_le (by rw [hl q (by simp)]; exact Nat.le_refl _)]
  | q :: l, hl, i + 1, r, h => by
    rw [List.getElem?_cons_succ] at h
    have := flatten_at (fun r hr => hl r (List.mem_cons_of_mem _ hr)) h
    rw [List.flatten_cons, List.drop_append, hl q (by simp), show (i + 1) * es - es = i * es by rw [Nat.add_mul]; omega, List.drop_of_length_le (by rw [hl q (by simp), Nat.add_mul]; omega), List.nil_append]
    exact this

/-- What a block of the abstract machine's stands for. -/
def HB (ν : V) (base : Nat) (w : World) (p : P3) : AB → Prop
  | .cells own l => p.g < w.heap.size ∧ (∀ (k : Nat) (x : AV), l[k]? = some x → x.one = true ∧ ∃ v, w.cell? ⟨p.g, p.o + k, none⟩ = some v ∧ VR ν x v) ∧
      (own = true → base ≤ p.g ∧ l.length ≤ p.sz ∧ w.there p.g p.o p.sz) ∧ (own = false → p.g < base)
  | .map l => p.g < w.heap.size ∧ base ≤ p.g ∧ ∃ es clock, w.heap[p.g]? = some (.map es clock) ∧ es.size = l.length ∧ ∀ (k : Nat) (x y : AV), l[k]? = some (x, y) → x.clo = true ∧ y.clo = true ∧ ∃ e : MapEntry, es[k]? = some e ∧ VR ν x e.key ∧ VR ν y e.val

structure HR (ν : V) (base : Nat) (h : AH) (w : World) : Prop where
  size : base ≤ w.heap.size
  lt : ∀ b p, ν b = some p → b < h.next
  blk : ∀ b x, h.get b = some x → ∃ p, ν b = some p ∧ HB ν base w p x
  inj : ∀ b b' x x' p p', h.get b = some x → h.get b' = some x' → x.own = true → x'.own = true → ν b = some p → ν b' = some p' → p.g = p'.g → b = b'

theorem HR.fresh {ν : V} {base : Nat} {h : AH} {w : World} (H : HR ν base h w) : ν h.next = none := by
  cases e : ν h.next with
  | none => rfl
  | some p => exact absurd (H.lt _ _ e) (Nat.lt_irrefl _)

theorem there_of_block {w w' : World} {g o n : Nat} (e : w'.heap[g]? = w.heap[g]?) (h : w.there g o n) : w'.there g o n := fun j hj => by
  have := h j hj
  rw [World.cell?_of_block (a := ⟨g, o + j, none⟩) e, World.frozen?_of_block (a := ⟨g, o + j, none⟩) e]
  exact this

/-- A block is what it was where its memory is. -/
theorem HB.of_block {ν ν' : V} (hν : V.le ν ν') {base : Nat} {w w' : World} {p : P3} {x : AB} (h : HB ν base w p x) (e : w'.heap[p.g]? = w.heap[p.g]?) : HB ν' base w' p x := by
  cases x with
  | map l =>
    obtain ⟨h0, hb, es, clock, h1, h2, h3⟩ := h
    refine ⟨?_, hb, es, clock, e.trans h1, h2, fun k x y hxy => ?_⟩
    · have : w.heap[p.g]? ≠ Option.none := by simp [h0]
      rw [← e] at this
      exact Nat.lt_of_not_le fun hle => this (Array.getElem?_eq_none hle)
    · obtain ⟨c1, c2, en, a, b, c⟩ := h3 k x y hxy
      exact ⟨c1, c2, en, a, b.mono hν, c.mono hν⟩
  | cells own l =>
    obtain ⟨h0, h1, h2, h3⟩ := h
    refine ⟨?_, fun k x hx => ?_, fun ho => ?_, h3⟩
    · have : w.heap[p.g]? ≠ Option.none := by simp [h0]
      rw [← e] at this
      exact Nat.lt_of_not_le fun hle => this (Array.getElem?_eq_none hle)
    · obtain ⟨ho, v, hv, r⟩ := h1 k x hx
      exact ⟨ho, v, (World.cell?_of_block (a := ⟨p.g, p.o + k, Option.none⟩) e).trans hv, r.mono hν⟩
    · obtain ⟨a, b, c⟩ := h2 ho
      exact ⟨a, b, there_of_block e c⟩

theorem HR.drew {ν : V} {base : Nat} {h : AH} {w : World} (H : HR ν base h w) : HR ν base h w.drew := ⟨H.size, H.lt, fun b x hb => let ⟨p, hp, hB⟩ := H.blk b x hb; ⟨p, hp, hB.of_block (V.le_refl _) rfl⟩, H.inj⟩

/-! ### what an operation leaves alone -/
/-- None of the blocks that h owns lies in X. -/
def Sep (ν : V) (h : AH) (X : Nat → Prop) : Prop := ∀ b x p, h.get b = some x → x.own = true → ν b = some p → ¬ X p.g

/-- Blocks below base, and all that h does not own, are left as they were. -/
structure Fr (base : Nat) (ν : V) (h : AH) (w : World) (ν' : V) (h' : AH) (w' : World) : Prop where
  below : Below base w w'
  sep : ∀ X : Nat → Prop, (∀ g, X g → g < w.heap.size) → Sep ν h X → Sep ν' h' X ∧ ∀ g, X g → w'.heap[g]? = w.heap[g]?

theorem Fr.refl (base : Nat) (ν : V) (h : AH) (w : World) : Fr base ν h w ν h w := ⟨Below.refl _ _, fun X _ hs => ⟨hs, fun _ _ => rfl⟩⟩

theorem Fr.trans {base : Nat} {ν ν' ν2 : V} {h h' h2 : AH} {w w' w2 : World} (a : Fr base ν h w ν' h' w') (b : Fr base ν' h' w' ν2 h2 w2) : Fr base ν h w ν2 h2 w2 :=
  ⟨a.below.trans b.below, fun X hX hs => by
    obtain ⟨s1, k1⟩ := a.sep X hX hs
    obtain ⟨s2, k2⟩ := b.sep X (fun g hg => Nat.lt_of_lt_of_le (hX g hg) a.below.size) s1
    exact ⟨s2, fun g hg => (k2 g hg).trans (k1 g hg)⟩⟩

/-- A draw, and blocks given up. -/
theorem Fr.drew {base : Nat} {ν : V} {h h' : AH} {w : World} (hs : ∀ c x, h'.get c = some x → h.get c = some x) : Fr base ν h w ν h' w.drew :=
  ⟨(Below.refl _ _).drew, fun X _ hX => ⟨fun b x p hb => hX b x p (hs b x hb), fun _ _ => rfl⟩⟩

/-- Cells that will not turn are there, and no owned block lies there. -/
structure HZ (ν : V) (h : AH) (w : World) : Prop where
  zin : ∀ g k v, ν.z g k = some v → g < w.heap.size ∧ w.cell? ⟨g, k, none⟩ = some v
  zsep : ∀ b x p, h.get b = some x → x.own = true → ν b = some p → ∀ k, ν.z p.g k = none

theorem HZ.step {ν ν' : V} {base : Nat} {h h' : AH} {w w' : World} (hz : HZ ν h w) (hf : Fr base ν h w ν' h' w') (e : ν'.z = ν.z) : HZ ν' h' w' := by
  obtain ⟨hs, hk⟩ := hf.sep (fun g => ∃ k v, ν.z g k = some v) (fun g ⟨k, v, hv⟩ => (hz.zin g k v hv).1) (fun b x p hb ho hp ⟨k, v, hv⟩ => by rw [hz.zsep b x p hb ho hp k] at hv; cases hv)
  refine ⟨fun g k v hv => ?_, fun b x p hb ho hp k => ?_⟩
  · rw [e] at hv
    obtain ⟨h1, h2⟩ := hz.zin g k v hv
    exact ⟨Nat.lt_of_lt_of_le h1 hf.below.size, (World.cell?_of_block (a := ⟨g, k, Option.none⟩) (hk g ⟨k, v, hv⟩)).trans h2⟩
  · rw [e]
    cases hv : ν.z p.g k with
    | none => rfl
    | some v => exact (hs b x p hb ho hp ⟨k, v, hv⟩).elim

/-! ### reading -/
theorem HR.read {ν : V} {base : Nat} {h : AH} {w : World} (H : HR ν base h w) {b o n : Nat} {l : List AV} (hr : h.read b o n = some l) :
    ∃ p vs, ν b = some p ∧ w.rangeAt p.g (p.o + o) vs ∧ VRs ν l vs ∧ l.all AV.one = true ∧ l.length = n := by
  unfold AH.read at hr
  split at hr
  · rename_i own l0 hg
    split at hr
    · rename_i hle
      cases hr
      obtain ⟨p, hp, h0, h1, _⟩ := H.blk b _ hg
      have hsome : ∀ k, k < n → ∃ x, l0[o + k]? = some x := fun k hk => ⟨l0[o + k]'(by omega), List.getElem?_eq_getElem (by omega)⟩
      have hlen : ((l0.drop o).take n).length = n := by simp; omega
      refine ⟨p, (List.range n).map fun k => (w.cell? ⟨p.g, p.o + (o + k), Option.none⟩).getD undef, hp, ?_, ?_, ?_, hlen⟩
      · intro j v hv
        by_cases hj : j < n
        · simp [hj] at hv
          obtain ⟨x, hx⟩ := hsome j hj
          obtain ⟨_, u, hu, _⟩ := h1 _ x hx
          rw [hu] at hv
          simp at hv
          subst hv
          rw [Nat.add_assoc]; exact hu
        · simp [hj] at hv
      · refine VRs.of (by simp; omega) fun k x hx => ?_
        rw [List.getElem?_take] at hx
        split at hx
        · rename_i hk
          rw [List.getElem?_drop] at hx
          obtain ⟨_, u, hu, r⟩ := h1 _ x hx
          exact ⟨u, by simp [hk, hu], r⟩
        · cases hx
      · rw [List.all_eq_true]
        intro x hx
        obtain ⟨k, hk, rfl⟩ := List.getElem_of_mem hx
        have hk' : k < n := by omega
        have : l0[o + k]? = some ((l0.drop o).take n)[k] := by
          rw [← List.getElem?_eq_getElem hk, List.getElem?_take, if_pos hk', List.getElem?_drop]
        exact (h1 _ _ this).1
    · cases hr
  · cases hr

/-- What an address leads to. -/
theorem rdA_ok {ν : V} {base : Nat} {h : AH} {w : World} (H : HR ν base h w) (hz : HZ ν h w) {a : AV} {u : Value} {n : Nat} {l : List AV} (ha : VR ν a u) (hr : rdA h a n = some l) :
    ∃ g off vs, u = .pointer (some ⟨g, off, none⟩) ∧ w.rangeAt g off vs ∧ VRs ν l vs ∧ l.length = n := by
  unfold rdA at hr
  split at hr
  · rename_i b o
    obtain ⟨p, vs, hp, h1, h2, _, h4⟩ := H.read hr
    obtain ⟨q, hq, rfl⟩ := ha
    rw [hp] at hq; cases hq
    exact ⟨_, _, vs, rfl, h1, h2, h4⟩
  · rename_i c o
    obtain ⟨g, off, us, rfl, h1, _, h2⟩ := ha
    split at hr
    · rename_i hle
      cases hr
      refine ⟨g, off + o, (us.drop o).take n, rfl, fun j v hv => ?_, (h1.drop o).take n, by simp; omega⟩
      rw [List.getElem?_take] at hv
      split at hv
      · rw [List.getElem?_drop] at hv
        have := (hz.zin _ _ _ (h2 _ _ hv)).2
        rw [← Nat.add_assoc] at this
        exact this
      · cases hv
    · cases hr
  · cases hr

/-- What a slice holds. -/
theorem srcA_ok {ν : V} {base : Nat} {h : AH} {w : World} (H : HR ν base h w) (hz : HZ ν h w) {y : AV} {u : Value} {es n : Nat} {l : List AV} (hy : VR ν y u) (hs : srcA h es y = some (n, l)) :
    ∃ A cap vs, u = .slice A n cap ∧ n ≤ cap ∧ l.length = n * es ∧ VRs ν l vs ∧ l.all AV.one = true ∧ (A = none → n = 0 ∧ cap = 0) ∧ (vs ≠ [] → ∃ g off, A = some ⟨g, off, none⟩ ∧ w.rangeAt g off vs) := by
  unfold srcA at hs
  split at hs
  · cases hs
    have e : u = .slice none 0 0 := hy
    subst e
    exact ⟨none, 0, [], rfl, Nat.le_refl _, by simp, rfl, rfl, fun _ => ⟨rfl, rfl⟩, fun e => (e rfl).elim⟩
  · rename_i b o e m cp
    split at hs
    · rename_i he
      subst he
      cases hr : h.read b o (m * e) with
      | none => rw [hr] at hs; cases hs
      | some l' =>
        rw [hr] at hs; cases hs
        obtain ⟨p, vs, hp, h1, h2, h3, h4⟩ := H.read hr
        obtain ⟨q, A, cap, hq, rfl, hle, _, hA⟩ := hy
        rw [hp] at hq; cases hq
        refine ⟨some A, cap, vs, rfl, hle, h4, h2, h3, (fun e => by cases e), fun hne => ?_⟩
        have hl := h2.length
        have h0 : 0 < cap := by
          rcases Nat.eq_zero_or_pos cap with e0 | e0
          · exfalso
            apply hne
            have hn0 : n = 0 := by omega
            subst hn0
            rw [Nat.zero_mul] at h4
            exact List.eq_nil_of_length_eq_zero (by omega)
          · exact e0
        exact ⟨_, _, by rw [(hA h0).1], h1⟩
    · cases hs
  · rename_i c l'
    split at hs
    · rename_i hall
      cases hs
      have hall' : ∀ r ∈ l', r.length = es := fun r hr => by simpa using List.all_eq_true.1 hall r hr
      rcases hy with ⟨rfl, rfl, _⟩ | ⟨A, cap, us, rfl, hle, _, h4, ⟨es', h5⟩, h6⟩
      · exact ⟨none, 0, [], rfl, Nat.le_refl _, by simp, rfl, rfl, fun _ => ⟨rfl, rfl⟩, fun e => (e rfl).elim⟩
      · refine ⟨some A, cap, us, rfl, hle, flatten_rows hall', h4.flat, ?_, (fun e => by cases e), fun hne => ?_⟩
        · rw [List.all_eq_true]
          intro x hx
          obtain ⟨r, hr, hx⟩ := List.mem_flatten.1 hx
          exact List.all_eq_true.1 (h5 r hr).2.1 x hx
        · obtain ⟨g, off, rfl, hzz⟩ := h6 hne
          exact ⟨g, off, rfl, fun j x hx => (hz.zin _ _ _ (hzz j x hx)).2⟩
    · cases hs
  · cases hs

/-! ### a new block -/
theorem HR.newCells {ν : V} {base : Nat} {h : AH} {w : World} (H : HR ν base h w) {l : List AV} {vs : List Value} (hl : VRs ν l vs) (h1 : l.all AV.one = true) (ex : List Value) (cs : Array Value) (hcs : cs.toList = vs ++ ex) (T : TypeId) (fz : Nat × Nat := (0, 0)) (hfz : ∀ k, k < cs.size → ¬ (fz.1 ≤ k ∧ k < fz.2) := by simp) :
    HR (ν.upd h.next ⟨w.heap.size, 0, cs.size⟩) base (h.new (.cells true l)) (w.alloc (.cells cs T fz)) ∧ V.le ν (ν.upd h.next ⟨w.heap.size, 0, cs.size⟩) ∧ Fr base ν h w (ν.upd h.next ⟨w.heap.size, 0, cs.size⟩) (h.new (.cells true l)) (w.alloc (.cells cs T fz)) := by
  have hle := V.le_upd (ν := ν) (b := h.next) ⟨w.heap.size, 0, cs.size⟩ H.fresh
  have hold : ∀ g, g < w.heap.size → (w.alloc (.cells cs T fz)).heap[g]? = w.heap[g]? := fun g hg => Below.heap_alloc w _ g hg
  have hnew : (w.alloc (.cells cs T fz)).heap[w.heap.size]? = some (.cells cs T fz) := by simp only [World.alloc, Array.getElem?_push_size]
  have hcell : ∀ k, (w.alloc (.cells cs T fz)).cell? ⟨w.heap.size, k, Option.none⟩ = cs[k]? := fun k => cell_of_row _ _ _ _ _ _ hnew
  have hvl : ∀ k, k < vs.length → cs[k]? = vs[k]? := fun k hk => by
    rw [← Array.getElem?_toList, hcs, List.getElem?_append_left hk]
  have hpg : ∀ b x p, h.get b = some x → ν b = some p → p.g < w.heap.size := fun b x p hb hp => by
    obtain ⟨q, hq, hB⟩ := H.blk b x hb
    rw [hp] at hq; cases hq
    cases x with
    | map l => exact hB.1
    | cells own l => exact hB.1
  have hsz : vs.length ≤ cs.size := by rw [← Array.length_toList, hcs]; simp
  refine ⟨⟨?_, ?_, ?_, ?_⟩, hle, (Below.refl _ _).alloc H.size _, fun X hX hs => ⟨fun b x p hb ho hp hXp => ?_, fun g hg => hold g (hX g hg)⟩⟩
  rotate_left 4
  · by_cases e : b = h.next
    · have hpn : p = ⟨w.heap.size, 0, cs.size⟩ := by simpa [V.upd, e] using hp.symm
      have := hX p.g hXp
      rw [hpn] at this
      simp at this
    · exact hs b x p (by simpa [AH.get_new, e] using hb) ho (by simpa [V.upd, e] using hp) hXp
  · have := H.size; simp; omega
  · intro b p hp
    replace hp : (if b = h.next then some (⟨w.heap.size, 0, cs.size⟩ : P3) else ν b) = some p := hp
    split at hp
    · rename_i e; simp [AH.new, e]
    · have := H.lt b p hp; simp [AH.new]; omega
  · intro b x hx
    by_cases hb : b = h.next
    · subst hb
      simp [AH.get_new] at hx
      subst hx
      refine ⟨_, V.upd_same _ _ _, ?_, fun k x hx => ?_, fun _ => ⟨H.size, ?_, fun j hj => ?_⟩, fun e => by cases e⟩
      · simp
      · obtain ⟨v, hv, r⟩ := hl.get k x hx
        have hk : k < vs.length := (List.getElem?_eq_some_iff.1 hv).1
        refine ⟨List.all_eq_true.1 h1 x (List.mem_of_getElem? hx), v, ?_, r.mono hle⟩
        simp only [Nat.zero_add]
        rw [hcell, hvl k hk, hv]
      · simp only; rw [hl.length]; exact hsz
      · simp only [Nat.zero_add] at hj ⊢
        refine ⟨?_, ?_⟩
        · rw [hcell]; simp [hj]
        · have hf := hfz j hj
          simp only [World.frozen?]; rw [hnew]; simp; omega
    · have hx' : h.get b = some x := by simpa [AH.get_new, hb] using hx
      obtain ⟨p, hp, hB⟩ := H.blk b x hx'
      exact ⟨p, hle.f _ _ hp, hB.of_block hle (hold _ (hpg b x p hx' hp))⟩
  · intro b b' x x' p p' hb hb' ho ho' hp hp' hg
    by_cases e : b = h.next <;> by_cases e' : b' = h.next
    · rw [e, e']
    · exfalso
      have hx' : h.get b' = some x' := by simpa [AH.get_new, e'] using hb'
      have hp'' : ν b' = some p' := by simpa [V.upd, e'] using hp'
      have hpn : p = ⟨w.heap.size, 0, cs.size⟩ := by simpa [V.upd, e] using hp.symm
      have := hpg b' x' p' hx' hp''
      rw [← hg, hpn] at this
      simp at this
    · exfalso
      have hx' : h.get b = some x := by simpa [AH.get_new, e] using hb
      have hp'' : ν b = some p := by simpa [V.upd, e] using hp
      have hpn : p' = ⟨w.heap.size, 0, cs.size⟩ := by simpa [V.upd, e'] using hp'.symm
      have := hpg b x p hx' hp''
      rw [hg, hpn] at this
      simp at this
    · exact H.inj b b' x x' p p' (by simpa [AH.get_new, e] using hb) (by simpa [AH.get_new, e'] using hb') ho ho' (by simpa [V.upd, e] using hp) (by simpa [V.upd, e'] using hp') hg

/-! ### writing -/
theorem setAll_get {α : Type} : ∀ (xs l : List α) (o k : Nat), o + xs.length ≤ l.length → (setAll l o xs)[k]? = if o ≤ k ∧ k < o + xs.length then xs[k - o]? else l[k]?
  | [], l, o, k, _ => by simp [setAll]; omega
  | x :: xs, l, o, k, h => by
    simp at h
    rw [setAll, setAll_get xs (l.set o x) (o + 1) k (by simp; omega)]
    by_cases hk : k = o
    · subst hk
      rw [if_neg (by omega), if_pos (by simp), List.getElem?_set_self (by omega)]
      simp
    · by_cases h2 : o + 1 ≤ k ∧ k < o + 1 + xs.length
      · rw [if_pos h2, if_pos (by simp; omega)]
        obtain ⟨m, rfl⟩ : ∃ m, k = o + 1 + m := ⟨k - (o + 1), by omega⟩
        rw [show o + 1 + m - (o + 1) = m by omega, show o + 1 + m - o = m + 1 by omega]
        simp
      · rw [if_neg h2, if_neg (by simp; omega), List.getElem?_set_ne (by omega)]

theorem setAll_length {α : Type} : ∀ (xs l : List α) (o : Nat), (setAll l o xs).length = l.length
  | [], _, _ => rfl
  | x :: xs, l, o => by rw [setAll, setAll_length xs]; simp

theorem below_setCells' {base b : Nat} (hb : base ≤ b) : ∀ (vs : List Value) (o : Nat) (w : World), Below base w (w.setCells b o vs)
  | [], _, w => Below.refl _ _
  | v :: r, o, w => ((Below.refl base w).setCell (p := ⟨b, o, Option.none⟩) hb v).trans (below_setCells' hb r (o + 1) _)

theorem heap_setCells_ne (g o : Nat) (vs : List Value) (w : World) {i : Nat} (hne : i ≠ g) : (w.setCells g o vs).heap[i]? = w.heap[i]? := by
  induction vs generalizing o w with
  | nil => rfl
  | cons v r ih => rw [World.setCells, ih, Below.heap_setCell _ _ _ _ (by simpa using hne)]

theorem size_setCells' (g : Nat) : ∀ (vs : List Value) (o : Nat) (w : World), (w.setCells g o vs).heap.size = w.heap.size
  | [], _, _ => rfl
  | v :: r, o, w => by rw [World.setCells, size_setCells' g r]; simp [World.setCell]

/-- Cells that are there are written: the other blocks stay; of this one the cells are told anew. -/
theorem HR.write {ν : V} {base : Nat} {h h' : AH} {w : World} (H : HR ν base h w) {b o : Nat} {xs : List AV} {vs : List Value} (hx : VRs ν xs vs) (hw : h.write b o xs = some h') :
    ∃ p, ν b = some p ∧ w.there p.g (p.o + o) vs.length ∧ xs.all AV.one = true ∧ HR ν base h' (w.setCells p.g (p.o + o) vs) ∧ Fr base ν h w ν h' (w.setCells p.g (p.o + o) vs) := by
  unfold AH.write at hw
  split at hw
  · rename_i l hg
    split at hw
    · rename_i hc
      cases hw
      simp only [Bool.and_eq_true, decide_eq_true_eq] at hc
      obtain ⟨hlen, hone⟩ := hc
      obtain ⟨p, hp, h0, h1, h2, _⟩ := H.blk b _ hg
      obtain ⟨hb, hsz, hth⟩ := h2 rfl
      have hg0 := hg
      have hvl := hx.length
      have hthere : w.there p.g (p.o + o) vs.length := fun j hj => by
        have := hth (o + j) (by omega)
        rw [Nat.add_assoc]; exact this
      refine ⟨p, hp, hthere, hone, ⟨?_, H.lt, ?_, ?_⟩, below_setCells' hb _ _ _, fun X hX hs => ⟨fun c x q hc ho hq hXq => ?_, fun g hg => heap_setCells_ne _ _ _ _ (fun eg => hs b _ p hg0 rfl hp (eg ▸ hg))⟩⟩
      rotate_left 3
      · by_cases e : c = b
        · subst e
          exact hs c _ q hg0 rfl hq hXq
        · exact hs c x q (by simpa [AH.get_upd (AH.get_lt hg0), e] using hc) ho hq hXq
      · rw [size_setCells']; exact H.size
      · intro c x hcx
        by_cases e : c = b
        · subst e
          simp [AH.get_upd (AH.get_lt hg)] at hcx
          subst hcx
          refine ⟨p, hp, by rw [size_setCells']; exact h0, fun k x hk => ?_, fun _ => ⟨hb, by rw [setAll_length]; exact hsz, ?_⟩, fun e => by cases e⟩
          · rw [setAll_get _ _ _ _ hlen] at hk
            split at hk
            · rename_i hr
              obtain ⟨v, hv, r⟩ := hx.get _ _ hk
              refine ⟨List.all_eq_true.1 hone x (List.mem_of_getElem? hk), v, ?_, r⟩
              have := World.rangeAt_setCells_same w p.g (p.o + o) vs hthere (k - o) v hv
              rw [show p.o + o + (k - o) = p.o + k by omega] at this
              exact this
            · rename_i hr
              obtain ⟨ho, v, hv, r⟩ := h1 k x hk
              refine ⟨ho, v, ?_, r⟩
              rw [World.cell?_setCells_out p.g vs (p.o + o) w ⟨p.g, p.o + k, Option.none⟩ (fun _ _ => by simp only; omega)]
              exact hv
          · exact World.there_setCells hth _ _ _
        · have hx' : h.get c = some x := by simpa [AH.get_upd (AH.get_lt hg), e] using hcx
          obtain ⟨q, hq, hB⟩ := H.blk c x hx'
          refine ⟨q, hq, hB.of_block (V.le_refl _) (heap_setCells_ne _ _ _ _ ?_)⟩
          intro eg
          cases x with
          | map l => exact e (H.inj c b _ _ q p hx' hg rfl rfl hq hp eg)
          | cells own l2 =>
            cases own with
            | true => exact e (H.inj c b _ _ q p hx' hg rfl rfl hq hp eg)
            | false => have := hB.2.2.2 rfl; omega
      · intro c c' x x' q q' hc hc' ho ho' hq hq' eg
        have hc1 : ∃ y, h.get c = some y ∧ y.own = true := by
          by_cases e : c = b
          · exact ⟨_, e ▸ hg, rfl⟩
          · exact ⟨x, by simpa [AH.get_upd (AH.get_lt hg), e] using hc, ho⟩
        have hc2 : ∃ y, h.get c' = some y ∧ y.own = true := by
          by_cases e : c' = b
          · exact ⟨_, e ▸ hg, rfl⟩
          · exact ⟨x', by simpa [AH.get_upd (AH.get_lt hg), e] using hc', ho'⟩
        obtain ⟨y, hy, oy⟩ := hc1
        obtain ⟨y', hy', oy'⟩ := hc2
        exact H.inj c c' y y' q q' hy hy' oy oy' hq hq' eg
    · cases hw
  · cases hw

/-! ### maps -/
theorem HR.lt_size {ν : V} {base : Nat} {h : AH} {w : World} (H : HR ν base h w) {b : Nat} {x : AB} {p : P3} (hb : h.get b = some x) (hp : ν b = some p) : p.g < w.heap.size := by
  obtain ⟨q, hq, hB⟩ := H.blk b x hb
  rw [hp] at hq; cases hq
  cases x with
  | map l => exact hB.1
  | cells own l => exact hB.1
/-- A new map. -/
theorem HR.newMap {ν : V} {base : Nat} {h : AH} {w : World} (H : HR ν base h w) :
    HR (ν.upd h.next ⟨w.heap.size, 0, 0⟩) base (h.new (.map [])) (w.alloc (.map #[] 0)) ∧ V.le ν (ν.upd h.next ⟨w.heap.size, 0, 0⟩) ∧ Fr base ν h w (ν.upd h.next ⟨w.heap.size, 0, 0⟩) (h.new (.map [])) (w.alloc (.map #[] 0)) := by
  have hle := V.le_upd (ν := ν) (b := h.next) ⟨w.heap.size, 0, 0⟩ H.fresh
  have hold : ∀ g, g < w.heap.size → (w.alloc (.map #[] 0)).heap[g]? = w.heap[g]? := fun g hg => Below.heap_alloc w _ g hg
  have hnew : (w.alloc (.map #[] 0)).heap[w.heap.size]? = some (.map #[] 0) := by simp only [World.alloc, Array.getElem?_push_size]
  refine ⟨⟨?_, ?_, ?_, ?_⟩, hle, (Below.refl _ _).alloc H.size _, fun X hX hs => ⟨fun b x p hb ho hp hXp => ?_, fun g hg => hold g (hX g hg)⟩⟩
  rotate_left 4
  · by_cases e : b = h.next
    · have hpn : p = ⟨w.heap.size, 0, 0⟩ := by simpa [V.upd, e] using hp.symm
      have := hX p.g hXp
      rw [hpn] at this
      simp at this
    · exact hs b x p (by simpa [AH.get_new, e] using hb) ho (by simpa [V.upd, e] using hp) hXp
  · have := H.size; simp; omega
  · intro b p hp
    replace hp : (if b = h.next then some (⟨w.heap.size, 0, 0⟩ : P3) else ν b) = some p := hp
    split at hp
    · rename_i e; simp [AH.new, e]
    · have := H.lt b p hp; simp [AH.new]; omega
  · intro b x hx
    by_cases hb : b = h.next
    · subst hb
      simp [AH.get_new] at hx
      subst hx
      exact ⟨_, V.upd_same _ _ _, by simp, H.size, #[], 0, hnew, rfl, fun k x y hxy => by simp at hxy⟩
    · have hx' : h.get b = some x := by simpa [AH.get_new, hb] using hx
      obtain ⟨p, hp, hB⟩ := H.blk b x hx'
      exact ⟨p, hle.f _ _ hp, hB.of_block hle (hold _ (H.lt_size hx' hp))⟩
  · intro b b' x x' p p' hb hb' ho ho' hp hp' hg
    by_cases e : b = h.next <;> by_cases e' : b' = h.next
    · rw [e, e']
    · exfalso
      have hx' : h.get b' = some x' := by simpa [AH.get_new, e'] using hb'
      have hp'' : ν b' = some p' := by simpa [V.upd, e'] using hp'
      have hpn : p = ⟨w.heap.size, 0, 0⟩ := by simpa [V.upd, e] using hp.symm
      have := H.lt_size hx' hp''
      rw [← hg, hpn] at this
      simp at this
    · exfalso
      have hx' : h.get b = some x := by simpa [AH.get_new, e] using hb
      have hp'' : ν b = some p := by simpa [V.upd, e] using hp
      have hpn : p' = ⟨w.heap.size, 0, 0⟩ := by simpa [V.upd, e'] using hp'.symm
      have := H.lt_size hx' hp''
      rw [hg, hpn] at this
      simp at this
    · exact H.inj b b' x x' p p' (by simpa [AH.get_new, e] using hb) (by simpa [AH.get_new, e'] using hb') ho ho' (by simpa [V.upd, e] using hp) (by simpa [V.upd, e'] using hp') hg
theorem below_setObj {B : Nat} (w : World) {g : Nat} (hB : B ≤ g) (o : Obj) : Below B w { w with heap := w.heap.setIfInBounds g o } :=
  ⟨rfl, rfl, rfl, by simp, fun k hk => by
    show (w.heap.setIfInBounds g o)[k]? = _
    rw [Array.getElem?_setIfInBounds_ne (by omega)]⟩
/-- A map's entries are told anew. -/
theorem HR.setMap {ν : V} {base : Nat} {h : AH} {w : World} (H : HR ν base h w) {b : Nat} {l l' : List (AV × AV)} {p : P3} (hg : h.get b = some (.map l)) (hp : ν b = some p) (es : Array MapEntry) (clock : Nat) (hs : es.size = l'.length)
    (hv : ∀ (k : Nat) (x y : AV), l'[k]? = some (x, y) → x.clo = true ∧ y.clo = true ∧ ∃ e : MapEntry, es[k]? = some e ∧ VR ν x e.key ∧ VR ν y e.val) :
    HR ν base (h.upd b (some (.map l'))) { w with heap := w.heap.setIfInBounds p.g (.map es clock) } ∧ Fr base ν h w ν (h.upd b (some (.map l'))) { w with heap := w.heap.setIfInBounds p.g (.map es clock) } := by
  have hpg := H.lt_size hg hp
  obtain ⟨q, hq, hB⟩ := H.blk b _ hg
  rw [hp] at hq; cases hq
  have hbase : base ≤ p.g := hB.2.1
  have hbn := AH.get_lt hg
  have hne : ∀ g, g ≠ p.g → (w.heap.setIfInBounds p.g (.map es clock))[g]? = w.heap[g]? := fun g e => Array.getElem?_setIfInBounds_ne (fun e2 => e e2.symm)
  have old : ∀ c x, (h.upd b (some (.map l'))).get c = some x → x.own = true → ∃ y, h.get c = some y ∧ y.own = true := by
    intro c x hc ho
    rw [AH.get_upd hbn] at hc
    split at hc
    · rename_i e; exact ⟨_, e ▸ hg, rfl⟩
    · exact ⟨x, hc, ho⟩
  refine ⟨⟨by show base ≤ (w.heap.setIfInBounds p.g _).size; rw [Array.size_setIfInBounds]; exact H.size, H.lt, fun c x hc => ?_, fun c c' x x' q q' hc hc' ho ho' hq hq' e => ?_⟩, below_setObj w hbase _, fun X hX hsx => ⟨fun c x q hc ho hq hx => ?_, fun g hgx => hne g fun e => hsx b _ p hg rfl hp (e ▸ hgx)⟩⟩
  · rw [AH.get_upd hbn] at hc
    split at hc
    · rename_i e
      cases hc
      subst e
      refine ⟨p, hp, ?_, hbase, es, clock, ?_, hs, hv⟩
      · show p.g < (w.heap.setIfInBounds p.g _).size; rw [Array.size_setIfInBounds]; exact hpg
      · show (w.heap.setIfInBounds p.g _)[p.g]? = _
        rw [Array.getElem?_setIfInBounds_self_of_lt hpg]
    · rename_i e
      obtain ⟨q, hq, hB2⟩ := H.blk c x hc
      refine ⟨q, hq, hB2.of_block (V.le_refl _) (hne q.g fun eg => ?_)⟩
      cases x with
      | map l2 => exact e (H.inj c b _ _ q p hc hg rfl rfl hq hp eg)
      | cells own l2 =>
        cases own with
        | true => exact e (H.inj c b _ _ q p hc hg rfl rfl hq hp eg)
        | false => have := hB2.2.2.2 rfl; omega
  · obtain ⟨y, hy, oy⟩ := old c x hc ho
    obtain ⟨y', hy', oy'⟩ := old c' x' hc' ho'
    exact H.inj c c' y y' q q' hy hy' oy oy' hq hq' e
  · obtain ⟨y, hy, oy⟩ := old c x hc ho
    exact hsx c y q hy oy hq hx

/-- A block is given up. -/
theorem HR.kill {ν : V} {base : Nat} {h : AH} {w : World} (H : HR ν base h w) (b : Nat) : HR ν base (h.upd b Option.none) w := by
  have hg : ∀ c x, (h.upd b Option.none).get c = some x → h.get c = some x := by
    intro c x hc
    rw [AH.get_kill] at hc
    split at hc
    · cases hc
    · exact hc
  exact ⟨H.size, H.lt, fun c x hc => H.blk c x (hg c x hc), fun c c' x x' p p' hc hc' => H.inj c c' x x' p p' (hg _ _ hc) (hg _ _ hc')⟩

end Go.Bm
