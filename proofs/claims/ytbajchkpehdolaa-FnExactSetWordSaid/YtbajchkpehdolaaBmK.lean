/- Local boxes: a variable in memory of its own, of which the abstract machine knows but what it holds. -/
import Derived.Test.YtbajchkpehdolaaBmY
import Derived.Test.YtbajchkpehdolaaBmJ
namespace Go.Bm
set_option linter.all false
open Go Go.RowKit
set_option linter.unusedVariables false
set_option linter.unusedSimpArgs false

def Box (lo : Nat) (ν : V) (w : World) (G : Nat) (l : List AV) : Prop :=
  lo ≤ G ∧ G < w.heap.size ∧ (∀ (k : Nat) (x : AV), l[k]? = some x → x.one = true ∧ ∃ v, w.cell? ⟨G, k, none⟩ = some v ∧ VR ν x v) ∧ w.there G 0 l.length

def At (s : S) (a : Act) (t G : Nat) (l : List AV) : Prop := s (LB + t) = .agg l ∧ a.tmps.getD t undef = .pointer (some ⟨G, 0, none⟩)

structure BX (B : List Nat) (lo : Nat) (ν : V) (h : AH) (w : World) (s : S) (a : Act) : Prop where
  any : ∀ t, t ∈ B → s t = .any
  ok : ∀ t, t ∈ B → s (LB + t) = .tup [] ∨ ∃ l G, At s a t G l ∧ Box lo ν w G l
  sep : ∀ t, t ∈ B → ∀ G l, At s a t G l → ∀ b x p, h.get b = some x → x.own = true → ν b = some p → p.g ≠ G
  inj : ∀ t, t ∈ B → ∀ t', t' ∈ B → ∀ G l l', At s a t G l → At s a t' G l' → t = t'
  zsep : ∀ t, t ∈ B → ∀ G l, At s a t G l → ∀ k, ν.z G k = none

structure St (N : Nat) (B : List Nat) (lo base : Nat) (ν : V) (s : S) (h : AH) (a : Act) (w : World) : Prop where
  sr : SR N ν s a
  hr : HR ν base h w
  hz : HZ ν h w
  bx : BX B lo ν h w s a
  blo : base ≤ lo
  los : lo ≤ w.heap.size
  nl : N ≤ LB
  bn : ∀ t, t ∈ B → t < N

section
variable {P : Program} {N lo base : Nat} {B : List Nat} {ν ν' : V} {s : S} {h h' : AH} {w w' : World} {a : Act} {v : AV} {u : Value}

theorem Box.of_block {G : Nat} {l : List AV} (hb : Box lo ν w G l) (hν : V.le ν ν') (e : w'.heap[G]? = w.heap[G]?) : Box lo ν' w' G l := by
  obtain ⟨h1, h2, h3, h4⟩ := hb
  refine ⟨h1, ?_, fun k x hx => ?_, ?_⟩
  · have : w.heap[G]? ≠ Option.none := by simp [h2]
    rw [← e] at this
    exact Nat.lt_of_not_le fun hle => this (Array.getElem?_eq_none hle)
  · obtain ⟨ho, v, hv, r⟩ := h3 k x hx
    exact ⟨ho, v, (World.cell?_of_block (a := ⟨G, k, Option.none⟩) e).trans hv, r.mono hν⟩
  · exact there_of_block e h4

theorem BX.box (bx : BX B lo ν h w s a) {t G : Nat} {l : List AV} (ht : t ∈ B) (hat : At s a t G l) : Box lo ν w G l := by
  rcases bx.ok t ht with e | ⟨l', G', ⟨h1, h2⟩, hb⟩
  · rw [hat.1] at e; cases e
  · rw [hat.1] at h1; cases h1
    rw [hat.2] at h2; cases h2
    exact hb

theorem BX.at_ (bx : BX B lo ν h w s a) {t : Nat} {l : List AV} (ht : t ∈ B) (hs : s (LB + t) = .agg l) : ∃ G, At s a t G l := by
  rcases bx.ok t ht with e | ⟨l', G', ⟨h1, h2⟩, hb⟩
  · rw [hs] at e; cases e
  · rw [hs] at h1; cases h1
    exact ⟨G', hs, h2⟩

theorem getD_put {d t : Nat} {u : Value} (hne : t ≠ d) : (a.put (some d) u).tmps.getD t undef = a.tmps.getD t undef := by
  simp only [Act.put, Array.getD_eq_getD_getElem?]
  rw [Array.getElem?_setIfInBounds_ne (fun q => hne q.symm)]
theorem getD_put_same {d : Nat} {u : Value} (hd : d < a.tmps.size) : (a.put (some d) u).tmps.getD d undef = u := by
  simp [Act.put, Array.getD_eq_getD_getElem?, hd]

theorem At.of_put {d : Option Nat} (hd : ∀ t, d = some t → t < N ∧ t ∉ B) (hN : N ≤ LB) {t G : Nat} {l : List AV} (ht : t ∈ B) : At (s.put d v) (a.put d u) t G l ↔ At s a t G l := by
  cases d with
  | none => exact Iff.rfl
  | some d =>
    obtain ⟨h1, h2⟩ := hd d rfl
    have hne : t ≠ d := fun e => h2 (e ▸ ht)
    have e1 : (s.put (some d) v) (LB + t) = s (LB + t) := by simp only [S.put, S.upd]; rw [if_neg (by omega)]
    unfold At
    rw [e1, getD_put hne]

/-- An operation that knows nothing of the boxes. -/
theorem St.plain (st : St N B lo base ν s h a w) (hν : V.le ν ν') (hH : HR ν' base h' w') (hZ : HZ ν' h' w') (hf : FrL w.heap.size base ν h w ν' h' w') (hv : VR ν' v u) {d : Option Nat} (hd : ∀ t, d = some t → t < N ∧ t ∉ B) : St N B lo base ν' (s.put d v) h' (a.put d u) w' := by
  obtain ⟨sr, hr, hz, bx, blo, los, nl, bn⟩ := st
  obtain ⟨hsep, hkept⟩ := hf.sep (fun G => ∃ t, t ∈ B ∧ ∃ l, At s a t G l) (fun g ⟨t, ht, l, hat⟩ => (bx.box ht hat).2.1) (fun b x p hb ho hp ⟨t, ht, l, hat⟩ => bx.sep t ht _ l hat b x p hb ho hp rfl)
  refine ⟨(sr.mono hν).put (fun t ht => (hd t ht).1) hv, hH, hZ, ⟨fun t ht => ?_, fun t ht => ?_, fun t ht G l hat b x p hb ho hp e => ?_, fun t ht t' ht' G l l' h1 h2 => ?_, fun t ht G l hat k => ?_⟩, blo, Nat.le_trans los hf.below.size, nl, bn⟩
  · rw [← bx.any t ht]
    exact put_other fun x hx e => (hd x hx).2 (e ▸ ht)
  · rcases bx.ok t ht with e | ⟨l, G, hat, hb⟩
    · refine .inl ?_
      rw [← e]
      exact put_other fun x hx e => by have := (hd x hx).1; omega
    · exact .inr ⟨l, G, (At.of_put hd nl ht).2 hat, hb.of_block hν (hkept G ⟨t, ht, l, hat⟩)⟩
  · exact hsep b x p hb ho hp ⟨t, ht, l, by rw [e]; exact (At.of_put hd nl ht).1 hat⟩
  · exact bx.inj t ht t' ht' G l l' ((At.of_put hd nl ht).1 h1) ((At.of_put hd nl ht').1 h2)
  · have hat' := (At.of_put hd nl ht).1 hat
    exact hf.zg G k (bx.box ht hat').2.1 (bx.zsep t ht G l hat' k) fun b x p hb ho hp => bx.sep t ht G l hat' b x p hb ho hp

theorem SR.box (hS : SR N ν s a) (t : Nat) (v : AV) : SR N ν (s.upd (LB + t) v) a := ⟨hS.size, hS.defers, fun k hk => by
  simp only [S.upd]; rw [if_neg (by omega)]; exact hS.val k hk⟩

/-- A box is made. -/
theorem St.box (st : St N B lo base ν s h a w) {t : Nat} (ht : t ∈ B) {l : List AV} {vs : List Value} (hl : VRs ν l vs) (h1 : l.all AV.one = true) (cs : Array Value) (hcs : cs.toList = vs) (T : TypeId) :
    St N B lo base ν (s.upd (LB + t) (.agg l)) h (a.put (some t) (.pointer (some ⟨w.heap.size, 0, none⟩))) (w.alloc (.cells cs T)) ∧ FrL lo base ν h w ν h (w.alloc (.cells cs T)) := by
  obtain ⟨sr, hr, hz, bx, blo, los, nl, bn⟩ := st
  have hold : ∀ g, g < w.heap.size → (w.alloc (.cells cs T)).heap[g]? = w.heap[g]? := fun g hg => Below.heap_alloc w _ g hg
  have hnew : (w.alloc (.cells cs T)).heap[w.heap.size]? = some (.cells cs T (0, 0)) := by simp only [World.alloc, Array.getElem?_push_size]
  have hcell : ∀ k, (w.alloc (.cells cs T)).cell? ⟨w.heap.size, k, Option.none⟩ = cs[k]? := fun k => cell_of_row _ _ _ _ _ _ hnew
  have hlen := hl.length
  have hcl : cs.size = vs.length := by rw [← hcs]; simp
  have hsame : (s.upd (LB + t) (.agg l)) (LB + t) = .agg l := by simp [S.upd]
  have hoth : ∀ k, k ≠ t → (s.upd (LB + t) (.agg l)) (LB + k) = s (LB + k) := fun k hk => by simp only [S.upd]; rw [if_neg (by omega)]
  have htN := bn t ht
  have hat : At (s.upd (LB + t) (.agg l)) (a.put (some t) (.pointer (some ⟨w.heap.size, 0, none⟩))) t w.heap.size l := ⟨hsame, getD_put_same (by rw [sr.size]; exact htN)⟩
  have hato : ∀ k G m, k ≠ t → (At (s.upd (LB + t) (.agg l)) (a.put (some t) (.pointer (some ⟨w.heap.size, 0, none⟩))) k G m ↔ At s a k G m) := fun k G m hk => by
    unfold At; rw [hoth k hk, getD_put hk]
  have hatt : ∀ G m, At (s.upd (LB + t) (.agg l)) (a.put (some t) (.pointer (some ⟨w.heap.size, 0, none⟩))) t G m → G = w.heap.size := fun G m hm => by
    have := hm.2.symm.trans hat.2; cases this; rfl
  have hsr : SR N ν (s.upd (LB + t) (.agg l)) (a.put (some t) (.pointer (some ⟨w.heap.size, 0, none⟩))) := by
    refine ⟨by simp [Act.put, sr.size], by simp [Act.put, sr.defers], fun k hk => ?_⟩
    simp only [S.upd]
    rw [if_neg (by omega)]
    by_cases e : k = t
    · subst e; rw [bx.any k ht]; trivial
    · rw [getD_put e]; exact sr.val k hk
  have hsz : w.heap.size ≤ (w.alloc (.cells cs T)).heap.size := by simp
  refine ⟨⟨hsr, hr.frame hsz fun b x p hb hp => hold _ (hr.there hb hp).1, ⟨fun g k v hv => let ⟨h1, h2⟩ := hz.zin g k v hv; ⟨Nat.lt_of_lt_of_le h1 hsz, (World.cell?_of_block (a := ⟨g, k, Option.none⟩) (hold g h1)).trans h2⟩, hz.zsep⟩, ⟨fun k hk => ?_, fun k hk => ?_, fun k hk G m hm b x p hb ho hp => ?_, fun k hk k' hk' G m m' hm hm' => ?_, fun k hk G m hm j => ?_⟩, blo, Nat.le_trans los hsz, nl, bn⟩,
    (Below.refl _ _).alloc hr.size _, fun X hX hs => ⟨hs, fun g hg => hold g (Nat.lt_of_lt_of_le (hX g hg) los)⟩, fun _ _ _ h _ => h⟩
  · rw [← bx.any k hk]; simp only [S.upd]; have := bn k hk; rw [if_neg (by omega)]
  · by_cases e : k = t
    · subst e
      refine .inr ⟨l, _, hat, los, by simp, fun j x hx => ?_, fun j hj => ?_⟩
      · obtain ⟨v, hv, r⟩ := hl.get j x hx
        refine ⟨List.all_eq_true.1 h1 x (List.mem_of_getElem? hx), v, ?_, r⟩
        rw [hcell, ← Array.getElem?_toList, hcs]; exact hv
      · simp only [Nat.zero_add]
        refine ⟨?_, ?_⟩
        · rw [hcell]; simp; omega
        · simp only [World.frozen?]; rw [hnew]; simp
    · rcases bx.ok k hk with e' | ⟨m, G, hm, hb⟩
      · exact .inl ((hoth k e).trans e')
      · exact .inr ⟨m, G, (hato k G m e).2 hm, hb.of_block (V.le_refl _) (hold G hb.2.1)⟩
  · by_cases e : k = t
    · subst e
      have := hatt G m hm
      have := (hr.there hb hp).1
      omega
    · exact bx.sep k hk G m ((hato k G m e).1 hm) b x p hb ho hp
  · by_cases e : k = t <;> by_cases e' : k' = t
    · rw [e, e']
    · exfalso
      subst e
      have h1 := hatt G m hm
      have h2 := (bx.box hk' ((hato k' G m' e').1 hm')).2.1
      omega
    · exfalso
      subst e'
      have h1 := hatt G m' hm'
      have h2 := (bx.box hk ((hato k G m e).1 hm)).2.1
      omega
    · exact bx.inj k hk k' hk' G m m' ((hato k G m e).1 hm) ((hato k' G m' e').1 hm')
  · by_cases e : k = t
    · subst e
      have hG := hatt G m hm
      cases hzz : ν.z G j with
      | none => rfl
      | some v => have := (hz.zin G j v hzz).1; omega
    · exact bx.zsep k hk G m ((hato k G m e).1 hm) j

/-- What a box holds is written. -/
theorem St.store (st : St N B lo base ν s h a w) {t G off : Nat} (ht : t ∈ B) {l xs : List AV} {us : List Value} (hat : At s a t G l) (hx : VRs ν xs us) (h1 : xs.all AV.one = true) (hfit : off + xs.length ≤ l.length) :
    w.there G off us.length ∧ St N B lo base ν (s.upd (LB + t) (.agg (setAll l off xs))) h a (w.setCells G off us) ∧ FrL lo base ν h w ν h (w.setCells G off us) := by
  obtain ⟨sr, hr, hz, bx, blo, los, nl, bn⟩ := st
  obtain ⟨b1, b2, b3, b4⟩ := bx.box ht hat
  have hlen := hx.length
  have hth : w.there G off us.length := fun j hj => by
    have := b4 (off + j) (by omega)
    simpa using this
  have hne : ∀ i, i ≠ G → (w.setCells G off us).heap[i]? = w.heap[i]? := fun i hi => heap_setCells_ne _ _ _ _ hi
  have hoth : ∀ k, k ≠ t → (s.upd (LB + t) (.agg (setAll l off xs))) (LB + k) = s (LB + k) := fun k hk => by simp only [S.upd]; rw [if_neg (by omega)]
  have hsame : (s.upd (LB + t) (.agg (setAll l off xs))) (LB + t) = .agg (setAll l off xs) := by simp [S.upd]
  have hato : ∀ k G m, k ≠ t → (At (s.upd (LB + t) (.agg (setAll l off xs))) a k G m ↔ At s a k G m) := fun k G m hk => by unfold At; rw [hoth k hk]
  have hatt : ∀ G' m, At (s.upd (LB + t) (.agg (setAll l off xs))) a t G' m → At s a t G' l := fun G' m hm => ⟨hat.1, hm.2⟩
  have hown : ∀ b x p, h.get b = some x → ν b = some p → p.g ≠ G := fun b x p hb hp e => by
    cases ho : x.own with
    | true => exact bx.sep t ht G l hat b x p hb ho hp e
    | false => have := (hr.there hb hp).2 ho; omega
  have hsz : (w.setCells G off us).heap.size = w.heap.size := size_setCells' _ _ _ _
  refine ⟨hth, ⟨sr.box t _, hr.frame (by omega) fun b x p hb hp => hne _ (hown b x p hb hp), ⟨fun g k v hv => let ⟨h1, h2⟩ := hz.zin g k v hv; ⟨by omega, (World.cell?_of_block (a := ⟨g, k, Option.none⟩) (hne g fun e => by subst e; rw [bx.zsep t ht g l hat k] at hv; cases hv)).trans h2⟩, hz.zsep⟩, ⟨fun k hk => ?_, fun k hk => ?_, fun k hk G' m hm b x p hb ho hp => ?_, fun k hk k' hk' G' m m' hm hm' => ?_, fun k hk G' m hm j => ?_⟩, blo, by omega, nl, bn⟩,
    below_setCells' (by omega) _ _ _, fun X hX hs => ⟨hs, fun g hg => hne g (fun e => by have := hX g hg; omega)⟩, fun _ _ _ h _ => h⟩
  · rw [← bx.any k hk]; simp only [S.upd]; have := bn k hk; rw [if_neg (by omega)]
  · by_cases e : k = t
    · subst e
      refine .inr ⟨_, G, ⟨hsame, hat.2⟩, b1, by omega, fun j x hj => ?_, ?_⟩
      · rw [setAll_get _ _ _ _ hfit] at hj
        split at hj
        · rename_i hr
          obtain ⟨v, hv, r⟩ := hx.get _ _ hj
          refine ⟨List.all_eq_true.1 h1 x (List.mem_of_getElem? hj), v, ?_, r⟩
          have := World.rangeAt_setCells_same w G off us hth (j - off) v hv
          rw [show off + (j - off) = j by omega] at this
          exact this
        · rename_i hr
          obtain ⟨ho, v, hv, r⟩ := b3 j x hj
          refine ⟨ho, v, ?_, r⟩
          rw [World.cell?_setCells_out G us off w ⟨G, j, Option.none⟩ (fun _ _ => by simp only; omega)]
          exact hv
      · rw [setAll_length]; exact World.there_setCells b4 _ _ _
    · rcases bx.ok k hk with e' | ⟨m, G', hm, hb⟩
      · exact .inl ((hoth k e).trans e')
      · refine .inr ⟨m, G', (hato k G' m e).2 hm, hb.of_block (V.le_refl _) (hne G' fun eg => ?_)⟩
        subst eg
        exact e (bx.inj k hk t ht G' m l hm hat)
  · by_cases e : k = t
    · subst e; exact bx.sep k ht G' l (hatt G' m hm) b x p hb ho hp
    · exact bx.sep k hk G' m ((hato k G' m e).1 hm) b x p hb ho hp
  · have w1 : ∃ n, At s a k G' n := by
      by_cases e : k = t
      · subst e; exact ⟨l, hatt G' m hm⟩
      · exact ⟨m, (hato k G' m e).1 hm⟩
    have w2 : ∃ n, At s a k' G' n := by
      by_cases e : k' = t
      · subst e; exact ⟨l, hatt G' m' hm'⟩
      · exact ⟨m', (hato k' G' m' e).1 hm'⟩
    obtain ⟨n, hn⟩ := w1
    obtain ⟨n', hn'⟩ := w2
    exact bx.inj k hk k' hk' G' n n' hn hn'
  · by_cases e : k = t
    · subst e; exact bx.zsep k ht G' l (hatt G' m hm) j
    · exact bx.zsep k hk G' m ((hato k G' m e).1 hm) j

end
end Go.Bm
