/- Regions that draw their order: told in one order, true in every one. -/
import Derived.Test.YtbajchkpehdolaaBmI
namespace Go.Bm
set_option linter.all false
open Go Go.RowKit
set_option linter.unusedVariables false
set_option linter.unusedSimpArgs false

/-! ### what an operation reads -/
theorem ev_congr {s s' : S} {e : AE} (h : ∀ t ∈ e.slots, s t = s' t) : e.ev s = e.ev s' := by
  cases e with
  | t n => exact h n (by simp [AE.slots])
  | c v => rfl
theorem evs_congr {s s' : S} {l : List AE} (h : ∀ t ∈ l.flatMap AE.slots, s t = s' t) : l.map (AE.ev s) = l.map (AE.ev s') := by
  apply List.map_congr_left
  intro e he
  exact ev_congr fun t ht => h t (List.mem_flatMap.2 ⟨e, he, ht⟩)
theorem evo_congr {s s' : S} {x : Option AE} (h : ∀ t ∈ oslots x, s t = s' t) : x.map (AE.ev s) = x.map (AE.ev s') := by
  cases x with
  | none => rfl
  | some e => simp only [Option.map_some]; rw [ev_congr (e := e) h]

theorem AH.le.get {h h' : AH} (hle : h.le h') {b : Nat} {x : AB} (e : h.get b = some x) : h'.get b = some x := by rw [hle.2 b (AH.get_lt e)]; exact e
theorem AH.le.read {h h' : AH} (hle : h.le h') {b o n : Nat} {l : List AV} (e : h.read b o n = some l) : h'.read b o n = some l := by
  unfold AH.read at e ⊢
  cases hg : h.get b with
  | none => rw [hg] at e; cases e
  | some x => rw [hg] at e; rw [hle.get hg]; exact e

theorem aop_congr {k : K} {s s' : S} {h : AH} (hs : ∀ t ∈ k.slots, s t = s' t) : aop k s h = aop k s' h := by
  have pr : ∀ {α : Type} (ps : List α) (f : α → AE) , (∀ t ∈ ps.flatMap (fun p => (f p).slots), s t = s' t) → ∀ p ∈ ps, (f p).ev s = (f p).ev s' := fun ps f h p hp => ev_congr fun t ht => h t (List.mem_flatMap.2 ⟨p, hp, ht⟩)
  cases k <;> simp only [K.slots, List.mem_append] at hs <;> simp only [aop]
  case mov x => rw [ev_congr hs]
  case pick c a b => rw [ev_congr (e := c) fun t ht => hs t (.inl (.inl ht)), ev_congr (e := a) fun t ht => hs t (.inl (.inr ht)), ev_congr (e := b) fun t ht => hs t (.inr ht)]
  case box x => rw [ev_congr hs]
  case build z ps =>
    rw [List.map_congr_left (g := fun (p : Nat × Nat × AE) => (p.1, p.2.1, p.2.2.ev s')) fun p hp => by rw [pr ps (fun p => p.2.2) hs p hp]]
  case bslice n es z ps =>
    rw [List.map_congr_left (g := fun (p : Nat × AE) => (p.1, p.2.ev s')) fun p hp => by rw [pr ps (fun p => p.2) hs p hp]]
  case bsliceF n es z ps =>
    rw [List.map_congr_left (g := fun (p : Nat × AE) => (p.1, p.2.ev s')) fun p hp => by rw [pr ps (fun p => p.2) hs p hp]]
  case load g n a => rw [ev_congr hs]
  case store n a x => rw [ev_congr (e := a) fun t ht => hs t (.inl ht), ev_congr (e := x) fun t ht => hs t (.inr ht)]
  case nchk x => rw [ev_congr hs]
  case bin op a x => rw [ev_congr (e := a) fun t ht => hs t (.inl ht), ev_congr (e := x) fun t ht => hs t (.inr ht)]
  case eqb op a x => rw [ev_congr (e := a) fun t ht => hs t (.inl ht), ev_congr (e := x) fun t ht => hs t (.inr ht)]
  case eqs op q a x => rw [ev_congr (e := a) fun t ht => hs t (.inl ht), ev_congr (e := x) fun t ht => hs t (.inr ht)]
  case eqnil op q a x => rw [ev_congr (e := a) fun t ht => hs t (.inl ht), ev_congr (e := x) fun t ht => hs t (.inr ht)]
  case un op x => rw [ev_congr hs]
  case conv op x => rw [ev_congr hs]
  case s2b x => rw [ev_congr hs]
  case s2bF x => rw [ev_congr hs]
  case b2s x => rw [ev_congr hs]
  case msliceF es q z a x => rw [ev_congr (e := a) fun t ht => hs t (.inl ht), ev_congr (e := x) fun t ht => hs t (.inr ht)]
  case appendF es q a x => rw [ev_congr (e := a) fun t ht => hs t (.inl ht), ev_congr (e := x) fun t ht => hs t (.inr ht)]
  case mslice es q z a x => rw [ev_congr (e := a) fun t ht => hs t (.inl ht), ev_congr (e := x) fun t ht => hs t (.inr ht)]
  case slice es x lo hi mx =>
    rw [ev_congr (e := x) fun t ht => hs t (.inl (.inl (.inl ht))), evo_congr (x := lo) fun t ht => hs t (.inl (.inl (.inr ht))), evo_congr (x := hi) fun t ht => hs t (.inl (.inr ht))]
    cases mx with
    | none => rfl
    | some m =>
      have e : m.ev s = m.ev s' := ev_congr fun t ht => hs t (.inr ht)
      simp only [e]
  case slstr x lo hi => rw [ev_congr (e := x) fun t ht => hs t (.inl (.inl ht)), evo_congr (x := lo) fun t ht => hs t (.inl (.inr ht)), evo_congr (x := hi) fun t ht => hs t (.inr ht)]
  case faddr op x => rw [ev_congr hs]
  case iaddr es a x => rw [ev_congr (e := a) fun t ht => hs t (.inl ht), ev_congr (e := x) fun t ht => hs t (.inr ht)]
  case index a x => rw [ev_congr (e := a) fun t ht => hs t (.inl ht), ev_congr (e := x) fun t ht => hs t (.inr ht)]
  case ext x op => rw [ev_congr hs]
  case len q x => rw [ev_congr hs]
  case movs x => rw [ev_congr hs]
  case append es q a x => rw [ev_congr (e := a) fun t ht => hs t (.inl ht), ev_congr (e := x) fun t ht => hs t (.inr ht)]
  case mkfn f l => rw [evs_congr hs]
  case appendS a x => rw [ev_congr (e := a) fun t ht => hs t (.inl ht), ev_congr (e := x) fun t ht => hs t (.inr ht)]
  case mget kt ok z m k => rw [ev_congr (e := m) fun t ht => hs t (.inl ht), ev_congr (e := k) fun t ht => hs t (.inr ht)]
  case mset kt m k x => rw [ev_congr (e := m) fun t ht => hs t (.inl (.inl ht)), ev_congr (e := k) fun t ht => hs t (.inl (.inr ht)), ev_congr (e := x) fun t ht => hs t (.inr ht)]
  case mlen x => rw [ev_congr hs]
  case lbox x => rw [ev_congr hs]
  case laddr t => rw [hs t (by simp)]
  case lload g n t off => rw [hs t (by simp)]
  case lstore n t off x => rw [hs t (by simp), ev_congr (e := x) fun t ht => hs t (List.mem_cons_of_mem _ ht)]
  case mx big x l =>
    rw [ev_congr (e := x) fun t ht => hs t (.inl ht)]
    have hl : ∀ e ∈ l, e.ev s = e.ev s' := fun e he => ev_congr fun t ht => hs t (.inr (List.mem_flatMap.2 ⟨e, he, ht⟩))
    split <;> try rfl
    congr 1
    clear hs
    rename_i n _
    generalize (some n : Option Int) = acc
    induction l generalizing acc with
    | nil => rfl
    | cons y ys ih => rw [List.foldl_cons, List.foldl_cons, hl y (by simp)]; exact ih (fun e he => hl e (List.mem_cons_of_mem _ he)) _

theorem put_other {s : S} {d : Option Nat} {v : AV} {t : Nat} (h : ∀ x, d = some x → t ≠ x) : (s.put d v) t = s t := by
  cases d with
  | none => rfl
  | some d => simp only [S.put, S.upd]; rw [if_neg (h d rfl)]

theorem put_comm' (s : S) {d e : Option Nat} (v u : AV) (h : ∀ x, d = some x → e ≠ some x) : (s.put d v).put e u = (s.put e u).put d v := by
  cases d with
  | none => rfl
  | some d => cases e with
    | none => rfl
    | some e =>
      have hne : d ≠ e := fun q => h d rfl (by rw [q])
      funext k
      simp only [S.put, S.upd]
      by_cases e1 : k = e <;> by_cases e2 : k = d <;> simp_all


/-! ### what leaves the memory as it is -/
/-- What it answers. -/
def exv (C : AQ) (o : AOp) (s : S) (h : AH) (v : AV) : Prop :=
  match o.k with
  | .call m f args => ∀ R : AV → AH → Prop, R v h → acallM C m f (args.map (AE.ev s)) h R
  | .callv m f args => match f.ev s with
    | .fn f cap => ∀ R : AV → AH → Prop, R v h → acallM C m f (args.map (AE.ev s) ++ cap) h R
    | _ => False
  | k => aop k s h = some (v, h)
theorem fstep_exv {C : AQ} {o : AOp} {Q : S → AH → Prop} {s : S} {h : AH} : fstep C o Q s h ↔ ∃ v, exv C o s h v ∧ Q (s.put o.dst v) h := by
  unfold fstep exv
  cases o.k
  case call => exact Iff.rfl
  case callv m f args =>
    simp only
    generalize AE.ev s f = x
    cases x <;> first | exact Iff.rfl | simp
  all_goals
    simp only
    split
    · rename_i v h' e
      constructor
      · rintro ⟨rfl, hq⟩; exact ⟨v, e, hq⟩
      · rintro ⟨v', e', hq⟩
        rw [e] at e'; cases e'
        exact ⟨rfl, hq⟩
    · rename_i e
      constructor
      · exact False.elim
      · rintro ⟨v', e', _⟩; rw [e] at e'; cases e'
theorem exv_congr {C : AQ} {o : AOp} {s s' : S} {h : AH} {v : AV} (hs : ∀ t ∈ o.k.slots, s t = s' t) (hv : exv C o s h v) : exv C o s' h v := by
  unfold exv at hv ⊢
  generalize o.k = k at *
  cases k
  case call m f args => simp only at hv ⊢; rw [← evs_congr hs]; exact hv
  case callv m f args =>
    simp only [K.slots, List.mem_append] at hs
    simp only at hv ⊢
    rw [← ev_congr (e := f) fun t ht => hs t (.inl ht), ← evs_congr fun t ht => hs t (.inr ht)]
    exact hv
  all_goals
    simp only at hv ⊢
    rw [← aop_congr hs]; exact hv
theorem aamb_congr {k : K} {s s1 : S} (hs : ∀ t ∈ k.slots, s1 t = s t) : aamb k s1 = aamb k s := by
  cases k
  case eqnil kd neg x y =>
    simp only [K.slots, List.mem_append] at hs
    have e1 := ev_congr (e := x) fun t ht => hs t (.inl ht)
    have e2 := ev_congr (e := y) fun t ht => hs t (.inr ht)
    cases kd with
    | zero => show (match x.ev s1, y.ev s1 with | .fs _ [], .nils => true | _, _ => false) = (match x.ev s, y.ev s with | .fs _ [], .nils => true | _, _ => false); rw [e1, e2]
    | succ n => rfl
  all_goals rfl
theorem astep_congr {C : AQ} (hC : C.Mono) {o : AOp} {s s1 : S} {h : AH} {Q1 Q2 : S → AH → Prop} (hs : ∀ t ∈ o.k.slots, s1 t = s t) (hQ : ∀ v h', Q1 (s1.put o.dst v) h' → Q2 (s.put o.dst v) h') (hq : astep C o Q1 s1 h) : astep C o Q2 s h := by
  unfold astep at hq ⊢
  generalize o.k = k at *
  cases k
  case call m f args =>
    simp only at hq ⊢
    rw [← evs_congr hs]
    exact acallM_mono hC hQ hq
  case callv m f args =>
    simp only [K.slots, List.mem_append] at hs
    simp only at hq ⊢
    rw [← ev_congr (e := f) fun t ht => hs t (.inl ht), ← evs_congr fun t ht => hs t (.inr ht)]
    split
    · rename_i g cap hg
      rw [hg] at hq
      exact acallM_mono hC hQ hq
    · rename_i hne
      split at hq
      · rename_i g cap hg; exact (hne _ _ hg).elim
      · exact hq
  all_goals
    simp only at hq ⊢
    rw [← aop_congr hs]
    split
    · rename_i v h' e
      rw [e] at hq
      exact hQ _ _ hq
    · rename_i e
      rw [e] at hq
      obtain ⟨h1, h2⟩ := hq
      refine ⟨?_, fun b => hQ _ _ (h2 b)⟩
      rw [← aamb_congr hs]; exact h1

/-- What is calm answers the same in every memory. -/
theorem aop_calm {k : K} (hk : k.calm = true) {s : S} {h h' : AH} {v : AV} (hv : aop k s h = some (v, h)) : aop k s h' = some (v, h') := by
  cases k <;> simp only [K.calm] at hk <;> try (cases hk; done)
  case msliceF es bytes z x y =>
    simp only [aop] at hv ⊢
    generalize AE.ev s x = a at *
    generalize AE.ev s y = b at *
    cases a <;> try (cases hv; done)
    cases b <;> try (cases hv; done)
    simp only at hv ⊢
    split at hv
    · rename_i hc
      rw [if_pos hc]
      split at hv
      · rename_i q hq
        simp only [Option.some.injEq, Prod.mk.injEq, and_true] at hv ⊢; exact hv
      · cases hv
    · cases hv
  all_goals
    simp only [aop] at hv ⊢
    repeat' (first
      | (cases hv; done)
      | (simp only [Option.some.injEq, Prod.mk.injEq, and_true] at hv ⊢; exact hv)
      | split at hv)
  all_goals simp_all

def sone (C : AQ) (b : Bool) (o : AOp) (Q : S → AH → Prop) (s : S) (h : AH) : Prop := aguard o (match b with | true => astep C o Q s h | false => fstep C o Q s h) (Q (s.put o.dst (.tup [])) h) s
theorem fflow_cons {C : AQ} {i : Nat} {b : Bool} {o : AOp} {r : List (Nat × Bool × AOp)} {Q : S → AH → Prop} {s : S} {h : AH} : fflow C ((i, b, o) :: r) Q s h ↔ sone C b o (fflow C r Q) s h := Iff.rfl
theorem sone_mono {C : AQ} (hC : C.Mono) {b : Bool} {o : AOp} {Q Q' : S → AH → Prop} (hQ : ∀ s h, Q s h → Q' s h) {s : S} {h : AH} (hq : sone C b o Q s h) : sone C b o Q' s h := aguard_mono (by
  cases b with
  | true => exact astep_mono hC hQ
  | false => exact fstep_mono hC hQ) (hQ _ _) hq

/-- Guard and all. -/
def gxv (C : AQ) (o : AOp) (s : S) (h : AH) (v : AV) : Prop := match o.guard with
  | none => exv C o s h v
  | some (t, want) => match s t with
    | .bool b => (b = want → exv C o s h v) ∧ (b = !want → v = .tup [])
    | .tup [] => v = .tup []
    | _ => False
theorem sone_gxv {C : AQ} {o : AOp} {Q : S → AH → Prop} {s : S} {h : AH} : sone C false o Q s h ↔ ∃ v, gxv C o s h v ∧ Q (s.put o.dst v) h := by
  unfold sone aguard gxv
  cases o.guard with
  | none => exact fstep_exv
  | some g =>
    obtain ⟨t, want⟩ := g
    simp only
    generalize s t = x
    cases x <;> try (simp; done)
    · rename_i b
      simp only
      rw [fstep_exv]
      cases b <;> cases want <;> simp
    · rename_i l
      cases l <;> simp
theorem gxv_congr {C : AQ} {o : AOp} {s s' : S} {h : AH} {v : AV} (hs : ∀ t ∈ o.slots, s t = s' t) (hv : gxv C o s h v) : gxv C o s' h v := by
  have hs1 : ∀ t ∈ o.k.slots, s t = s' t := fun t ht => hs t (List.mem_append_left _ ht)
  unfold gxv at hv ⊢
  split
  · rename_i hg; rw [hg] at hv; exact exv_congr hs1 hv
  · rename_i t want hg
    rw [hg] at hv
    simp only at hv
    rw [← hs t (by unfold AOp.slots; rw [hg]; simp)]
    generalize s t = x at *
    split at hv
    · exact ⟨fun e => exv_congr hs1 (hv.1 e), hv.2⟩
    · exact hv
    · exact hv.elim
theorem gxv_calm {C : AQ} {o : AOp} (hk : o.k.calm = true) {s : S} {h h' : AH} {v : AV} (hv : gxv C o s h v) : gxv C o s h' v := by
  have hx : exv C o s h v → exv C o s h' v := by
    unfold exv
    generalize o.k = k at *
    cases k <;> (first | (cases hk; done) | (simp only; exact aop_calm hk))
  unfold gxv at hv ⊢
  split
  · rename_i hg; rw [hg] at hv; exact hx hv
  · rename_i t want hg
    rw [hg] at hv
    simp only at hv
    generalize s t = x at *
    split at hv
    · exact ⟨fun e => hx (hv.1 e), hv.2⟩
    · exact hv
    · exact hv.elim

theorem flowSwap_spec {p q : Bool × AOp} (h : flowSwap p q = true) : (∀ d, p.2.dst = some d → d ∉ q.2.slots ∧ q.2.dst ≠ some d) ∧ (∀ d, q.2.dst = some d → d ∉ p.2.slots) ∧ p.1 = false ∧ (p.2.k.calm = true ∨ q.1 = false) := by
  unfold flowSwap at h
  simp only [Bool.and_eq_true, Bool.or_eq_true, Bool.not_eq_true'] at h
  obtain ⟨⟨⟨h1, h2⟩, h3⟩, h4⟩ := h
  refine ⟨fun d hd => ?_, fun d hd => ?_, h3, h4⟩
  · rw [hd] at h1
    simp only [Bool.and_eq_true, Bool.not_eq_true', bne_iff_ne, ne_eq] at h1
    exact ⟨by simpa using h1.1, h1.2⟩
  · rw [hd] at h2
    simpa using h2

theorem swap_ {C : AQ} (hC : C.Mono) {p q : Bool × AOp} (hpq : flowSwap p q = true) {Q : S → AH → Prop} {s : S} {h : AH} (hq : sone C p.1 p.2 (sone C q.1 q.2 Q) s h) : sone C q.1 q.2 (sone C p.1 p.2 Q) s h := by
  obtain ⟨h1, h2, h3, h4⟩ := flowSwap_spec hpq
  obtain ⟨pb, p⟩ := p
  obtain ⟨qb, q⟩ := q
  simp only at *
  subst h3
  rw [sone_gxv] at hq
  obtain ⟨v, hv, hq⟩ := hq
  have hsq : ∀ t ∈ q.slots, (s.put p.dst v) t = s t := fun t ht => put_other fun x hx e => (h1 x hx).1 (e ▸ ht)
  have hsp : ∀ u, ∀ t ∈ p.slots, s t = (s.put q.dst u) t := fun u t ht => (put_other fun x hx e => h2 x hx (e ▸ ht)).symm
  have hcomm : ∀ u, (s.put p.dst v).put q.dst u = (s.put q.dst u).put p.dst v := fun u => put_comm' s v u fun x hx => (h1 x hx).2
  cases qb with
  | false =>
    rw [sone_gxv] at hq
    obtain ⟨u, hu, hq⟩ := hq
    rw [sone_gxv]
    refine ⟨u, gxv_congr hsq hu, ?_⟩
    rw [sone_gxv]
    refine ⟨v, gxv_congr (hsp u) hv, ?_⟩
    rw [← hcomm]; exact hq
  | true =>
    have hcalm : p.k.calm = true := by rcases h4 with h | h; exact h; cases h
    have key : ∀ u h', Q ((s.put p.dst v).put q.dst u) h' → sone C false p Q (s.put q.dst u) h' := fun u h' hQ => by
      rw [sone_gxv]
      exact ⟨v, gxv_calm hcalm (gxv_congr (hsp u) hv), by rw [← hcomm]; exact hQ⟩
    have hsk : ∀ t ∈ q.k.slots, (s.put p.dst v) t = s t := fun t ht => hsq t (List.mem_append_left _ ht)
    unfold sone aguard at hq ⊢
    split
    · rename_i hg
      rw [hg] at hq
      exact astep_congr hC hsk key hq
    · rename_i t want hg
      rw [hg] at hq
      simp only at hq
      rw [hsq t (by unfold AOp.slots; rw [hg]; simp)] at hq
      split
      · rename_i b hb
        rw [hb] at hq
        exact ⟨fun e => astep_congr hC hsk key (hq.1 e), fun e => key _ _ (hq.2 e)⟩
      · rename_i hb
        rw [hb] at hq
        exact key _ _ hq
      · rename_i n1 n2
        split at hq
        · rename_i b hb; exact (n1 b hb).elim
        · rename_i hb; exact (n2 hb).elim
        · exact hq

theorem front {C : AQ} (hC : C.Mono) {Q : S → AH → Prop} {q : Nat × Bool × AOp} {B : List (Nat × Bool × AOp)} : ∀ (A : List (Nat × Bool × AOp)), (∀ p ∈ A, flowSwap p.2 q.2 = true) → ∀ {s : S} {h : AH}, fflow C (A ++ q :: B) Q s h → fflow C (q :: (A ++ B)) Q s h
  | [], _, s, h, hq => hq
  | p :: A, hA, s, h, hq => by
    obtain ⟨i, pb, p⟩ := p
    obtain ⟨j, qb, q⟩ := q
    rw [List.cons_append, fflow_cons] at hq
    have := sone_mono hC (fun s h => front hC A (fun x hx => hA x (List.mem_cons_of_mem _ hx))) hq
    exact swap_ hC (p := (pb, p)) (q := (qb, q)) (hA (i, pb, p) (by simp)) this

/-! ### any order -/
inductive Reach (after : List (List Nat)) : Nat → Nat → Prop where
  | base {i k : Nat} (h : k ∈ after.getD i []) : Reach after i k
  | step {i j k : Nat} (h : j ∈ after.getD i []) (r : Reach after j k) : Reach after i k

theorem anA_reach {after : List (List Nat)} : ∀ (l pre : List (List Nat)) (acc : List (List Nat)), after = pre ++ l → acc.length = pre.length → (∀ i k, k ∈ acc.getD i [] → Reach after i k) →
    ∀ i k, k ∈ (l.foldl (fun acc l => acc ++ [dd [] (l.flatMap fun j => j :: acc.getD j [])]) acc).getD i [] → Reach after i k
  | [], pre, acc, _, _, h => h
  | x :: l, pre, acc, he, hl, h => by
    rw [List.foldl_cons]
    refine anA_reach l (pre ++ [x]) _ (by rw [he]; simp) (by simp [hl]) fun i k hk => ?_
    rw [List.getD_eq_getElem?_getD, List.getElem?_append] at hk
    split at hk
    · exact h i k (by rw [List.getD_eq_getElem?_getD]; exact hk)
    · by_cases hi : i = acc.length
      · subst hi
        simp only [Nat.sub_self, List.getElem?_cons_zero, Option.getD_some] at hk
        obtain ⟨j, hj, hk⟩ := List.mem_flatMap.1 (mem_dd0 hk)
        have hx : x = after.getD acc.length [] := by rw [he, hl, List.getD_eq_getElem?_getD]; simp
        rcases List.mem_cons.1 hk with rfl | hk
        · exact .base (hx ▸ hj)
        · exact .step (hx ▸ hj) (h j k hk)
      · rw [List.getElem?_eq_none (by simp; omega)] at hk; cases hk

theorem pairs_mid {an : List (List Nat)} {q : Nat × Bool × AOp} {B : List (Nat × Bool × AOp)} : ∀ (A : List (Nat × Bool × AOp)), flowPairs an (A ++ q :: B) = true → (∀ p ∈ A, (an.getD q.1 []).contains p.1 = true ∨ flowSwap p.2 q.2 = true) ∧ flowPairs an (A ++ B) = true
  | [], h => by
    simp only [List.nil_append, flowPairs, Bool.and_eq_true] at h
    exact ⟨fun p hp => (by cases hp), h.2⟩
  | p :: A, h => by
    simp only [List.cons_append, flowPairs, Bool.and_eq_true, List.all_eq_true] at h ⊢
    obtain ⟨h1, h2⟩ := pairs_mid A h.2
    refine ⟨fun x hx => ?_, fun x hx => h.1 x (by simp at hx ⊢; rcases hx with hx | hx; exact .inl hx; exact .inr (.inr hx)), h2⟩
    rcases List.mem_cons.1 hx with e | hx
    · subst e; have := h.1 q (by simp); simpa [Bool.or_eq_true] using this
    · exact h1 x hx

theorem fstep_astep {C : AQ} {o : AOp} {Q : S → AH → Prop} {s : S} {h : AH} (hq : fstep C o Q s h) : astep C o Q s h := by
  rw [fstep_exv] at hq
  obtain ⟨v, hv, hq⟩ := hq
  unfold exv at hv
  unfold astep
  split
  · rename_i m f args hk
    rw [hk] at hv
    exact hv _ hq
  · rename_i m f args hk
    rw [hk] at hv
    simp only at hv
    split
    · rename_i g cap hg
      rw [hg] at hv
      exact hv _ hq
    · rename_i hne
      split at hv
      · rename_i g cap hg; exact (hne _ _ hg).elim
      · exact hv
  · rename_i h1 h2
    split at hv
    · rename_i f args hk; exact (h1 _ _ _ hk).elim
    · rename_i f args hk; exact (h2 _ _ _ hk).elim
    · rw [hv]; exact hq
theorem sone_aone {C : AQ} {b : Bool} {o : AOp} {Q : S → AH → Prop} {s : S} {h : AH} (hq : sone C b o Q s h) : aone C o Q s h := aguard_mono (fun hq => by
  cases b with
  | true => exact hq
  | false => exact fstep_astep hq) id hq

theorem flow_go {C : AQ} (hC : C.Mono) {after : List (List Nat)} {ops : List AOp} {Q : S → AH → Prop} : ∀ (n : Nat) (L : List (Nat × Bool × AOp)) (D : List Nat) (s : S) (h : AH), L.length = n →
    flowPairs (anA after) L = true → (∀ i, i < ops.length → i ∉ D → ∃ p ∈ L, p.1 = i) → (∀ p ∈ L, p.1 ∉ D ∧ ops[p.1]? = some p.2.2) → (L.map Prod.fst).Nodup → (∀ i ∈ D, ∀ j ∈ after.getD i [], j ∈ D) → fflow C L Q s h → aany C ops after n D Q s h
  | 0, L, D, s, h, hn, _, _, _, _, _, hq => by
    have : L = [] := List.eq_nil_of_length_eq_zero hn
    subst this; exact hq
  | n + 1, L, D, s, h, hn, hp, hall, hops, hnd, hcl, hq => by
    intro i o hi ho
    unfold readyA at hi
    simp only [Bool.and_eq_true, decide_eq_true_eq, Bool.not_eq_true', List.all_eq_true] at hi
    obtain ⟨⟨hil, hiD⟩, hra⟩ := hi
    have hiD' : i ∉ D := by simpa using hiD
    have hrd : ∀ j ∈ after.getD i [], j ∈ D := fun j hj => by simpa using hra j hj
    obtain ⟨q, hq1, hqi⟩ := hall i hil hiD'
    obtain ⟨A, B, rfl⟩ := List.append_of_mem hq1
    obtain ⟨hpm, hpAB⟩ := pairs_mid A hp
    have hreach : ∀ a k, Reach after a k → (∀ j ∈ after.getD a [], j ∈ D) → k ∈ D := by
      intro a k hr
      induction hr with
      | base hk => exact fun hd => hd _ hk
      | step hj _ ih => exact fun hd => ih (hcl _ (hd _ hj))
    have hanD : ∀ k, k ∈ (anA after).getD i [] → k ∈ D := fun k hk => hreach i k (anA_reach after [] [] rfl rfl (fun i k hk => by simp at hk) i k hk) hrd
    have hsw : ∀ p ∈ A, flowSwap p.2 q.2 = true := fun p hpA => by
      rcases hpm p hpA with hc | hc
      · exact ((hops p (by simp [hpA])).1 (hanD _ (by rw [hqi] at hc; simpa using hc))).elim
      · exact hc
    have hq2 := front hC A hsw hq
    obtain ⟨j, b, oq⟩ := q
    simp only at hqi
    subst hqi
    have hoq := (hops _ (List.mem_append_right A (List.mem_cons_self))).2
    simp only at hoq
    rw [ho] at hoq; cases hoq
    have hq3 : sone C b o (fflow C (A ++ B) Q) s h := hq2
    refine sone_aone (sone_mono hC (fun s h hq4 => flow_go hC n (A ++ B) (j :: D) s h (by simp at hn ⊢; omega) hpAB (fun k hk hkD => ?_) (fun p hpm' => ?_) ?_ (fun k hk l hl => ?_) hq4) hq3)
    · obtain ⟨p, hp1, hp2⟩ := hall k hk (fun hkd => hkD (List.mem_cons_of_mem _ hkd))
      refine ⟨p, ?_, hp2⟩
      rcases List.mem_append.1 hp1 with h1 | h1
      · exact List.mem_append_left _ h1
      · rcases List.mem_cons.1 h1 with rfl | h1
        · exact (hkD (by rw [← hp2]; simp)).elim
        · exact List.mem_append_right _ h1
    · have hpL : p ∈ A ++ (j, b, o) :: B := by
        rcases List.mem_append.1 hpm' with h1 | h1
        · exact List.mem_append_left _ h1
        · exact List.mem_append_right _ (List.mem_cons_of_mem _ h1)
      refine ⟨fun hm => ?_, (hops p hpL).2⟩
      rcases List.mem_cons.1 hm with e | hm
      · rw [List.map_append, List.map_cons, List.nodup_append, List.nodup_cons] at hnd
        obtain ⟨_, ⟨n2, _⟩, n3⟩ := hnd
        rcases List.mem_append.1 hpm' with h1 | h1
        · exact n3 p.1 (List.mem_map_of_mem h1) j (by simp) e
        · have h2 := List.mem_map_of_mem (f := Prod.fst) h1
          rw [e] at h2
          exact n2 h2
      · exact (hops p hpL).1 hm
    · rw [List.map_append, List.map_cons, List.nodup_append, List.nodup_cons] at hnd
      obtain ⟨n1, ⟨_, n2⟩, n3⟩ := hnd
      rw [List.map_append, List.nodup_append]
      exact ⟨n1, n2, fun x hx y hy => n3 x hx y (List.mem_cons_of_mem _ hy)⟩
    · rcases List.mem_cons.1 hk with rfl | hk
      · exact List.mem_cons_of_mem _ (hrd l hl)
      · exact List.mem_cons_of_mem _ (hcl k hk l hl)

theorem nodup_le : ∀ {A B : List Nat}, A.Nodup → A ⊆ B → A.length ≤ B.length
  | [], _, _, _ => by simp
  | x :: A, B, hn, hs => by
    rw [List.nodup_cons] at hn
    have hx : x ∈ B := hs (by simp)
    have := nodup_le (A := A) (B := B.erase x) hn.2 (fun y hy => (List.mem_erase_of_ne (fun e : y = x => hn.1 (by rw [← e]; exact hy))).2 (hs (List.mem_cons_of_mem _ hy)))
    rw [List.length_erase_of_mem hx] at this
    have := List.length_pos_of_mem hx
    simp
    omega

theorem find_fst {L : List (Nat × Bool × AOp)} (hn : (L.map Prod.fst).Nodup) {p : Nat × Bool × AOp} (hp : p ∈ L) : L.find? (fun q => q.1 == p.1) = some p := by
  induction L with
  | nil => cases hp
  | cons x L ih =>
    rw [List.map_cons, List.nodup_cons] at hn
    rw [List.find?_cons]
    rcases List.mem_cons.1 hp with rfl | hp
    · simp
    · have hne : x.1 ≠ p.1 := fun e => hn.1 (e ▸ List.mem_map_of_mem hp)
      have hb : (x.1 == p.1) = false := by simp [hne]
      rw [hb]
      exact ih hn.2 hp

/-- TOLD IN ONE ORDER, TRUE IN EVERY ONE. -/
theorem flow_any {C : AQ} (hC : C.Mono) {L : List (Nat × Bool × AOp)} {after : List (List Nat)} (hok : flowOk L after = true) {Q : S → AH → Prop} {s : S} {h : AH} (hq : fflow C L Q s h) : aany C ((List.range L.length).map (opAt L)) after ((List.range L.length).map (opAt L)).length [] Q s h := by
  unfold flowOk at hok
  simp only [Bool.and_eq_true, decide_eq_true_eq] at hok
  obtain ⟨⟨hn, hl⟩, hp⟩ := hok
  have hlt : ∀ p ∈ L, p.1 < L.length := fun p hp => by
    have := List.all_eq_true.1 hl p.1 (List.mem_map_of_mem hp); simpa using this
  have hlen : ((List.range L.length).map (opAt L)).length = L.length := by simp
  rw [hlen]
  refine flow_go hC L.length L [] s h rfl hp (fun i hi _ => ?_) (fun p hpL => ⟨by simp, ?_⟩) hn (fun i hi => by cases hi) hq
  · rw [hlen] at hi
    refine Classical.byContradiction fun hno => ?_
    have := nodup_le (A := i :: L.map Prod.fst) (B := List.range L.length) (List.nodup_cons.2 ⟨fun hm => by
      obtain ⟨p, h1, h2⟩ := List.mem_map.1 hm
      exact hno ⟨p, h1, h2⟩, hn⟩) (fun j hj => by
      rcases List.mem_cons.1 hj with rfl | hj
      · exact List.mem_range.2 hi
      · obtain ⟨p, h1, rfl⟩ := List.mem_map.1 hj
        exact List.mem_range.2 (hlt p h1))
    simp at this
    omega
  · rw [List.getElem?_map, List.getElem?_range (hlt p hpL)]
    simp only [Option.map_some, Option.some.injEq]
    unfold opAt
    rw [find_fst hn hpL]

end Go.Bm
