/- Regions that draw their order: told in one order, true in every one. -/
import Derived.Test.YtnaainlddcpfgaaAmI
import Derived.Orders
namespace Go.Am
set_option linter.all false
open Go Go.RowKit
set_option linter.unusedVariables false
set_option linter.unusedSimpArgs false

def AE.slots : AE → List Nat
  | .t n => [n]
  | .c _ => []
def oslots : Option AE → List Nat
  | some e => e.slots
  | none => []
/-- the slots that are read -/
def K.slots : K → List Nat
  | .mov x | .box x | .nchk x | .un _ x | .conv _ x | .s2b x | .b2s x | .ext x _ | .len _ x | .movs x | .faddr _ x | .load _ _ x => x.slots
  | .pick c a b => c.slots ++ a.slots ++ b.slots
  | .alloc _ => []
  | .build _ ps => ps.flatMap fun p => p.2.2.slots
  | .bslice _ _ _ ps => ps.flatMap fun p => p.2.slots
  | .store _ a x | .bin _ a x | .eqb _ a x | .eqs _ _ a x | .eqnil _ _ a x | .mslice _ _ _ a x | .iaddr _ a x | .index a x | .append _ _ a x => a.slots ++ x.slots
  | .loadR _ _ a t _ => a.slots ++ [t]
  | .storeD _ a x av => a.slots ++ x.slots ++ av.map fun y => y.2.1
  | .slice _ x lo hi m3 => x.slots ++ oslots lo ++ oslots hi ++ oslots m3
  | .slstr x lo hi => x.slots ++ oslots lo ++ oslots hi
  | .mkfn _ l => l.flatMap AE.slots
  | .mx _ x l => x.slots ++ l.flatMap AE.slots
  | .lbox x => x.slots
  | .laddr t | .lload _ _ t _ => [t]
  | .lstore _ t _ x => t :: x.slots
  | .call _ l => l.flatMap AE.slots
  | .callv f l => f.slots ++ l.flatMap AE.slots
def AOp.slots (o : AOp) : List Nat := o.k.slots ++ (match o.guard with | some (t, _) => [t] | none => [])

def K.eff : K → Bool
  | .box _ | .alloc _ | .bslice .. | .mslice .. | .s2b _ | .store .. | .storeD .. | .append .. | .call .. | .callv .. => true
  | _ => false
def K.hard : K → Bool
  | .store .. | .storeD .. | .append .. => true
  | _ => false
def K.mem : K → Bool
  | .load .. | .loadR .. | .b2s _ => true
  | _ => false

/-- A load, and a store that lies apart from it. -/
def parted (p q : K) : Bool :=
  match p, q with
  | .loadR _ n _ t off, .storeD _ _ _ av => av.contains (n, t, off)
  | _, _ => false

/-- p may be done behind q. -/
def okswap (p q : AOp) : Bool :=
  (match p.dst with | some d => !q.slots.contains d && q.dst != some d | none => true) && (match q.dst with | some d => !p.slots.contains d | none => true) &&
  !p.k.eff && (!q.k.hard || !p.k.mem || parted p.k q.k)

/-! ### what an operation reads -/
theorem ev_congr {s s' : S} {e : AE} (h : ∀ t ∈ e.slots, s t = s' t) : e.ev s = e.ev s' := by
  cases e with
  | t n => exact h n (by simp [AE.slots])
  | c v => rfl
theorem evs_congr {s s' : S} {l : List AE} (h : ∀ t ∈ l.flatMap AE.slots, s t = s' t) : l.map (AE.ev s) = l.map (AE.ev s') := by
  apply List.map_congr_left
  intro e he
  exact ev_congr fun t ht => h t (List.mem_flatMap.2 ⟨e, he, ht⟩)
theorem evo_congr {s s' : S} {x : Option AE} (h : ∀ t ∈ oslots x, s t = s' t) : x.map (AE.ev s) = x.map (AE.ev s') := by
  cases x with
  | none => rfl
  | some e => simp only [Option.map_some]; rw [ev_congr (e := e) h]

theorem AH.le.get {h h' : AH} (hle : h.le h') {b : Nat} {x : AB} (e : h.get b = some x) : h'.get b = some x := by rw [hle.2 b (AH.get_lt e)]; exact e
theorem AH.le.read {h h' : AH} (hle : h.le h') {b o n : Nat} {l : List AV} (e : h.read b o n = some l) : h'.read b o n = some l := by
  unfold AH.read at e ⊢
  cases hg : h.get b with
  | none => rw [hg] at e; cases e
  | some x => rw [hg] at e; rw [hle.get hg]; exact e

theorem aop_congr {k : K} {s s' : S} {h : AH} (hs : ∀ t ∈ k.slots, s t = s' t) : aop k s h = aop k s' h := by
  have pr : ∀ {α : Type} (ps : List α) (f : α → AE) , (∀ t ∈ ps.flatMap (fun p => (f p).slots), s t = s' t) → ∀ p ∈ ps, (f p).ev s = (f p).ev s' := fun ps f h p hp => ev_congr fun t ht => h t (List.mem_flatMap.2 ⟨p, hp, ht⟩)
  cases k <;> simp only [K.slots, List.mem_append] at hs <;> simp only [aop]
  case mov x => rw [ev_congr hs]
  case pick c a b => rw [ev_congr (e := c) fun t ht => hs t (.inl (.inl ht)), ev_congr (e := a) fun t ht => hs t (.inl (.inr ht)), ev_congr (e := b) fun t ht => hs t (.inr ht)]
  case box x => rw [ev_congr hs]
  case build z ps =>
    rw [List.map_congr_left (g := fun (p : Nat × Nat × AE) => (p.1, p.2.1, p.2.2.ev s')) fun p hp => by rw [pr ps (fun p => p.2.2) hs p hp]]
  case bslice n es z ps =>
    rw [List.map_congr_left (g := fun (p : Nat × AE) => (p.1, p.2.ev s')) fun p hp => by rw [pr ps (fun p => p.2) hs p hp]]
  case load g n a => rw [ev_congr hs]
  case store n a x => rw [ev_congr (e := a) fun t ht => hs t (.inl ht), ev_congr (e := x) fun t ht => hs t (.inr ht)]
  case loadR g n a t off =>
    rw [ev_congr (e := a) fun t ht => hs t (.inl ht), hs t (.inr (by simp))]
  case storeD n a x av =>
    rw [ev_congr (e := a) fun t ht => hs t (.inl (.inl ht)), ev_congr (e := x) fun t ht => hs t (.inl (.inr ht))]
    have e : ∀ b o, apartAll s b o n av = apartAll s' b o n av := by
      intro b o
      have ha : ∀ y ∈ av, s y.2.1 = s' y.2.1 := fun y hy => hs _ (.inr (List.mem_map.2 ⟨y, hy, rfl⟩))
      clear hs
      unfold apartAll
      induction av with
      | nil => rfl
      | cons y ys ih => rw [List.all_cons, List.all_cons, ih (fun z hz => ha z (List.mem_cons_of_mem _ hz))]; simp only [ha y (by simp)]
    simp only [e]
  case nchk x => rw [ev_congr hs]
  case bin op a x => rw [ev_congr (e := a) fun t ht => hs t (.inl ht), ev_congr (e := x) fun t ht => hs t (.inr ht)]
  case eqb op a x => rw [ev_congr (e := a) fun t ht => hs t (.inl ht), ev_congr (e := x) fun t ht => hs t (.inr ht)]
  case eqs op q a x => rw [ev_congr (e := a) fun t ht => hs t (.inl ht), ev_congr (e := x) fun t ht => hs t (.inr ht)]
  case eqnil op q a x => rw [ev_congr (e := a) fun t ht => hs t (.inl ht), ev_congr (e := x) fun t ht => hs t (.inr ht)]
  case un op x => rw [ev_congr hs]
  case conv op x => rw [ev_congr hs]
  case s2b x => rw [ev_congr hs]
  case b2s x => rw [ev_congr hs]
  case mslice es q z a x => rw [ev_congr (e := a) fun t ht => hs t (.inl ht), ev_congr (e := x) fun t ht => hs t (.inr ht)]
  case slice es x lo hi mx =>
    rw [ev_congr (e := x) fun t ht => hs t (.inl (.inl (.inl ht))), evo_congr (x := lo) fun t ht => hs t (.inl (.inl (.inr ht))), evo_congr (x := hi) fun t ht => hs t (.inl (.inr ht))]
    cases mx with
    | none => rfl
    | some m =>
      have e : m.ev s = m.ev s' := ev_congr fun t ht => hs t (.inr ht)
      simp only [e]
  case slstr x lo hi => rw [ev_congr (e := x) fun t ht => hs t (.inl (.inl ht)), evo_congr (x := lo) fun t ht => hs t (.inl (.inr ht)), evo_congr (x := hi) fun t ht => hs t (.inr ht)]
  case faddr op x => rw [ev_congr hs]
  case iaddr es a x => rw [ev_congr (e := a) fun t ht => hs t (.inl ht), ev_congr (e := x) fun t ht => hs t (.inr ht)]
  case index a x => rw [ev_congr (e := a) fun t ht => hs t (.inl ht), ev_congr (e := x) fun t ht => hs t (.inr ht)]
  case ext x op => rw [ev_congr hs]
  case len q x => rw [ev_congr hs]
  case movs x => rw [ev_congr hs]
  case append es q a x => rw [ev_congr (e := a) fun t ht => hs t (.inl ht), ev_congr (e := x) fun t ht => hs t (.inr ht)]
  case mkfn f l => rw [evs_congr hs]
  case lbox x => rw [ev_congr hs]
  case laddr t => rw [hs t (by simp)]
  case lload g n t off => rw [hs t (by simp)]
  case lstore n t off x => rw [hs t (by simp), ev_congr (e := x) fun t ht => hs t (List.mem_cons_of_mem _ ht)]
  case mx big x l =>
    rw [ev_congr (e := x) fun t ht => hs t (.inl ht)]
    have hl : ∀ e ∈ l, e.ev s = e.ev s' := fun e he => ev_congr fun t ht => hs t (.inr (List.mem_flatMap.2 ⟨e, he, ht⟩))
    split <;> try rfl
    congr 1
    clear hs
    rename_i n _
    generalize (some n : Option Int) = acc
    induction l generalizing acc with
    | nil => rfl
    | cons y ys ih => rw [List.foldl_cons, List.foldl_cons, hl y (by simp)]; exact ih (fun e he => hl e (List.mem_cons_of_mem _ he)) _

/-- What only computes leaves memory alone, and tells the same in a memory that has grown. -/
theorem aop_pure {k : K} (hk : k.eff = false) {s : S} {h h' : AH} {v : AV} (hv : aop k s h = some (v, h')) : h' = h ∧ ∀ h2, k.mem = false ∨ h.le h2 → aop k s h2 = some (v, h2) := by
  cases k <;> simp only [K.eff] at hk <;> try (cases hk; done)
  case load g n a =>
    simp only [aop] at hv ⊢
    split at hv
    · split at hv
      · rename_i l hl
        split at hv
        · cases hv
          refine ⟨rfl, fun h2 hm => ?_⟩
          rcases hm with hm | hm
          · cases hm
          · simp only [hm.read hl]; simp_all
        · split at hv
          · cases hv
            refine ⟨rfl, fun h2 hm => ?_⟩
            rcases hm with hm | hm
            · cases hm
            · simp only [hm.read hl]; simp_all
          · cases hv
      · cases hv
    · cases hv
  case loadR g n a t off =>
    simp only [aop] at hv ⊢
    split at hv
    · rename_i b o b' o' ha hb
      split at hv
      · rename_i hc
        split at hv
        · rename_i l hl
          split at hv
          · cases hv
            refine ⟨rfl, fun h2 hm => ?_⟩
            rcases hm with hm | hm
            · cases hm
            · simp only [hm.read hl]; simp_all
          · split at hv
            · cases hv
              refine ⟨rfl, fun h2 hm => ?_⟩
              rcases hm with hm | hm
              · cases hm
              · simp only [hm.read hl]; simp_all
            · cases hv
        · cases hv
      · cases hv
    · cases hv
  case b2s x =>
    simp only [aop] at hv ⊢
    split at hv
    · cases hv; exact ⟨rfl, fun h2 _ => by simp_all⟩
    · split at hv
      · split at hv
        · rename_i l hl
          split at hv
          · cases hv
            refine ⟨rfl, fun h2 hm => ?_⟩
            rcases hm with hm | hm
            · cases hm
            · simp only [hm.read hl]; simp_all
          · cases hv
        · cases hv
      · cases hv
    · cases hv
  case mx big x l =>
    simp only [aop] at hv ⊢
    split at hv
    · simp only [Option.map_eq_some_iff] at hv ⊢
      obtain ⟨n, hn, e⟩ := hv
      cases e
      exact ⟨rfl, fun h2 _ => ⟨n, hn, rfl⟩⟩
    · cases hv
  all_goals
    simp only [aop, Option.map_eq_some_iff] at hv ⊢
    repeat' (split at hv)
    all_goals first
      | (cases hv; done)
      | (cases hv; exact ⟨rfl, fun h2 _ => by simp_all⟩)
      | (obtain ⟨x, hx, e⟩ := hv; cases e; exact ⟨rfl, fun h2 _ => ⟨x, hx, rfl⟩⟩)
      | (obtain ⟨x, hx, e⟩ := hv; cases e; exact ⟨rfl, fun h2 _ => by simp_all⟩)


/-! ### two operations, the other way round -/
/-- What an operation that only computes puts into its slot. -/
def pv (o : AOp) (s : S) (h : AH) : Option AV :=
  match o.guard with
  | none => (aop o.k s h).map Prod.fst
  | some (t, want) => match s t with
    | .bool b => if b = want then (aop o.k s h).map Prod.fst else some (.tup [])
    | .tup [] => some (.tup [])
    | _ => none

def one_ (C : AQ) (o : AOp) (Q : S → AH → Prop) (s : S) (h : AH) : Prop := aguard o (astepD C o Q s h) (Q (s.put o.dst (.tup [])) h) s

theorem astepD_pure {C : AQ} {o : AOp} (ho : o.k.eff = false) {Q : S → AH → Prop} {s : S} {h : AH} : astepD C o Q s h ↔ ∃ v, (aop o.k s h).map Prod.fst = some v ∧ Q (s.put o.dst v) h := by
  have e : astepD C o Q s h ↔ (match aop o.k s h with | some (v, h') => Q (s.put o.dst v) h' | none => False) := by
    unfold astepD
    split
    · rename_i hk; rw [hk] at ho; cases ho
    · rename_i hk; rw [hk] at ho; cases ho
    · exact Iff.rfl
  rw [e]
  cases hv : aop o.k s h with
  | none => simp
  | some p =>
    obtain ⟨v, h'⟩ := p
    obtain ⟨rfl, _⟩ := aop_pure ho hv
    simp

theorem one_pure {C : AQ} {o : AOp} (ho : o.k.eff = false) {Q : S → AH → Prop} {s : S} {h : AH} : one_ C o Q s h ↔ ∃ v, pv o s h = some v ∧ Q (s.put o.dst v) h := by
  unfold one_ aguard pv
  cases hg : o.guard with
  | none => exact astepD_pure ho
  | some g =>
    obtain ⟨t, want⟩ := g
    simp only
    generalize s t = x
    cases x with
    | bool b =>
      simp only
      by_cases e : b = want
      · rw [if_pos e]
        have hn : ¬ b = !want := by subst e; cases b <;> simp
        exact ⟨fun x => (astepD_pure ho).1 (x.1 e), fun x => ⟨fun _ => (astepD_pure ho).2 x, fun e' => (hn e').elim⟩⟩
      · rw [if_neg e]
        have hn : b = !want := by cases b <;> cases want <;> simp_all
        exact ⟨fun x => ⟨_, rfl, x.2 hn⟩, fun ⟨v, hv, x⟩ => ⟨fun e' => (e e').elim, fun _ => by cases hv; exact x⟩⟩
    | tup l =>
      cases l with
      | nil => exact ⟨fun x => ⟨_, rfl, x⟩, fun ⟨v, hv, x⟩ => by cases hv; exact x⟩
      | cons _ _ => simp
    | _ => simp

theorem put_other {s : S} {d : Option Nat} {v : AV} {t : Nat} (h : ∀ x, d = some x → t ≠ x) : (s.put d v) t = s t := by
  cases d with
  | none => rfl
  | some d => simp only [S.put, S.upd]; rw [if_neg (h d rfl)]

theorem put_comm' (s : S) {d e : Option Nat} (v u : AV) (h : ∀ x, d = some x → e ≠ some x) : (s.put d v).put e u = (s.put e u).put d v := by
  cases d with
  | none => rfl
  | some d => cases e with
    | none => rfl
    | some e =>
      have hne : d ≠ e := fun q => h d rfl (by rw [q])
      funext k
      simp only [S.put, S.upd]
      by_cases e1 : k = e <;> by_cases e2 : k = d <;> simp_all

theorem pv_congr {o : AOp} (ho : o.k.eff = false) {s s' : S} {h h' : AH} (hs : ∀ t ∈ o.slots, s t = s' t) (hm : ∀ v, aop o.k s h = some (v, h) → aop o.k s h' = some (v, h')) {v : AV} (hv : pv o s h = some v) : pv o s' h' = some v := by
  have hk : ∀ t ∈ o.k.slots, s t = s' t := fun t ht => hs t (by simp [AOp.slots, ht])
  have key : ∀ v, (aop o.k s h).map Prod.fst = some v → (aop o.k s' h').map Prod.fst = some v := by
    intro v hv
    rw [← aop_congr hk]
    simp only [Option.map_eq_some_iff] at hv ⊢
    obtain ⟨⟨x, h2⟩, hx, rfl⟩ := hv
    obtain ⟨rfl, hst⟩ := aop_pure ho hx
    exact ⟨_, hm _ hx, rfl⟩
  unfold pv at hv ⊢
  cases hg : o.guard with
  | none => rw [hg] at hv; exact key v hv
  | some g =>
    obtain ⟨t, want⟩ := g
    rw [hg] at hv
    simp only at hv ⊢
    rw [← hs t (by simp [AOp.slots, hg])]
    split at hv
    · split at hv
      · rename_i e; rw [if_pos e]; exact key v hv
      · rename_i e; rw [if_neg e]; exact hv
    · exact hv
    · cases hv

theorem setAll_len_ {α : Type} : ∀ (xs l : List α) (o : Nat), (setAll l o xs).length = l.length
  | [], l, o => rfl
  | x :: xs, l, o => by show (setAll (l.set o x) (o + 1) xs).length = _; rw [setAll_len_]; simp
theorem setAll_out_ {α : Type} : ∀ (xs l : List α) (o k : Nat), k < o ∨ o + xs.length ≤ k → (setAll l o xs)[k]? = l[k]?
  | [], l, o, k, _ => rfl
  | x :: xs, l, o, k, h => by
    show (setAll (l.set o x) (o + 1) xs)[k]? = _
    simp only [List.length_cons] at h
    rw [setAll_out_ xs (l.set o x) (o + 1) k (by omega), List.getElem?_set_ne (by omega)]
theorem read_apart {h h' : AH} {b o b' o' m : Nat} {xs : List AV} (hw : h.write b o xs = some h') (ha : b' ≠ b ∨ o' + m ≤ o ∨ o + xs.length ≤ o') {l : List AV} (hr : h.read b' o' m = some l) : h'.read b' o' m = some l := by
  unfold AH.write at hw
  split at hw
  · rename_i l0 hg
    split at hw
    · cases hw
      have hlt := AH.get_lt hg
      unfold AH.read at hr ⊢
      rw [AH.get_upd hlt]
      by_cases e : b' = b
      · subst e
        rw [if_pos rfl]
        rw [hg] at hr
        simp only [setAll_len_] at hr ⊢
        split at hr
        · rename_i hle
          rw [if_pos hle, ← hr]
          congr 1
          apply List.ext_getElem?
          intro k
          rw [List.getElem?_take, List.getElem?_take]
          split
          · rw [List.getElem?_drop, List.getElem?_drop, setAll_out_ _ _ _ _ (by rcases ha with ha | ha | ha; exact (ha rfl).elim; omega; omega)]
          · rfl
        · cases hr
      · rw [if_neg e]; exact hr
    · cases hw
  · cases hw

/-- A load tells the same behind a store that lies apart. -/
theorem parted_stays {p q : K} (h : parted p q = true) {s : S} {m m' : AH} {v u : AV} (hp : aop p s m = some (v, m)) (hq : aop q s m = some (u, m')) : aop p s m' = some (v, m') := by
  unfold parted at h
  split at h
  · rename_i g n e t off n' a x av
    have hmem : (n, t, off) ∈ av := by simpa using h
    simp only [aop] at hp hq ⊢
    split at hq
    · rename_i b o hb
      split at hq
      · rename_i hc
        split at hq
        · rename_i m2 hw
          cases hq
          split at hp
          · rename_i b1 o1 b' o' he hb'
            split at hp
            · rename_i hbo
              obtain ⟨rfl, rfl⟩ := hbo
              have ha := hc.2
              unfold apartAll at ha
              rw [List.all_eq_true] at ha
              have ha := ha _ hmem
              simp only [hb', Bool.or_eq_true, bne_iff_ne, decide_eq_true_eq] at ha
              split at hp
              · rename_i l hl
                have := read_apart hw (l := l) (b' := b1) (o' := o' + off) (m := n) (by rw [hc.1]; rcases ha with (ha | ha) | ha; exact .inl ha; exact .inr (.inl ha); exact .inr (.inr ha)) hl
                simp only [he, hb', this]
                split at hp
                · cases hp; simp_all
                · split at hp
                  · cases hp; simp_all
                  · cases hp
              · cases hp
            · cases hp
          · cases hp
        · cases hq
      · cases hq
    · cases hq
  · cases h

theorem okswap_spec {p q : AOp} (h : okswap p q = true) : (∀ d, p.dst = some d → d ∉ q.slots ∧ q.dst ≠ some d) ∧ (∀ d, q.dst = some d → d ∉ p.slots) ∧ p.k.eff = false ∧ (q.k.hard = true → p.k.mem = false ∨ parted p.k q.k = true) := by
  unfold okswap at h
  simp only [Bool.and_eq_true, Bool.not_eq_true', Bool.or_eq_true] at h
  obtain ⟨⟨⟨h1, h2⟩, h3⟩, h4⟩ := h
  refine ⟨fun d hd => ?_, fun d hd => ?_, h3, fun hq => ?_⟩
  · rw [hd] at h1; simp at h1; exact h1
  · rw [hd] at h2; simp at h2; exact h2
  · rcases h4 with (h4 | h4) | h4
    · rw [hq] at h4; cases h4
    · exact .inl h4
    · exact .inr h4

theorem le_new (h : AH) (x : AB) : h.le (h.new x) := ⟨by simp [AH.new], fun b hb => by rw [AH.get_new, if_neg (by omega)]⟩

/-- An effect leaves what lay there, but for a store and an append. -/
theorem aop_eff {k : K} (hk : k.hard = false) {s : S} {h h' : AH} {v : AV} (hv : aop k s h = some (v, h')) : h.le h' := by
  by_cases he : k.eff = true
  · cases k <;> simp [K.eff, K.hard] at he hk <;> simp only [aop] at hv
    all_goals
      repeat' (split at hv)
      all_goals first
        | (cases hv; done)
        | (cases hv; exact le_new _ _)
  · obtain ⟨rfl, _⟩ := aop_pure (by simpa using he) hv
    exact ⟨Nat.le_refl _, fun _ _ => rfl⟩

/-- A step that starts from slots that agree where it reads. -/
theorem astepD_shift {C : AQ} (hC : C.Mono) {q : AOp} {s s1 : S} {h : AH} {Q1 Q2 : S → AH → Prop} (hs : ∀ t ∈ q.k.slots, s1 t = s t)
    (hQ : ∀ v h', ((q.k.hard = true ∧ aop q.k s h = some (v, h')) ∨ h.le h') → Q1 (s1.put q.dst v) h' → Q2 (s.put q.dst v) h') (hq : astepD C q Q1 s1 h) : astepD C q Q2 s h := by
  unfold astepD at hq ⊢
  split
  · rename_i f args hk
    rw [hk] at hq hs
    simp only at hq
    rw [← evs_congr (s := s1) (s' := s) (l := args) hs]
    exact hC _ _ _ _ _ (fun v h' hv => ⟨hv.1, hQ v h' (.inr hv.1) hv.2⟩) hq
  · rename_i f args hk
    rw [hk] at hq hs
    simp only at hq
    rw [← ev_congr (s := s1) (s' := s) (e := f) (fun t ht => hs t (by simp [K.slots, ht])), ← evs_congr (s := s1) (s' := s) (l := args) (fun t ht => hs t (by simp only [K.slots, List.mem_append]; exact .inr ht))]
    split
    · rename_i g cap hg
      rw [hg] at hq
      exact hC _ _ _ _ _ (fun v h' hv => ⟨hv.1, hQ v h' (.inr hv.1) hv.2⟩) hq
    · rename_i hne
      split at hq
      · rename_i g cap hg; exact (hne _ _ hg).elim
      · exact hq.elim
  · rename_i h1 h2
    split at hq
    · rename_i f args hk; exact (h1 _ _ hk).elim
    · rename_i f args hk; exact (h2 _ _ hk).elim
    · rw [aop_congr (s := s1) (s' := s) hs] at hq
      split at hq
      · rename_i v h' hv
        refine hQ v h' ?_ hq
        by_cases hh : q.k.hard = true
        · exact .inl ⟨hh, hv⟩
        · exact .inr (aop_eff (by simpa using hh) hv)
      · exact hq.elim

theorem one_mono {C : AQ} (hC : C.Mono) {o : AOp} {Q Q' : S → AH → Prop} (hQ : ∀ s h, Q s h → Q' s h) {s : S} {h : AH} (hq : one_ C o Q s h) : one_ C o Q' s h := aguard_mono (astepD_mono hC hQ) (hQ _ _) hq

theorem swap_ {C : AQ} (hC : C.Mono) {p q : AOp} (hpq : okswap p q = true) {Q : S → AH → Prop} {s : S} {h : AH} (hq : one_ C p (one_ C q Q) s h) : one_ C q (one_ C p Q) s h := by
  obtain ⟨h1, h2, h3, h4⟩ := okswap_spec hpq
  obtain ⟨v, hv, hr⟩ := (one_pure h3).1 hq
  have hsq : ∀ t ∈ q.slots, (s.put p.dst v) t = s t := fun t ht => put_other fun x hx e => (h1 x hx).1 (e ▸ ht)
  have hcomm : ∀ u, (s.put p.dst v).put q.dst u = (s.put q.dst u).put p.dst v := fun u => put_comm' s v u fun x hx => (h1 x hx).2
  have back : ∀ u h', ((q.k.hard = true ∧ aop q.k s h = some (u, h')) ∨ h.le h') → Q ((s.put p.dst v).put q.dst u) h' → one_ C p Q (s.put q.dst u) h' := by
    intro u h' hm hQ
    have hm : ∀ v, aop p.k s h = some (v, h) → aop p.k s h' = some (v, h') := by
      intro v hv
      obtain ⟨_, hst⟩ := aop_pure h3 hv
      rcases hm with ⟨hh, hq⟩ | hm
      · rcases h4 hh with hp | hp
        · exact hst h' (.inl hp)
        · exact parted_stays hp hv hq
      · exact hst h' (.inr hm)
    refine (one_pure h3).2 ⟨v, pv_congr h3 (fun t ht => (put_other fun x hx e => h2 x hx (e ▸ ht)).symm) hm hv, ?_⟩
    rw [← hcomm]; exact hQ
  unfold one_ at hr ⊢
  unfold aguard at hr ⊢
  cases hg : q.guard with
  | none =>
    rw [hg] at hr
    exact astepD_shift hC (fun t ht => hsq t (by simp [AOp.slots, ht])) (fun u h' hm hQ => back u h' hm hQ) hr
  | some g =>
    obtain ⟨t, want⟩ := g
    rw [hg] at hr
    simp only at hr ⊢
    rw [hsq t (by simp [AOp.slots, hg])] at hr
    have refl_ : h.le h := ⟨Nat.le_refl _, fun _ _ => rfl⟩
    split
    · rename_i b hb
      rw [hb] at hr
      exact ⟨fun e => astepD_shift hC (fun t ht => hsq t (by simp [AOp.slots, ht])) (fun u h' hm hQ => back u h' hm hQ) (hr.1 e), fun e => back _ h (.inr refl_) (hr.2 e)⟩
    · rename_i hb
      rw [hb] at hr
      exact back _ h (.inr refl_) hr
    · rename_i n1 n2
      split at hr
      · rename_i b hb; exact (n1 _ hb).elim
      · rename_i hb; exact (n2 hb).elim
      · exact hr.elim

theorem aopsD_cons {C : AQ} {o : AOp} {r : List AOp} {Q : S → AH → Prop} {s : S} {h : AH} : aopsD C (o :: r) Q s h ↔ one_ C o (aopsD C r Q) s h := Iff.rfl

/-- What may stand behind all ahead of it comes first. -/
theorem front {C : AQ} (hC : C.Mono) {Q : S → AH → Prop} {q : AOp} {B : List AOp} : ∀ (A : List AOp), (∀ p ∈ A, okswap p q = true) → ∀ {s : S} {h : AH}, aopsD C (A ++ q :: B) Q s h → aopsD C (q :: (A ++ B)) Q s h
  | [], _, s, h, hq => hq
  | p :: A, hA, s, h, hq => by
    have h1 : one_ C p (aopsD C (q :: (A ++ B)) Q) s h := one_mono hC (fun s h => front hC A (fun p hp => hA p (List.mem_cons_of_mem _ hp))) hq
    exact swap_ hC (hA p (by simp)) h1

end Go.Am
