/- One operation of the abstract machine's stands for one of the model's (second part). -/
import Derived.Test.YtbajchkpehdolaaBmD
import Derived.Laws.StructEq
namespace Go.Bm
set_option linter.all false
open Go Go.RowKit
set_option linter.unusedVariables false
set_option linter.unusedSimpArgs false

section
variable {P : Program} {N : Nat} {ν : V} {base : Nat} {s : S} {h h' : AH} {w w' : World} {a : Act} {o : Oper} {v : AV} {u : Value}

/-! ### whole numbers, strings, bools -/
theorem bin_int_run (op : BinOp) (t : TypeId) (k : IntKind) (x y : Int) {r : AV} (hr : binInt op k x y = some r) (hk : op ≠ .shl ∧ op ≠ .shr) : ∃ u, (binOp op t (.int k x) (.int k y)).run P w = .ok u w ∧ VR ν r u := by
  cases op <;> simp only [binInt] at hr <;> first
    | (cases hr; done)
    | (exact absurd rfl hk.1)
    | (exact absurd rfl hk.2)
    | (split at hr
       · cases hr
       · rename_i hne
         cases hr
         exact ⟨_, by simp [binOp, Op.intDiv, hne], rfl⟩)
    | (cases hr
       exact ⟨_, by simp [binOp, Op.intArith, Op.intBits, Op.intCmp]; try rfl, by first | rfl | simp [VR]⟩)

theorem bin_shift_run (op : BinOp) (t : TypeId) (k k' : IntKind) (x y : Int) {r : AV} (hr : binInt op k x y = some r) (hk : op = .shl ∨ op = .shr) : ∃ u, (binOp op t (.int k x) (.int k' y)).run P w = .ok u w ∧ VR ν r u := by
  rcases hk with rfl | rfl <;> simp only [binInt] at hr
  all_goals
    split at hr
    · cases hr
    · rename_i hne
      cases hr
      exact ⟨_, by simp [binOp, Op.shift, hne], rfl⟩

theorem bin_str_run (op : BinOp) (t : TypeId) (x y : ByteArray) {r : AV} (hr : binStr op x y = some r) : ∃ u, (binOp op t (.string x) (.string y)).run P w = .ok u w ∧ VR ν r u := by
  cases op <;> simp only [binStr] at hr <;> first
    | (cases hr; done)
    | (split at hr
       · cases hr
       · rename_i hne
         cases hr
         exact ⟨_, by simp only [binOp, Op.stringOp]; rw [if_neg hne]; simp, rfl⟩)
    | (cases hr
       exact ⟨_, by simp [binOp, Op.stringOp]; try rfl, by first | rfl | simp [VR]⟩)

theorem eqGuard_run (op : BinOp) (t : TypeId) (x y : Operand) (b c : Value) (h1 : ∀ l, b ≠ .agg l) (h2 : b ≠ .nilIface) : (eqGuard op t x y b c).run P w = .ok () w := by
  cases op <;> first
    | (simp [eqGuard]; done)
    | (cases b <;> first
        | (exact absurd rfl (h1 _))
        | (exact absurd rfl h2)
        | (simp [eqGuard]))

theorem g_bin (hS : SR N ν s a) (H : HR ν base h w) {op : BinOp} {t u' : TypeId} {x y : Operand} {ex ey : AE} (hx : cE x = some ex) (hy : cE y = some ey)
    (ho : o.op = .binOp op t x y u') (hv : aop (.bin op ex ey) s h = some (v, h')) : Good P ν base h w a o v h' := by
  have rx := cE_ok hS hx
  have ry := cE_ok hS hy
  simp only [aop] at hv
  split at hv
  · rename_i r hr
    simp only [Option.some.injEq, Prod.mk.injEq] at hv
    obtain ⟨rfl, rfl⟩ := hv
    have fin : ∀ (b c : Value), a.eval x = b → a.eval y = c → (∀ l, b ≠ .agg l) → b ≠ .nilIface → (∃ u, (binOp op t b c).run P w = .ok u w ∧ VR ν r u) → Good P ν base h w a o r h := by
      rintro b c e1 e2 n1 n2 ⟨u, hu, hru⟩
      refine Good.quiet H (u := u) ?_ hru
      simp [execOp, ho, e1, e2, eqGuard_run op t x y b c n1 n2, hu]
    unfold bin at hr
    split at hr
    · rename_i k p k' q hex hey
      rw [hex] at rx; rw [hey] at ry
      refine fin (.int k p) (.int k' q) rx ry (by simp) (by simp) ?_
      by_cases hk : k = k'
      · subst hk
        rw [if_pos rfl] at hr
        by_cases hs : op = .shl ∨ op = .shr
        · exact bin_shift_run op t k k p q hr hs
        · exact bin_int_run op t k p q hr ⟨fun e => hs (.inl e), fun e => hs (.inr e)⟩
      · rw [if_neg hk] at hr
        split at hr
        · exact bin_shift_run _ t k k' p q hr (.inl rfl)
        · exact bin_shift_run _ t k k' p q hr (.inr rfl)
        · cases hr
    · rename_i p q hex hey
      rw [hex] at rx; rw [hey] at ry
      exact fin (.string p) (.string q) rx ry (by simp) (by simp) (bin_str_run op t p q hr)
    · cases hr
  · cases hv

theorem g_eqb (hS : SR N ν s a) (H : HR ν base h w) {op : BinOp} {neg : Bool} {t u' : TypeId} {x y : Operand} {ex ey : AE} (hx : cE x = some ex) (hy : cE y = some ey) (hop : op = .eql ∧ neg = false ∨ op = .neq ∧ neg = true)
    (ht : P.underlying t = some .bool) (ho : o.op = .binOp op t x y u') (hv : aop (.eqb neg ex ey) s h = some (v, h')) : Good P ν base h w a o v h' := by
  have rx := cE_ok hS hx
  have ry := cE_ok hS hy
  simp only [aop] at hv
  split at hv
  · rename_i p q hex hey
    rw [hex] at rx; rw [hey] at ry
    have e1 : a.eval x = .bool p := rx
    have e2 : a.eval y = .bool q := ry
    simp only [Option.some.injEq, Prod.mk.injEq] at hv
    obtain ⟨rfl, rfl⟩ := hv
    rcases hop with ⟨rfl, rfl⟩ | ⟨rfl, rfl⟩
    · refine Good.quiet H (u := .bool (p == q)) ?_ rfl
      simp [execOp, ho, e1, e2, eqGuard, binOp, Op.equal, Op.maxDepth, run_equalIn_bool' w 9999 t p q ht]
    · refine Good.quiet H (u := .bool (!(p == q))) ?_ rfl
      simp [execOp, ho, e1, e2, eqGuard, binOp, Op.equal, Op.maxDepth, run_equalIn_bool' w 9999 t p q ht]
  · cases hv

/-! ### nil or not -/
def nilKind : Nat → TypeDesc → Prop
  | 0, d => ∃ q, d = .slice q
  | 1, d => ∃ q, d = .pointer q
  | 2, d => ∃ q r, d = .map q r
  | 3, d => ∃ q r b, d = .func q r b
  | _, _ => False

theorem isNil0 {x : AV} {b : Value} {p : Bool} (hx : VR ν x b) (hp : isNil 0 x = some p) : (p = true ∧ b = .slice none 0 0) ∨ (p = false ∧ ∃ A n cap, b = .slice (some A) n cap) := by
  unfold isNil at hp
  split at hp <;> first | (cases hp; done) | skip
  all_goals first | contradiction | skip
  · cases hp; exact .inl ⟨rfl, hx⟩
  · cases hp; obtain ⟨_, A, cap, _, rfl, _⟩ := hx; exact .inr ⟨rfl, _, _, _, rfl⟩
  · cases hp
    rcases hx with ⟨_, e, _⟩ | ⟨A, cap, us, rfl, _⟩
    · cases e
    · exact .inr ⟨rfl, _, _, _, rfl⟩
theorem isNil1 {x : AV} {b : Value} {p : Bool} (hx : VR ν x b) (hp : isNil 1 x = some p) : (p = true ∧ b = .pointer none) ∨ (p = false ∧ ∃ A, b = .pointer (some A)) := by
  unfold isNil at hp
  split at hp <;> first | (cases hp; done) | skip
  all_goals first | contradiction | skip
  · cases hp; exact .inl ⟨rfl, hx⟩
  · cases hp; obtain ⟨_, _, rfl⟩ := hx; exact .inr ⟨rfl, _, rfl⟩
  · cases hp; obtain ⟨_, _, _, rfl, _⟩ := hx; exact .inr ⟨rfl, _, rfl⟩
theorem isNil_run {t : TypeId} {d : TypeDesc} (ht : P.underlying t = some d) (n : Nat) (k : Nat) (hd : nilKind k d) {x y : AV} {b c : Value} (hx : VR ν x b) (hy : VR ν y c)
    {p q : Bool} (hp : isNil k x = some p) (hq : isNil k y = some q) (hpq : (p || q) = true) :
    (Op.equalIn (n + 1) t b c).run P w = .ok (p && q) w ∧ (∀ l, b ≠ .agg l) ∧ b ≠ .nilIface := by
  match k, hd with
  | 0, hd =>
    obtain ⟨e, rfl⟩ := hd
    rcases isNil0 hx hp with ⟨rfl, rfl⟩ | ⟨rfl, A, m, cap, rfl⟩ <;> rcases isNil0 hy hq with ⟨rfl, rfl⟩ | ⟨rfl, A', m', cap', rfl⟩ <;> simp at hpq <;> simp [Op.equalIn, run_underlying ht]
  | 1, hd =>
    obtain ⟨e, rfl⟩ := hd
    rcases isNil1 hx hp with ⟨rfl, rfl⟩ | ⟨rfl, A, rfl⟩ <;> rcases isNil1 hy hq with ⟨rfl, rfl⟩ | ⟨rfl, A', rfl⟩ <;> simp at hpq <;> simp [Op.equalIn, run_underlying ht]
  | 2, hd =>
    obtain ⟨e, f, rfl⟩ := hd
    cases x <;> simp [isNil] at hp <;> cases y <;> simp [isNil] at hq <;> subst hp <;> subst hq <;> simp at hpq <;> simp only [VR] at hx hy
    · subst hx; subst hy; simp [Op.equalIn, run_underlying ht]
    · obtain ⟨_, _, rfl⟩ := hy; subst hx; simp [Op.equalIn, run_underlying ht]
    · obtain ⟨_, _, rfl⟩ := hx; subst hy; simp [Op.equalIn, run_underlying ht]
  | 3, hd =>
    obtain ⟨e, f, g, rfl⟩ := hd
    cases x <;> simp [isNil] at hp <;> cases y <;> simp [isNil] at hq <;> subst hp <;> subst hq <;> simp at hpq <;> simp only [VR] at hx hy
    · subst hx; subst hy; simp [Op.equalIn, run_underlying ht]
    · obtain ⟨_, rfl, _⟩ := hy; subst hx; simp [Op.equalIn, run_underlying ht]
    · obtain ⟨_, rfl, _⟩ := hx; subst hy; simp [Op.equalIn, run_underlying ht]

theorem binOp_eq_run {op : BinOp} {neg : Bool} (hop : op = .eql ∧ neg = false ∨ op = .neq ∧ neg = true) {t : TypeId} {b c : Value} {r : Bool} (hr : (Op.equalIn 10000 t b c).run P w = .ok r w)
    (h1 : ∀ k n, b ≠ .int k n) (h2 : ∀ k n, b ≠ .float k n) (h3 : ∀ k n m, b ≠ .complex k n m) (h4 : ∀ l, b ≠ .string l) : (binOp op t b c).run P w = .ok (.bool (bif neg then !r else r)) w := by
  rcases hop with ⟨rfl, rfl⟩ | ⟨rfl, rfl⟩ <;>
    cases b <;> first
      | (exact absurd rfl (h1 _ _))
      | (exact absurd rfl (h2 _ _))
      | (exact absurd rfl (h3 _ _ _))
      | (exact absurd rfl (h4 _))
      | (simp only [binOp]; simp [Op.equal, Op.maxDepth, hr])

theorem g_eqnil (hS : SR N ν s a) (H : HR ν base h w) {op : BinOp} {neg : Bool} {k : Nat} {t u' : TypeId} {d : TypeDesc} {x y : Operand} {ex ey : AE} (hx : cE x = some ex) (hy : cE y = some ey) (hop : op = .eql ∧ neg = false ∨ op = .neq ∧ neg = true)
    (ht : P.underlying t = some d) (hd : nilKind k d) (ho : o.op = .binOp op t x y u') (hv : aop (.eqnil k neg ex ey) s h = some (v, h')) : Good P ν base h w a o v h' := by
  have rx := cE_ok hS hx
  have ry := cE_ok hS hy
  simp only [aop] at hv
  split at hv
  · rename_i p q hp hq
    split at hv
    · rename_i hpq
      simp only [Option.some.injEq, Prod.mk.injEq] at hv
      obtain ⟨rfl, rfl⟩ := hv
      obtain ⟨hr, n1, n2⟩ := isNil_run (w := w) ht 9999 k hd rx ry hp hq hpq
      have nk : (∀ k n, a.eval x ≠ .int k n) ∧ (∀ k n, a.eval x ≠ .float k n) ∧ (∀ k n m, a.eval x ≠ .complex k n m) ∧ (∀ l, a.eval x ≠ .string l) := by
        generalize hz : ex.ev s = z at rx hp
        generalize a.eval x = b at rx
        match k, hp with
        | 0, hp => rcases isNil0 rx hp with ⟨_, rfl⟩ | ⟨_, A, m, cap, rfl⟩ <;> simp
        | 1, hp => rcases isNil1 rx hp with ⟨_, rfl⟩ | ⟨_, A, rfl⟩ <;> simp
        | 2, hp | 3, hp =>
          cases z <;> simp [isNil] at hp <;> simp only [VR] at rx
          all_goals first
            | (subst rx; simp; done)
            | (obtain ⟨_, _, _, _, rfl, _⟩ := rx; simp; done)
            | (obtain ⟨_, _, rfl⟩ := rx; simp; done)
            | (obtain ⟨_, rfl, _⟩ := rx; simp; done)
      refine Good.quiet H (u := .bool (bif neg then !(p && q) else p && q)) ?_ rfl
      simp [execOp, ho, eqGuard_run op t x y (a.eval x) (a.eval y) n1 n2, binOp_eq_run hop hr nk.1 nk.2.1 nk.2.2.1 nk.2.2.2]
    · cases hv
  · cases hv

theorem eqnil_any {t e : TypeId} (ht : P.underlying t = some (.slice e)) (n : Nat) {b : Value} (hb : b = .slice none 0 0 ∨ ∃ A m cap, b = .slice (some A) m cap) : ∃ r, (Op.equalIn (n + 1) t b (.slice none 0 0)).run P w = .ok r w := by
  rcases hb with rfl | ⟨A, m, cap, rfl⟩
  · exact ⟨true, by simp [Op.equalIn, run_underlying ht]⟩
  · exact ⟨false, by simp [Op.equalIn, run_underlying ht]⟩
theorem g_eqnil_amb (hS : SR N ν s a) (H : HR ν base h w) {op : BinOp} {neg : Bool} {t u' : TypeId} {e : TypeId} {x y : Operand} {ex ey : AE} (hx : cE x = some ex) (hy : cE y = some ey) (hop : op = .eql ∧ neg = false ∨ op = .neq ∧ neg = true)
    (ht : P.underlying t = some (.slice e)) (ho : o.op = .binOp op t x y u') (hv : aamb (.eqnil 0 neg ex ey) s = true) : ∃ b, Good P ν base h w a o (.bool b) h := by
  have rx := cE_ok hS hx
  have ry := cE_ok hS hy
  simp only [aamb] at hv
  split at hv
  · rename_i c ex' ey'
    rw [ex'] at rx
    rw [ey'] at ry
    have hb : a.eval x = .slice none 0 0 ∨ ∃ A m cap, a.eval x = .slice (some A) m cap := by
      rcases rx with ⟨e1, _⟩ | ⟨A, cap, us, e1, _⟩
      · exact .inl e1
      · exact .inr ⟨A, _, cap, e1⟩
    have hc : a.eval y = .slice none 0 0 := ry
    have hr : ∃ r, (Op.equalIn 10000 t (a.eval x) (a.eval y)).run P w = .ok r w := by rw [hc]; exact eqnil_any ht 9999 hb
    obtain ⟨r, hr⟩ := hr
    have n1 : (∀ l, a.eval x ≠ .agg l) ∧ a.eval x ≠ .nilIface ∧ (∀ k n, a.eval x ≠ .int k n) ∧ (∀ k n, a.eval x ≠ .float k n) ∧ (∀ k n m, a.eval x ≠ .complex k n m) ∧ (∀ l, a.eval x ≠ .string l) := by
      rcases hb with e1 | ⟨A, m, cap, e1⟩ <;> rw [e1] <;> simp
    refine ⟨bif neg then !r else r, Good.quiet H (u := .bool (bif neg then !r else r)) ?_ rfl⟩
    simp [execOp, ho, eqGuard_run op t x y (a.eval x) (a.eval y) n1.1 n1.2.1, binOp_eq_run hop hr n1.2.2.1 n1.2.2.2.1 n1.2.2.2.2.1 n1.2.2.2.2.2]
  · cases hv

/-! ### structs of plain cells -/
theorem VRs.append_inv {ν : V} {xs ys : List AV} {us : List Value} (h : VRs ν (xs ++ ys) us) : ∃ vs ws, us = vs ++ ws ∧ VRs ν xs vs ∧ VRs ν ys ws := by
  induction xs generalizing us with
  | nil => exact ⟨[], us, rfl, rfl, h⟩
  | cons x xs ih =>
    obtain ⟨v, vs, rfl, hx, hs⟩ := h
    obtain ⟨p, q, rfl, hp, hq⟩ := ih hs
    exact ⟨v :: p, q, rfl, ⟨v, p, rfl, hx, hp⟩, hq⟩

theorem eqCells_append {ks ls : List Nat} {a b : List AV} {r' : Bool} (h : eqCells (ks ++ ls) a b = some r') : ∃ p q, eqCells ks (a.take ks.length) (b.take ks.length) = some p ∧ eqCells ls (a.drop ks.length) (b.drop ks.length) = some q ∧ r' = (p && q) ∧ ks.length + ls.length = a.length ∧ a.length = b.length := by
  induction ks generalizing a b r' with
  | nil =>
    refine ⟨true, r', by simp [eqCells], by simpa using h, by simp, ?_, ?_⟩
    all_goals
      simp only [List.nil_append] at h
      induction ls generalizing a b r' with
      | nil => cases a <;> cases b <;> simp [eqCells] at h <;> simp
      | cons l ls ih =>
        cases a <;> cases b <;> simp only [eqCells] at h <;> try cases h
        split at h
        · rename_i hq
          have := ih hq
          simp at this ⊢
          omega
        · cases h
  | cons k ks ih =>
    cases a with
    | nil => simp [eqCells] at h
    | cons x a =>
      cases b with
      | nil => simp [eqCells] at h
      | cons y b =>
        simp only [List.cons_append, eqCells] at h
        split at h
        · rename_i p q hp hq
          cases h
          obtain ⟨p', q', h1, h2, h3, h4, h5⟩ := ih hq
          exact ⟨p && p', q', by simp [eqCells, hp, h1], by simpa using h2, by rw [h3, Bool.and_assoc], by simp; omega, by simp; omega⟩
        · cases h

theorem part_agg {t : TypeId} {fs : Array Field} {i : TypeInfo} (ht : P.underlying t = some (.struct fs)) (hi : P.info? t = some i) (cs : Array Value) (off : Nat) : (part t cs off).run P w = .ok (.agg (cs.extract off (off + i.size))) w := by
  simp [part, isAgg, run_underlying ht, sizeOf, typeInfo, hi]

theorem part_leaf {t : TypeId} {d : TypeDesc} (ht : P.underlying t = some d) (hd : d.isRow = false) (cs : Array Value) (off : Nat) {v : Value} (hv : cs.toList[off]? = some v) : (part t cs off).run P w = .ok v w := by
  have hagg : (isAgg t).run P w = .ok false w := by
    unfold isAgg
    rw [Sem.run_bind, run_underlying ht w]
    cases d <;> simp_all [TypeDesc.isRow]
  rw [Array.getElem?_toList] at hv
  simp [part, hagg, hv]

/-- What the induction carries. -/
def FlatRun (P : Program) (ν : V) (w : World) (D t : Nat) (ks : List Nat) : Prop :=
  ∀ (l m : List AV) (vs us : Array Value) (r : Bool), VRs ν l vs.toList → VRs ν m us.toList → ∀ off, eqCells ks ((l.drop off).take ks.length) ((m.drop off).take ks.length) = some r →
    ∃ b c, (part t vs off).run P w = .ok b w ∧ (part t us off).run P w = .ok c w ∧ (Op.equalIn D t b c).run P w = .ok r w

theorem flat_fields (d D : Nat) (ih : ∀ t ks, flatEq P d t = some ks → FlatRun P ν w D t ks) :
    ∀ (fs : List Field) (o : Nat) (ks : List Nat), flatFields (flatEq P d) o fs = some ks → ∀ (l m : List AV) (A B : Array Value) (r : Bool), VRs ν l A.toList → VRs ν m B.toList →
      eqCells ks (l.drop o) (m.drop o) = some r → (Op.eqFields D A B fs).run P w = .ok r w
  | [], o, ks, hf => by
    simp only [flatFields, Option.some.injEq] at hf
    subst hf
    intro l m A B r _ _ hr
    have : r = true := by
      generalize l.drop o = x at hr
      generalize m.drop o = y at hr
      cases x <;> cases y <;> simp [eqCells] at hr
      exact hr
    subst this
    simp [Op.eqFields]
  | f :: fs, o, ks, hf => by
    simp only [flatFields] at hf
    split at hf
    · rename_i hc
      obtain ⟨ho, hn⟩ := hc
      split at hf
      · rename_i k hk
        split at hf
        · rename_i m' hm'
          cases hf
          intro l m A B r hl hm hr
          obtain ⟨p, q, hp, hq, rfl, _, _⟩ := eqCells_append hr
          rw [List.drop_drop, List.drop_drop] at hq
          obtain ⟨b, c, hb, hc', heq⟩ := ih f.type k hk l m A B p hl hm o hp
          have hq' := flat_fields d D ih fs _ _ hm' l m A B q hl hm hq
          simp only [Op.eqFields]
          rw [if_pos hn]
          simp only [Sem.run_bind, ho, hb, hc', heq, Result.andThen_ok]
          cases p
          · simp
          · simp [hq']
        · cases hf
      · cases hf
    · cases hf

theorem flat_leaf {k D t off : Nat} {d : TypeDesc} (ht : P.underlying t = some d) (hd : d.isRow = false) {l m : List AV} {vs us : Array Value} {r : Bool} (hl : VRs ν l vs.toList) (hm : VRs ν m us.toList)
    (hr : eqCells [k] ((l.drop off).take 1) ((m.drop off).take 1) = some r) (fin : ∀ x y b c, VR ν x b → VR ν y c → eqCell k x y = some r → (Op.equalIn D t b c).run P w = .ok r w) :
    ∃ b c, (part t vs off).run P w = .ok b w ∧ (part t us off).run P w = .ok c w ∧ (Op.equalIn D t b c).run P w = .ok r w := by
  cases el : (l.drop off).take 1 with
  | nil => rw [el] at hr; simp [eqCells] at hr
  | cons x xs =>
    cases em : (m.drop off).take 1 with
    | nil => rw [el, em] at hr; simp [eqCells] at hr
    | cons y ys =>
      have hxs : xs = [] := by have := congrArg List.length el; simp at this; exact List.eq_nil_of_length_eq_zero (by omega)
      have hys : ys = [] := by have := congrArg List.length em; simp at this; exact List.eq_nil_of_length_eq_zero (by omega)
      subst hxs; subst hys
      rw [el, em] at hr
      have hlx : l[off]? = some x := by have := congrArg (·[0]?) el; simpa using this
      have hmy : m[off]? = some y := by have := congrArg (·[0]?) em; simpa using this
      obtain ⟨b, hb, rb⟩ := hl.get off x hlx
      obtain ⟨c, hc, rc⟩ := hm.get off y hmy
      refine ⟨b, c, part_leaf ht hd vs off hb, part_leaf ht hd us off hc, fin x y b c rb rc ?_⟩
      simp only [eqCells] at hr
      split at hr
      · rename_i p q hp hq; cases hq; cases hr; rw [hp, Bool.and_true]
      · cases hr

theorem flat_run : ∀ (d t : Nat) (ks : List Nat), flatEq P d t = some ks → ∀ D, d ≤ D → FlatRun P ν w D t ks
  | 0, t, ks, hf => by simp [flatEq] at hf
  | d + 1, t, ks, hf => by
    intro D hD l m vs us r hl hm off hr
    obtain ⟨D, rfl⟩ : ∃ k, D = k + 1 := ⟨D - 1, by omega⟩
    simp only [flatEq] at hf
    split at hf
    · rename_i i ht hi
      cases hf
      refine flat_leaf ht rfl hl hm hr fun x y b c hx hy hxy => ?_
      cases x <;> cases y <;> simp [eqCell] at hxy
      subst hxy
      have e1 : b = .bool _ := hx
      have e2 : c = .bool _ := hy
      subst e1; subst e2
      rw [run_equalIn_bool' w D t _ _ ht]
    · rename_i k i ht hi
      cases hf
      refine flat_leaf ht rfl hl hm hr fun x y b c hx hy hxy => ?_
      cases x <;> cases y <;> simp [eqCell] at hxy
      obtain ⟨rfl, hxy⟩ := hxy
      subst hxy
      have e1 : b = .int _ _ := hx
      have e2 : c = .int _ _ := hy
      subst e1; subst e2
      rw [run_equalIn_int w D t _ _ _ _ ht]
    · rename_i i ht hi
      cases hf
      refine flat_leaf ht rfl hl hm hr fun x y b c hx hy hxy => ?_
      cases x <;> cases y <;> simp [eqCell] at hxy
      subst hxy
      have e1 : b = .string _ := hx
      have e2 : c = .string _ := hy
      subst e1; subst e2
      rw [run_equalIn_string w D t _ _ ht]
    · rename_i fs i ht hi
      split at hf
      · cases hf
      · rename_i hst
        split at hf
        · rename_i n hn
          split at hf
          · rename_i hsz
            cases hf
            refine ⟨_, _, part_agg ht hi vs off, part_agg ht hi us off, ?_⟩
            have hfo : P.fieldsOf t = fs := by simp [Program.fieldsOf, ht]
            rw [run_equalIn_struct w D t _ _ (by rw [hfo]; exact ht) (by simpa using hst), hfo]
            have ex : ∀ {z : List AV} {A : Array Value}, VRs ν z A.toList → VRs ν ((z.drop off).take ks.length) (A.extract off (off + i.size)).toList := by
              intro z A hz
              rw [Array.toList_extract, hsz, Nat.add_comm off, List.extract_eq_take_drop, Nat.add_sub_cancel]
              exact (hz.drop off).take _
            exact flat_fields d D (fun t' ks' h' => flat_run d t' ks' h' D (by omega)) fs.toList 0 ks hn _ _ _ _ r (ex hl) (ex hm) (by simpa using hr)
          · cases hf
        · cases hf
    · cases hf

theorem g_eqs (hS : SR N ν s a) (H : HR ν base h w) {op : BinOp} {neg : Bool} {ks : List Nat} {t u' : TypeId} {x y : Operand} {ex ey : AE} (hx : cE x = some ex) (hy : cE y = some ey) (hop : op = .eql ∧ neg = false ∨ op = .neq ∧ neg = true)
    (hg : P.eqGuardType P.depth t = false) {fs : Array Field} (ht : P.underlying t = some (.struct fs)) (hf : flatEq P 6 t = some ks) (ho : o.op = .binOp op t x y u') (hv : aop (.eqs neg ks ex ey) s h = some (v, h')) : Good P ν base h w a o v h' := by
  have rx := cE_ok hS hx
  have ry := cE_ok hS hy
  simp only [aop] at hv
  split at hv
  · rename_i l m hex hey
    rw [hex] at rx; rw [hey] at ry
    obtain ⟨vs, e1, hvs⟩ := rx
    obtain ⟨us, e2, hus⟩ := ry
    split at hv
    · rename_i r hr
      simp only [Option.some.injEq, Prod.mk.injEq] at hv
      obtain ⟨rfl, rfl⟩ := hv
      have hll : ks.length = l.length ∧ l.length = m.length := by
        obtain ⟨_, _, _, _, _, h4, h5⟩ := eqCells_append (ls := []) (by simpa using hr)
        exact ⟨by simpa using h4, h5⟩
      obtain ⟨b, c, hb, hc, heq⟩ := flat_run (w := w) 6 t ks hf 10000 (by omega) l m vs us r hvs hus 0 (by simpa [hll.1, List.take_of_length_le, hll.2] using hr)
      have hi : ∃ i, P.info? t = some i ∧ i.size = ks.length := by
        rw [show (6 : Nat) = 5 + 1 from rfl] at hf
        simp only [flatEq, ht] at hf
        cases hi : P.info? t with
        | none => rw [hi] at hf; simp at hf
        | some i =>
          rw [hi] at hf
          simp only at hf
          split at hf
          · cases hf
          · split at hf
            · split at hf
              · rename_i hsz; cases hf; exact ⟨i, rfl, hsz⟩
              · cases hf
            · cases hf
      obtain ⟨i, hi, hsz⟩ := hi
      have whole : ∀ {z : List AV} {A : Array Value}, VRs ν z A.toList → z.length = ks.length → A.extract 0 (0 + i.size) = A := by
        intro z A hz hl
        have : A.size = i.size := by rw [← Array.length_toList, ← hz.length, hl, hsz]
        rw [Nat.zero_add, ← this, Array.extract_size]
      rw [part_agg ht hi vs 0, whole hvs hll.1.symm] at hb
      rw [part_agg ht hi us 0, whole hus (by omega)] at hc
      cases hb; cases hc
      refine Good.quiet H (u := .bool (bif neg then !r else r)) ?_ rfl
      rcases hop with ⟨rfl, rfl⟩ | ⟨rfl, rfl⟩
      · simp [execOp, ho, e1, e2, run_eqGuard_agg w _ t x y vs us hg, run_eql_struct, heq, Result.andThen]
      · simp [execOp, ho, e1, e2, run_eqGuard_agg w _ t x y vs us hg, run_neq_struct, heq, Result.andThen]
    · cases hv
  · cases hv

end
end Go.Bm
