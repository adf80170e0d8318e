/- The abstract machine has one answer: what is told of it may be joined, and it tells nothing that is false. -/
import Derived.Test.YtbajchkpehdolaaBmL
namespace Go.Bm
set_option linter.all false
open Go Go.RowKit
set_option linter.unusedVariables false
set_option linter.unusedSimpArgs false

/-- What C tells and what A tells, A tells together. -/
def AQ.Conj (C A : AQ) : Prop := ∀ f a h (R R' : AV → AH → Prop), C f a h R → A f a h R' → A f a h (fun v h => R v h ∧ R' v h)

theorem thenA_conj {x : Option (AV × AH)} {Q Q' : AV → AH → Prop} (a : thenA x Q) (b : thenA x Q') : thenA x (fun v h => Q v h ∧ Q' v h) := by
  cases x with
  | none => exact a
  | some p => exact ⟨a, b⟩
theorem acallM_conj {C A : AQ} (hA : A.Mono) (hC : C.Conj A) {m : CM} {f : FuncId} {args : List AV} {h : AH} {Q Q' : AV → AH → Prop} (a : acallM C m f args h Q) (b : acallM A m f args h Q') : acallM A m f args h (fun v h => Q v h ∧ Q' v h) := by
  cases m with
  | raw => exact hC _ _ _ _ _ a b
  | frz =>
    refine hA _ _ _ _ _ (fun v h' x => ?_) (hC _ _ _ _ _ a b)
    obtain ⟨⟨_, r, hr, hq⟩, hl, r', hr', hq'⟩ := x
    rw [hr] at hr'; cases hr'
    exact ⟨hl, r, hr, hq, hq'⟩
  | bor =>
    obtain ⟨a1, e1, a⟩ := a
    obtain ⟨a2, e2, b⟩ := b
    rw [e1] at e2; cases e2
    exact ⟨a1, e1, hA _ _ _ _ _ (fun v h' x => ⟨x.2.1, x.1.2, x.2.2⟩) (hC _ _ _ _ _ a b)⟩
  | own =>
    obtain ⟨a1, e1, a⟩ := a
    obtain ⟨a2, e2, b⟩ := b
    rw [e1] at e2; cases e2
    exact ⟨a1, e1, hA _ _ _ _ _ (fun v h' x => ⟨x.2.1, x.2.2.1, x.1.2.2, x.2.2.2⟩) (hC _ _ _ _ _ a b)⟩
theorem callvA_conj {C A : AQ} (hA : A.Mono) (hC : C.Conj A) {m : CM} {f : AV} {args : List AV} {h : AH} {Q Q' : AV → AH → Prop} (a : callvA C m f args h Q) (b : callvA A m f args h Q') : callvA A m f args h (fun v h => Q v h ∧ Q' v h) := by
  cases f <;> first | exact a.elim | exact acallM_conj hA hC a b

theorem astep_conj {C A : AQ} (hA : A.Mono) (hC : C.Conj A) {o : AOp} {Q Q' : S → AH → Prop} {s : S} {h : AH} (a : astep C o Q s h) (b : astep A o Q' s h) : astep A o (fun s h => Q s h ∧ Q' s h) s h := by
  obtain ⟨d, g, k⟩ := o
  by_cases hk : k.isOp = true
  · rw [astep_op _ _ _ _ _ _ _ hk] at a b ⊢
    exact thenA_conj a b
  · cases k <;> simp [K.isOp] at hk
    · rename_i kd neg x y
      rw [astep_eqnil] at a b ⊢
      unfold eqnilR at a b ⊢
      revert a b
      cases eqnilA kd neg (x.ev s) (y.ev s) h with
      | none => exact fun a b => ⟨a.1, fun c => ⟨a.2 c, b.2 c⟩⟩
      | some p => exact fun a b => ⟨a, b⟩
    · rw [astep_call] at a b ⊢; exact acallM_conj hA hC a b
    · rw [astep_callv] at a b ⊢; exact callvA_conj hA hC a b
def AQ.Strict (C : AQ) : Prop := ∀ f a h (R : AV → AH → Prop), C f a h R → ∃ v h', R v h'
theorem acallM_strict {C : AQ} (hC : C.Strict) {m : CM} {f : FuncId} {args : List AV} {h : AH} {Q : AV → AH → Prop} (a : acallM C m f args h Q) : ∃ v h', Q v h' := by
  cases m with
  | raw => exact hC _ _ _ _ a
  | frz => obtain ⟨v, h', _, r, _, hq⟩ := hC _ _ _ _ a; exact ⟨_, _, hq⟩
  | bor => obtain ⟨a', _, a⟩ := a; obtain ⟨v, h', _, hq⟩ := hC _ _ _ _ a; exact ⟨_, _, hq⟩
  | own => obtain ⟨a', _, a⟩ := a; obtain ⟨v, h', _, _, hq⟩ := hC _ _ _ _ a; exact ⟨_, _, hq⟩
theorem softC_conj {C A : AQ} (hA : A.Mono) (hC : C.Conj A) (hS : A.Strict) {m : CM} {f : FuncId} {args : List AV} {h : AH} {Q Q' : AV → Prop} (a : softC (acallM C m f args h) h Q) (b : softC (acallM A m f args h) h Q') : softC (acallM A m f args h) h (fun v => Q v ∧ Q' v) := by
  obtain ⟨v, hv, hq⟩ := a
  obtain ⟨u, hu, hq'⟩ := b
  obtain ⟨w, _, e1, e2⟩ := acallM_strict hS (acallM_conj hA hC (hv (fun x _ => x = v) rfl) (hu (fun x _ => x = u) rfl))
  subst e1; subst e2
  exact ⟨w, hu, hq, hq'⟩
theorem fstep_conj {C A : AQ} (hA : A.Mono) (hC : C.Conj A) (hS : A.Strict) {o : AOp} {Q Q' : S → AH → Prop} {s : S} {h : AH} (a : fstep C o Q s h) (b : fstep A o Q' s h) : fstep A o (fun s h => Q s h ∧ Q' s h) s h := by
  obtain ⟨d, g, k⟩ := o
  by_cases hk : k.isOpF = true
  · rw [fstep_op _ _ _ _ _ _ _ hk] at a b ⊢
    revert a b
    unfold thenX
    cases aop k s h with
    | none => exact fun a _ => a
    | some p => exact fun a b => ⟨a.1, a.2, b.2⟩
  · cases k <;> simp [K.isOpF] at hk
    · exact softC_conj hA hC hS a b
    · rename_i m f args
      unfold fstep at a b ⊢
      simp only at a b ⊢
      generalize AE.ev s f = x at *
      cases x <;> first | exact a.elim | exact softC_conj hA hC hS a b
theorem fstep_strict {C : AQ} {o : AOp} {Q : S → AH → Prop} {s : S} {h : AH} (a : fstep C o Q s h) : ∃ s h, Q s h := by
  rw [fstep_exv] at a
  obtain ⟨v, _, hq⟩ := a
  exact ⟨_, _, hq⟩

theorem guardR_conj {v : AV} {w : Bool} {X Y X' Y' X2 Y2 : Prop} (hx : X → X' → X2) (hy : Y → Y' → Y2) (a : guardR v w X Y) (b : guardR v w X' Y') : guardR v w X2 Y2 := by
  cases v <;> try exact a.elim
  · exact ⟨fun e => hx (a.1 e) (b.1 e), fun e => hy (a.2 e) (b.2 e)⟩
  · rename_i l
    cases l with
    | nil => exact hy a b
    | cons x l => exact a.elim

section
variable {C A : AQ} (hA : A.Mono) (hC : C.Conj A) (hS : A.Strict)
include hA hC hS

theorem aops_conj {Q Q' : S → AH → Prop} : ∀ (l : List AOp) {s : S} {h : AH}, aops C l Q s h → aops A l Q' s h → aops A l (fun s h => Q s h ∧ Q' s h) s h
  | [], s, h, a, b => ⟨a, b⟩
  | ⟨d, none, k⟩ :: l, s, h, a, b => by
    rw [aops_cons] at a b ⊢
    exact astep_mono hA (fun s h x => aops_conj l x.1 x.2) (astep_conj hA hC a b)
  | ⟨d, some (t, w), k⟩ :: l, s, h, a, b => by
    rw [aops_guard] at a b ⊢
    exact guardR_conj (fun a b => astep_mono hA (fun s h x => aops_conj l x.1 x.2) (astep_conj hA hC a b)) (fun a b => aops_conj l a b) a b
theorem fflow_conj {Q Q' : S → AH → Prop} : ∀ (l : List (Nat × Bool × AOp)) {s : S} {h : AH}, fflow C l Q s h → fflow A l Q' s h → fflow A l (fun s h => Q s h ∧ Q' s h) s h
  | [], s, h, a, b => ⟨a, b⟩
  | (i, false, ⟨d, none, k⟩) :: l, s, h, a, b => by
    rw [fflow_soft] at a b ⊢
    exact fstep_mono hA (fun s h x => fflow_conj l x.1 x.2) (fstep_conj hA hC hS a b)
  | (i, true, ⟨d, none, k⟩) :: l, s, h, a, b => by
    rw [fflow_hard] at a b ⊢
    exact astep_mono hA (fun s h x => fflow_conj l x.1 x.2) (astep_conj hA hC a b)
  | (i, false, ⟨d, some (t, w), k⟩) :: l, s, h, a, b => by
    rw [fflow_gsoft] at a b ⊢
    exact guardR_conj (fun a b => fstep_mono hA (fun s h x => fflow_conj l x.1 x.2) (fstep_conj hA hC hS a b)) (fun a b => fflow_conj l a b) a b
  | (i, true, ⟨d, some (t, w), k⟩) :: l, s, h, a, b => by
    rw [fflow_ghard] at a b ⊢
    exact guardR_conj (fun a b => astep_mono hA (fun s h x => fflow_conj l x.1 x.2) (astep_conj hA hC a b)) (fun a b => fflow_conj l a b) a b

theorem awp_conj : ∀ (c : AC) {Q Q' : AX → S → AH → Prop} {s : S} {h : AH}, awp C c Q s h → awp A c Q' s h → awp A c (fun e s h => Q e s h ∧ Q' e s h) s h
  | .skip, Q, Q', s, h, a, b => ⟨a, b⟩
  | .reg l, Q, Q', s, h, a, b => aops_conj hA hC hS l a b
  | .regA _ _, Q, Q', s, h, a, b => a.elim
  | .regF l _, Q, Q', s, h, a, b => fflow_conj hA hC hS l a b
  | .seq c d, Q, Q', s, h, a, b => awp_mono hA c (fun e s h x => by
      cases e with
      | normal => exact awp_conj d x.1 x.2
      | exit i => exact x
      | ret => exact x) (awp_conj c a b)
  | .cond x c d, Q, Q', s, h, a, b => by
    rw [awp_cond] at a b ⊢
    revert a b
    generalize x.ev s = v
    intro a b
    cases v <;> first | exact a.elim | exact ⟨fun e => awp_conj c (a.1 e) (b.1 e), fun e => awp_conj d (a.2 e) (b.2 e)⟩
  | .block id c, Q, Q', s, h, a, b => awp_mono hA c (fun e s h x => by
      cases e with
      | normal => exact x
      | ret => exact x
      | exit i =>
        simp only [AX.inBlock] at x ⊢
        split
        · rename_i e; simpa [e] using x
        · rename_i e; simpa [e] using x) (awp_conj c a b)
  | .loop c, Q, Q', s, h, ⟨n, a⟩, ⟨m, b⟩ => by
    refine ⟨n, ?_⟩
    have key : ∀ n m s h, rounds (awp C c) Q n s h → rounds (awp A c) Q' m s h → rounds (awp A c) (fun e s h => Q e s h ∧ Q' e s h) n s h := by
      intro n
      induction n with
      | zero => intro m s h a; exact a.elim
      | succ n ih =>
        intro m s h a b
        cases m with
        | zero => exact b.elim
        | succ m =>
          exact awp_mono hA c (fun e s h x => by
            cases e with
            | normal => exact ih m s h x.1 x.2
            | exit i => exact x
            | ret => exact x) (awp_conj c a b)
    exact key n m s h a b
  | .exit id, Q, Q', s, h, a, b => ⟨a, b⟩
  | .ret, Q, Q', s, h, a, b => ⟨a, b⟩

theorem abody_conj {af : AFunc} {args : List AV} {h : AH} {R R' : AV → AH → Prop} (a : abody C af args h R) (b : abody A af args h R') : abody A af args h (fun v h => R v h ∧ R' v h) := by
  refine ⟨a.1, awp_mono hA _ (fun e s h x => ?_) (awp_conj hA hC hS _ a.2 b.2)⟩
  cases e with
  | exit i => exact x.1
  | normal | ret =>
    all_goals
      simp only at x ⊢
      split
      · rename_i v hv; simpa [hv] using x
      · rename_i hv; simp [hv] at x
end

/-! ### nothing false -/
section
variable {C : AQ} (hC : C.Strict)
include hC
theorem astep_strict {o : AOp} {Q : S → AH → Prop} {s : S} {h : AH} (a : astep C o Q s h) : ∃ s h, Q s h := by
  obtain ⟨d, g, k⟩ := o
  by_cases hk : k.isOp = true
  · rw [astep_op _ _ _ _ _ _ _ hk] at a
    unfold thenA at a
    split at a
    · exact ⟨_, _, a⟩
    · exact a.elim
  · cases k <;> simp [K.isOp] at hk
    · rename_i kd neg x y
      rw [astep_eqnil] at a
      unfold eqnilR at a
      revert a
      cases eqnilA kd neg (x.ev s) (y.ev s) h with
      | none => exact fun a => ⟨_, _, a.2 true⟩
      | some p => exact fun a => ⟨_, _, a⟩
    · rw [astep_call] at a; obtain ⟨v, h, x⟩ := acallM_strict hC a; exact ⟨_, _, x⟩
    · rw [astep_callv] at a
      unfold callvA at a
      split at a
      · obtain ⟨v, h, x⟩ := acallM_strict hC a; exact ⟨_, _, x⟩
      · exact a.elim
omit hC in
theorem guardR_strict {v : AV} {w : Bool} {X Y : Prop} {α : Prop} (hx : X → α) (hy : Y → α) (a : guardR v w X Y) : α := by
  cases v <;> try exact a.elim
  · rename_i b
    by_cases e : b = w
    · exact hx (a.1 e)
    · exact hy (a.2 (by cases b <;> cases w <;> simp_all))
  · rename_i l
    cases l with
    | nil => exact hy a
    | cons x l => exact a.elim
theorem aops_strict {Q : S → AH → Prop} : ∀ (l : List AOp) {s : S} {h : AH}, aops C l Q s h → ∃ s h, Q s h
  | [], s, h, a => ⟨_, _, a⟩
  | ⟨d, none, k⟩ :: l, s, h, a => by
    rw [aops_cons] at a
    obtain ⟨_, _, x⟩ := astep_strict hC a
    exact aops_strict l x
  | ⟨d, some (t, w), k⟩ :: l, s, h, a => by
    rw [aops_guard] at a
    exact guardR_strict (fun a => by obtain ⟨_, _, x⟩ := astep_strict hC a; exact aops_strict l x) (fun a => aops_strict l a) a
theorem fflow_strict {Q : S → AH → Prop} : ∀ (l : List (Nat × Bool × AOp)) {s : S} {h : AH}, fflow C l Q s h → ∃ s h, Q s h
  | [], s, h, a => ⟨_, _, a⟩
  | (i, false, ⟨d, none, k⟩) :: l, s, h, a => by
    rw [fflow_soft] at a
    obtain ⟨_, _, x⟩ := fstep_strict a
    exact fflow_strict l x
  | (i, true, ⟨d, none, k⟩) :: l, s, h, a => by
    rw [fflow_hard] at a
    obtain ⟨_, _, x⟩ := astep_strict hC a
    exact fflow_strict l x
  | (i, false, ⟨d, some (t, w), k⟩) :: l, s, h, a => by
    rw [fflow_gsoft] at a
    exact guardR_strict (fun a => by obtain ⟨_, _, x⟩ := fstep_strict a; exact fflow_strict l x) (fun a => fflow_strict l a) a
  | (i, true, ⟨d, some (t, w), k⟩) :: l, s, h, a => by
    rw [fflow_ghard] at a
    exact guardR_strict (fun a => by obtain ⟨_, _, x⟩ := astep_strict hC a; exact fflow_strict l x) (fun a => fflow_strict l a) a
theorem awp_strict : ∀ (c : AC) {Q : AX → S → AH → Prop} {s : S} {h : AH}, awp C c Q s h → ∃ e s h, Q e s h
  | .skip, Q, s, h, a => ⟨_, _, _, a⟩
  | .reg l, Q, s, h, a => ⟨_, aops_strict hC l a⟩
  | .regA _ _, Q, s, h, a => a.elim
  | .regF l _, Q, s, h, a => ⟨_, fflow_strict hC l a⟩
  | .seq c d, Q, s, h, a => by
    obtain ⟨e, s, h, x⟩ := awp_strict c a
    cases e with
    | normal => exact awp_strict d x
    | exit i => exact ⟨_, _, _, x⟩
    | ret => exact ⟨_, _, _, x⟩
  | .cond x c d, Q, s, h, a => by
    rw [awp_cond] at a
    revert a
    generalize x.ev s = v
    intro a
    cases v <;> try exact a.elim
    rename_i b
    cases b
    · exact awp_strict d (a.2 rfl)
    · exact awp_strict c (a.1 rfl)
  | .block id c, Q, s, h, a => by
    obtain ⟨e, s, h, x⟩ := awp_strict c a
    cases e with
    | normal => exact ⟨_, _, _, x⟩
    | ret => exact ⟨_, _, _, x⟩
    | exit i =>
      simp only [AX.inBlock] at x
      split at x <;> exact ⟨_, _, _, x⟩
  | .loop c, Q, s, h, ⟨n, a⟩ => by
    have key : ∀ n s h, rounds (awp C c) Q n s h → ∃ e s h, Q e s h := by
      intro n
      induction n with
      | zero => intro s h a; exact a.elim
      | succ n ih =>
        intro s h a
        obtain ⟨e, s, h, x⟩ := awp_strict c a
        cases e with
        | normal => exact ih s h x
        | exit i => exact ⟨_, _, _, x⟩
        | ret => exact ⟨_, _, _, x⟩
    exact key n s h a
  | .exit id, Q, s, h, a => ⟨_, _, _, a⟩
  | .ret, Q, s, h, a => ⟨_, _, _, a⟩
end

variable {ap : FuncId → Option AFunc}
theorem acalls_strict : (ACalls ap noE).Strict := by
  intro f a h R x
  refine x (fun f a h R => ∃ v h', R v h') (fun _ _ _ _ e => e.elim) ?_
  intro f a h R af hf hb
  obtain ⟨e, s, h', x⟩ := awp_strict (fun _ _ _ _ x => x) _ hb.2
  cases e with
  | exit i => exact x.elim
  | normal | ret =>
    all_goals
      simp only at x
      split at x
      · exact ⟨_, _, x⟩
      · exact x.elim

theorem acalls_conj {f : FuncId} {a : List AV} {h : AH} {R R' : AV → AH → Prop} (x : ACalls ap noE f a h R) (y : ACalls ap noE f a h R') : ACalls ap noE f a h (fun v h => R v h ∧ R' v h) := by
  have hA : (ACalls ap noE).Mono := acalls_mono noE_mono
  refine x (fun f a h R => ∀ R', ACalls ap noE f a h R' → ACalls ap noE f a h (fun v h => R v h ∧ R' v h)) (fun _ _ _ _ e => e.elim) ?_ R' y
  intro f a h R af hf hb R' y
  have hb' := (acall_iff hf).1 y
  exact acall noE_mono hf (abody_conj hA (fun f a h R R' c d => c R' d) acalls_strict hb hb')

/-- What answers one value answers no other. -/
theorem acalls_det {f : FuncId} {a : List AV} {h h1 : AH} {v : AV} (x : ACalls ap noE f a h (fun v' h' => v' = v ∧ h' = h1)) {R : AV → AH → Prop} : ACalls ap noE f a h R ↔ R v h1 := by
  constructor
  · intro y
    obtain ⟨v', h', ⟨rfl, rfl⟩, hr⟩ := acalls_strict _ _ _ _ (acalls_conj x y)
    exact hr
  · intro hr
    exact acalls_mono noE_mono _ _ _ _ _ (fun v' h' e => by rw [e.1, e.2]; exact hr) x

/-- So told, a call answers one thing. -/
theorem acallM_det {m : CM} {f : FuncId} {a : List AV} {h h1 : AH} {v : AV} (x : acallM (ACalls ap noE) m f a h (fun v' h' => v' = v ∧ h' = h1)) {R : AV → AH → Prop} : acallM (ACalls ap noE) m f a h R ↔ R v h1 := by
  constructor
  · intro y
    obtain ⟨v', h', ⟨rfl, rfl⟩, hr⟩ := acallM_strict acalls_strict (acallM_conj (acalls_mono noE_mono) (fun _ _ _ _ _ a b => acalls_conj a b) x y)
    exact hr
  · intro hr
    exact acallM_mono (acalls_mono noE_mono) (fun v' h' e => by rw [e.1, e.2]; exact hr) x

/-! ### cases -/
theorem guardR_split {b w : Bool} {X Y : Prop} (hx : b = w → X) (hy : b = !w → Y) : guardR (.bool b) w X Y := ⟨hx, hy⟩
theorem guardR_sT {b : Bool} {X Y : Prop} (hx : b = true → X) (hy : b = false → Y) : guardR (.bool b) true X Y := ⟨hx, hy⟩
theorem guardR_sF {b : Bool} {X Y : Prop} (hx : b = true → Y) (hy : b = false → X) : guardR (.bool b) false X Y := ⟨hy, hx⟩
theorem guardR_splitT {p : Prop} [Decidable p] {X Y : Prop} (hx : p → X) (hy : ¬ p → Y) : guardR (.bool (decide p)) true X Y := ⟨fun e => hx (of_decide_eq_true e), fun e => hy (of_decide_eq_false e)⟩
theorem guardR_splitF {p : Prop} [Decidable p] {X Y : Prop} (hx : p → Y) (hy : ¬ p → X) : guardR (.bool (decide p)) false X Y := ⟨fun e => hy (of_decide_eq_false e), fun e => hx (of_decide_eq_true e)⟩
theorem condR_split {b : Bool} {X Y : Prop} (hx : b = true → X) (hy : b = false → Y) : condR (.bool b) X Y := ⟨hx, hy⟩
theorem condR_splitD {p : Prop} [Decidable p] {X Y : Prop} (hx : p → X) (hy : ¬ p → Y) : condR (.bool (decide p)) X Y := ⟨fun e => hx (of_decide_eq_true e), fun e => hy (of_decide_eq_false e)⟩
theorem condR_splitN {b : Bool} {X Y : Prop} (hx : b = true → Y) (hy : b = false → X) : condR (.bool (!b)) X Y := ⟨fun e => hy (by simpa using e), fun e => hx (by simpa using e)⟩
theorem condR_splitND {p : Prop} [Decidable p] {X Y : Prop} (hx : p → Y) (hy : ¬ p → X) : condR (.bool (!decide p)) X Y := ⟨fun e => hy (by simpa using e), fun e => hx (by simpa using e)⟩
theorem guardR_splitNT {b : Bool} {X Y : Prop} (hx : b = true → Y) (hy : b = false → X) : guardR (.bool (!b)) true X Y := ⟨fun e => hy (by simpa using e), fun e => hx (by simpa using e)⟩
theorem guardR_splitNF {b : Bool} {X Y : Prop} (hx : b = true → X) (hy : b = false → Y) : guardR (.bool (!b)) false X Y := ⟨fun e => hx (by simpa using e), fun e => hy (by simpa using e)⟩
end Go.Bm
