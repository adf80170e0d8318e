/- Rules for reasoning about the abstract machine. -/
import Derived.Test.YtbajchkpehdolaaBmA
namespace Go.Bm
set_option linter.all false
open Go Go.RowKit
set_option linter.unusedVariables false
set_option linter.unusedSimpArgs false

/-- C tells less than C', and what follows may grow. -/
def AQ.le (C C' : AQ) : Prop := ∀ f a h (R R' : AV → AH → Prop), (∀ v h, R v h → R' v h) → C f a h R → C' f a h R'

theorem acallM_mono {C C' : AQ} (hC : C.le C') {m : CM} {f : FuncId} {args : List AV} {h : AH} {R R' : AV → AH → Prop} (hR : ∀ v h, R v h → R' v h) (hc : acallM C m f args h R) : acallM C' m f args h R' := by
  cases m with
  | raw => exact hC _ _ _ _ _ hR hc
  | frz => exact hC _ _ _ _ _ (fun v h' ⟨hl, r, hr, hq⟩ => ⟨hl, r, hr, hR _ _ hq⟩) hc
  | bor =>
    obtain ⟨args', ha, hc⟩ := hc
    exact ⟨args', ha, hC _ _ _ _ _ (fun v h' ⟨hs, hq⟩ => ⟨hs, hR _ _ hq⟩) hc⟩
  | own =>
    obtain ⟨args', ha, hc⟩ := hc
    exact ⟨args', ha, hC _ _ _ _ _ (fun v h' ⟨hs, hn, hq⟩ => ⟨hs, hn, hR _ _ hq⟩) hc⟩

theorem astep_mono {C C' : AQ} (hC : C.le C') {o : AOp} {Q Q' : S → AH → Prop} (hQ : ∀ s h, Q s h → Q' s h) {s : S} {h : AH} (hq : astep C o Q s h) : astep C' o Q' s h := by
  unfold astep at hq ⊢
  split
  · rename_i m f args hk
    rw [hk] at hq
    exact acallM_mono hC (fun v h hv => hQ _ _ hv) hq
  · rename_i m f args hk
    rw [hk] at hq
    simp only at hq
    split
    · rename_i g cap hg
      rw [hg] at hq
      exact acallM_mono hC (fun v h hv => hQ _ _ hv) hq
    · rename_i hne
      split at hq
      · rename_i g cap hg; exact (hne _ _ hg).elim
      · exact hq.elim
  · rename_i h1 h2
    split at hq
    · rename_i f args hk; exact (h1 _ _ _ hk).elim
    · rename_i f args hk; exact (h2 _ _ _ hk).elim
    · split at hq
      · exact hQ _ _ hq
      · exact ⟨hq.1, fun b => hQ _ _ (hq.2 b)⟩

theorem aops_mono {C C' : AQ} (hC : C.le C') {Q Q' : S → AH → Prop} (hQ : ∀ s h, Q s h → Q' s h) : ∀ (l : List AOp) {s : S} {h : AH}, aops C l Q s h → aops C' l Q' s h
  | [], s, h, hq => hQ s h hq
  | o :: l, s, h, hq => by
    unfold aops at hq ⊢
    split
    · rename_i hg; rw [hg] at hq; exact astep_mono hC (fun s h => aops_mono hC hQ l) hq
    · rename_i t want hg
      rw [hg] at hq
      simp only at hq
      split
      · rename_i b hb
        rw [hb] at hq
        exact ⟨fun e => astep_mono hC (fun s h => aops_mono hC hQ l) (hq.1 e), fun e => aops_mono hC hQ l (hq.2 e)⟩
      · rename_i hb
        rw [hb] at hq
        exact aops_mono hC hQ l hq
      · rename_i h1 h2
        split at hq
        · rename_i b hb; exact (h1 _ hb).elim
        · rename_i hb; exact (h2 hb).elim
        · exact hq.elim

theorem aguard_mono {o : AOp} {X X' Y Y' : Prop} {s : S} (hx : X → X') (hy : Y → Y') (h : aguard o X Y s) : aguard o X' Y' s := by
  unfold aguard at h ⊢
  split
  · rename_i hg; rw [hg] at h; exact hx h
  · rename_i t want hg
    rw [hg] at h
    simp only at h
    split
    · rename_i b hb; rw [hb] at h; exact ⟨fun e => hx (h.1 e), fun e => hy (h.2 e)⟩
    · rename_i hb; rw [hb] at h; exact hy h
    · rename_i h1 h2
      split at h
      · rename_i b hb; exact (h1 _ hb).elim
      · rename_i hb; exact (h2 hb).elim
      · exact h

theorem aone_mono {C C' : AQ} (hC : C.le C') {o : AOp} {Q Q' : S → AH → Prop} (hQ : ∀ s h, Q s h → Q' s h) {s : S} {h : AH} (hq : aone C o Q s h) : aone C' o Q' s h := aguard_mono (astep_mono hC hQ) (hQ _ _) hq

theorem aany_mono {C C' : AQ} (hC : C.le C') {Q Q' : S → AH → Prop} (hQ : ∀ s h, Q s h → Q' s h) {ops : List AOp} {after : List (List Nat)} : ∀ (n : Nat) {L : List Nat} {s : S} {h : AH}, aany C ops after n L Q s h → aany C' ops after n L Q' s h
  | 0, _, s, h, hq => hQ s h hq
  | n + 1, L, s, h, hq => fun i o hi ho => aone_mono hC (fun s h => aany_mono hC hQ n) (hq i o hi ho)

theorem softC_mono {X X' : (AV → AH → Prop) → Prop} {h : AH} {Q Q' : AV → Prop} (hX : ∀ R, X R → X' R) (hQ : ∀ v, Q v → Q' v) (hq : softC X h Q) : softC X' h Q' :=
  let ⟨v, h1, h2⟩ := hq; ⟨v, fun R hR => hX R (h1 R hR), hQ v h2⟩

theorem fstep_mono {C C' : AQ} (hC : C.le C') {o : AOp} {Q Q' : S → AH → Prop} (hQ : ∀ s h, Q s h → Q' s h) {s : S} {h : AH} (hq : fstep C o Q s h) : fstep C' o Q' s h := by
  unfold fstep at hq ⊢
  split
  · rename_i m f args hk
    rw [hk] at hq
    exact softC_mono (fun R => acallM_mono hC (fun _ _ h => h)) (fun v => hQ _ _) hq
  · rename_i m f args hk
    rw [hk] at hq
    simp only at hq
    split
    · rename_i g cap hg
      rw [hg] at hq
      exact softC_mono (fun R => acallM_mono hC (fun _ _ h => h)) (fun v => hQ _ _) hq
    · rename_i hne
      split at hq
      · rename_i g cap hg; exact (hne _ _ hg).elim
      · exact hq.elim
  · rename_i h1 h2
    split at hq
    · rename_i f args hk; exact (h1 _ _ _ hk).elim
    · rename_i f args hk; exact (h2 _ _ _ hk).elim
    · split at hq
      · exact ⟨hq.1, hQ _ _ hq.2⟩
      · exact hq.elim

theorem fflow_mono {C C' : AQ} (hC : C.le C') {Q Q' : S → AH → Prop} (hQ : ∀ s h, Q s h → Q' s h) : ∀ (l : List (Nat × Bool × AOp)) {s : S} {h : AH}, fflow C l Q s h → fflow C' l Q' s h
  | [], s, h, hq => hQ s h hq
  | (i, b, o) :: l, s, h, hq => aguard_mono (by
      cases b with
      | true => exact astep_mono hC fun s h => fflow_mono hC hQ l
      | false => exact fstep_mono hC fun s h => fflow_mono hC hQ l) (fflow_mono hC hQ l) hq

theorem awp_mono {C C' : AQ} (hC : C.le C') : ∀ (c : AC) {Q Q' : AX → S → AH → Prop}, (∀ e s h, Q e s h → Q' e s h) → ∀ {s : S} {h : AH}, awp C c Q s h → awp C' c Q' s h
  | .skip, Q, Q', hQ, s, h, hq => hQ _ _ _ hq
  | .reg ops, Q, Q', hQ, s, h, hq => aops_mono hC (hQ .normal) ops hq
  | .regA ops after, Q, Q', hQ, s, h, hq => hq.elim
  | .regF L after, Q, Q', hQ, s, h, hq => fflow_mono hC (hQ .normal) L hq
  | .seq a b, Q, Q', hQ, s, h, hq => awp_mono hC a (fun e s h he => by
      cases e with
      | normal => exact awp_mono hC b hQ he
      | exit i => exact hQ (.exit i) s h he
      | ret => exact hQ .ret s h he) hq
  | .cond x a b, Q, Q', hQ, s, h, hq => by
    simp only [awp] at hq ⊢
    split
    · rename_i c hc
      rw [hc] at hq
      exact ⟨fun e => awp_mono hC a hQ (hq.1 e), fun e => awp_mono hC b hQ (hq.2 e)⟩
    · rename_i hne
      split at hq
      · rename_i c hc; exact (hne _ hc).elim
      · exact hq.elim
  | .block id c, Q, Q', hQ, s, h, hq => awp_mono hC c (fun e s h he => by
      cases e with
      | normal => exact hQ .normal s h he
      | ret => exact hQ .ret s h he
      | exit i =>
        simp only [AX.inBlock] at he ⊢
        split
        · rename_i e; rw [if_pos e] at he; exact hQ _ _ _ he
        · rename_i e; rw [if_neg e] at he; exact hQ _ _ _ he) hq
  | .loop c, Q, Q', hQ, s, h, ⟨n, hn⟩ => by
    refine ⟨n, ?_⟩
    have key : ∀ n s h, rounds (awp C c) Q n s h → rounds (awp C' c) Q' n s h := by
      intro n
      induction n with
      | zero => intro s h hr; exact hr
      | succ n ih => exact fun s h hr => awp_mono hC c (fun e s h he => by
          cases e with
          | normal => exact ih s h he
          | exit i => exact hQ (.exit i) s h he
          | ret => exact hQ .ret s h he) hr
    exact key n s h hn
  | .exit id, Q, Q', hQ, s, h, hq => hQ _ _ _ hq
  | .ret, Q, Q', hQ, s, h, hq => hQ _ _ _ hq

theorem abody_mono {C C' : AQ} (hC : C.le C') {af : AFunc} {args : List AV} {h : AH} {R R' : AV → AH → Prop} (hR : ∀ v h, R v h → R' v h) (hb : abody C af args h R) : abody C' af args h R' := by
  refine ⟨hb.1, awp_mono hC _ (fun e s h he => ?_) hb.2⟩
  cases e with
  | exit i => exact he
  | normal | ret =>
    all_goals
      simp only at he ⊢
      split
      · rename_i v hv; rw [hv] at he; exact hR _ _ he
      · rename_i hv; rw [hv] at he; exact he

/-- What is told of outside functions may be told less of. -/
def AQ.Mono (E : AQ) : Prop := E.le E

section
variable {ap : FuncId → Option AFunc} {E : AQ}

theorem acalls_le (hE : E.Mono) {C : AQ} (h1 : ∀ f args h R, E f args h R → C f args h R) (h2 : ∀ f args h R af, ap f = some af → abody C af args h R → C f args h R) : (ACalls ap E).le C := by
  intro f a h R R' hR hc
  refine hc (fun f a h R => ∀ R', (∀ v h, R v h → R' v h) → C f a h R') ?_ ?_ R' hR
  · intro f args h R he R' hR; exact h1 _ _ _ _ (hE _ _ _ _ _ hR he)
  · intro f args h R af haf hb R' hR
    exact h2 _ _ _ _ af haf (abody_mono (fun f a h R R' hR hc => hc R' hR) hR hb)

/-- A function is what its body tells. -/
theorem acall (hE : E.Mono) {f : FuncId} {af : AFunc} (hf : ap f = some af) {args : List AV} {h : AH} {R : AV → AH → Prop} (hb : abody (ACalls ap E) af args h R) : ACalls ap E f args h R := by
  intro C h1 h2
  exact h2 f args h R af hf (abody_mono (acalls_le hE h1 h2) (fun _ _ h => h) hb)

theorem acall_ext (hE : E.Mono) {f : FuncId} {args : List AV} {h : AH} {R : AV → AH → Prop} (he : E f args h R) : ACalls ap E f args h R := fun C h1 _ => h1 _ _ _ _ he

theorem acalls_mono (hE : E.Mono) : (ACalls ap E).Mono := by
  intro f a h R R' hR hc C h1 h2
  exact acalls_le hE h1 h2 f a h R R' hR hc
end

/-- What is told of outside functions: nothing. -/
def noE : AQ := fun _ _ _ _ => False
theorem noE_mono : noE.Mono := fun _ _ _ _ _ _ h => h

/-- What a function tells is what its body tells. -/
theorem acall_iff {ap : FuncId → Option AFunc} {f : FuncId} {af : AFunc} (hf : ap f = some af) {args : List AV} {h : AH} {R : AV → AH → Prop} : ACalls ap noE f args h R ↔ abody (ACalls ap noE) af args h R := by
  refine ⟨fun hc => ?_, acall noE_mono hf⟩
  have := hc (fun f args h R => ∃ af, ap f = some af ∧ abody (ACalls ap noE) af args h R) (fun _ _ _ _ h => h.elim) (fun f args h R af haf hb => ⟨af, haf, abody_mono (fun f a h R R' hR ⟨af, haf, hb⟩ => acalls_mono noE_mono _ _ _ _ _ hR (acall noE_mono haf hb)) (fun _ _ h => h) hb⟩)
  obtain ⟨af', haf', hb⟩ := this
  rw [hf] at haf'; cases haf'
  exact hb

/-! ### loops -/
theorem awp_loop {C : AQ} (hC : C.Mono) {c : AC} {Q : AX → S → AH → Prop} (I : Nat → S → AH → Prop) (round : ∀ n s h, I n s h → awp C c (AX.then (fun s h => ∃ m, m < n ∧ I m s h) Q) s h) {n : Nat} {s : S} {h : AH} (hI : I n s h) : awp C (.loop c) Q s h := by
  have key : ∀ n s h, I n s h → rounds (awp C c) Q (n + 1) s h := by
    intro n
    induction n using Nat.strongRecOn with
    | _ n ih =>
      intro s h hI
      have h1 := round n s h hI
      have more : ∀ k m s h, k ≤ m → rounds (awp C c) Q k s h → rounds (awp C c) Q m s h := by
        intro k
        induction k with
        | zero => intro m s h _ hr; exact hr.elim
        | succ k ihk =>
          intro m s h hkm hr
          obtain ⟨m, rfl⟩ : ∃ j, m = j + 1 := ⟨m - 1, by omega⟩
          exact awp_mono hC c (fun e s h he => by
            cases e with
            | normal => exact ihk m s h (by omega) he
            | exit i => exact he
            | ret => exact he) hr
      exact awp_mono hC c (fun e s h he => by
        cases e with
        | normal => obtain ⟨m, hm, hI'⟩ := he; exact more (m + 1) n s h (by omega) (ih m hm s h hI')
        | exit i => exact he
        | ret => exact he) h1
  exact ⟨n + 1, key n s h hI⟩

end Go.Bm
