/- Trees of one's own: what stands for a frozen value, cell by cell, in blocks of its own. -/
import Derived.Test.YtbajchkpehdolaaBmP
import Derived.Test.YtbajchkpehdolaaBmN
namespace Go.Bm
set_option linter.all false
open Go Go.RowKit
set_option linter.unusedVariables false
set_option linter.unusedSimpArgs false

/-- Cell by cell; the blocks one behind the other. -/
def TwL (T : AV → AV → List Nat → Prop) : List AV → List AV → List Nat → Prop
  | [], ys, F => ys = [] ∧ F = []
  | x :: xs, ys, F => ∃ y ys' F1 F2, ys = y :: ys' ∧ F = F1 ++ F2 ∧ T x y F1 ∧ TwL T xs ys' F2
/-- y stands for the frozen x; F: its blocks, each told once. -/
def Tw (h : AH) : Nat → AV → AV → List Nat → Prop
  | 0, _, _, _ => False
  | d + 1, .fs c rows, y, F => c = none ∧ (((y = .nils ∨ y = .fs (some 0) []) ∧ rows = [] ∧ F = []) ∨ ∃ b es l F' c', y = .sl b 0 es rows.length c' ∧ (∀ r ∈ rows, r.length = es) ∧ h.get b = some (.cells true l) ∧ l.all AV.one = true ∧ TwL (Tw h d) rows.flatten l F' ∧ F = b :: F')
  | d + 1, .agg l, y, F => ∃ l', y = .agg l' ∧ TwL (Tw h d) l l' F
  | d + 1, .int k n, y, F => y = .int k n ∧ F = []
  | d + 1, .bool b, y, F => y = .bool b ∧ F = []
  | d + 1, .str s, y, F => y = .str s ∧ F = []
  | _ + 1, _, _, _ => False

theorem TwL.mono {T T' : AV → AV → List Nat → Prop} : ∀ {xs ys : List AV} {F : List Nat}, (∀ x y G, (∀ b, b ∈ G → b ∈ F) → T x y G → T' x y G) → TwL T xs ys F → TwL T' xs ys F
  | [], _, _, _, h => h
  | x :: xs, _, _, hT, ⟨y, ys', F1, F2, e1, e2, h1, h2⟩ => by
    subst e2
    exact ⟨y, ys', F1, F2, e1, rfl, hT _ _ _ (fun b hb => List.mem_append_left _ hb) h1, TwL.mono (fun x y G hG => hT x y G fun b hb => List.mem_append_right _ (hG b hb)) h2⟩
theorem TwL.length {T : AV → AV → List Nat → Prop} : ∀ {xs ys : List AV} {F : List Nat}, TwL T xs ys F → ys.length = xs.length
  | [], _, _, ⟨e, _⟩ => by rw [e]
  | x :: xs, _, _, ⟨y, ys', F1, F2, e1, e2, h1, h2⟩ => by rw [e1]; simp [TwL.length h2]
theorem TwL.append {T : AV → AV → List Nat → Prop} : ∀ {xs xs' ys ys' : List AV} {F F' : List Nat}, TwL T xs ys F → TwL T xs' ys' F' → TwL T (xs ++ xs') (ys ++ ys') (F ++ F')
  | [], _, _, _, _, _, ⟨e1, e2⟩, h => by subst e1; subst e2; exact h
  | x :: xs, _, _, _, _, _, ⟨y, zs, F1, F2, e1, e2, h1, h2⟩, h => by
    subst e1; subst e2
    exact ⟨y, zs ++ _, F1, F2 ++ _, rfl, by rw [List.append_assoc], h1, TwL.append h2 h⟩
theorem TwL.split {T : AV → AV → List Nat → Prop} : ∀ {xs xs' zs : List AV} {F : List Nat}, TwL T (xs ++ xs') zs F → ∃ ys ys' F1 F2, zs = ys ++ ys' ∧ F = F1 ++ F2 ∧ TwL T xs ys F1 ∧ TwL T xs' ys' F2
  | [], _, zs, F, h => ⟨[], zs, [], F, rfl, rfl, ⟨rfl, rfl⟩, h⟩
  | x :: xs, xs', zs, F, ⟨y, zs', F1, F2, e1, e2, h1, h2⟩ => by
    obtain ⟨ys, ys', G1, G2, a1, a2, a3, a4⟩ := TwL.split h2
    exact ⟨y :: ys, ys', F1 ++ G1, G2, by rw [e1, a1]; rfl, by rw [e2, a2, List.append_assoc], ⟨y, ys, F1, G1, rfl, rfl, h1, a3⟩, a4⟩

/-- It stands in any memory that holds its blocks. -/
theorem Tw.frame {h h' : AH} : ∀ (d : Nat) {x y : AV} {F : List Nat}, (∀ b ∈ F, h'.get b = h.get b) → Tw h d x y F → Tw h' d x y F := by
  intro d
  induction d with
  | zero => intro x y F _ h; exact h.elim
  | succ d ih =>
    intro x y F hF H
    cases x <;> simp only [Tw] at H ⊢ <;> try exact H
    case agg l =>
      obtain ⟨l', e, H⟩ := H
      exact ⟨l', e, H.mono fun x y G hG => ih fun b hb => hF b (hG b hb)⟩
    case fs c rows =>
      refine ⟨H.1, H.2.imp id ?_⟩
      rintro ⟨b, es, l, F', c', e1, e2, e3, eo, HL, e4⟩
      subst e4
      exact ⟨b, es, l, F', c', e1, e2, (hF b (by simp)).trans e3, eo, HL.mono fun x y G hG => ih fun b hb => hF b (by simp [hG b hb]), rfl⟩
theorem TwL.mem {T : AV → AV → List Nat → Prop} {P : Nat → Prop} (hT : ∀ x y G, T x y G → ∀ b ∈ G, P b) : ∀ {xs ys : List AV} {F : List Nat}, TwL T xs ys F → ∀ b ∈ F, P b
  | [], _, _, ⟨_, e⟩, b, hb => by rw [e] at hb; cases hb
  | x :: xs, _, _, ⟨y, zs, F1, F2, e1, e2, h1, h2⟩, b, hb => by
    rw [e2] at hb
    rcases List.mem_append.1 hb with hb | hb
    · exact hT _ _ _ h1 b hb
    · exact TwL.mem hT h2 b hb
theorem Tw.lt {h : AH} : ∀ (d : Nat) {x y : AV} {F : List Nat}, Tw h d x y F → ∀ b ∈ F, b < h.next := by
  intro d
  induction d with
  | zero => intro x y F h; exact h.elim
  | succ d ih =>
    intro x y F H b hb
    cases x <;> simp only [Tw] at H <;> try (exact H.elim)
    case agg l => obtain ⟨l', e, H⟩ := H; exact H.mem (fun _ _ _ h => ih h) b hb
    case fs c rows =>
      rcases H.2 with ⟨_, _, rfl⟩ | ⟨b', es, l, F', c', e1, e2, e3, eo, HL, rfl⟩
      · cases hb
      · rcases List.mem_cons.1 hb with rfl | hb
        · exact AH.get_lt e3
        · exact HL.mem (fun _ _ _ h => ih h) b hb
    all_goals (obtain ⟨_, rfl⟩ := H; cases hb)
theorem TwL.all {T : AV → AV → List Nat → Prop} {p : AV → Bool} (hT : ∀ x y G, T x y G → p y = true) : ∀ {xs ys : List AV} {F : List Nat}, TwL T xs ys F → ∀ y ∈ ys, p y = true
  | [], _, _, ⟨e, _⟩, b, hb => by rw [e] at hb; cases hb
  | x :: xs, _, _, ⟨y, zs, F1, F2, e1, e2, h1, h2⟩, b, hb => by
    rw [e1] at hb
    rcases List.mem_cons.1 hb with rfl | hb
    · exact hT _ _ _ h1
    · exact TwL.all hT h2 b hb
theorem Tw.raw {h : AH} : ∀ (d : Nat) {x y : AV} {F : List Nat}, Tw h d x y F → y.raw = true := by
  intro d
  induction d with
  | zero => intro x y F h; exact h.elim
  | succ d ih =>
    intro x y F H
    cases x <;> simp only [Tw] at H <;> try (exact H.elim)
    case agg l =>
      obtain ⟨l', rfl, H⟩ := H
      exact rawL_iff.2 (H.all fun _ _ _ h => ih h)
    case fs c rows =>
      rcases H.2 with ⟨rfl | rfl, _, _⟩ | ⟨b', es, l, F', c', rfl, e2, e3, eo, H, rfl⟩ <;> rfl
    all_goals (obtain ⟨rfl, _⟩ := H; rfl)
/-- It stands when memory is handed back. -/
theorem Tw.join {h h' : AH} (hn : h.next ≤ h'.next) : ∀ (d : Nat) {x y : AV} {F : List Nat}, (∀ b ∈ F, h.next ≤ b) → Tw h' d x y F → Tw (h.join h') d x y F := by
  intro d
  induction d with
  | zero => intro x y F _ h; exact h.elim
  | succ d ih =>
    intro x y F hF H
    cases x <;> simp only [Tw] at H ⊢ <;> try exact H
    case agg l =>
      obtain ⟨l', e, H⟩ := H
      exact ⟨l', e, H.mono fun x y G hG => ih fun b hb => hF b (hG b hb)⟩
    case fs c rows =>
      refine ⟨H.1, H.2.imp id ?_⟩
      rintro ⟨b, es, l, F', c', e1, e2, e3, eo, HL, rfl⟩
      refine ⟨b, es, l, F', c', e1, e2, ?_, eo, HL.mono fun x y G hG => ih fun b hb => hF b (by simp [hG b hb]), rfl⟩
      have hb := hF b (by simp)
      rw [AH.get_join hn, if_neg (by omega), e3]
      have : rawL l = true := rawL_iff.2 (HL.all fun _ _ _ h => Tw.raw d h)
      simp [this]

theorem chunk_rowsU {es : Nat} : ∀ {rows : List (List AV)}, (∀ r ∈ rows, r.length = es) → chunk es rows.length rows.flatten = rows
  | [], _ => rfl
  | r :: rows, h => by
    have hr := h r (by simp)
    have e1 : (r ++ rows.flatten).take es = r := by rw [← hr, List.take_append_of_le_length (Nat.le_refl _), List.take_length]
    have e2 : (r ++ rows.flatten).drop es = rows.flatten := by rw [← hr, List.drop_append_of_le_length (Nat.le_refl _), List.drop_length]; rfl
    show (r ++ rows.flatten).take es :: chunk es rows.length ((r ++ rows.flatten).drop es) = r :: rows
    rw [e1, e2, chunk_rowsU fun r' hr' => h r' (by simp [hr'])]
theorem flat_len {es : Nat} : ∀ {rows : List (List AV)}, (∀ r ∈ rows, r.length = es) → rows.flatten.length = rows.length * es
  | [], _ => by simp
  | r :: rows, h => by
    rw [List.flatten_cons, List.length_append, flat_len fun r' hr' => h r' (by simp [hr']), h r (by simp), List.length_cons, Nat.succ_mul]; omega
theorem TwL.frz {T : AV → AV → List Nat → Prop} {f : AV → Option AV} : ∀ {xs ys : List AV} {F : List Nat}, (∀ x y G, (∀ b, b ∈ G → b ∈ F) → T x y G → f y = some x) → TwL T xs ys F → mapO f ys = some xs
  | [], _, _, _, ⟨e, _⟩ => by rw [e]; rfl
  | x :: xs, _, _, hT, ⟨y, ys', F1, F2, e1, e2, h1, h2⟩ => by
    subst e1; subst e2
    simp only [mapO]
    rw [hT _ _ _ (fun b hb => List.mem_append_left _ hb) h1, TwL.frz (fun x y G hG => hT x y G fun b hb => List.mem_append_right _ (hG b hb)) h2]
/-- Frozen, it is what it stands for. -/
theorem Tw.frz {h : AH} {lo : Nat} : ∀ (d : Nat) {x y : AV} {F : List Nat}, (∀ b ∈ F, lo ≤ b) → Tw h d x y F → ∀ d', d ≤ d' → frzV lo h d' y = some x := by
  intro d
  induction d with
  | zero => intro x y F _ h; exact h.elim
  | succ d ih =>
    intro x y F hF H d' hd
    obtain ⟨e, rfl⟩ : ∃ e, d' = e + 1 := ⟨d' - 1, by omega⟩
    cases x <;> simp only [Tw] at H <;> try (exact H.elim)
    case agg l =>
      obtain ⟨l', rfl, H⟩ := H
      have := H.frz (f := frzV lo h e) fun x y G hG hT => ih (fun b hb => hF b (hG b hb)) hT e (by omega)
      simp only [frzV, this]
    case fs c rows =>
      obtain ⟨rfl, H⟩ := H
      rcases H with ⟨rfl | rfl, rfl, _⟩ | ⟨b, es, l, F', c', rfl, e2, e3, eo, H, rfl⟩
      · rfl
      · rfl
      · have hb := hF b (by simp)
        have hl := H.length
        rw [flat_len e2] at hl
        have hr : h.readO b 0 (rows.length * es) = some l := by
          unfold AH.readO
          rw [e3]
          simp only
          rw [if_pos (by omega), List.drop_zero, List.take_of_length_le (by omega)]
        have := H.frz (f := frzV lo h e) fun x y G hG hT => ih (fun b hb => hF b (by simp [hG b hb])) hT e (by omega)
        simp only [frzV]
        rw [if_pos hb, hr]
        simp only [this]
        rw [chunk_rowsU e2]
    all_goals (obtain ⟨rfl, _⟩ := H; rfl)
theorem Tw.up {h : AH} : ∀ (d : Nat) {x y : AV} {F : List Nat}, Tw h d x y F → ∀ d', d ≤ d' → Tw h d' x y F := by
  intro d
  induction d with
  | zero => intro x y F h; exact h.elim
  | succ d ih =>
    intro x y F H d' hd
    obtain ⟨e, rfl⟩ : ∃ e, d' = e + 1 := ⟨d' - 1, by omega⟩
    cases x <;> simp only [Tw] at H ⊢ <;> try exact H
    case agg l => obtain ⟨l', e1, H⟩ := H; exact ⟨l', e1, H.mono fun x y G hG hT => ih hT e (by omega)⟩
    case fs c rows =>
      refine ⟨H.1, H.2.imp id ?_⟩
      rintro ⟨b, es, l, F', c', e1, e2, e3, eo, HL, e4⟩
      exact ⟨b, es, l, F', c', e1, e2, e3, eo, HL.mono fun x y G hG hT => ih hT e (by omega), e4⟩

/-- A tree in blocks that are new since h, each once. -/
structure New (h h' : AH) (d : Nat) (x y : AV) (F : List Nat) : Prop where
  le : h.le h'
  tw : Tw h' d x y F
  nd : F.Nodup
  new : ∀ b ∈ F, h.next ≤ b
theorem New.lt {h h' : AH} {d : Nat} {x y : AV} {F : List Nat} (H : New h h' d x y F) : ∀ b ∈ F, b < h'.next := H.tw.lt d
theorem New.grow {h h' h2 : AH} {d : Nat} {x y : AV} {F : List Nat} (H : New h h' d x y F) (hle : h'.le h2) : New h h2 d x y F :=
  ⟨AH.le_trans H.le hle, H.tw.frame d fun b hb => hle.2 b (H.lt b hb), H.nd, H.new⟩
theorem nodup_app {F G : List Nat} {k : Nat} (hF : F.Nodup) (hG : G.Nodup) (h1 : ∀ b ∈ F, b < k) (h2 : ∀ b ∈ G, k ≤ b) : (F ++ G).Nodup :=
  List.nodup_append.2 ⟨hF, hG, fun a ha b hb e => by have := h1 a ha; have := h2 b hb; omega⟩

section
variable {ap : FuncId → Option AFunc}
/-- A call that answers a tree of one's own, told frozen. -/
theorem own_frz {f : FuncId} {args : List AV} {h : AH} {d : Nat} {x : AV} (hd : d ≤ DF)
    (H : ∀ R : AV → AH → Prop, (∀ h' y F, New h h' d x y F → R y h') → ACalls ap noE f args h R) {R : AV → AH → Prop} : acallM (ACalls ap noE) .frz f args h R ↔ R x h := by
  refine acallM_det ?_
  refine H _ fun h' y F N => ⟨N.le, x, N.tw.frz d N.new DF hd, rfl, rfl⟩
/-- As it is told with memory of one's own. -/
theorem own_own {f : FuncId} {args args' : List AV} {h : AH} {d : Nat} {x : AV} (ha : mapO (frzV 0 h DF) args = some args')
    (H : ∀ (h0 : AH) (R : AV → AH → Prop), (∀ h' y F, New h0 h' d x y F → R y h') → ACalls ap noE f args' h0 R) {R : AV → AH → Prop} (hR : ∀ h' y F, New h h' d x y F → R y h') : acallM (ACalls ap noE) .own f args h R := by
  refine ⟨args', ha, H h.hide _ fun h' y F N => ⟨N.tw.raw d, N.le.1, hR _ y F ?_⟩⟩
  have hn : h.next ≤ h'.next := N.le.1
  refine ⟨⟨hn, fun b hb => ?_⟩, N.tw.join hn d N.new, N.nd, N.new⟩
  rw [AH.get_join hn, if_pos hb]
end
end Go.Bm
