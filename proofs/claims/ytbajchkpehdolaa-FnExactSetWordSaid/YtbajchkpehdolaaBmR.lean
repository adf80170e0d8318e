/- Answers of several parts that are one's own; rows of one element; odds and ends. -/
import Derived.Test.YtbajchkpehdolaaBmS
namespace Go.Bm
set_option linter.all false
open Go Go.RowKit
set_option linter.unusedVariables false
set_option linter.unusedSimpArgs false

theorem NewL.frzL {h h' : AH} {d : Nat} {xs ys : List AV} {F : List Nat} (N : NewL h h' d xs ys F) {d' : Nat} (hd : d ≤ d') : mapO (frzV h.next h' d') ys = some xs :=
  N.tw.frz fun x y G hG t => t.frz d (fun b hb => N.new b (hG b hb)) d' hd
section
variable {ap : FuncId → Option AFunc}
theorem own_frzT {f : FuncId} {args : List AV} {h : AH} {d : Nat} {xs : List AV} (hd : d ≤ 19)
    (H : ∀ R : AV → AH → Prop, (∀ h' ys F, NewL h h' d xs ys F → R (.tup ys) h') → ACalls ap noE f args h R) {R : AV → AH → Prop} : acallM (ACalls ap noE) .frz f args h R ↔ R (.tup xs) h := by
  refine acallM_det ?_
  refine H _ fun h' ys F N => ⟨N.le, .tup xs, ?_, rfl, rfl⟩
  rw [frz_tup, N.frzL hd]
theorem own_ownT {f : FuncId} {args args' : List AV} {h : AH} {d : Nat} {xs : List AV} (ha : mapO (frzV 0 h DF) args = some args')
    (H : ∀ (h0 : AH) (R : AV → AH → Prop), (∀ h' ys F, NewL h0 h' d xs ys F → R (.tup ys) h') → ACalls ap noE f args' h0 R) {R : AV → AH → Prop} (hR : ∀ h' ys F, NewL h h' d xs ys F → R (.tup ys) h') : acallM (ACalls ap noE) .own f args h R := by
  refine ⟨args', ha, H h.hide _ fun h' ys F N => ⟨rawL_iff.2 (N.tw.all fun _ _ _ t => t.raw d), N.le.1, hR _ ys F ?_⟩⟩
  have hn : h.next ≤ h'.next := N.le.1
  refine ⟨⟨hn, fun b hb => ?_⟩, N.tw.mono fun x y G hG t => t.join hn d fun b hb => N.new b (hG b hb), N.nd, N.new⟩
  rw [AH.get_join hn, if_pos hb]
/-- A call to which what is handed over is lent. -/
theorem bor_call {f : FuncId} {args args' : List AV} {h : AH} {v : AV} (ha : mapO (frzV 0 h DF) args = some args') (hv : v.scal = true) (H : ∀ (h' : AH) (R : AV → AH → Prop), ACalls ap noE f args' h' R ↔ R v h') {R : AV → AH → Prop} : acallM (ACalls ap noE) .bor f args h R ↔ R v h := by
  constructor
  · rintro ⟨a, e, c⟩
    rw [ha] at e
    cases e
    exact ((H _ _).1 c).2
  · intro hr
    exact ⟨args', ha, (H _ _).2 ⟨hv, hr⟩⟩
end
theorem bslice1 (es : Nat) (zero : List AV) (x : AV) (h : AH) (hz : zero.length = es) (hx : x.cells.length = es) (h1 : x.cells.all AV.one = true) :
    bsliceA 1 es zero [(0, x)] h = some (.sl h.next 0 es 1 (some 1), h.new (.cells true x.cells)) := by
  have e : setAll zero 0 x.cells = x.cells := by
    rw [setAll_eq _ _ _ (by omega), List.take_zero, List.drop_of_length_le (by omega)]; simp
  simp [-AV.one, -AV.cells, bsliceA, rep, fillA, hx, h1, hz, e]
theorem src1 (es : Nat) (row : List AV) (h : AH) (hx : row.length = es) : srcA (h.new (.cells true row)) es (.sl h.next 0 es 1 (some 1)) = some (1, row) := by
  have hg : (h.new (.cells true row)).get h.next = some (.cells true row) := by rw [AH.get_new, if_pos rfl]
  subst hx
  simp [srcA, AH.read, hg]
theorem nodup2 {F G : List Nat} (hF : F.Nodup) (hG : G.Nodup) (h : ∀ k, k ∈ F → k ∈ G → False) : (F ++ G).Nodup := List.nodup_append.2 ⟨hF, hG, fun a ha b hb e => h a ha (e ▸ hb)⟩
theorem Par.of2 {α : Type} [Inhabited α] {h0 h : AH} {es : Nat} {enc : α → List AV} {y : AV} {xs : List α} (H : Own h0 es enc h y xs) (d : Nat) : ∃ F, Par h0 h d es enc y xs 0 (xs.flatMap enc) F ∧ ∀ k ∈ F, blk y = some k := by
  rcases H.at_ with ⟨rfl, h2⟩ | ⟨b, c, e1, e2, e3, e4⟩
  · exact ⟨[], ⟨H.ok, H.le, .inl ⟨rfl, rfl, h2⟩, by simp, List.nodup_nil, (fun b hb => by cases hb), fun _ _ _ _ _ e => by rcases h2 with rfl | rfl <;> cases e⟩, fun b hb => by cases hb⟩
  · exact ⟨[b], ⟨H.ok, H.le, .inr ⟨b, c, [], [], e1, e2, rfl, ⟨rfl, rfl⟩, rfl⟩, by rw [H.ok.flen]; simp, by simp, fun b' hb => by rw [List.mem_singleton.1 hb]; exact e4, fun _ _ _ _ _ e => by rw [e1] at e; cases e; exact e3⟩, fun b' hb => by rw [List.mem_singleton.1 hb, e1]; rfl⟩
theorem Par.one1 {α : Type} [Inhabited α] {h0 h : AH} {d es : Nat} {enc : α → List AV} {y : AV} {xs : List α} {i : Nat} {rest : List AV} {F : List Nat} (P : Par h0 h d es enc y xs i rest F) : y.one = true := by
  rcases P.at_ with ⟨_, _, rfl | rfl⟩ | ⟨_, _, _, _, rfl, _⟩ <;> rfl
theorem Own.one1 {α : Type} {h0 h : AH} {es : Nat} {enc : α → List AV} {y : AV} {xs : List α} (O : Own h0 es enc h y xs) : y.one = true := by
  rcases O.at_ with ⟨_, rfl | rfl⟩ | ⟨_, _, rfl, _⟩ <;> rfl
/-- The marks' number is bounded by what is weighed. -/
theorem ctL_leW {α : Type} [Inhabited α] {ct W : α → Nat} (k : Nat) (H : ∀ x, ct x ≤ k * (1 + W x)) : ∀ xs : List α, ctL ct xs ≤ k * WS W xs
  | [] => by simp [ctL]
  | x :: xs => by
    have h1 := H x
    have h2 := ctL_leW k H xs
    have e := WS_cons W x xs
    rw [ctL_cons, e, Nat.mul_add]; omega
theorem ctL_one {α : Type} [Inhabited α] (k : Nat) (xs : List α) : ctL (fun _ => k) xs = k * xs.length := by
  induction xs with
  | nil => simp [ctL]
  | cons x xs ih => rw [ctL_cons, ih, List.length_cons, Nat.mul_succ]; omega
end Go.Bm
