/- Trees of one's own, as they are made and as they are marked. -/
import Derived.Test.YtbajchkpehdolaaBmU
namespace Go.Bm
set_option linter.all false
open Go Go.RowKit
set_option linter.unusedVariables false
set_option linter.unusedSimpArgs false
set_option linter.unusedSectionVars false

/-- Cells of one's own. -/
structure NewL (h h' : AH) (d : Nat) (xs ys : List AV) (F : List Nat) : Prop where
  le : h.le h'
  tw : TwL (Tw h' d) xs ys F
  nd : F.Nodup
  new : ∀ b ∈ F, h.next ≤ b
theorem NewL.lt {h h' : AH} {d : Nat} {x y : List AV} {F : List Nat} (H : NewL h h' d x y F) : ∀ b ∈ F, b < h'.next := H.tw.mem fun _ _ _ t => t.lt d
theorem TwL.frame {h h' : AH} {d : Nat} {xs ys : List AV} {F : List Nat} (H : TwL (Tw h d) xs ys F) (hF : ∀ b ∈ F, h'.get b = h.get b) : TwL (Tw h' d) xs ys F :=
  H.mono fun x y G hG => Tw.frame d fun b hb => hF b (hG b hb)
theorem TwL.up {h : AH} {d d' : Nat} {xs ys : List AV} {F : List Nat} (H : TwL (Tw h d) xs ys F) (hd : d ≤ d') : TwL (Tw h d') xs ys F := H.mono fun x y G _ t => t.up d d' hd
theorem NewL.grow {h h' h2 : AH} {d : Nat} {x y : List AV} {F : List Nat} (H : NewL h h' d x y F) (hle : h'.le h2) : NewL h h2 d x y F :=
  ⟨AH.le_trans H.le hle, H.tw.frame fun b hb => hle.2 b (H.lt b hb), H.nd, H.new⟩
theorem New.agg {h h' : AH} {d : Nat} {l : List AV} {y : AV} {F : List Nat} (H : New h h' (d + 1) (.agg l) y F) : ∃ l', y = .agg l' ∧ NewL h h' d l l' F := by
  obtain ⟨a, ⟨l', e, t⟩, b, c⟩ := H
  exact ⟨l', e, a, t, b, c⟩
theorem NewL.agg {h h' : AH} {d : Nat} {l l' : List AV} {F : List Nat} (H : NewL h h' d l l' F) : New h h' (d + 1) (.agg l) (.agg l') F := ⟨H.le, ⟨l', rfl, H.tw⟩, H.nd, H.new⟩
theorem New.one {h h' : AH} {d : Nat} {x y : AV} {F : List Nat} (H : New h h' d x y F) : NewL h h' d [x] [y] F := ⟨H.le, ⟨y, [], F, [], rfl, by simp, H.tw, rfl, rfl⟩, H.nd, H.new⟩
theorem NewL.nil (h : AH) (d : Nat) : NewL h h d [] [] [] := ⟨AH.le_refl h, ⟨rfl, rfl⟩, List.nodup_nil, fun b hb => by cases hb⟩
/-- One behind the other, made one behind the other. -/
theorem NewL.cons {h h1 h2 : AH} {d : Nat} {x y : AV} {xs ys : List AV} {F G : List Nat} (H : New h h1 d x y F) (K : NewL h1 h2 d xs ys G) : NewL h h2 d (x :: xs) (y :: ys) (F ++ G) :=
  ⟨AH.le_trans H.le K.le, ⟨y, ys, F, G, rfl, rfl, (H.grow K.le).tw, K.tw⟩, nodup_app H.nd K.nd H.lt K.new, fun b hb => by
    rcases List.mem_append.1 hb with hb | hb
    · exact H.new b hb
    · exact Nat.le_trans H.le.1 (K.new b hb)⟩
theorem New.int (h : AH) (d : Nat) (k : IntKind) (n : Int) : New h h (d + 1) (.int k n) (.int k n) [] := ⟨AH.le_refl h, ⟨rfl, rfl⟩, List.nodup_nil, fun b hb => by cases hb⟩
theorem New.bool (h : AH) (d : Nat) (n : Bool) : New h h (d + 1) (.bool n) (.bool n) [] := ⟨AH.le_refl h, ⟨rfl, rfl⟩, List.nodup_nil, fun b hb => by cases hb⟩
theorem New.str (h : AH) (d : Nat) (n : ByteArray) : New h h (d + 1) (.str n) (.str n) [] := ⟨AH.le_refl h, ⟨rfl, rfl⟩, List.nodup_nil, fun b hb => by cases hb⟩
theorem New.up {h h' : AH} {d d' : Nat} {x y : AV} {F : List Nat} (H : New h h' d x y F) (hd : d ≤ d') : New h h' d' x y F := ⟨H.le, H.tw.up d d' hd, H.nd, H.new⟩

/-- Cells that hold no block. -/
def Flat {α : Type} (enc : α → List AV) : Prop := ∀ (h : AH) (d : Nat) (x : α), TwL (Tw h (d + 1)) (enc x) (enc x) []
theorem Flat.rows {α : Type} {enc : α → List AV} (E : Flat enc) (h : AH) (d : Nat) : ∀ xs : List α, TwL (Tw h (d + 1)) (xs.flatMap enc) (xs.flatMap enc) []
  | [] => ⟨rfl, rfl⟩
  | x :: xs => by rw [List.flatMap_cons]; exact TwL.append (E h d x) (E.rows h d xs)
theorem flatten_map {α : Type} {enc : α → List AV} (xs : List α) : (xs.map enc).flatten = xs.flatMap enc := by rw [List.flatMap_def]
theorem Own.new_ {α : Type} {h0 h : AH} {es : Nat} {enc : α → List AV} {y : AV} {xs : List α} (H : Own h0 es enc h y xs) (E : Flat enc) (d : Nat) : ∃ F, New h0 h (d + 2) (.fs none (xs.map enc)) y F := by
  rcases H.at_ with ⟨rfl, h2⟩ | ⟨b, c, e1, e2, e3, e4⟩
  · exact ⟨[], H.le, ⟨rfl, .inl ⟨h2, rfl, rfl⟩⟩, List.nodup_nil, fun b hb => by cases hb⟩
  · refine ⟨[b], H.le, ⟨rfl, .inr ⟨b, es, _, [], c, by rw [e1, List.length_map], fun r hr => ?_, e2, H.ok.fone xs, ?_, rfl⟩⟩, by simp, fun b' hb => ?_⟩
    · obtain ⟨x, _, rfl⟩ := List.mem_map.1 hr; exact H.ok.len x
    · rw [flatten_map]; exact E.rows h d xs
    · rw [List.mem_singleton.1 hb]; exact e4

/-! ### rows of one's own, made element by element -/
structure Par {α : Type} (h0 h : AH) (d es : Nat) (enc : α → List AV) (y : AV) (xs : List α) (i : Nat) (rest : List AV) (F : List Nat) : Prop where
  ok : EncOk es enc
  le : h0.le h
  at_ : (xs = [] ∧ F = [] ∧ (y = .nils ∨ y = .fs (some 0) [])) ∨ ∃ b c l1 F1, y = .sl b 0 es xs.length c ∧ h.get b = some (.cells true (l1 ++ rest)) ∧ l1.all AV.one = true ∧ TwL (Tw h d) ((xs.take i).flatMap enc) l1 F1 ∧ F = b :: F1
  rl : rest.length = (xs.length - i) * es
  nd : F.Nodup
  new : ∀ b ∈ F, h0.next ≤ b
  cap : ∀ b o e n c, y = .sl b o e n c → c = none ∨ c = some xs.length
section
variable {α : Type} [Inhabited α] {h0 h h1 : AH} {d es : Nat} {enc : α → List AV} {y : AV} {xs : List α} {i : Nat} {rest : List AV} {F : List Nat}
theorem Par.lt (H : Par h0 h d es enc y xs i rest F) : ∀ b ∈ F, b < h.next := by
  rcases H.at_ with ⟨_, rfl, _⟩ | ⟨b, c, l1, F1, _, e2, _, e4, rfl⟩
  · intro b hb; cases hb
  · intro b' hb
    rcases List.mem_cons.1 hb with rfl | hb
    · exact AH.get_lt e2
    · exact e4.mem (fun _ _ _ t => t.lt d) b' hb
theorem Par.grow (H : Par h0 h d es enc y xs i rest F) (hle : h.le h1) : Par h0 h1 d es enc y xs i rest F := by
  refine ⟨H.ok, AH.le_trans H.le hle, H.at_.imp id fun ⟨b, c, l1, F1, e1, e2, e3, e4, e5⟩ => ⟨b, c, l1, F1, e1, AH.le_of_get hle e2, e3, e4.frame fun b' hb => hle.2 b' ?_, e5⟩, H.rl, H.nd, H.new, H.cap⟩
  exact H.lt b' (by rw [e5]; simp [hb])
theorem Par.of (H : Own h0 es enc h y xs) (d : Nat) : ∃ F, Par h0 h d es enc y xs 0 (xs.flatMap enc) F := by
  rcases H.at_ with ⟨rfl, h2⟩ | ⟨b, c, e1, e2, e3, e4⟩
  · exact ⟨[], H.ok, H.le, .inl ⟨rfl, rfl, h2⟩, by simp, List.nodup_nil, (fun b hb => by cases hb), fun _ _ _ _ _ e => by rcases h2 with rfl | rfl <;> cases e⟩
  · exact ⟨[b], H.ok, H.le, .inr ⟨b, c, [], [], e1, e2, rfl, ⟨rfl, rfl⟩, rfl⟩, by rw [H.ok.flen]; simp, by simp, fun b' hb => by rw [List.mem_singleton.1 hb]; exact e4, fun _ _ _ _ _ e => by rw [e1] at e; cases e; exact e3⟩
/-- Rows that are nothing yet: of any cells. -/
theorem Par.make (E : EncOk es enc) (hle : h0.le h) {n : Nat} (hn : n = xs.length) (cs : List AV) (hc : cs.length = n * es) (d : Nat) : Par h0 (h.new (.cells true cs)) d es enc (.sl h.next 0 es n (some n)) xs 0 cs [h.next] := by
  subst hn
  exact ⟨E, AH.le_new_of hle _, .inr ⟨_, _, [], [], rfl, by rw [AH.get_new, if_pos rfl]; rfl, rfl, ⟨rfl, rfl⟩, rfl⟩, by simpa using hc, by simp, fun b hb => by rw [List.mem_singleton.1 hb]; exact hle.1, fun _ _ _ _ _ e => by cases e; exact .inr rfl⟩
theorem Par.len (H : Par h0 h d es enc y xs i rest F) (h2 : AH) : lenA false y h2 = some (.int .i64 xs.length, h2) := by
  rcases H.at_ with ⟨rfl, _, rfl | rfl⟩ | ⟨b, c, l1, F1, rfl, _⟩ <;> rfl
theorem Par.iaddr (H : Par h0 h d es enc y xs i rest F) (h2 : AH) (k : IntKind) (j : Int) (j0 : 0 ≤ j) (j1 : j < xs.length) : iaddrA es y (.int k j) h2 = some (elt es y j.toNat 0, h2) := by
  rcases H.at_ with ⟨rfl, _⟩ | ⟨b, c, l1, F1, rfl, _⟩
  · simp at j1; omega
  · simp [iaddrA, elt, sb, j0, j1]
theorem Par.l1 (H : Par h0 h d es enc y xs i rest F) (hi : i < xs.length) : ∃ b c l1 F1, y = .sl b 0 es xs.length c ∧ h.get b = some (.cells true (l1 ++ rest)) ∧ l1.all AV.one = true ∧ TwL (Tw h d) ((xs.take i).flatMap enc) l1 F1 ∧ F = b :: F1 ∧ l1.length = i * es := by
  rcases H.at_ with ⟨rfl, _⟩ | ⟨b, c, l1, F1, e1, e2, e3, e4, e5⟩
  · simp at hi
  · have := e4.length
    rw [H.ok.flen, List.length_take, Nat.min_eq_left (Nat.le_of_lt hi)] at this
    exact ⟨b, c, l1, F1, e1, e2, e3, e4, e5, this⟩
/-- The cells that the element holds as yet. -/
theorem Par.loadp (H : Par h0 h d es enc y xs i rest F) (hi : i < xs.length) (off n : Nat) (hn : off + n ≤ es) : loadA true n (elt es y i off) h = some (.agg ((rest.drop off).take n), h) := by
  obtain ⟨b, c, l1, F1, rfl, e2, e3, e4, e5, hl⟩ := H.l1 hi
  have hr := H.rl
  have : 1 * es ≤ (xs.length - i) * es := Nat.mul_le_mul_right _ (by omega)
  have hrd : h.read b (i * es + off) n = some ((rest.drop off).take n) := by
    unfold AH.read
    rw [e2]
    simp only
    rw [if_pos (by rw [List.length_append, hl]; omega), ← hl, List.drop_append, List.drop_of_length_le (by omega)]
    simp
  simp only [loadA, elt, sb, rdA, hrd, if_true]
theorem Par.load1 (H : Par h0 h d es enc y xs i rest F) (hi : i < xs.length) (off : Nat) (hn : off < es) : loadA false 1 (elt es y i off) h = some (rest.getD off .any, h) := by
  obtain ⟨b, c, l1, F1, rfl, e2, e3, e4, e5, hl⟩ := H.l1 hi
  have hr := H.rl
  have : 1 * es ≤ (xs.length - i) * es := Nat.mul_le_mul_right _ (by omega)
  have hrd : h.read b (i * es + off) 1 = some ((rest.drop off).take 1) := by
    unfold AH.read
    rw [e2]
    simp only
    rw [if_pos (by rw [List.length_append, hl]; omega), ← hl, List.drop_append, List.drop_of_length_le (by omega)]
    simp
  have hoff : off < rest.length := by omega
  have e : (rest.drop off).take 1 = [rest[off]] := by rw [List.drop_eq_getElem_cons hoff, List.take_succ_cons, List.take_zero]
  simp only [loadA, elt, sb, rdA, hrd, e]
  simp [hoff]
/-- One element is made whole. -/
theorem Par.step (H : Par h0 h d es enc y xs i rest F) (hi : i < xs.length) (hle : h.le h1) {F2 : List Nat} {row : List AV} (off n : Nat) (x : AV) (hn : x.cells.length = n) (hoff : off + n ≤ es) (ho : x.cells.all AV.one = true)
    (hrow : setAll (rest.take es) off x.cells = row) (hro : row.all AV.one = true) (N : TwL (Tw h1 d) (enc (nth xs i)) row F2) (nd : F2.Nodup) (new : ∀ b ∈ F2, h.next ≤ b) :
    ∃ h2, storeA n (elt es y i off) x h1 = some (.tup [], h2) ∧ Par h0 h2 d es enc y xs (i + 1) (rest.drop es) (F ++ F2) ∧ h2.next = h1.next ∧ ∀ k, k ∉ F → h2.get k = h1.get k := by
  have hF := H.lt
  obtain ⟨b, c, l1, F1, rfl, e2, e3, e4, e5, hl⟩ := H.l1 hi
  have e2' := AH.le_of_get hle e2
  have hr := H.rl
  have hm : (xs.length - i) * es = es + (xs.length - (i + 1)) * es := by
    rw [show xs.length - i = (xs.length - (i + 1)) + 1 by omega, Nat.succ_mul]; omega
  have hset : setAll (l1 ++ rest) (i * es + off) x.cells = l1 ++ row ++ rest.drop es := by
    rw [setAll_eq _ _ _ (by rw [List.length_append]; omega), ← hrow, setAll_eq _ _ _ (by rw [List.length_take]; omega)]
    rw [← hl, List.take_append, List.drop_append, List.take_of_length_le (by omega : l1.length ≤ l1.length + off), List.drop_of_length_le (by omega : l1.length ≤ l1.length + off + x.cells.length)]
    rw [show l1.length + off - l1.length = off by omega, show l1.length + off + x.cells.length - l1.length = off + x.cells.length by omega, List.take_take, Nat.min_eq_left (by omega : off ≤ es), List.drop_take, List.nil_append]
    have : rest.drop (off + x.cells.length) = (rest.drop (off + x.cells.length)).take (es - (off + x.cells.length)) ++ rest.drop es := by
      conv => lhs; rw [← List.take_append_drop (es - (off + x.cells.length)) (rest.drop (off + x.cells.length))]
      rw [List.drop_drop, show off + x.cells.length + (es - (off + x.cells.length)) = es by omega]
    conv => lhs; rw [this]
    simp only [List.append_assoc]
  have hst : storeA n (elt es (.sl b 0 es xs.length c) i off) x h1 = some (.tup [], h1.upd b (some (.cells true (l1 ++ row ++ rest.drop es)))) := by
    simp only [storeA, elt, sb, hn, if_true, AH.write, e2']
    rw [if_pos (by simp only [Bool.and_eq_true, decide_eq_true_eq]; exact ⟨by rw [List.length_append]; omega, ho⟩), hset]
  have hb := AH.get_lt e2'
  have hbF : b ∉ F1 := by have := H.nd; rw [e5] at this; exact (List.nodup_cons.1 this).1
  have hbn : b < h.next := AH.get_lt e2
  have keep : ∀ k, k ≠ b → (h1.upd b (some (.cells true (l1 ++ row ++ rest.drop es)))).get k = h1.get k := fun k hk => by rw [AH.get_upd hb, if_neg hk]
  refine ⟨_, hst, ⟨H.ok, ⟨Nat.le_trans H.le.1 hle.1, fun k hk => ?_⟩, .inr ⟨b, c, l1 ++ row, F1 ++ F2, rfl, by rw [AH.get_upd hb, if_pos rfl], by rw [List.all_append, e3, hro]; rfl, ?_, by rw [e5]; rfl⟩, by rw [List.length_drop]; omega, nodup_app H.nd nd hF new, fun k hk => ?_, H.cap⟩, rfl, fun k hk => keep k fun e => hk (by rw [e5, e]; simp)⟩
  · have hk2 := H.new b (by rw [e5]; simp)
    rw [keep k (by omega), hle.2 k (Nat.lt_of_lt_of_le hk H.le.1)]
    exact H.le.2 k hk
  · rw [take_succ hi, List.flatMap_append]
    refine TwL.append (e4.frame fun k hk => ?_) ?_
    · rw [keep k (fun e => hbF (e ▸ hk))]
      exact hle.2 k (hF k (by rw [e5]; simp [hk]))
    · simp only [List.flatMap_cons, List.flatMap_nil, List.append_nil]
      exact N.frame fun k hk => keep k (fun e => by have := new k hk; omega)
  · rcases List.mem_append.1 hk with hk | hk
    · exact H.new k hk
    · exact Nat.le_trans H.le.1 (new k hk)
theorem Par.done (H : Par h0 h d es enc y xs xs.length rest F) : New h0 h (d + 1) (.fs none (xs.map enc)) y F := by
  have hr := H.rl
  rw [Nat.sub_self, Nat.zero_mul] at hr
  have hr := List.eq_nil_of_length_eq_zero hr
  subst hr
  refine ⟨H.le, ⟨rfl, H.at_.imp (fun ⟨a, b, c⟩ => ⟨c, by rw [a]; rfl, b⟩) fun ⟨b, c, l1, F1, e1, e2, e3, e4, e5⟩ => ⟨b, es, l1, F1, c, by rw [e1, List.length_map], fun r hr => ?_, by simpa using e2, e3, ?_, e5⟩⟩, H.nd, H.new⟩
  · obtain ⟨x, _, rfl⟩ := List.mem_map.1 hr; exact H.ok.len x
  · rw [flatten_map]; rw [List.take_length] at e4; exact e4
end
end Go.Bm
