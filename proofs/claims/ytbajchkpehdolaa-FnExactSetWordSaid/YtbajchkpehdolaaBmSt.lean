/- Rows of one's own that grow and shrink at the end. -/
import Derived.Test.YtbajchkpehdolaaBmR
namespace Go.Bm
set_option linter.all false
open Go Go.RowKit
set_option linter.unusedVariables false
set_option linter.unusedSimpArgs false

/-- A slice from the beginning of a block of its own, new since h0; what lies behind it there, nobody reads. -/
structure Stk {α : Type} (h0 : AH) (es : Nat) (enc : α → List AV) (h : AH) (v : AV) (xs : List α) : Prop where
  ok : EncOk es enc
  le : h0.le h
  at_ : (xs = [] ∧ (v = .nils ∨ v = .fs (some 0) [])) ∨ ∃ b l, v = .sl b 0 es xs.length none ∧ h.get b = some (.cells true (xs.flatMap enc ++ l)) ∧ h0.next ≤ b

section
variable {α : Type} {es : Nat} {enc : α → List AV} {h0 h h' : AH} {v : AV} {xs : List α}
theorem Stk.nils (E : EncOk es enc) (hle : h0.le h) : Stk h0 es enc h .nils [] := ⟨E, hle, .inl ⟨rfl, .inl rfl⟩⟩
theorem Stk.lit0 (E : EncOk es enc) (hle : h0.le h) : Stk h0 es enc h (.fs (some 0) []) [] := ⟨E, hle, .inl ⟨rfl, .inr rfl⟩⟩
theorem Stk.weaken {h1 : AH} (H : Stk h1 es enc h v xs) (hle : h0.le h1) : Stk h0 es enc h v xs := ⟨H.ok, AH.le_trans hle H.le, H.at_.imp id fun ⟨b, l, e, g, hb⟩ => ⟨b, l, e, g, Nat.le_trans hle.1 hb⟩⟩
theorem Stk.frame (H : Stk h0 es enc h v xs) (hle : h0.le h') (e : ∀ b, blk v = some b → h'.get b = h.get b) : Stk h0 es enc h' v xs :=
  ⟨H.ok, hle, H.at_.imp id fun ⟨b, l, e1, g, hb⟩ => ⟨b, l, e1, (e b (by rw [e1]; rfl)).trans g, hb⟩⟩
theorem Stk.lt (H : Stk h0 es enc h v xs) {b : Nat} (hb : blk v = some b) : b < h.next := by
  rcases H.at_ with ⟨_, rfl | rfl⟩ | ⟨b', l, rfl, hg, _⟩
  · cases hb
  · cases hb
  · cases hb; exact AH.get_lt hg
theorem Stk.new (H : Stk h0 es enc h v xs) {b : Nat} (hb : blk v = some b) : h0.next ≤ b := by
  rcases H.at_ with ⟨_, rfl | rfl⟩ | ⟨b', l, rfl, _, hn⟩
  · cases hb
  · cases hb
  · cases hb; exact hn
theorem Stk.grow (H : Stk h0 es enc h v xs) (hle : h.le h') : Stk h0 es enc h' v xs := H.frame (AH.le_trans H.le hle) fun b hb => hle.2 b (H.lt hb)
theorem Stk.len (H : Stk h0 es enc h v xs) (h2 : AH) : lenA false v h2 = some (.int .i64 xs.length, h2) := by
  rcases H.at_ with ⟨rfl, rfl | rfl⟩ | ⟨b, l, rfl, _⟩ <;> rfl
theorem Stk.one1 (H : Stk h0 es enc h v xs) : v.one = true := by
  rcases H.at_ with ⟨_, rfl | rfl⟩ | ⟨_, _, rfl, _⟩ <;> rfl
theorem Stk.iaddr (H : Stk h0 es enc h v xs) (h2 : AH) (k : IntKind) (j : Int) (j0 : 0 ≤ j) (j1 : j < xs.length) : iaddrA es v (.int k j) h2 = some (elt es v j.toNat 0, h2) := by
  rcases H.at_ with ⟨rfl, _⟩ | ⟨b, l, rfl, _⟩
  · simp at j1; omega
  · simp [iaddrA, elt, sb, j0, j1]
theorem Stk.get (H : Stk h0 es enc h v xs) (hx : 0 < xs.length) : ∃ l, h.get (sb v) = some (.cells true (xs.flatMap enc ++ l)) := by
  rcases H.at_ with ⟨rfl, _⟩ | ⟨b, l, rfl, g, _⟩
  · simp at hx
  · exact ⟨l, g⟩
theorem Stk.read [Inhabited α] (H : Stk h0 es enc h v xs) (i off n : Nat) (hi : i < xs.length) (hn : off + n ≤ es) : h.read (sb v) (i * es + off) n = some (((enc (nth xs i)).drop off).take n) := by
  have hm : (i + 1) * es ≤ xs.length * es := Nat.mul_le_mul_right _ hi
  rw [Nat.succ_mul] at hm
  obtain ⟨l, g⟩ := H.get (by omega)
  have hl := H.ok.flen xs
  unfold AH.read
  rw [g]
  simp only
  rw [if_pos (by rw [List.length_append]; omega), List.drop_append_of_le_length (by omega), List.take_append_of_le_length (by rw [List.length_drop]; omega), H.ok.fnth hi off n hn]
theorem Stk.load [Inhabited α] (H : Stk h0 es enc h v xs) (i : Nat) (hi : i < xs.length) : loadA true es (elt es v i 0) h = some (.agg (enc (nth xs i)), h) := by
  simp only [loadA, elt, rdA, H.read i 0 es hi (by omega), if_true, List.drop_zero]
  rw [List.take_of_length_le (by rw [H.ok.len]; exact Nat.le_refl _)]
theorem Stk.loadp [Inhabited α] (H : Stk h0 es enc h v xs) (i off n : Nat) (hi : i < xs.length) (hn : off + n ≤ es) : loadA true n (elt es v i off) h = some (.agg (((enc (nth xs i)).drop off).take n), h) := by
  simp only [loadA, elt, rdA, H.read i off n hi hn, if_true]
theorem Stk.load1 [Inhabited α] (H : Stk h0 es enc h v xs) (i off : Nat) (hi : i < xs.length) (hn : off < es) : loadA false 1 (elt es v i off) h = some ((enc (nth xs i)).getD off .any, h) := by
  simp only [loadA, elt, rdA, H.read i off 1 hi hn]
  have : off < (enc (nth xs i)).length := by rw [H.ok.len]; exact hn
  have e : ((enc (nth xs i)).drop off).take 1 = [(enc (nth xs i))[off]] := by rw [List.drop_eq_getElem_cons this, List.take_succ_cons, List.take_zero]
  rw [e]
  simp [this]
/-- Cut at the end. -/
theorem Stk.cut (H : Stk h0 es enc h v xs) (k : IntKind) (hi : Int) (i0 : 0 ≤ hi) (i1 : hi ≤ xs.length) (hx : 0 < xs.length) (h2 : AH) : ∃ v', sliceA es v none (some (.int k hi)) none h2 = some (v', h2) ∧ Stk h0 es enc h v' (xs.take hi.toNat) ∧ (∀ b, blk v' = some b → blk v = some b) := by
  rcases H.at_ with ⟨rfl, _⟩ | ⟨b, l, rfl, g, hn⟩
  · simp at hx
  · have e1 : bound (some (.int k hi)) xs.length ((none : Option Nat).getD xs.length) = some hi.toNat := by simp only [bound, Option.getD_none]; rw [if_pos]; omega
    refine ⟨.sl b 0 es hi.toNat none, ?_, ⟨H.ok, H.le, .inr ⟨b, (xs.drop hi.toNat).flatMap enc ++ l, ?_, ?_, hn⟩⟩, fun _ e => e⟩
    · simp only [sliceA, ne_eq, not_true, if_false, e1, show bound none 0 hi.toNat = some 0 from rfl, Option.map_none]
      rw [if_neg (by omega)]; simp
    · rw [List.length_take, Nat.min_eq_left (by omega)]
    · rw [g, ← List.append_assoc, ← List.flatMap_append, List.take_append_drop]
/-- As a source. -/
theorem Stk.src (H : Stk h0 es enc h v xs) : srcA h es v = some (xs.length, xs.flatMap enc) := by
  rcases H.at_ with ⟨rfl, rfl | rfl⟩ | ⟨b, l, rfl, g, _⟩
  · rfl
  · rfl
  · have hl := H.ok.flen xs
    simp only [srcA, if_true, AH.read, g]
    rw [if_pos (by rw [List.length_append]; omega), List.drop_zero, List.take_append_of_le_length (by omega), List.take_of_length_le (by omega)]
    rfl
theorem Own.src (H : Own h0 es enc h v xs) : srcA h es v = some (xs.length, xs.flatMap enc) := by
  rcases H.at_ with ⟨rfl, rfl | rfl⟩ | ⟨b, c, rfl, g, _⟩
  · rfl
  · rfl
  · have hl := H.ok.flen xs
    simp only [srcA, if_true, AH.read, g]
    rw [if_pos (by omega), List.drop_zero, List.take_of_length_le (by omega)]
    rfl
/-- What an append leaves. -/
theorem Stk.append (H : Stk h0 es enc h v xs) {y : AV} {ys : List α} (hy : srcA h es y = some (ys.length, ys.flatMap enc)) (bytes : Nat) (hb : (xs.length + ys.length) * bytes ≤ 2 ^ 47) (hb2 : xs.length + ys.length ≤ 2 ^ 47) :
    ∃ v' h', appendA es bytes v y h = some (v', h') ∧ Stk h0 es enc h' v' (xs ++ ys) ∧ h.next ≤ h'.next ∧ (∀ c, c < h.next → blk v ≠ some c → h'.get c = h.get c) ∧ (∀ c, blk v' = some c → blk v = some c ∨ h.next ≤ c) := by
  unfold appendA
  rw [hy]
  by_cases hm : ys = []
  · subst hm
    refine ⟨v, h, ?_, by simpa using H, Nat.le_refl _, (fun _ _ _ => rfl), fun c e => .inl e⟩
    rcases H.at_ with ⟨rfl, rfl | rfl⟩ | ⟨b, c, rfl, _⟩ <;> simp
  have hm' : ¬ ys.length = 0 := fun e => hm (List.eq_nil_of_length_eq_zero e)
  have hm2 : 0 < ys.length := by omega
  rcases H.at_ with ⟨rfl, rfl | rfl⟩ | ⟨b, l, rfl, hg, hn⟩
  · refine ⟨.sl h.next 0 es ys.length none, h.new (.cells true (ys.flatMap enc)), by simp only [hm', if_false]; rw [if_pos ⟨by simpa using hb, by simpa using hb2, H.ok.fone ys⟩], ⟨H.ok, AH.le_new_of H.le _, .inr ⟨_, [], rfl, by rw [AH.get_new, if_pos rfl]; simp, H.le.1⟩⟩, Nat.le_succ _, ?_, fun c e => .inr (by cases e; exact Nat.le_refl _)⟩
    intro c hc _
    rw [AH.get_new, if_neg (by omega)]
  · refine ⟨.sl h.next 0 es ys.length none, h.new (.cells true (ys.flatMap enc)), ?_, ⟨H.ok, AH.le_new_of H.le _, .inr ⟨_, [], rfl, by rw [AH.get_new, if_pos rfl]; simp, H.le.1⟩⟩, Nat.le_succ _, ?_, fun c e => .inr (by cases e; exact Nat.le_refl _)⟩
    · simp only [hm', if_false, List.length_nil, Nat.zero_add, List.flatten_nil, List.nil_append]
      rw [if_pos ⟨hm2, by simpa using hb, by simpa using hb2, H.ok.fone ys, rfl⟩]
    · intro c hc _
      rw [AH.get_new, if_neg (by omega)]
  · have hl := H.ok.flen xs
    simp only [ne_eq, not_true, if_false, hm', hg, if_true]
    rw [if_pos ⟨by rw [List.length_append]; omega, hb, hb2, H.ok.fone ys⟩]
    have hcells : ((xs.flatMap enc ++ l).drop 0).take (xs.length * es) ++ ys.flatMap enc = (xs ++ ys).flatMap enc := by
      rw [List.drop_zero, List.take_append_of_le_length (by omega), List.take_of_length_le (by omega), List.flatMap_append]
    rw [hcells]
    have hbl := AH.get_lt hg
    have h0l := H.le
    refine ⟨_, _, rfl, ⟨H.ok, ⟨Nat.le_trans h0l.1 (Nat.le_succ _), fun c hc => ?_⟩, .inr ⟨_, [], by rw [List.length_append], (AH.get_new (h.upd b none) _ h.next).trans ((if_pos rfl).trans (by simp)), h0l.1⟩⟩, Nat.le_succ _, ?_, fun c e => .inr (by cases e; exact Nat.le_refl _)⟩
    · rw [AH.get_new, if_neg (show ¬ c = (h.upd b none).next by show ¬ c = h.next; have := h0l.1; omega), AH.get_kill, if_neg (by omega)]
      exact h0l.2 c hc
    · intro c hc hne
      rw [AH.get_new, if_neg (show ¬ c = (h.upd b none).next by show ¬ c = h.next; omega), AH.get_kill, if_neg (fun e => hne (by rw [e]; rfl))]
theorem Stk.appendR (H : Stk h0 es enc h v xs) (c : Option Nat) (ys : List α) (bytes : Nat) (hb : (xs.length + ys.length) * bytes ≤ 2 ^ 47) (hb2 : xs.length + ys.length ≤ 2 ^ 47) :
    ∃ v' h', appendA es bytes v (.fs c (ys.map enc)) h = some (v', h') ∧ Stk h0 es enc h' v' (xs ++ ys) ∧ h.next ≤ h'.next ∧ (∀ c, c < h.next → blk v ≠ some c → h'.get c = h.get c) ∧ (∀ c, blk v' = some c → blk v = some c ∨ h.next ≤ c) :=
  H.append (srcA_fs H.ok c ys h) bytes hb hb2
theorem Stk.append1 (H : Stk h0 es enc h v xs) (c : Option Nat) (x : α) (cs : List AV) (hcs : cs = enc x) (bytes : Nat) (hb : (xs.length + 1) * bytes ≤ 2 ^ 47) (hb2 : xs.length + 1 ≤ 2 ^ 47) :
    ∃ v' h', appendA es bytes v (.fs c [cs]) h = some (v', h') ∧ Stk h0 es enc h' v' (xs ++ [x]) ∧ h.next ≤ h'.next ∧ (∀ c, c < h.next → blk v ≠ some c → h'.get c = h.get c) ∧ (∀ c, blk v' = some c → blk v = some c ∨ h.next ≤ c) := by
  subst hcs
  exact H.appendR c [x] bytes (by simpa using hb) (by simpa using hb2)
/-- Frozen, it is the rows. -/
theorem Stk.frz (H : Stk h0 es enc h v xs) (E : EncF es enc) (d : Nat) : frzV h0.next h (d + 2) v = some (.fs none (xs.map enc)) := by
  rcases H.at_ with ⟨rfl, rfl | rfl⟩ | ⟨b, l, rfl, hg, hn⟩
  · rfl
  · rfl
  · show (if h0.next ≤ b then _ else _) = _
    rw [if_pos hn]
    have hl := H.ok.flen xs
    have hr : h.readO b 0 (xs.length * es) = some (xs.flatMap enc) := by
      unfold AH.readO
      rw [hg]
      simp only
      rw [if_pos (by rw [List.length_append]; omega), List.drop_zero, List.take_append_of_le_length (by omega), List.take_of_length_le (by omega)]
    rw [hr]
    simp only
    rw [E.ffz]
    simp only
    rw [H.ok.chunk]
theorem Stk.frzD (H : Stk h0 es enc h v xs) (E : EncF es enc) : frzV h0.next h DF v = some (.fs none (xs.map enc)) := H.frz E 18
end
theorem mapO_flat2 {α β : Type} {enc : α → List AV} {enc2 : β → List AV} {g : α → β} {lo : Nat} {h : AH} {d : Nat} (E2 : ∀ x, mapO (frzV lo h d) (enc x) = some (enc2 (g x))) : ∀ xs : List α, mapO (frzV lo h d) (xs.flatMap enc) = some ((xs.map g).flatMap enc2)
  | [] => rfl
  | x :: xs => by rw [List.flatMap_cons, List.map_cons, List.flatMap_cons]; exact mapO_append (E2 x) (mapO_flat2 E2 xs)
/-- Frozen, it is other rows: each element's frozen cells. -/
theorem Stk.frz2 {α β : Type} {es : Nat} {enc : α → List AV} {enc2 : β → List AV} {g : α → β} {h0 h : AH} {v : AV} {xs : List α} (H : Stk h0 es enc h v xs) (E : EncOk es enc2) (d : Nat) (E2 : ∀ x, mapO (frzV h0.next h (d + 1)) (enc x) = some (enc2 (g x))) : frzV h0.next h (d + 2) v = some (.fs none ((xs.map g).map enc2)) := by
  rcases H.at_ with ⟨rfl, rfl | rfl⟩ | ⟨b, l, rfl, hg, hn⟩
  · rfl
  · rfl
  · show (if h0.next ≤ b then _ else _) = _
    rw [if_pos hn]
    have hl := H.ok.flen xs
    have hr : h.readO b 0 (xs.length * es) = some (xs.flatMap enc) := by
      unfold AH.readO
      rw [hg]
      simp only
      rw [if_pos (by rw [List.length_append]; omega), List.drop_zero, List.take_append_of_le_length (by omega), List.take_of_length_le (by omega)]
    rw [hr]
    simp only
    rw [mapO_flat2 E2]
    simp only
    have := E.chunk (xs.map g)
    rw [List.length_map] at this
    rw [this]
/-- Where what is appended to lies. -/
theorem appendA_blk {es bytes : Nat} {v y v' : AV} {h h' : AH} (e : appendA es bytes v y h = some (v', h')) : ∀ c, blk v' = some c → blk v = some c ∨ h.next ≤ c := by
  intro c hc
  unfold appendA at e
  repeat' split at e
  all_goals first
    | (cases e; done)
    | (cases e; first | exact .inl hc | (cases hc; exact .inr (Nat.le_refl _)) | cases hc)
/-! ### a block of one's own, by its address -/
theorem ldA {h : AH} {b : Nat} {own : Bool} {l : List AV} (e : h.get b = some (.cells own l)) (o n : Nat) (ho : o + n ≤ l.length) : loadA true n (.ptr b o) h = some (.agg ((l.drop o).take n), h) := by
  simp [loadA, rdA, AH.read, e, ho]
theorem ld1 {h : AH} {b : Nat} {own : Bool} {l : List AV} (e : h.get b = some (.cells own l)) (o : Nat) {x : AV} (hx : l[o]? = some x) : loadA false 1 (.ptr b o) h = some (x, h) := by
  have ho : o < l.length := (List.getElem?_eq_some_iff.1 hx).1
  have hx' := (List.getElem?_eq_some_iff.1 hx).2
  have e2 : (l.drop o).take 1 = [x] := by rw [List.drop_eq_getElem_cons ho, List.take_succ_cons, List.take_zero, hx']
  simp only [loadA, rdA, AH.read, e]
  rw [if_pos (by omega), e2]
  rfl
theorem st1 {h : AH} {b : Nat} {l : List AV} (e : h.get b = some (.cells true l)) (o : Nat) (x : AV) (hx : x.one = true) (ho : o < l.length) : storeA 1 (.ptr b o) x h = some (.tup [], h.upd b (some (.cells true (l.set o x)))) := by
  have hc : x.cells = [x] := by cases x <;> first | rfl | cases hx
  simp only [storeA, AH.write, e, hc, List.length_singleton, if_true, List.all_cons, List.all_nil, hx, Bool.and_true, setAll]
  rw [if_pos (decide_eq_true (by omega))]
theorem stN {h : AH} {b : Nat} {l : List AV} (e : h.get b = some (.cells true l)) (o n : Nat) (x : AV) (hn : x.cells.length = n) (hx : x.cells.all AV.one = true) (ho : o + n ≤ l.length) : storeA n (.ptr b o) x h = some (.tup [], h.upd b (some (.cells true (setAll l o x.cells)))) := by
  subst hn
  simp only [storeA, if_true, AH.write, e]
  rw [hx, Bool.and_true, if_pos (decide_eq_true ho)]
/-- A call that answers rows of its own, told frozen. -/
theorem own_frzO {α : Type} {es : Nat} {enc : α → List AV} {ap : FuncId → Option AFunc} {f : FuncId} {args : List AV} {h : AH} {xs : List α} (E : EncF es enc)
    (H : ∀ R : AV → AH → Prop, (∀ h' v, Own h es enc h' v xs → R v h') → ACalls ap noE f args h R) {R : AV → AH → Prop} : acallM (ACalls ap noE) .frz f args h R ↔ R (.fs none (xs.map enc)) h := by
  refine acallM_det ?_
  exact H _ fun h' v O => ⟨O.le, _, O.frzD E, rfl, rfl⟩
theorem stk_frzO {α : Type} {es : Nat} {enc : α → List AV} {ap : FuncId → Option AFunc} {f : FuncId} {args : List AV} {h : AH} {xs : List α} (E : EncF es enc)
    (H : ∀ R : AV → AH → Prop, (∀ h' v, Stk h es enc h' v xs → R v h') → ACalls ap noE f args h R) {R : AV → AH → Prop} : acallM (ACalls ap noE) .frz f args h R ↔ R (.fs none (xs.map enc)) h := by
  refine acallM_det ?_
  exact H _ fun h' v O => ⟨O.le, _, O.frzD E, rfl, rfl⟩
theorem appendF0 {α : Type} {es : Nat} {enc : α → List AV} (E : EncOk es enc) (bytes : Nat) (xs : List α) (hb : xs.length ≤ 1048576) (hby : bytes ≤ 1048576) (h : AH) : appendFA es bytes (.fs (some 0) []) (.fs none (xs.map enc)) h = some (.fs none (xs.map enc), h) := by
  have hbl : xs.length * bytes ≤ 1048576 * 1048576 := Nat.mul_le_mul hb hby
  unfold appendFA
  by_cases e : xs.length = 0
  · have : xs = [] := List.eq_nil_of_length_eq_zero e
    subst this
    rfl
  · simp only [List.length_map, e, if_false, List.length_nil, Nat.zero_add, List.nil_append]
    rw [if_pos ⟨by omega, by omega, by omega, rfl, E.rows xs⟩]
/-- The room is not less than what is in it. -/
def CapOk (c : Option Nat) (n : Nat) : Prop := ∀ k, c = some k → n ≤ k
theorem fs_slice {α : Type} {es : Nat} {enc : α → List AV} (E : EncOk es enc) (c : Option Nat) (xs : List α) (hc : CapOk c xs.length) (h : AH) (k k' : IntKind) (lo hi : Int) (h0 : 0 ≤ lo) (h1 : lo ≤ hi) (hj : hi ≤ xs.length) :
    sliceA es (.fs c (xs.map enc)) (some (.int k lo)) (some (.int k' hi)) none h = some (.fs (c.map (· - lo.toNat)) (((xs.drop lo.toNat).take (hi.toNat - lo.toNat)).map enc), h) := by
  have e1 : bound (some (.int k' hi)) xs.length (c.getD xs.length) = some hi.toNat := by
    have : xs.length ≤ c.getD xs.length := by
      cases c with
      | none => exact Nat.le_refl _
      | some q => exact hc q rfl
    simp only [bound]; rw [if_pos]; omega
  have e2 : bound (some (.int k lo)) 0 hi.toNat = some lo.toNat := by simp only [bound]; rw [if_pos]; omega
  simp only [sliceA, List.length_map, e1, e2, E.rows]
  rw [if_neg (by omega)]
  simp [List.map_drop, List.map_take]
theorem CapOk.sub {c : Option Nat} {n : Nat} (hc : CapOk c n) (lo m : Nat) (hm : lo + m ≤ n) : CapOk (c.map (· - lo)) m := by
  intro k e
  cases c with
  | none => cases e
  | some q => simp at e; subst e; have := hc q rfl; omega
theorem CapOk.none (n : Nat) : CapOk none n := fun k e => by cases e
end Go.Bm
