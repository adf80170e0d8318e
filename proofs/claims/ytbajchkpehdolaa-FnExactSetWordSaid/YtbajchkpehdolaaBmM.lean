/- Data in the abstract machine: frozen rows, rows of one's own. -/
import Derived.Test.YtbajchkpehdolaaBmN
namespace Go.Bm
set_option linter.all false
open Go Go.RowKit
set_option linter.unusedVariables false
set_option linter.unusedSimpArgs false

/-! ### memory that grows -/
theorem AH.le_refl (h : AH) : h.le h := ⟨Nat.le_refl _, fun _ _ => rfl⟩
theorem AH.le_trans {a b c : AH} (x : a.le b) (y : b.le c) : a.le c := ⟨Nat.le_trans x.1 y.1, fun k hk => (y.2 k (Nat.lt_of_lt_of_le hk x.1)).trans (x.2 k hk)⟩
theorem AH.le_of_get {h h' : AH} (hle : h.le h') {b : Nat} {x : AB} (e : h.get b = some x) : h'.get b = some x := (hle.2 b (AH.get_lt e)).trans e
theorem AH.read_of_get {h h' : AH} {b : Nat} (e : h'.get b = h.get b) (o n : Nat) : h'.read b o n = h.read b o n := by unfold AH.read; rw [e]
theorem AH.read_lt {h : AH} {b o n : Nat} {l : List AV} (e : h.read b o n = some l) : b < h.next := by
  unfold AH.read at e
  split at e
  · rename_i he; exact AH.get_lt he
  · cases e
theorem AH.le_read {h h' : AH} (hle : h.le h') {b o n : Nat} {l : List AV} (e : h.read b o n = some l) : h'.read b o n = some l :=
  (AH.read_of_get (hle.2 b (AH.read_lt e)) o n).trans e


theorem AH.le_new_of {h0 h : AH} (hle : h0.le h) (x : AB) : h0.le (h.new x) := AH.le_trans hle (AH.le_new h x)

/-! ### rows -/
/-- A datum's cells: as many as it takes, each fits one. -/
structure EncOk {α : Type} (es : Nat) (enc : α → List AV) : Prop where
  len : ∀ x, (enc x).length = es
  one : ∀ x, (enc x).all AV.one = true
/-- And none leads to a block. -/
structure EncF {α : Type} (es : Nat) (enc : α → List AV) : Prop extends EncOk es enc where
  fz : ∀ x lo h d, mapO (frzV lo h (d + 1)) (enc x) = some (enc x)

def nth {α : Type} [Inhabited α] (xs : List α) (i : Nat) : α := xs.getD i default
theorem nth_eq {α : Type} [Inhabited α] {xs : List α} {i : Nat} (h : i < xs.length) : nth xs i = xs[i] := by simp [nth, h]
theorem nth_cons_zero {α : Type} [Inhabited α] (x : α) (xs : List α) : nth (x :: xs) 0 = x := (rfl)
theorem nth_cons_succ {α : Type} [Inhabited α] (x : α) (xs : List α) (i : Nat) : nth (x :: xs) (i + 1) = nth xs i := by simp [nth]
theorem drop_eq {α : Type} [Inhabited α] {xs : List α} {i : Nat} (h : i < xs.length) : xs.drop i = nth xs i :: xs.drop (i + 1) := by
  rw [nth_eq h]; exact List.drop_eq_getElem_cons h
theorem take_succ {α : Type} [Inhabited α] {xs : List α} {i : Nat} (h : i < xs.length) : xs.take (i + 1) = xs.take i ++ [nth xs i] := by
  rw [nth_eq h]; exact List.take_succ_eq_append_getElem h

theorem nth_map {α β : Type} [Inhabited α] [Inhabited β] (f : α → β) {xs : List α} {i : Nat} (h : i < xs.length) : nth (xs.map f) i = f (nth xs i) := by
  rw [nth_eq (by simpa using h), nth_eq h]; simp

section
variable {α : Type} {es : Nat} {enc : α → List AV}

theorem EncOk.flen (E : EncOk es enc) (xs : List α) : (xs.flatMap enc).length = xs.length * es := by
  induction xs with
  | nil => simp
  | cons x xs ih => simp [List.flatMap_cons, E.len, ih, Nat.succ_mul, Nat.add_comm]
theorem EncOk.fone (E : EncOk es enc) (xs : List α) : (xs.flatMap enc).all AV.one = true := by
  induction xs with
  | nil => rfl
  | cons x xs ih => simp only [List.flatMap_cons, List.all_append, E.one, ih, Bool.and_self]
theorem EncOk.fdrop (E : EncOk es enc) : ∀ (xs : List α) (i : Nat), (xs.flatMap enc).drop (i * es) = (xs.drop i).flatMap enc
  | [], i => by simp
  | x :: xs, 0 => by simp
  | x :: xs, i + 1 => by
    rw [List.flatMap_cons, List.drop_append, E.len, List.drop_of_length_le (by rw [E.len, Nat.succ_mul]; omega), List.nil_append, List.drop_succ_cons, ← EncOk.fdrop E xs i]
    congr 1
    rw [Nat.succ_mul]; omega
theorem EncOk.ftake (E : EncOk es enc) : ∀ (xs : List α) (i : Nat), (xs.flatMap enc).take (i * es) = (xs.take i).flatMap enc
  | [], i => by simp
  | x :: xs, 0 => by simp
  | x :: xs, i + 1 => by
    rw [List.flatMap_cons, List.take_append, E.len, List.take_of_length_le (by rw [E.len, Nat.succ_mul]; omega), List.take_succ_cons, List.flatMap_cons, ← EncOk.ftake E xs i]
    congr 2
    rw [Nat.succ_mul]; omega
theorem EncOk.fnth [Inhabited α] (E : EncOk es enc) {xs : List α} {i : Nat} (h : i < xs.length) (off n : Nat) (hn : off + n ≤ es) :
    ((xs.flatMap enc).drop (i * es + off)).take n = ((enc (nth xs i)).drop off).take n := by
  rw [← List.drop_drop, E.fdrop, drop_eq h, List.flatMap_cons, List.drop_append_of_le_length (by rw [E.len]; omega), List.take_append_of_le_length (by rw [List.length_drop, E.len]; omega)]

theorem EncOk.rows (E : EncOk es enc) (xs : List α) : (xs.map enc).all (fun r => r.length == es) = true := by
  rw [List.all_eq_true]; intro r hr
  obtain ⟨x, _, rfl⟩ := List.mem_map.1 hr
  simp [E.len]
theorem EncOk.flat (xs : List α) : (xs.map enc).flatten = xs.flatMap enc := by rw [List.flatMap_def]
theorem EncOk.chunk (E : EncOk es enc) (xs : List α) : chunk es xs.length (xs.flatMap enc) = xs.map enc := by
  have := chunk_rows (es := es) (l := xs.map enc) (fun r hr => by obtain ⟨x, _, rfl⟩ := List.mem_map.1 hr; exact E.len x)
  rw [List.length_map, EncOk.flat] at this
  exact this
theorem EncF.ffz (E : EncF es enc) (lo : Nat) (h : AH) (d : Nat) : ∀ (xs : List α), mapO (frzV lo h (d + 1)) (xs.flatMap enc) = some (xs.flatMap enc)
  | [] => rfl
  | x :: xs => by rw [List.flatMap_cons]; exact mapO_append (E.fz x lo h d) (EncF.ffz E lo h d xs)

/-! ### frozen rows are read -/
theorem EncOk.iaddr [Inhabited α] (E : EncOk es enc) (hes : 0 < es) (c : Option Nat) (xs : List α) (k : IntKind) (j : Int) (h : AH) (h0 : 0 ≤ j) (h1 : j < xs.length) : iaddrA es (.fs c (xs.map enc)) (.int k j) h = some (.fp (enc (nth xs j.toNat)) 0, h) := by
  have hj : j.toNat < xs.length := by omega
  simp only [iaddrA, h0, if_true, List.getElem?_map, List.getElem?_eq_getElem hj, Option.map_some, E.len, hes, and_self]
  rw [nth_eq hj]
theorem EncOk.load (E : EncOk es enc) (x : α) (h : AH) : loadA true es (.fp (enc x) 0) h = some (.agg (enc x), h) := by
  simp only [loadA, rdA, E.len, Nat.zero_add, Nat.le_refl, if_true, List.drop_zero]
  rw [List.take_of_length_le (by rw [E.len]; exact Nat.le_refl _)]
theorem loadA_fp (agg : Bool) (n : Nat) (c : List AV) (o : Nat) (h : AH) : loadA agg n (.fp c o) h = (match (if o + n ≤ c.length then some ((c.drop o).take n) else none) with
  | some l => if agg then some (.agg l, h) else match l with
    | [x] => some (x, h)
    | _ => none
  | none => none) := (rfl)
/-- Cut from lo to hi. -/
theorem EncOk.slice (E : EncOk es enc) (xs : List α) (h : AH) (k k' : IntKind) (lo hi : Int) (h0 : 0 ≤ lo) (h1 : lo ≤ hi) (hj : hi ≤ xs.length) :
    sliceA es (.fs none (xs.map enc)) (some (.int k lo)) (some (.int k' hi)) none h = some (.fs none (((xs.drop lo.toNat).take (hi.toNat - lo.toNat)).map enc), h) := by
  have e1 : bound (some (.int k' hi)) xs.length xs.length = some hi.toNat := by simp only [bound]; rw [if_pos]; omega
  have e2 : bound (some (.int k lo)) 0 hi.toNat = some lo.toNat := by simp only [bound]; rw [if_pos]; omega
  simp only [sliceA, List.length_map, Option.getD_none, e1, e2, E.rows]
  rw [if_neg (by omega)]
  simp [List.map_drop, List.map_take]
/-- Cut from lo on. -/
theorem EncOk.sliceLo (E : EncOk es enc) (xs : List α) (h : AH) (k : IntKind) (lo : Int) (h0 : 0 ≤ lo) (hj : lo ≤ xs.length) :
    sliceA es (.fs none (xs.map enc)) (some (.int k lo)) none none h = some (.fs none ((xs.drop lo.toNat).map enc), h) := by
  have e2 : bound (some (.int k lo)) 0 xs.length = some lo.toNat := by simp only [bound]; rw [if_pos]; omega
  simp only [sliceA, List.length_map, Option.getD_none, show bound none xs.length xs.length = some xs.length from rfl, e2, E.rows, Nat.lt_irrefl, if_false, if_true]
  simp [List.map_drop, List.map_take]
  exact List.take_of_length_le (by simp)
/-- Cut up to hi. -/
theorem EncOk.sliceHi (E : EncOk es enc) (xs : List α) (h : AH) (k : IntKind) (hi : Int) (h0 : 0 ≤ hi) (hj : hi ≤ xs.length) :
    sliceA es (.fs none (xs.map enc)) none (some (.int k hi)) none h = some (.fs none ((xs.take hi.toNat).map enc), h) := by
  have e1 : bound (some (.int k hi)) xs.length xs.length = some hi.toNat := by simp only [bound]; rw [if_pos]; omega
  simp only [sliceA, List.length_map, Option.getD_none, e1, show bound none 0 hi.toNat = some 0 from rfl, E.rows]
  rw [if_neg (by omega)]
  simp [List.map_take]
/-- The empty slice with no room: s[:0:0]. -/
theorem EncOk.slice00 (E : EncOk es enc) (xs : List α) (h : AH) (k k' : IntKind) : sliceA es (.fs none (xs.map enc)) none (some (.int k 0)) (some (.int k' 0)) h = some (.fs (some 0) [], h) := by
  have e1 : bound (some (.int k' 0)) 0 xs.length = some 0 := by simp only [bound]; rw [if_pos]; rfl; omega
  simp only [sliceA, List.length_map, e1, Option.map_some, Option.getD_some, show bound (some (.int k 0)) xs.length 0 = some 0 from rfl, show bound none 0 0 = some 0 from rfl, E.rows]
  simp
theorem srcA_fs (E : EncOk es enc) (c : Option Nat) (xs : List α) (h : AH) : srcA h es (.fs c (xs.map enc)) = some (xs.length, xs.flatMap enc) := by
  simp only [srcA, E.rows, if_true, List.length_map, EncOk.flat]

/-! ### rows of one's own -/
def sb : AV → Nat
  | .sl b _ _ _ _ => b
  | _ => 0
/-- the block that a slice lies in -/
def blk : AV → Option Nat
  | .sl b _ _ _ _ => some b
  | _ => none
/-- A slice of a block of its own, new since h0; nil, or an empty one, while nothing is in it. -/
structure Own (h0 : AH) (es : Nat) (enc : α → List AV) (h : AH) (v : AV) (xs : List α) : Prop where
  ok : EncOk es enc
  le : h0.le h
  at_ : (xs = [] ∧ (v = .nils ∨ v = .fs (some 0) [])) ∨ ∃ b c, v = .sl b 0 es xs.length c ∧ h.get b = some (.cells true (xs.flatMap enc)) ∧ (c = none ∨ c = some xs.length) ∧ h0.next ≤ b

variable {h0 h h' : AH} {v : AV} {xs : List α}
theorem Own.nils (E : EncOk es enc) (hle : h0.le h) : Own h0 es enc h .nils [] := ⟨E, hle, .inl ⟨rfl, .inl rfl⟩⟩
theorem Own.lit0 (E : EncOk es enc) (hle : h0.le h) : Own h0 es enc h (.fs (some 0) []) [] := ⟨E, hle, .inl ⟨rfl, .inr rfl⟩⟩
theorem Own.weaken {h1 : AH} (H : Own h1 es enc h v xs) (hle : h0.le h1) : Own h0 es enc h v xs := ⟨H.ok, AH.le_trans hle H.le, H.at_.imp id fun ⟨b, c, e, g, hc, hb⟩ => ⟨b, c, e, g, hc, Nat.le_trans hle.1 hb⟩⟩
theorem Own.frame (H : Own h0 es enc h v xs) (hle : h0.le h') (e : ∀ b, blk v = some b → h'.get b = h.get b) : Own h0 es enc h' v xs :=
  ⟨H.ok, hle, H.at_.imp id fun ⟨b, c, e1, g, hc, hb⟩ => ⟨b, c, e1, (e b (by rw [e1]; rfl)).trans g, hc, hb⟩⟩
theorem Own.lt (H : Own h0 es enc h v xs) {b : Nat} (hb : blk v = some b) : b < h.next := by
  rcases H.at_ with ⟨_, rfl | rfl⟩ | ⟨b', c, rfl, hg, _⟩
  · cases hb
  · cases hb
  · cases hb; exact AH.get_lt hg
theorem Own.new (H : Own h0 es enc h v xs) {b : Nat} (hb : blk v = some b) : h0.next ≤ b := by
  rcases H.at_ with ⟨_, rfl | rfl⟩ | ⟨b', c, rfl, _, _, hn⟩
  · cases hb
  · cases hb
  · cases hb; exact hn
theorem Own.grow (H : Own h0 es enc h v xs) (hle : h.le h') : Own h0 es enc h' v xs := H.frame (AH.le_trans H.le hle) fun b hb => hle.2 b (H.lt hb)
theorem Own.len (H : Own h0 es enc h v xs) (h2 : AH) : lenA false v h2 = some (.int .i64 xs.length, h2) := by
  rcases H.at_ with ⟨rfl, rfl | rfl⟩ | ⟨b, c, rfl, _⟩ <;> rfl
/-- the address of an element's part -/
def elt (es : Nat) (v : AV) (i off : Nat) : AV := .ptr (sb v) (i * es + off)
theorem faddrA_elt (es : Nat) (v : AV) (i off o : Nat) (h : AH) : faddrA o (elt es v i off) h = some (elt es v i (off + o), h) := by simp [faddrA, elt, Nat.add_assoc]
theorem Own.iaddr (H : Own h0 es enc h v xs) (h2 : AH) (k : IntKind) (j : Int) (j0 : 0 ≤ j) (j1 : j < xs.length) : iaddrA es v (.int k j) h2 = some (elt es v j.toNat 0, h2) := by
  rcases H.at_ with ⟨rfl, _⟩ | ⟨b, c, rfl, _⟩
  · simp at j1; omega
  · simp [iaddrA, elt, sb, j0, j1]
theorem Own.get (H : Own h0 es enc h v xs) (hx : 0 < xs.length) : h.get (sb v) = some (.cells true (xs.flatMap enc)) := by
  rcases H.at_ with ⟨rfl, _⟩ | ⟨b, c, rfl, g, _⟩
  · simp at hx
  · exact g
theorem Own.read [Inhabited α] (H : Own h0 es enc h v xs) (i off n : Nat) (hi : i < xs.length) (hn : off + n ≤ es) : h.read (sb v) (i * es + off) n = some (((enc (nth xs i)).drop off).take n) := by
  have hm : (i + 1) * es ≤ xs.length * es := Nat.mul_le_mul_right _ hi
  rw [Nat.succ_mul] at hm
  unfold AH.read
  rw [H.get (by omega)]
  simp only
  rw [if_pos (by rw [H.ok.flen]; omega), H.ok.fnth hi off n hn]
theorem Own.load [Inhabited α] (H : Own h0 es enc h v xs) (i : Nat) (hi : i < xs.length) : loadA true es (elt es v i 0) h = some (.agg (enc (nth xs i)), h) := by
  simp only [loadA, elt, rdA, H.read i 0 es hi (by omega), if_true, List.drop_zero]
  rw [List.take_of_length_le (by rw [H.ok.len]; exact Nat.le_refl _)]
theorem Own.loadp [Inhabited α] (H : Own h0 es enc h v xs) (i off n : Nat) (hi : i < xs.length) (hn : off + n ≤ es) : loadA true n (elt es v i off) h = some (.agg (((enc (nth xs i)).drop off).take n), h) := by
  simp only [loadA, elt, rdA, H.read i off n hi hn, if_true]
theorem Own.load1 [Inhabited α] (H : Own h0 es enc h v xs) (i off : Nat) (hi : i < xs.length) (hn : off < es) : loadA false 1 (elt es v i off) h = some ((enc (nth xs i)).getD off .any, h) := by
  simp only [loadA, elt, rdA, H.read i off 1 hi hn]
  have : off < (enc (nth xs i)).length := by rw [H.ok.len]; exact hn
  have e : ((enc (nth xs i)).drop off).take 1 = [(enc (nth xs i))[off]] := by rw [List.drop_eq_getElem_cons this, List.take_succ_cons, List.take_zero]
  rw [e]
  simp [this]

theorem setAll_mid {β : Type} : ∀ (xs pre old post : List β), xs.length = old.length → setAll (pre ++ old ++ post) pre.length xs = pre ++ xs ++ post
  | [], pre, old, post, h => by cases old with
    | nil => rfl
    | cons y ys => cases h
  | x :: xs, pre, [], post, h => by cases h
  | x :: xs, pre, y :: ys, post, h => by
    have e : (pre ++ y :: ys ++ post).set pre.length x = (pre ++ [x]) ++ ys ++ post := by
      simp [List.append_assoc]
    show setAll ((pre ++ y :: ys ++ post).set pre.length x) (pre.length + 1) xs = _
    rw [e, show pre.length + 1 = (pre ++ [x]).length by simp, setAll_mid xs (pre ++ [x]) ys post (by simpa using h)]
    simp
theorem setAll_length2 {β : Type} : ∀ (xs l : List β) (o : Nat), (setAll l o xs).length = l.length
  | [], l, o => rfl
  | x :: xs, l, o => by rw [setAll, setAll_length2]; simp

theorem setAll_eq {β : Type} (xs l : List β) (o : Nat) (h : o + xs.length ≤ l.length) : setAll l o xs = l.take o ++ xs ++ l.drop (o + xs.length) := by
  have e : l = l.take o ++ (l.drop o).take xs.length ++ l.drop (o + xs.length) := by
    rw [List.append_assoc, ← List.drop_drop, List.take_append_drop, List.take_append_drop]
  have hl : (l.take o).length = o := by rw [List.length_take]; omega
  have := setAll_mid xs (l.take o) ((l.drop o).take xs.length) (l.drop (o + xs.length)) (by rw [List.length_take, List.length_drop]; omega)
  rw [← e, hl] at this
  exact this

theorem EncOk.fset [Inhabited α] (E : EncOk es enc) {xs : List α} {i : Nat} (hi : i < xs.length) (off : Nat) (cs : List AV) (hc : off + cs.length ≤ es) {y : α} (hy : setAll (enc (nth xs i)) off cs = enc y) :
    setAll (xs.flatMap enc) (i * es + off) cs = (xs.set i y).flatMap enc := by
  have hm : (i + 1) * es ≤ xs.length * es := Nat.mul_le_mul_right _ hi
  rw [Nat.succ_mul] at hm
  rw [setAll_eq _ _ _ (by rw [E.flen]; omega)]
  rw [setAll_eq _ _ _ (by rw [E.len]; exact hc)] at hy
  have hset : xs.set i y = xs.take i ++ y :: xs.drop (i + 1) := List.set_eq_take_append_cons_drop.trans (by rw [if_pos hi])
  rw [hset, List.flatMap_append, List.flatMap_cons, ← hy, ← E.ftake, ← E.fdrop]
  have a1 : (xs.flatMap enc).take (i * es + off) = (xs.flatMap enc).take (i * es) ++ (enc (nth xs i)).take off := by
    rw [List.take_add, E.fdrop, drop_eq hi, List.flatMap_cons, List.take_append_of_le_length (by rw [E.len]; omega)]
  have a2 : (xs.flatMap enc).drop (i * es + off + cs.length) = (enc (nth xs i)).drop (off + cs.length) ++ (xs.flatMap enc).drop ((i + 1) * es) := by
    rw [Nat.add_assoc, ← List.drop_drop, E.fdrop, E.fdrop, drop_eq hi, List.flatMap_cons, List.drop_append_of_le_length (by rw [E.len]; omega)]
  rw [a1, a2]
  simp [List.append_assoc]

/-- The memory with other rows there. -/
def AH.setR (h : AH) (v : AV) (enc : α → List AV) (ys : List α) : AH := h.upd (sb v) (some (.cells true (ys.flatMap enc)))
theorem AH.next_setR (h : AH) (v : AV) (enc : α → List AV) (ys : List α) : (h.setR v enc ys).next = h.next := (rfl)
theorem AH.setR_setR (h : AH) (v : AV) (enc : α → List AV) (ys zs : List α) : (h.setR v enc ys).setR v enc zs = h.setR v enc zs := by
  unfold AH.setR AH.upd; congr 1; funext k; simp only; split <;> rfl
theorem AH.get_setR_ne (h : AH) (v : AV) (enc : α → List AV) (ys : List α) {c : Nat} (hc : sb v ≠ c) : (h.setR v enc ys).get c = h.get c := by
  have e : ¬ c = sb v := fun e => hc e.symm
  simp [AH.setR, AH.get, AH.upd, e]


theorem Own.store [Inhabited α] (H : Own h0 es enc h v xs) (i : Nat) (y : α) (off n : Nat) (x : AV) (hi : i < xs.length) (hn : x.cells.length = n) (hoff : off + n ≤ es) (h1 : x.cells.all AV.one = true) (hy : setAll (enc (nth xs i)) off x.cells = enc y) :
    storeA n (elt es v i off) x h = some (.tup [], h.setR v enc (xs.set i y)) := by
  have hg := H.get (by omega)
  have hm : (i + 1) * es ≤ xs.length * es := Nat.mul_le_mul_right _ hi
  rw [Nat.succ_mul] at hm
  simp only [storeA, elt, hn, if_true, AH.write, hg]
  rw [if_pos (by simp only [Bool.and_eq_true, decide_eq_true_eq]; exact ⟨by rw [H.ok.flen]; omega, h1⟩), H.ok.fset hi off _ (by omega) hy]
  rfl
theorem setAll_whole {β : Type} (xs l : List β) (h : xs.length = l.length) : setAll l 0 xs = xs := by
  rw [setAll_eq _ _ _ (by omega), List.take_zero, List.drop_of_length_le (by omega)]; simp
/-- A whole element is stored. -/
theorem Own.storeE [Inhabited α] (H : Own h0 es enc h v xs) (i : Nat) (y : α) (hi : i < xs.length) : storeA es (elt es v i 0) (.agg (enc y)) h = some (.tup [], h.setR v enc (xs.set i y)) :=
  H.store i y 0 es (.agg (enc y)) hi (H.ok.len y) (by omega) (H.ok.one y) (setAll_whole _ _ (by show (enc y).length = _; rw [H.ok.len, H.ok.len]))
/-- An element of one cell is stored. -/
theorem Own.store1 [Inhabited α] (H : Own h0 1 enc h v xs) (i : Nat) (y : α) (x : AV) (hx : x.one = true) (hy : enc y = [x]) (hi : i < xs.length) : storeA 1 (elt 1 v i 0) x h = some (.tup [], h.setR v enc (xs.set i y)) := by
  have hc : x.cells = [x] := by cases x <;> first | rfl | cases hx
  exact H.store i y 0 1 x hi (by rw [hc]; rfl) (by omega) (by rw [hc]; simp [hx]) (by rw [hc, ← hy]; exact setAll_whole _ _ (by rw [H.ok.len, H.ok.len]))
theorem set_nth [Inhabited α] {xs : List α} {i : Nat} (hi : i < xs.length) : xs.set i (nth xs i) = xs := by rw [nth_eq hi]; simp
theorem take_set [Inhabited α] {xs : List α} {i : Nat} (hi : i < xs.length) (y : α) : (xs.set i y).take (i + 1) = xs.take i ++ [y] := by
  rw [List.set_eq_take_append_cons_drop, if_pos hi, List.take_append, List.take_of_length_le (by rw [List.length_take]; omega)]
  have : i + 1 - (xs.take i).length = 1 := by rw [List.length_take]; omega
  rw [this]; simp
theorem Own.setR_le (H : Own h0 es enc h v xs) (hx : 0 < xs.length) (ys : List α) : h0.le (h.setR v enc ys) := by
  refine ⟨by rw [AH.next_setR]; exact H.le.1, fun c hc => ?_⟩
  rw [AH.get_setR_ne]
  · exact H.le.2 c hc
  · rcases H.at_ with ⟨rfl, _⟩ | ⟨b, c, rfl, _, _, hn⟩
    · simp at hx
    · simp only [sb]; omega
theorem Own.setR (H : Own h0 es enc h v xs) (hx : 0 < xs.length) {ys : List α} (hl : ys.length = xs.length) : Own h0 es enc (h.setR v enc ys) v ys := by
  refine ⟨H.ok, H.setR_le hx ys, ?_⟩
  rcases H.at_ with ⟨rfl, _⟩ | ⟨b, c, rfl, hg, hc, hn⟩
  · simp at hx
  · refine .inr ⟨b, c, by rw [hl], ?_, by rw [hl]; exact hc, hn⟩
    exact (AH.get_upd (AH.get_lt hg) _ _).trans (by simp [sb])
/-- What lies in another block is left. -/
theorem Own.setR_ne {β : Type} {es2 : Nat} {enc2 : β → List AV} {w : AV} {ws : List β} (H : Own h0 es2 enc2 h w ws) (v : AV) (hn : h0.next ≤ sb v) (hne : blk w ≠ some (sb v)) (ys : List α) : Own h0 es2 enc2 (h.setR v enc ys) w ws :=
  H.frame ⟨by rw [AH.next_setR]; exact H.le.1, fun c hc => by rw [AH.get_setR_ne _ _ _ _ (by omega)]; exact H.le.2 c hc⟩ fun b hb => AH.get_setR_ne _ _ _ _ (fun e => hne (e ▸ hb))

/-- Frozen, it is the rows. -/
theorem Own.frz (H : Own h0 es enc h v xs) (E : EncF es enc) (d : Nat) : frzV h0.next h (d + 2) v = some (.fs none (xs.map enc)) := by
  rcases H.at_ with ⟨rfl, rfl | rfl⟩ | ⟨b, c, rfl, hg, _, hn⟩
  · rfl
  · rfl
  · show (if h0.next ≤ b then _ else _) = _
    rw [if_pos hn]
    have hr : h.readO b 0 (xs.length * es) = some (xs.flatMap enc) := by
      unfold AH.readO
      rw [hg]
      simp only
      rw [if_pos (by rw [H.ok.flen]; omega), List.drop_zero, List.take_of_length_le (by rw [H.ok.flen]; exact Nat.le_refl _)]
    rw [hr]
    simp only
    rw [E.ffz]
    simp only
    rw [H.ok.chunk]

/-- What an append leaves. -/
theorem Own.append (H : Own h0 es enc h v xs) {y : AV} {ys : List α} (hy : srcA h es y = some (ys.length, ys.flatMap enc)) (bytes : Nat) (hb : (xs.length + ys.length) * bytes ≤ 2 ^ 47) (hb2 : xs.length + ys.length ≤ 2 ^ 47) :
    ∃ v' h', appendA es bytes v y h = some (v', h') ∧ Own h0 es enc h' v' (xs ++ ys) ∧ h.next ≤ h'.next ∧ (∀ c, c < h.next → blk v ≠ some c → h'.get c = h.get c) := by
  unfold appendA
  rw [hy]
  by_cases hm : ys = []
  · subst hm
    refine ⟨v, h, ?_, by simpa using H, Nat.le_refl _, fun _ _ _ => rfl⟩
    rcases H.at_ with ⟨rfl, rfl | rfl⟩ | ⟨b, c, rfl, _⟩ <;> simp
  have hm' : ¬ ys.length = 0 := fun e => hm (List.eq_nil_of_length_eq_zero e)
  have hm2 : 0 < ys.length := by omega
  rcases H.at_ with ⟨rfl, rfl | rfl⟩ | ⟨b, c, rfl, hg, hc, hn⟩
  · refine ⟨.sl h.next 0 es ys.length none, h.new (.cells true (ys.flatMap enc)), by simp only [hm', if_false]; rw [if_pos ⟨by simpa using hb, by simpa using hb2, H.ok.fone ys⟩], ⟨H.ok, AH.le_new_of H.le _, .inr ⟨_, _, rfl, by rw [AH.get_new, if_pos rfl]; simp, .inl rfl, H.le.1⟩⟩, Nat.le_succ _, ?_⟩
    intro c hc _
    rw [AH.get_new, if_neg (by omega)]
  · refine ⟨.sl h.next 0 es ys.length none, h.new (.cells true (ys.flatMap enc)), ?_, ⟨H.ok, AH.le_new_of H.le _, .inr ⟨_, _, rfl, by rw [AH.get_new, if_pos rfl]; simp, .inl rfl, H.le.1⟩⟩, Nat.le_succ _, ?_⟩
    · simp only [hm', if_false, List.length_nil, Nat.zero_add, List.flatten_nil, List.nil_append]
      rw [if_pos ⟨hm2, by simpa using hb, by simpa using hb2, H.ok.fone ys, rfl⟩]
    · intro c hc _
      rw [AH.get_new, if_neg (by omega)]
  · simp only [ne_eq, not_true, if_false, hm', hg]
    rw [if_pos ⟨by rw [H.ok.flen]; omega, hb, hb2, H.ok.fone ys⟩]
    have hcells : ((xs.flatMap enc).drop 0).take (xs.length * es) ++ ys.flatMap enc = (xs ++ ys).flatMap enc := by
      rw [List.drop_zero, List.take_of_length_le (by rw [H.ok.flen]; exact Nat.le_refl _), List.flatMap_append]
    rw [hcells]
    have hbl := AH.get_lt hg
    have h0l := H.le
    rcases hc with rfl | rfl
    · refine ⟨_, _, rfl, ⟨H.ok, ⟨Nat.le_trans h0l.1 (Nat.le_succ _), fun c hc => ?_⟩, .inr ⟨_, _, by rw [List.length_append], (AH.get_new (h.upd b none) _ h.next).trans (if_pos rfl), .inl rfl, h0l.1⟩⟩, Nat.le_succ _, ?_⟩
      · rw [AH.get_new, if_neg (show ¬ c = (h.upd b none).next by show ¬ c = h.next; have := h0l.1; omega), AH.get_kill, if_neg (by omega)]
        exact h0l.2 c hc
      · intro c hc hne
        rw [AH.get_new, if_neg (show ¬ c = (h.upd b none).next by show ¬ c = h.next; omega), AH.get_kill, if_neg (fun e => hne (by rw [e]; rfl))]
    · refine ⟨_, _, if_pos (show xs.length < xs.length + ys.length by omega), ⟨H.ok, AH.le_new_of h0l _, .inr ⟨_, _, by rw [List.length_append], by rw [AH.get_new, if_pos rfl], .inl rfl, h0l.1⟩⟩, Nat.le_succ _, ?_⟩
      intro c hc hne
      rw [AH.get_new, if_neg (by omega)]
/-- Frozen rows are appended. -/
theorem Own.appendR (H : Own h0 es enc h v xs) (c : Option Nat) (ys : List α) (bytes : Nat) (hb : (xs.length + ys.length) * bytes ≤ 2 ^ 47) (hb2 : xs.length + ys.length ≤ 2 ^ 47) :
    ∃ v' h', appendA es bytes v (.fs c (ys.map enc)) h = some (v', h') ∧ Own h0 es enc h' v' (xs ++ ys) ∧ h.next ≤ h'.next ∧ (∀ c, c < h.next → blk v ≠ some c → h'.get c = h.get c) :=
  H.append (srcA_fs H.ok c ys h) bytes hb hb2
/-- One element more. -/
theorem Own.append1 (H : Own h0 es enc h v xs) (c : Option Nat) (x : α) (cs : List AV) (hcs : cs = enc x) (bytes : Nat) (hb : (xs.length + 1) * bytes ≤ 2 ^ 47) (hb2 : xs.length + 1 ≤ 2 ^ 47) :
    ∃ v' h', appendA es bytes v (.fs c [cs]) h = some (v', h') ∧ Own h0 es enc h' v' (xs ++ [x]) ∧ h.next ≤ h'.next ∧ (∀ c, c < h.next → blk v ≠ some c → h'.get c = h.get c) := by
  subst hcs
  exact H.appendR c [x] bytes (by simpa using hb) (by simpa using hb2)

/-! ### literals -/
theorem rep_eq (z : α) (n : Nat) : rep n (enc z) = (List.replicate n z).flatMap enc := by
  induction n with
  | zero => rfl
  | succ n ih => rw [rep, ih, List.replicate_succ, List.flatMap_cons]
theorem bslice0 (es : Nat) (zero : List AV) (h : AH) : bsliceA 0 es zero [] h = some (.sl h.next 0 es 0 (some 0), h.new (.cells true [])) := by simp [bsliceA, rep, fillA]
theorem bsliceF0 (es : Nat) (zero : List AV) (h : AH) : bsliceFA 0 es zero [] h = some (.fs (some 0) [], h) := by simp [bsliceFA, rep, fillA, mapO, chunk]
theorem bsliceF1 (es : Nat) (zero : List AV) (x : AV) (h : AH) (hz : zero.length = es) (hx : x.cells.length = es) (h1 : x.cells.all AV.one = true) (hf : mapO nrm x.cells = some x.cells) :
    bsliceFA 1 es zero [(0, x)] h = some (.fs (some 1) [x.cells], h) := by
  have e : setAll zero 0 x.cells = x.cells := by
    rw [setAll_eq _ _ _ (by omega), List.take_zero, List.drop_of_length_le (by omega)]; simp
  simp [bsliceFA, rep, fillA, hx, h1, hz, e, hf, chunk]
  exact List.take_of_length_le (by omega)
theorem EncF.nrm (E : EncF es enc) (x : α) : mapO nrm (enc x) = some (enc x) := E.fz x 0 AH.nil 19
theorem EncF.bsliceF1 (E : EncF es enc) (zero : List AV) (hz : zero.length = es) (x : α) (h : AH) : bsliceFA 1 es zero [(0, .agg (enc x))] h = some (.fs (some 1) [enc x], h) :=
  Bm.bsliceF1 es zero (.agg (enc x)) h hz (E.len x) (E.one x) (E.nrm x)
theorem mslice_eq (es bytes : Nat) (zero : List AV) (k k' : IntKind) (n : Nat) (h : AH) (hz : zero.length = es) (h1 : zero.all AV.one = true) (hb : bytes * n ≤ 2 ^ 47) (hn : n ≤ 2 ^ 47) :
    msliceA es bytes zero (.int k n) (.int k' n) h = some (.sl h.next 0 es n (some n), h.new (.cells true (rep n zero))) := by
  show (if 0 ≤ (n : Int) ∧ (n : Int) = n ∧ (bytes : Int) * n ≤ 2 ^ 47 ∧ (n : Int) ≤ 2 ^ 47 ∧ zero.length = es ∧ zero.all AV.one = true then _ else _) = _
  rw [if_pos ⟨by omega, rfl, by exact_mod_cast hb, by exact_mod_cast hn, hz, h1⟩]
  simp
theorem Own.make {z : α} {zero : List AV} (E : EncOk es enc) (hle : h0.le h) (hz : zero = enc z) (n : Nat) : Own h0 es enc (h.new (.cells true (rep n zero))) (.sl h.next 0 es n (some n)) (List.replicate n z) := by
  subst hz
  rw [rep_eq]
  exact ⟨E, AH.le_new_of hle _, .inr ⟨h.next, some n, by rw [List.length_replicate], by rw [AH.get_new, if_pos rfl], .inr (by rw [List.length_replicate]), hle.1⟩⟩
/-- Rows that are nothing yet. -/
theorem Own.made {cs : List AV} (E : EncOk es enc) (hle : h0.le h) (hz : cs = xs.flatMap enc) {n : Nat} (hn : n = xs.length) : Own h0 es enc (h.new (.cells true cs)) (.sl h.next 0 es n (some n)) xs := by
  subst hz; subst hn
  exact ⟨E, AH.le_new_of hle _, .inr ⟨_, _, rfl, by rw [AH.get_new, if_pos rfl], .inr rfl, hle.1⟩⟩
end

/-- A loop, its invariant and measure; what follows a round is kept shut. -/
theorem awp_loop2 {C : AQ} (hC : C.Mono) {c : AC} {Q : AX → S → AH → Prop} (I : Nat → S → AH → Prop)
    (round : ∀ n s h, I n s h → ∀ K : AX → S → AH → Prop, (∀ m s' h', m < n → I m s' h' → K .normal s' h') → (∀ i, K (.exit i) = Q (.exit i)) → K .ret = Q .ret → awp C c K s h)
    {n : Nat} {s : S} {h : AH} (hI : I n s h) : awp C (.loop c) Q s h :=
  awp_loop hC I (fun n s h hi => round n s h hi _ (fun m s' h' hm hi' => ⟨m, hm, hi'⟩) (fun _ => rfl) rfl) hI

theorem wrap_i64 {n : Int} (h0 : -9223372036854775808 ≤ n) (h1 : n ≤ 9223372036854775807) : IntKind.wrap .i64 n = n := by
  simp [IntKind.wrap, IntKind.bits, IntKind.signed]
  omega
theorem wrap_u8 {n : Int} (h0 : 0 ≤ n) (h1 : n ≤ 255) : IntKind.wrap .u8 n = n := by
  simp [IntKind.wrap, IntKind.bits, IntKind.signed]
  omega
theorem tmod_nat (a b : Nat) : Int.tmod (a : Int) (b : Int) = ((a % b : Nat) : Int) := rfl
theorem tdiv_nat (a b : Nat) : Int.tdiv (a : Int) (b : Int) = ((a / b : Nat) : Int) := rfl
theorem tmod_pos {a b : Int} (h : 0 ≤ a) : Int.tmod a b = a % b := Int.tmod_eq_emod_of_nonneg h
theorem tdiv_pos {a b : Int} (h : 0 ≤ a) : Int.tdiv a b = a / b := Int.tdiv_eq_ediv_of_nonneg h
theorem binStr_add (a b : ByteArray) (h : a.size + b.size ≤ 9223372036854775807) : binStr .add a b = some (.str (a ++ b)) := by
  show (if ((a.size + b.size : Nat) : Int) > IntKind.i64.max then none else some (AV.str (a ++ b))) = _
  rw [if_neg]
  simp [IntKind.max, IntKind.signed, IntKind.bits]
  omega

theorem frz_agg (lo : Nat) (h : AH) (l : List AV) : frzV lo h DF (.agg l) = match mapO (frzV lo h 19) l with
  | some l' => some (.agg l')
  | none => none := rfl
theorem frz_tup (lo : Nat) (h : AH) (l : List AV) : frzV lo h DF (.tup l) = match mapO (frzV lo h 19) l with
  | some l' => some (.tup l')
  | none => none := rfl
theorem frz19_agg (lo : Nat) (h : AH) (l : List AV) : frzV lo h 19 (.agg l) = match mapO (frzV lo h 18) l with
  | some l' => some (.agg l')
  | none => none := rfl
theorem frzD_int (lo : Nat) (h : AH) (k : IntKind) (n : Int) : frzV lo h DF (.int k n) = some (.int k n) := rfl
theorem frzD_bool (lo : Nat) (h : AH) (b : Bool) : frzV lo h DF (.bool b) = some (.bool b) := rfl
theorem frzD_str (lo : Nat) (h : AH) (b : ByteArray) : frzV lo h DF (.str b) = some (.str b) := rfl
theorem frzD_fs (lo : Nat) (h : AH) (c : Option Nat) (l : List (List AV)) : frzV lo h DF (.fs c l) = some (.fs none l) := rfl
theorem frzD_nils (lo : Nat) (h : AH) : frzV lo h DF .nils = some (.fs none []) := rfl
theorem frz19_int (lo : Nat) (h : AH) (k : IntKind) (n : Int) : frzV lo h 19 (.int k n) = some (.int k n) := rfl
theorem frz19_bool (lo : Nat) (h : AH) (b : Bool) : frzV lo h 19 (.bool b) = some (.bool b) := rfl
theorem frz19_str (lo : Nat) (h : AH) (b : ByteArray) : frzV lo h 19 (.str b) = some (.str b) := rfl
theorem frz19_fs (lo : Nat) (h : AH) (c : Option Nat) (l : List (List AV)) : frzV lo h 19 (.fs c l) = some (.fs none l) := rfl
theorem frz19_nils (lo : Nat) (h : AH) : frzV lo h 19 .nils = some (.fs none []) := rfl
theorem frz18_int (lo : Nat) (h : AH) (k : IntKind) (n : Int) : frzV lo h 18 (.int k n) = some (.int k n) := rfl
theorem frz18_bool (lo : Nat) (h : AH) (b : Bool) : frzV lo h 18 (.bool b) = some (.bool b) := rfl
theorem frz18_str (lo : Nat) (h : AH) (b : ByteArray) : frzV lo h 18 (.str b) = some (.str b) := rfl
theorem frz18_fs (lo : Nat) (h : AH) (c : Option Nat) (l : List (List AV)) : frzV lo h 18 (.fs c l) = some (.fs none l) := rfl
theorem frz18_nils (lo : Nat) (h : AH) : frzV lo h 18 .nils = some (.fs none []) := rfl
theorem Own.frzD {α : Type} {es : Nat} {enc : α → List AV} {h0 h : AH} {v : AV} {xs : List α} (H : Own h0 es enc h v xs) (E : EncF es enc) : frzV h0.next h DF v = some (.fs none (xs.map enc)) := H.frz E 18
theorem Own.frz19 {α : Type} {es : Nat} {enc : α → List AV} {h0 h : AH} {v : AV} {xs : List α} (H : Own h0 es enc h v xs) (E : EncF es enc) : frzV h0.next h 19 v = some (.fs none (xs.map enc)) := H.frz E 17
theorem Own.frz18 {α : Type} {es : Nat} {enc : α → List AV} {h0 h : AH} {v : AV} {xs : List α} (H : Own h0 es enc h v xs) (E : EncF es enc) : frzV h0.next h 18 v = some (.fs none (xs.map enc)) := H.frz E 16
theorem scal_tup (l : List AV) : (AV.tup l).scal = scalL l := rfl
attribute [simp] binInt_quo binInt_rem eqnilR_nils eqnilR_sl eqnilR_fs eqnilR_amb eqnilR_nilp eqnilR_ptr eqnilR_fp eqnilR_nilm eqnilR_nilf eqnilR_fn
attribute [simp ↓] S.put_some S.put_none aops_nil aops_cons aops_guard fflow_nil fflow_soft fflow_hard fflow_gsoft fflow_ghard astep_call astep_callv fstep_call fstep_callv astep_bin fstep_bin astep_un fstep_un astep_mov fstep_mov astep_pick fstep_pick astep_len fstep_len astep_conv fstep_conv astep_laddr fstep_laddr astep_lload fstep_lload astep_lstore fstep_lstore astep_lbox fstep_lbox astep_eqs fstep_eqs astep_iaddr fstep_iaddr astep_faddr fstep_faddr astep_load fstep_load astep_store fstep_store astep_slice fstep_slice astep_append fstep_append astep_appendF fstep_appendF astep_mx fstep_mx astep_ext fstep_ext astep_movs fstep_movs astep_eqb fstep_eqb astep_eqnil fstep_eqnil astep_build fstep_build astep_bslice fstep_bslice astep_bsliceF fstep_bsliceF astep_mslice fstep_mslice astep_msliceF fstep_msliceF astep_b2s fstep_b2s astep_index fstep_index astep_slstr fstep_slstr astep_mkfn fstep_mkfn astep_nchk fstep_nchk astep_box fstep_box astep_alloc fstep_alloc astep_s2b fstep_s2b astep_s2bF fstep_s2bF astep_appendS fstep_appendS astep_mkmap fstep_mkmap astep_mget fstep_mget astep_mset fstep_mset astep_mlen fstep_mlen awp_skip awp_reg awp_regF awp_seq awp_cond awp_block awp_exit awp_ret then_normal then_exit then_ret inBlock_normal inBlock_ret inBlock_exit abody_eq endR_normal endR_ret
attribute [simp] mapO frz_agg frz_tup frz19_agg frzD_int frzD_bool frzD_str frzD_fs frzD_nils frz19_int frz19_bool frz19_str frz19_fs frz19_nils frz18_int frz18_bool frz18_str frz18_fs frz18_nils loadA_fp S.upd_get guardR_tup thenA_some thenX_some softC_is callvA_fn acallM_raw bin_int opt1_some lenA_str lenA_nils lenA_sl lenA_fs convA_int laddrA_agg init_cons ev_t ev_c pickA lloadA lstoreA lboxA eqsA faddrA extA movsA eqbA eqnilA buildA nchkA AV.cells AV.one AV.scal scalL setAll fillB un mxA aresult aress ares isNil bslice0 bsliceF0 AH.le_refl eqCells eqCell_bool eqCell_int eqCell_str pickv_bool pickv_true pickv_false binInt_add binInt_sub binInt_mul binInt_eql binInt_neq binInt_lss binInt_leq binInt_gtr binInt_geq bin_str binStr_eql binStr_neq condR_tt condR_ff guardR_tt guardR_ff tick_eq
end Go.Bm
