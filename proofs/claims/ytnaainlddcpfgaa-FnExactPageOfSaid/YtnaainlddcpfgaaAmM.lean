/- Rs of data in the abstract machine's memory. -/
import Derived.Test.YtnaainlddcpfgaaAmN
namespace Go.Am
set_option linter.all false
open Go Go.RowKit
set_option linter.unusedVariables false
set_option linter.unusedSimpArgs false

/-! ### memory that grows -/
theorem AH.le_refl (h : AH) : h.le h := ⟨Nat.le_refl _, fun _ _ => rfl⟩
theorem AH.le_trans {a b c : AH} (x : a.le b) (y : b.le c) : a.le c := ⟨Nat.le_trans x.1 y.1, fun k hk => (y.2 k (Nat.lt_of_lt_of_le hk x.1)).trans (x.2 k hk)⟩
theorem AH.le_new (h : AH) (x : AB) : h.le (h.new x) := ⟨Nat.le_succ _, fun b hb => by rw [AH.get_new, if_neg (by omega)]⟩
theorem AH.le_of_get {h h' : AH} (hle : h.le h') {b : Nat} {x : AB} (e : h.get b = some x) : h'.get b = some x := (hle.2 b (AH.get_lt e)).trans e
theorem AH.read_of_get {h h' : AH} {b : Nat} (e : h'.get b = h.get b) (o n : Nat) : h'.read b o n = h.read b o n := by unfold AH.read; rw [e]
theorem AH.read_lt {h : AH} {b o n : Nat} {l : List AV} (e : h.read b o n = some l) : b < h.next := by
  unfold AH.read at e
  split at e
  · rename_i he; exact AH.get_lt he
  · cases e
theorem AH.le_read {h h' : AH} (hle : h.le h') {b o n : Nat} {l : List AV} (e : h.read b o n = some l) : h'.read b o n = some l :=
  (AH.read_of_get (hle.2 b (AH.read_lt e)) o n).trans e

/-! ### rows -/
structure EncOk {α : Type} (es : Nat) (enc : α → List AV) : Prop where
  len : ∀ x, (enc x).length = es
  one : ∀ x, (enc x).all AV.one = true

def nth {α : Type} [Inhabited α] (xs : List α) (i : Nat) : α := xs.getD i default
theorem nth_eq {α : Type} [Inhabited α] {xs : List α} {i : Nat} (h : i < xs.length) : nth xs i = xs[i] := by simp [nth, h]
theorem nth_cons_zero {α : Type} [Inhabited α] (x : α) (xs : List α) : nth (x :: xs) 0 = x := (rfl)
theorem nth_cons_succ {α : Type} [Inhabited α] (x : α) (xs : List α) (i : Nat) : nth (x :: xs) (i + 1) = nth xs i := by simp [nth]
theorem drop_eq {α : Type} [Inhabited α] {xs : List α} {i : Nat} (h : i < xs.length) : xs.drop i = nth xs i :: xs.drop (i + 1) := by
  rw [nth_eq h]; exact List.drop_eq_getElem_cons h
theorem take_succ {α : Type} [Inhabited α] {xs : List α} {i : Nat} (h : i < xs.length) : xs.take (i + 1) = xs.take i ++ [nth xs i] := by
  rw [nth_eq h]; exact List.take_succ_eq_append_getElem h

section
variable {α : Type} {es : Nat} {enc : α → List AV}

theorem EncOk.flen (E : EncOk es enc) (xs : List α) : (xs.flatMap enc).length = xs.length * es := by
  induction xs with
  | nil => simp
  | cons x xs ih => simp [List.flatMap_cons, E.len, ih, Nat.succ_mul, Nat.add_comm]
theorem EncOk.fone (E : EncOk es enc) (xs : List α) : (xs.flatMap enc).all AV.one = true := by
  induction xs with
  | nil => rfl
  | cons x xs ih => simp only [List.flatMap_cons, List.all_append, E.one, ih, Bool.and_self]
theorem EncOk.fdrop (E : EncOk es enc) : ∀ (xs : List α) (i : Nat), (xs.flatMap enc).drop (i * es) = (xs.drop i).flatMap enc
  | [], i => by simp
  | x :: xs, 0 => by simp
  | x :: xs, i + 1 => by
    rw [List.flatMap_cons, List.drop_append, E.len, List.drop_of_length_le (by rw [E.len, Nat.succ_mul]; omega), List.nil_append, List.drop_succ_cons, ← EncOk.fdrop E xs i]
    congr 1
    rw [Nat.succ_mul]; omega
theorem EncOk.ftake (E : EncOk es enc) : ∀ (xs : List α) (i : Nat), (xs.flatMap enc).take (i * es) = (xs.take i).flatMap enc
  | [], i => by simp
  | x :: xs, 0 => by simp
  | x :: xs, i + 1 => by
    rw [List.flatMap_cons, List.take_append, E.len, List.take_of_length_le (by rw [E.len, Nat.succ_mul]; omega), List.take_succ_cons, List.flatMap_cons, ← EncOk.ftake E xs i]
    congr 2
    rw [Nat.succ_mul]; omega
theorem EncOk.fnth [Inhabited α] (E : EncOk es enc) {xs : List α} {i : Nat} (h : i < xs.length) (off n : Nat) (hn : off + n ≤ es) :
    ((xs.flatMap enc).drop (i * es + off)).take n = ((enc (nth xs i)).drop off).take n := by
  rw [← List.drop_drop, E.fdrop, drop_eq h, List.flatMap_cons, List.drop_append_of_le_length (by rw [E.len]; omega), List.take_append_of_le_length (by rw [List.length_drop, E.len]; omega)]

def sb : AV → Nat
  | .sl b _ _ _ _ => b
  | _ => 0
def so : AV → Nat
  | .sl _ o _ _ _ => o
  | _ => 0
/-- the block that a slice lies in -/
def blk : AV → Option Nat
  | .sl b _ _ _ _ => some b
  | _ => none
/-- the address of an element's part -/
def elt (es : Nat) (v : AV) (i off : Nat) : AV := .ptr (sb v) (so v + i * es + off)
theorem faddrA_elt (es : Nat) (v : AV) (i off o : Nat) (h : AH) : faddrA o (elt es v i off) h = some (elt es v i (off + o), h) := by simp [faddrA, elt, Nat.add_assoc]

structure Rs (es : Nat) (enc : α → List AV) (h : AH) (v : AV) (xs : List α) : Prop where
  ok : EncOk es enc
  at_ : (v = .nils ∧ xs = []) ∨ ∃ b o c, v = .sl b o es xs.length c ∧ h.read b o (xs.length * es) = some (xs.flatMap enc)
  cap : ∀ b o e n c, v = .sl b o e n (some c) → n ≤ c

theorem Rs.nils (E : EncOk es enc) (h : AH) : Rs es enc h .nils [] := ⟨E, .inl ⟨rfl, rfl⟩, fun _ _ _ _ _ e => by cases e⟩

variable {h h' : AH} {v : AV} {xs : List α}

theorem Rs.frame (H : Rs es enc h v xs) (e : ∀ b, blk v = some b → h'.get b = h.get b) : Rs es enc h' v xs := by
  refine ⟨H.ok, ?_, H.cap⟩
  rcases H.at_ with hn | ⟨b, o, c, rfl, hr⟩
  · exact .inl hn
  · exact .inr ⟨b, o, c, rfl, (AH.read_of_get (e b rfl) _ _).trans hr⟩
theorem Rs.lt (H : Rs es enc h v xs) {b : Nat} (hb : blk v = some b) : xs.length * es = 0 ∨ b < h.next := by
  rcases H.at_ with ⟨rfl, rfl⟩ | ⟨b', o, c, rfl, hr⟩
  · simp
  · cases hb; exact .inr (AH.read_lt hr)
theorem Rs.le (H : Rs es enc h v xs) (hle : h.le h') : Rs es enc h' v xs := by
  refine ⟨H.ok, ?_, H.cap⟩
  rcases H.at_ with hn | ⟨b, o, c, rfl, hr⟩
  · exact .inl hn
  · exact .inr ⟨b, o, c, rfl, AH.le_read hle hr⟩
theorem Rs.len (H : Rs es enc h v xs) (h2 : AH) : lenA false v h2 = some (.int .i64 xs.length, h2) := by
  rcases H.at_ with ⟨rfl, rfl⟩ | ⟨b, o, c, rfl, hr⟩ <;> simp [lenA]
theorem Rs.iaddr (H : Rs es enc h v xs) (h2 : AH) (k : IntKind) (j : Int) (h0 : 0 ≤ j) (h1 : j < xs.length) : iaddrA es v (.int k j) h2 = some (elt es v j.toNat 0, h2) := by
  rcases H.at_ with ⟨rfl, rfl⟩ | ⟨b, o, c, rfl, hr⟩
  · simp at h1; omega
  · simp [iaddrA, elt, sb, so, h0, h1]
theorem Rs.read [Inhabited α] (H : Rs es enc h v xs) (i off n : Nat) (hi : i < xs.length) (hn : off + n ≤ es) : h.read (sb v) (so v + i * es + off) n = some (((enc (nth xs i)).drop off).take n) := by
  rcases H.at_ with ⟨rfl, rfl⟩ | ⟨b, o, c, rfl, hr⟩
  · simp at hi
  · show h.read b (o + i * es + off) n = _
    unfold AH.read at hr ⊢
    split at hr
    · rename_i ow l hl
      split at hr
      · rename_i hle
        have hd : (l.drop o).take (xs.length * es) = xs.flatMap enc := by simpa using hr
        have hm : (i + 1) * es ≤ xs.length * es := Nat.mul_le_mul_right _ hi
        rw [Nat.succ_mul] at hm
        rw [if_pos (by omega), ← H.ok.fnth hi off n hn, ← hd]
        congr 1
        rw [List.drop_take, List.take_take, List.drop_drop, Nat.min_eq_left (by omega)]
        congr 2
        omega
      · cases hr
    · cases hr
theorem Rs.load [Inhabited α] (H : Rs es enc h v xs) (i off n : Nat) (hi : i < xs.length) (hn : off + n ≤ es) : loadA true n (elt es v i off) h = some (.agg (((enc (nth xs i)).drop off).take n), h) := by
  simp only [loadA, elt, H.read i off n hi hn, if_true]
theorem Rs.load1 [Inhabited α] (H : Rs es enc h v xs) (i off : Nat) (hi : i < xs.length) (hn : off < es) : loadA false 1 (elt es v i off) h = some ((enc (nth xs i)).getD off .any, h) := by
  simp only [loadA, elt, H.read i off 1 hi hn]
  have : off < (enc (nth xs i)).length := by rw [H.ok.len]; exact hn
  have e : ((enc (nth xs i)).drop off).take 1 = [(enc (nth xs i))[off]] := by rw [List.drop_eq_getElem_cons this, List.take_succ_cons, List.take_zero]
  rw [e]
  simp [this]

/-- A slice cut. -/
def cutv (es : Nat) (v : AV) (i j : Nat) : AV := match v with
  | .sl b o e n c => .sl b (o + i * es) es (j - i) (c.map (· - i))
  | v => v
theorem blk_cutv (es : Nat) (v : AV) (i j : Nat) : blk (cutv es v i j) = blk v := by cases v <;> rfl
theorem Rs.cut (H : Rs es enc h v xs) {i j : Nat} (hij : i ≤ j) (hj : j ≤ xs.length) : Rs es enc h (cutv es v i j) ((xs.drop i).take (j - i)) := by
  refine ⟨H.ok, ?_, fun b o e n c hv => ?_⟩
  rotate_left
  · have hc := H.cap
    cases v with
    | sl b' o' e' n' c' =>
      cases c' with
      | none => cases hv
      | some c' => cases hv; have := hc _ _ _ _ _ rfl; simp only; rcases H.at_ with ⟨h0, _⟩ | ⟨_, _, _, h1, _⟩ <;> first | cases h0 | (cases h1; omega)
    | _ => cases hv
  rcases H.at_ with ⟨rfl, rfl⟩ | ⟨b, o, c, rfl, hr⟩
  · exact .inl ⟨rfl, by simp⟩
  · have hl : ((xs.drop i).take (j - i)).length = j - i := by simp; omega
    refine .inr ⟨b, o + i * es, c.map (· - i), by rw [hl]; rfl, ?_⟩
    rw [hl]
    unfold AH.read at hr ⊢
    split at hr
    · rename_i ow l hl
      split at hr
      · rename_i hle
        have hd : (l.drop o).take (xs.length * es) = xs.flatMap enc := by simpa using hr
        have hm : i * es + (j - i) * es ≤ xs.length * es := by rw [← Nat.add_mul]; exact Nat.mul_le_mul_right _ (by omega)
        rw [if_pos (by omega), ← H.ok.ftake, ← H.ok.fdrop, ← hd]
        congr 1
        rw [List.drop_take, List.take_take, List.drop_drop, Nat.min_eq_left (by omega)]
      · cases hr
    · cases hr
/-- Cut from lo to hi. -/
theorem Rs.slice (H : Rs es enc h v xs) (h2 : AH) (k k' : IntKind) (lo hi : Int) (h0 : 0 ≤ lo) (h1 : lo ≤ hi) (hj : hi ≤ xs.length) :
    sliceA es v (some (.int k lo)) (some (.int k' hi)) none h2 = some (cutv es v lo.toNat hi.toNat, h2) := by
  rcases H.at_ with ⟨rfl, rfl⟩ | ⟨b, o, c, rfl, hr⟩
  · obtain rfl : lo = 0 := by simp at hj; omega
    obtain rfl : hi = 0 := by simp at hj; omega
    rfl
  · have e1 : bound (some (.int k' hi)) xs.length (c.getD xs.length) = some hi.toNat := by
      simp only [bound]; rw [if_pos]; refine ⟨by omega, ?_⟩
      cases c with
      | none => simpa using hj
      | some c => have := H.cap _ _ _ _ _ rfl; simp; omega
    have e2 : bound (some (.int k lo)) 0 hi.toNat = some lo.toNat := by simp only [bound]; rw [if_pos]; omega
    simp only [sliceA, ne_eq, not_true, if_false, e1, e2, cutv]
    rw [if_neg (by omega)]
/-- Cut from lo on. -/
theorem Rs.sliceLo (H : Rs es enc h v xs) (h2 : AH) (k : IntKind) (lo : Int) (h0 : 0 ≤ lo) (hj : lo ≤ xs.length) :
    sliceA es v (some (.int k lo)) none none h2 = some (cutv es v lo.toNat xs.length, h2) := by
  rcases H.at_ with ⟨rfl, rfl⟩ | ⟨b, o, c, rfl, hr⟩
  · obtain rfl : lo = 0 := by simp at hj; omega
    rfl
  · have e2 : bound (some (.int k lo)) 0 xs.length = some lo.toNat := by simp only [bound]; rw [if_pos]; omega
    simp only [sliceA, ne_eq, not_true, if_false, show bound none xs.length (c.getD xs.length) = some xs.length from rfl, e2, cutv, Nat.lt_irrefl]
/-- Cut up to hi. -/
theorem Rs.sliceHi (H : Rs es enc h v xs) (h2 : AH) (k : IntKind) (hi : Int) (h0 : 0 ≤ hi) (hj : hi ≤ xs.length) :
    sliceA es v none (some (.int k hi)) none h2 = some (cutv es v 0 hi.toNat, h2) := by
  rcases H.at_ with ⟨rfl, rfl⟩ | ⟨b, o, c, rfl, hr⟩
  · obtain rfl : hi = 0 := by simp at hj; omega
    rfl
  · have e1 : bound (some (.int k hi)) xs.length (c.getD xs.length) = some hi.toNat := by
      simp only [bound]; rw [if_pos]; refine ⟨by omega, ?_⟩
      cases c with
      | none => simpa using hj
      | some c => have := H.cap _ _ _ _ _ rfl; simp; omega
    simp only [sliceA, ne_eq, not_true, if_false, e1, show bound none 0 hi.toNat = some 0 from rfl, cutv]
    rw [if_neg (by omega)]

/-! ### rows that are written -/
structure Ro (es : Nat) (enc : α → List AV) (h : AH) (v : AV) (xs : List α) : Prop where
  ok : EncOk es enc
  at_ : (v = .nils ∧ xs = []) ∨ ∃ b c, v = .sl b 0 es xs.length c ∧ h.get b = some (.cells true (xs.flatMap enc)) ∧ (c = none ∨ c = some xs.length)

theorem Ro.capOk (H : Ro es enc h v xs) : ∀ b o e n c, v = .sl b o e n (some c) → n ≤ c := by
  intro b o e n c hv
  rcases H.at_ with ⟨rfl, rfl⟩ | ⟨b, c, rfl, hg, hc⟩
  · cases hv
  · cases hv; rcases hc with hc | hc <;> cases hc; exact Nat.le_refl _
theorem Ro.rows (H : Ro es enc h v xs) : Rs es enc h v xs := by
  refine ⟨H.ok, ?_, H.capOk⟩
  rcases H.at_ with hn | ⟨b, c, rfl, hg, hc⟩
  · exact .inl hn
  · refine .inr ⟨b, 0, c, rfl, ?_⟩
    unfold AH.read
    rw [hg]
    simp [H.ok.flen]
    exact List.take_of_length_le (by rw [H.ok.flen]; exact Nat.le_refl _)
theorem Ro.frame (H : Ro es enc h v xs) (e : ∀ b, blk v = some b → h'.get b = h.get b) : Ro es enc h' v xs := by
  refine ⟨H.ok, ?_⟩
  rcases H.at_ with hn | ⟨b, c, rfl, hg, hc⟩
  · exact .inl hn
  · exact .inr ⟨b, c, rfl, (e b rfl).trans hg, hc⟩
theorem Ro.lt (H : Ro es enc h v xs) {b : Nat} (hb : blk v = some b) : b < h.next := by
  rcases H.at_ with ⟨rfl, rfl⟩ | ⟨b', c, rfl, hg, hc⟩
  · cases hb
  · cases hb; exact AH.get_lt hg
theorem Ro.le (H : Ro es enc h v xs) (hle : h.le h') : Ro es enc h' v xs := H.frame fun b hb => hle.2 b (H.lt hb)

/-- The memory with other rows there. -/
def AH.setR (h : AH) (v : AV) (enc : α → List AV) (ys : List α) : AH := h.upd (sb v) (some (.cells true (ys.flatMap enc)))
theorem AH.next_setR (h : AH) (v : AV) (enc : α → List AV) (ys : List α) : (h.setR v enc ys).next = h.next := (rfl)
theorem AH.setR_setR (h : AH) (v : AV) (enc : α → List AV) (ys zs : List α) : (h.setR v enc ys).setR v enc zs = h.setR v enc zs := by
  unfold AH.setR AH.upd; congr 1; funext k; simp only; split <;> rfl
theorem AH.get_setR_ne (h : AH) (v : AV) (enc : α → List AV) (ys : List α) {c : Nat} (hc : sb v ≠ c) : (h.setR v enc ys).get c = h.get c := by
  have e : ¬ c = sb v := fun e => hc e.symm
  simp [AH.setR, AH.get, AH.upd, e]

theorem setAll_mid {β : Type} : ∀ (xs pre old post : List β), xs.length = old.length → setAll (pre ++ old ++ post) pre.length xs = pre ++ xs ++ post
  | [], pre, old, post, h => by cases old with
    | nil => rfl
    | cons y ys => cases h
  | x :: xs, pre, [], post, h => by cases h
  | x :: xs, pre, y :: ys, post, h => by
    have e : (pre ++ y :: ys ++ post).set pre.length x = (pre ++ [x]) ++ ys ++ post := by
      simp [List.append_assoc]
    show setAll ((pre ++ y :: ys ++ post).set pre.length x) (pre.length + 1) xs = _
    rw [e, show pre.length + 1 = (pre ++ [x]).length by simp, setAll_mid xs (pre ++ [x]) ys post (by simpa using h)]
    simp
theorem setAll_length' {β : Type} : ∀ (xs l : List β) (o : Nat), (setAll l o xs).length = l.length
  | [], l, o => rfl
  | x :: xs, l, o => by rw [setAll, setAll_length']; simp

theorem setAll_eq {β : Type} (xs l : List β) (o : Nat) (h : o + xs.length ≤ l.length) : setAll l o xs = l.take o ++ xs ++ l.drop (o + xs.length) := by
  have e : l = l.take o ++ (l.drop o).take xs.length ++ l.drop (o + xs.length) := by
    rw [List.append_assoc, ← List.drop_drop, List.take_append_drop, List.take_append_drop]
  have hl : (l.take o).length = o := by rw [List.length_take]; omega
  have := setAll_mid xs (l.take o) ((l.drop o).take xs.length) (l.drop (o + xs.length)) (by rw [List.length_take, List.length_drop]; omega)
  rw [← e, hl] at this
  exact this

theorem EncOk.fset [Inhabited α] (E : EncOk es enc) {xs : List α} {i : Nat} (hi : i < xs.length) (off : Nat) (cs : List AV) (hc : off + cs.length ≤ es) {y : α} (hy : setAll (enc (nth xs i)) off cs = enc y) :
    setAll (xs.flatMap enc) (i * es + off) cs = (xs.set i y).flatMap enc := by
  have hm : (i + 1) * es ≤ xs.length * es := Nat.mul_le_mul_right _ hi
  rw [Nat.succ_mul] at hm
  rw [setAll_eq _ _ _ (by rw [E.flen]; omega)]
  rw [setAll_eq _ _ _ (by rw [E.len]; exact hc)] at hy
  have hset : xs.set i y = xs.take i ++ y :: xs.drop (i + 1) := List.set_eq_take_append_cons_drop.trans (by rw [if_pos hi])
  rw [hset, List.flatMap_append, List.flatMap_cons, ← hy, ← E.ftake, ← E.fdrop]
  have a1 : (xs.flatMap enc).take (i * es + off) = (xs.flatMap enc).take (i * es) ++ (enc (nth xs i)).take off := by
    rw [List.take_add, E.fdrop, drop_eq hi, List.flatMap_cons, List.take_append_of_le_length (by rw [E.len]; omega)]
  have a2 : (xs.flatMap enc).drop (i * es + off + cs.length) = (enc (nth xs i)).drop (off + cs.length) ++ (xs.flatMap enc).drop ((i + 1) * es) := by
    rw [Nat.add_assoc, ← List.drop_drop, E.fdrop, E.fdrop, drop_eq hi, List.flatMap_cons, List.drop_append_of_le_length (by rw [E.len]; omega)]
  rw [a1, a2]
  simp [List.append_assoc]

theorem Ro.store [Inhabited α] (H : Ro es enc h v xs) (i : Nat) (y : α) (off n : Nat) (x : AV) (hi : i < xs.length) (hn : x.cells.length = n) (hoff : off + n ≤ es) (h1 : x.cells.all AV.one = true) (hy : setAll (enc (nth xs i)) off x.cells = enc y) :
    storeA n (elt es v i off) x h = some (.tup [], h.setR v enc (xs.set i y)) := by
  rcases H.at_ with ⟨rfl, rfl⟩ | ⟨b, c, rfl, hg, hc⟩
  · simp at hi
  · have hm : (i + 1) * es ≤ xs.length * es := Nat.mul_le_mul_right _ hi
    rw [Nat.succ_mul] at hm
    simp only [storeA, elt, sb, so, Nat.zero_add, hn, if_true, AH.write, hg]
    rw [if_pos (by simp only [Bool.and_eq_true, decide_eq_true_eq]; exact ⟨by rw [H.ok.flen]; omega, h1⟩), H.ok.fset hi off _ (by omega) hy]
    rfl
theorem setAll_whole {β : Type} (xs l : List β) (h : xs.length = l.length) : setAll l 0 xs = xs := by
  rw [setAll_eq _ _ _ (by omega), List.take_zero, List.drop_of_length_le (by omega)]; simp
/-- A whole element is stored. -/
theorem Ro.storeE [Inhabited α] (H : Ro es enc h v xs) (i : Nat) (y : α) (hi : i < xs.length) : storeA es (elt es v i 0) (.agg (enc y)) h = some (.tup [], h.setR v enc (xs.set i y)) :=
  H.store i y 0 es (.agg (enc y)) hi (H.ok.len y) (by omega) (H.ok.one y) (setAll_whole _ _ (by show (enc y).length = _; rw [H.ok.len, H.ok.len]))
/-- An element of one cell is stored. -/
theorem Ro.store1 [Inhabited α] (H : Ro 1 enc h v xs) (i : Nat) (y : α) (x : AV) (hx : x.one = true) (hy : enc y = [x]) (hi : i < xs.length) : storeA 1 (elt 1 v i 0) x h = some (.tup [], h.setR v enc (xs.set i y)) := by
  have hc : x.cells = [x] := by cases x <;> first | rfl | cases hx
  exact H.store i y 0 1 x hi (by rw [hc]; rfl) (by omega) (by rw [hc]; simp [hx]) (by rw [hc, ← hy]; exact setAll_whole _ _ (by rw [H.ok.len, H.ok.len]))
/-- It is what lies there. -/
theorem Ro.self [Inhabited α] (H : Ro es enc h v xs) (hx : 0 < xs.length) : h.setR v enc xs = h := by
  rcases H.at_ with ⟨rfl, rfl⟩ | ⟨b, c, rfl, hg, hc⟩
  · simp at hx
  · have hlt := AH.get_lt hg
    unfold AH.setR AH.upd sb
    cases h with
    | mk n f =>
      congr 1
      funext k
      by_cases e : k = b
      · subst e
        have : f k = some (.cells true (xs.flatMap enc)) := by simpa [AH.get, show k < n from hlt] using hg
        simp [this]
      · simp [e]
theorem set_nth [Inhabited α] {xs : List α} {i : Nat} (hi : i < xs.length) : xs.set i (nth xs i) = xs := by rw [nth_eq hi]; simp
theorem take_set [Inhabited α] {xs : List α} {i : Nat} (hi : i < xs.length) (y : α) : (xs.set i y).take (i + 1) = xs.take i ++ [y] := by
  rw [List.set_eq_take_append_cons_drop, if_pos hi, List.take_append, List.take_of_length_le (by rw [List.length_take]; omega)]
  have : i + 1 - (xs.take i).length = 1 := by rw [List.length_take]; omega
  rw [this]; simp
theorem Ro.setR (H : Ro es enc h v xs) {ys : List α} (hl : ys.length = xs.length) : Ro es enc (h.setR v enc ys) v ys := by
  refine ⟨H.ok, ?_⟩
  rcases H.at_ with ⟨rfl, rfl⟩ | ⟨b, c, rfl, hg, hc⟩
  · exact .inl ⟨rfl, List.eq_nil_of_length_eq_zero hl⟩
  · refine .inr ⟨b, c, by rw [hl], ?_, by rw [hl]; exact hc⟩
    exact (AH.get_upd (AH.get_lt hg) _ _).trans (by simp [sb])
/-- Rs that lie in another block are left. -/
theorem Ro.setR_ne {β : Type} {es2 : Nat} {enc2 : β → List AV} {w : AV} {ws : List β} (H : Ro es2 enc2 h w ws) (v : AV) (hne : blk w ≠ some (sb v)) (ys : List α) : Ro es2 enc2 (h.setR v enc ys) w ws :=
  H.frame fun b hb => AH.get_setR_ne _ _ _ _ (fun e => hne (e ▸ hb))
theorem Rs.setR_ne {β : Type} {es2 : Nat} {enc2 : β → List AV} {w : AV} {ws : List β} (H : Rs es2 enc2 h w ws) (v : AV) (hne : blk w ≠ some (sb v)) (ys : List α) : Rs es2 enc2 (h.setR v enc ys) w ws :=
  H.frame fun b hb => AH.get_setR_ne _ _ _ _ (fun e => hne (e ▸ hb))

/-! ### rows that are new since h0 -/
structure Rn (h0 : AH) (es : Nat) (enc : α → List AV) (h : AH) (v : AV) (xs : List α) : Prop where
  own : Ro es enc h v xs
  new : ∀ b, blk v = some b → h0.next ≤ b

variable {h0 : AH}
theorem Rn.rows (H : Rn h0 es enc h v xs) : Rs es enc h v xs := H.own.rows
theorem Rn.nils (E : EncOk es enc) (h0 h : AH) : Rn h0 es enc h .nils [] := ⟨⟨E, .inl ⟨rfl, rfl⟩⟩, fun b hb => by cases hb⟩
theorem Rn.le (H : Rn h0 es enc h v xs) (hle : h.le h') : Rn h0 es enc h' v xs := ⟨H.own.le hle, H.new⟩
theorem Rn.weaken {h1 : AH} (H : Rn h1 es enc h v xs) (hle : h0.le h1) : Rn h0 es enc h v xs := ⟨H.own, fun b hb => Nat.le_trans hle.1 (H.new b hb)⟩
theorem Rn.frame (H : Rn h0 es enc h v xs) (e : ∀ b, blk v = some b → h'.get b = h.get b) : Rn h0 es enc h' v xs := ⟨H.own.frame e, H.new⟩
theorem Rn.setR (H : Rn h0 es enc h v xs) {ys : List α} (hl : ys.length = xs.length) : Rn h0 es enc (h.setR v enc ys) v ys := ⟨H.own.setR hl, H.new⟩
theorem Rn.setR_le (H : Rn h0 es enc h v xs) (hle : h0.le h) {ys : List α} (hx : 0 < xs.length) : h0.le (h.setR v enc ys) := by
  rcases H.own.at_ with ⟨rfl, rfl⟩ | ⟨b, c, rfl, hg, hc⟩
  · simp at hx
  · refine ⟨hle.1, fun c hc => (AH.get_setR_ne _ _ _ _ ?_).trans (hle.2 c hc)⟩
    have := H.new b rfl
    show b ≠ c
    omega
theorem Rn.fresh {n : Nat} (E : EncOk es enc) (hle : h0.le h) (hn : n = xs.length) : Rn h0 es enc (h.new (.cells true (xs.flatMap enc))) (.sl h.next 0 es n (some n)) xs := by
  subst hn
  refine ⟨⟨E, .inr ⟨_, _, rfl, by rw [AH.get_new, if_pos rfl], .inr rfl⟩⟩, fun b hb => ?_⟩
  cases hb; exact hle.1

/-- Rows that may be appended to: they lie at the begin of a block of one's own. -/
structure Rq (es : Nat) (enc : α → List AV) (h : AH) (v : AV) (xs : List α) : Prop where
  ok : EncOk es enc
  at_ : (v = .nils ∧ xs = []) ∨ ∃ b c l, v = .sl b 0 es xs.length c ∧ h.get b = some (.cells true l) ∧ xs.length * es ≤ l.length ∧ l.take (xs.length * es) = xs.flatMap enc ∧ (c = none ∨ c = some xs.length)
theorem Ro.q (H : Ro es enc h v xs) : Rq es enc h v xs := by
  refine ⟨H.ok, ?_⟩
  rcases H.at_ with hn | ⟨b, c, rfl, hg, hc⟩
  · exact .inl hn
  · exact .inr ⟨b, c, _, rfl, hg, by rw [H.ok.flen]; exact Nat.le_refl _, List.take_of_length_le (by rw [H.ok.flen]; exact Nat.le_refl _), hc⟩
theorem Rq.rows (H : Rq es enc h v xs) : Rs es enc h v xs := by
  refine ⟨H.ok, ?_, fun b o e n c hv => ?_⟩
  · rcases H.at_ with hn | ⟨b, c, l, rfl, hg, hl, ht, hc⟩
    · exact .inl hn
    · refine .inr ⟨b, 0, c, rfl, ?_⟩
      unfold AH.read
      rw [hg]
      simp [hl, ht]
  · rcases H.at_ with ⟨rfl, rfl⟩ | ⟨b, c, l, rfl, hg, hl, ht, hc⟩
    · cases hv
    · cases hv; rcases hc with hc | hc <;> cases hc; exact Nat.le_refl _
theorem Rq.frame (H : Rq es enc h v xs) (e : ∀ b, blk v = some b → h'.get b = h.get b) : Rq es enc h' v xs := by
  refine ⟨H.ok, ?_⟩
  rcases H.at_ with hn | ⟨b, c, l, rfl, hg, hc⟩
  · exact .inl hn
  · exact .inr ⟨b, c, l, rfl, (e b rfl).trans hg, hc⟩
theorem Rq.lt (H : Rq es enc h v xs) {b : Nat} (hb : blk v = some b) : b < h.next := by
  rcases H.at_ with ⟨rfl, rfl⟩ | ⟨b', c, l, rfl, hg, hc⟩
  · cases hb
  · cases hb; exact AH.get_lt hg
theorem Rq.le (H : Rq es enc h v xs) (hle : h.le h') : Rq es enc h' v xs := H.frame fun b hb => hle.2 b (H.lt hb)
/-- Cut behind j: what is left may be appended to, where the room behind is not known. -/
theorem Rq.cut (H : Rq es enc h v xs) {j : Nat} (hj : j ≤ xs.length) (hc : ∀ b o e n c, v ≠ .sl b o e n (some c)) : Rq es enc h (cutv es v 0 j) (xs.take j) := by
  refine ⟨H.ok, ?_⟩
  rcases H.at_ with ⟨rfl, rfl⟩ | ⟨b, c, l, rfl, hg, hl, ht, hcc⟩
  · exact .inl ⟨rfl, by simp⟩
  · have hlen : (xs.take j).length = j := by rw [List.length_take]; omega
    have hm : j * es ≤ xs.length * es := Nat.mul_le_mul_right _ hj
    refine .inr ⟨b, none, l, ?_, hg, by rw [hlen]; omega, ?_, .inl rfl⟩
    · rw [hlen]
      cases c with
      | none => simp [cutv]
      | some c => exact absurd rfl (hc _ _ _ _ _)
    · rw [hlen, ← H.ok.ftake, ← ht, List.take_take, Nat.min_eq_left hm]

/-- The room behind it is not known. -/
def NoCap (v : AV) : Prop := ∀ b o e n c, v ≠ .sl b o e n (some c)
theorem NoCap.cut {v : AV} (H : NoCap v) (i j : Nat) : NoCap (cutv es v i j) := by
  intro b o e n c
  cases v with
  | sl b' o' e' n' c' =>
    cases c' with
    | none => simp [cutv]
    | some c' => exact absurd rfl (H _ _ _ _ _)
  | _ => simp [cutv]

/-- What an append leaves. -/
theorem Rq.append (H : Rq es enc h v xs) {y : AV} {ys : List α} (Hy : Rs es enc h y ys) (bytes : Nat) (hb : (xs.length + ys.length) * bytes ≤ 2 ^ 47) (hb2 : xs.length + ys.length ≤ 2 ^ 47) :
    ∃ v' h', appendA es bytes v y h = some (v', h') ∧ h.next ≤ h'.next ∧ (∀ c, c < h.next → blk v ≠ some c → h'.get c = h.get c) ∧ ((ys = [] ∧ v' = v ∧ h' = h) ∨ (ys ≠ [] ∧ blk v' = some h.next ∧ Ro es enc h' v' (xs ++ ys) ∧ NoCap v')) := by
  have hyr : srcA es y h = some (ys.length, ys.flatMap enc) := by
    rcases Hy.at_ with ⟨rfl, rfl⟩ | ⟨b, o, c, rfl, hr⟩
    · rfl
    · simp [srcA, hr]
  unfold appendA
  rw [hyr]
  by_cases hm : ys = []
  · subst hm
    refine ⟨v, h, ?_, Nat.le_refl _, fun _ _ _ => rfl, .inl ⟨rfl, rfl, rfl⟩⟩
    rcases H.at_ with ⟨rfl, rfl⟩ | ⟨b, c, l, rfl, hg, hl, ht, hc⟩ <;> simp
  have hm' : ¬ ys.length = 0 := fun e => hm (List.eq_nil_of_length_eq_zero e)
  rcases H.at_ with ⟨rfl, rfl⟩ | ⟨b, c, l, rfl, hg, hl, ht, hc⟩
  · refine ⟨_, _, by simp only [hm', if_false]; rw [if_pos ⟨by simpa using hb, by simpa using hb2, H.ok.fone ys⟩], Nat.le_succ _, ?_, .inr ⟨hm, rfl, ?_, fun b o e n c => by simp⟩⟩
    · intro c hc _
      rw [AH.get_new, if_neg (by omega)]
    · exact ⟨H.ok, .inr ⟨_, _, rfl, by rw [AH.get_new, if_pos rfl]; simp, .inl rfl⟩⟩
  · simp only [ne_eq, not_true, if_false, hm', hg]
    rw [if_pos ⟨by omega, hb, hb2, H.ok.fone ys⟩]
    have hcells : (l.drop 0).take (xs.length * es) ++ ys.flatMap enc = (xs ++ ys).flatMap enc := by
      rw [List.drop_zero, ht, List.flatMap_append]
    rw [hcells]
    rcases hc with rfl | rfl
    · refine ⟨_, _, rfl, Nat.le_succ _, ?_, .inr ⟨hm, rfl, ⟨H.ok, .inr ⟨_, _, by rw [List.length_append], (AH.get_new (h.upd b none) _ h.next).trans (if_pos rfl), .inl rfl⟩⟩, fun b o e n c => by simp⟩⟩
      intro c hc hne
      rw [AH.get_new, if_neg (show ¬ c = (h.upd b none).next by show ¬ c = h.next; omega), AH.get_kill, if_neg (fun e => hne (by rw [e]; rfl))]
    · refine ⟨_, _, if_pos (show xs.length < xs.length + ys.length by omega), Nat.le_succ _, ?_, .inr ⟨hm, rfl, ⟨H.ok, .inr ⟨_, _, by rw [List.length_append], by rw [AH.get_new, if_pos rfl], .inl rfl⟩⟩, fun b o e n c => by simp⟩⟩
      intro c hc hne
      rw [AH.get_new, if_neg (by omega)]

theorem Rn.append (H : Rn h0 es enc h v xs) (hle : h0.le h) {y : AV} {ys : List α} (Hy : Rs es enc h y ys) (bytes : Nat) (hb : (xs.length + ys.length) * bytes ≤ 2 ^ 47) (hb2 : xs.length + ys.length ≤ 2 ^ 47) :
    ∃ v' h', appendA es bytes v y h = some (v', h') ∧ h0.le h' ∧ Rn h0 es enc h' v' (xs ++ ys) ∧ h.next ≤ h'.next ∧ (∀ c, c < h.next → blk v ≠ some c → h'.get c = h.get c) := by
  obtain ⟨v', h', e, hn, hf, hv⟩ := H.own.q.append Hy bytes hb hb2
  refine ⟨v', h', e, ⟨Nat.le_trans hle.1 hn, fun c hc => ?_⟩, ?_, hn, hf⟩
  · exact (hf c (Nat.lt_of_lt_of_le hc hle.1) (fun e => absurd (H.new c e) (by omega))).trans (hle.2 c hc)
  · rcases hv with ⟨rfl, rfl, rfl⟩ | ⟨_, hv, ho, _⟩
    · simpa using H
    · exact ⟨ho, fun b hb => by rw [hv] at hb; cases hb; exact hle.1⟩
/-- One element more. -/
theorem Rq.append1 (H : Rq es enc h v xs) (x : α) (cs : List AV) (hcs : cs = enc x) (bytes : Nat) (hb : (xs.length + 1) * bytes ≤ 2 ^ 47) (hb2 : xs.length + 1 ≤ 2 ^ 47) :
    ∃ v' h', appendA es bytes v (.sl h.next 0 es 1 (some 1)) (h.new (.cells true cs)) = some (v', h') ∧ Ro es enc h' v' (xs ++ [x]) ∧ NoCap v' ∧ blk v' = some (h.next + 1) ∧ h.next ≤ h'.next ∧ (∀ c, c < h.next → blk v ≠ some c → h'.get c = h.get c) := by
  subst hcs
  obtain ⟨v', h', e, h3, h4, h5⟩ := (H.le (AH.le_new h (.cells true (enc x)))).append (y := .sl h.next 0 es 1 (some 1)) (ys := [x])
    ((Rn.fresh (h0 := h) (xs := [x]) H.ok (AH.le_refl h) rfl).rows |> fun r => by simpa using r) bytes (by simpa using hb) (by simpa using hb2)
  rcases h5 with ⟨h5, _⟩ | ⟨_, h5, h6, h7⟩
  · cases h5
  · refine ⟨v', h', e, h6, h7, h5, Nat.le_trans (Nat.le_succ _) h3, fun c hc hne => ?_⟩
    rw [h4 c (Nat.lt_succ_of_lt hc) hne, AH.get_new, if_neg (by omega)]
theorem Rn.append1 (H : Rn h0 es enc h v xs) (hle : h0.le h) (x : α) (cs : List AV) (hcs : cs = enc x) (bytes : Nat) (hb : (xs.length + 1) * bytes ≤ 2 ^ 47) (hb2 : xs.length + 1 ≤ 2 ^ 47) :
    ∃ v' h', appendA es bytes v (.sl h.next 0 es 1 (some 1)) (h.new (.cells true cs)) = some (v', h') ∧ h0.le h' ∧ Rn h0 es enc h' v' (xs ++ [x]) ∧ NoCap v' ∧ blk v' = some (h.next + 1) ∧ h.next ≤ h'.next ∧ (∀ c, c < h.next → blk v ≠ some c → h'.get c = h.get c) := by
  obtain ⟨v', h', e, ho, hc, hv, hn, hf⟩ := H.own.q.append1 x cs hcs bytes hb hb2
  refine ⟨v', h', e, ⟨Nat.le_trans hle.1 hn, fun c hc => ?_⟩, ⟨ho, fun b hb => ?_⟩, hc, hv, hn, hf⟩
  · exact (hf c (Nat.lt_of_lt_of_le hc hle.1) (fun e => absurd (H.new c e) (by omega))).trans (hle.2 c hc)
  · rw [hv] at hb; cases hb; have := hle.1; omega

/-! ### literals -/
theorem rep_eq (z : α) (n : Nat) : rep n (enc z) = (List.replicate n z).flatMap enc := by
  induction n with
  | zero => rfl
  | succ n ih => rw [rep, ih, List.replicate_succ, List.flatMap_cons]
theorem bslice0 (es : Nat) (zero : List AV) (h : AH) : bsliceA 0 es zero [] h = some (.sl h.next 0 es 0 (some 0), h.new (.cells true [])) := by simp [bsliceA, rep, fillA]
theorem bslice1 (es : Nat) (zero : List AV) (x : AV) (h : AH) (hz : zero.length = es) (hx : x.cells.length = es) (h1 : x.cells.all AV.one = true) :
    bsliceA 1 es zero [(0, x)] h = some (.sl h.next 0 es 1 (some 1), h.new (.cells true x.cells)) := by
  have e : setAll zero 0 x.cells = x.cells := by
    rw [setAll_eq _ _ _ (by omega), List.take_zero, List.drop_of_length_le (by omega)]; simp
  simp [bsliceA, rep, fillA, hx, h1, hz, e]
theorem mslice_eq (es bytes : Nat) (zero : List AV) (k k' : IntKind) (n : Nat) (h : AH) (hz : zero.length = es) (h1 : zero.all AV.one = true) (hb : bytes * n ≤ 2 ^ 47) (hn : n ≤ 2 ^ 47) :
    msliceA es bytes zero (.int k n) (.int k' n) h = some (.sl h.next 0 es n (some n), h.new (.cells true (rep n zero))) := by
  show (if 0 ≤ (n : Int) ∧ (n : Int) = n ∧ (bytes : Int) * n ≤ 2 ^ 47 ∧ (n : Int) ≤ 2 ^ 47 ∧ zero.length = es ∧ zero.all AV.one = true then _ else _) = _
  rw [if_pos ⟨by omega, rfl, by exact_mod_cast hb, by exact_mod_cast hn, hz, h1⟩]
  simp
theorem Rn.make {z : α} {zero : List AV} (E : EncOk es enc) (hle : h0.le h) (hz : zero = enc z) (n : Nat) : Rn h0 es enc (h.new (.cells true (rep n zero))) (.sl h.next 0 es n (some n)) (List.replicate n z) := by
  subst hz
  rw [rep_eq]
  exact Rn.fresh E hle (by simp)
end

attribute [simp ↓] S.put_some S.put_none aops_nil aops_cons aops_guard aopsD_nil aopsD_cons_no aopsD_guard astep_call astep_callv astepD_call astepD_callv astep_bin astepD_bin astep_un astepD_un astep_mov astepD_mov astep_pick astepD_pick astep_len astepD_len astep_conv astepD_conv astep_laddr astepD_laddr astep_lload astepD_lload astep_lstore astepD_lstore astep_lbox astepD_lbox astep_eqs astepD_eqs astep_iaddr astepD_iaddr astep_faddr astepD_faddr astep_load astepD_load astep_store astepD_store astep_slice astepD_slice astep_append astepD_append astep_mx astepD_mx astep_ext astepD_ext astep_movs astepD_movs astep_eqb astepD_eqb astep_eqnil astepD_eqnil astep_build astepD_build astep_bslice astepD_bslice astep_mslice astepD_mslice astep_b2s astepD_b2s astep_index astepD_index astep_slstr astepD_slstr astep_mkfn astepD_mkfn astep_nchk astepD_nchk astep_box astepD_box astep_alloc astepD_alloc astep_s2b astepD_s2b astep_loadR astepD_loadR astep_storeD astepD_storeD awp_skip awp_reg awp_regD awp_seq awp_cond awp_block awp_exit awp_ret then_normal then_exit then_ret inBlock_normal inBlock_ret inBlock_exit abody_eq endR_normal endR_ret
attribute [simp] S.upd_get guardR_tup thenA_some callvA_fn bin_int opt1_some lenA_str lenA_nils lenA_sl convA_int laddrA_agg init_cons ev_t ev_c pickA lloadA lstoreA lboxA eqsA faddrA_elt extA movsA eqbA eqnilA buildA AV.cells AV.one setAll fillB un mxA aresult aress ares isNil bslice0 AH.le_refl eqCells eqCell_bool eqCell_int eqCell_str pickv_bool pickv_true pickv_false binInt_add binInt_sub binInt_mul binInt_eql binInt_neq binInt_lss binInt_leq binInt_gtr binInt_geq bin_str binStr_eql binStr_neq condR_tt condR_ff guardR_tt guardR_ff tick_eq
end Go.Am
