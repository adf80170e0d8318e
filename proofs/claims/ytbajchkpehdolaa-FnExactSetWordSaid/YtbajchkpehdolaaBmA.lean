/- The abstract machine: values, memory, what one operation does, what code does. Plain definitions. -/
import Derived.Calls
import Derived.Orders
import Derived.LoopN
import Derived.Below
import Derived.WalkKit
import Derived.KernelRfl
namespace Go.Bm
set_option linter.all false
open Go Go.RowKit

inductive AV where
  | any
  | bool (b : Bool)
  | int (k : IntKind) (n : Int)
  | str (s : ByteArray)
  | nilp
  | ptr (b o : Nat)
  | nils
  | sl (b o es len : Nat) (cap : Option Nat)
  | nilm
  | mp (b : Nat)
  | nilf
  | fn (f : FuncId) (cap : List AV)
  | nili
  | ifc (t : TypeId) (v : AV)
  | agg (l : List AV)
  | tup (l : List AV)
  | fs (c : Option Nat) (l : List (List AV))
  | fp (c : List AV) (o : Nat)
  deriving Inhabited

def AV.cells : AV → List AV
  | .agg l => l
  | v => [v]

/-- It fits one cell of memory. -/
def AV.one : AV → Bool
  | .any | .agg _ | .tup _ => false
  | _ => true

inductive AB where
  | cells (own : Bool) (l : List AV)
  | map (l : List (AV × AV))
  deriving Inhabited

def AB.own : AB → Bool
  | .cells o _ => o
  | .map _ => true

structure AH where
  next : Nat
  f : Nat → Option AB

def AH.get (h : AH) (b : Nat) : Option AB := if b < h.next then h.f b else none
def AH.upd (h : AH) (b : Nat) (x : Option AB) : AH := ⟨h.next, fun k => if k = b then x else h.f k⟩
def AH.new (h : AH) (x : AB) : AH := ⟨h.next + 1, fun k => if k = h.next then some x else h.f k⟩

theorem AH.get_new (h : AH) (x : AB) (b : Nat) : (h.new x).get b = if b = h.next then some x else h.get b := by
  show (if b < h.next + 1 then (if b = h.next then some x else h.f b) else none) = if b = h.next then some x else (if b < h.next then h.f b else none)
  by_cases e : b = h.next
  · subst e; simp
  · by_cases l : b < h.next
    · simp [e, l, show b < h.next + 1 by omega]
    · simp [e, l, show ¬ b < h.next + 1 by omega]
theorem AH.get_lt {h : AH} {b : Nat} {x : AB} (e : h.get b = some x) : b < h.next := by
  unfold AH.get at e
  split at e
  · assumption
  · cases e
theorem AH.get_kill (h : AH) (b c : Nat) : (h.upd b none).get c = if c = b then none else h.get c := by
  show (if c < h.next then (if c = b then none else h.f c) else none) = if c = b then none else (if c < h.next then h.f c else none)
  by_cases e : c = b
  · subst e; simp
  · simp [e]
theorem AH.get_upd {h : AH} {b : Nat} (hb : b < h.next) (x : AB) (c : Nat) : (h.upd b (some x)).get c = if c = b then some x else h.get c := by
  show (if c < h.next then (if c = b then some x else h.f c) else none) = if c = b then some x else (if c < h.next then h.f c else none)
  by_cases e : c = b
  · subst e; simp [hb]
  · simp [e]
theorem AH.next_new (h : AH) (x : AB) : (h.new x).next = h.next + 1 := rfl
theorem AH.next_upd (h : AH) (b : Nat) (x : Option AB) : (h.upd b x).next = h.next := rfl

/-- Whatever lay there lies there still. -/
def AH.le (h h' : AH) : Prop := h.next ≤ h'.next ∧ ∀ b, b < h.next → h'.get b = h.get b

abbrev S := Nat → AV
def S.upd (s : S) (d : Nat) (v : AV) : S := fun k => if k = d then v else s k
def S.put (s : S) (d : Option Nat) (v : AV) : S := match d with | some d => s.upd d v | none => s

inductive AE where
  | t (n : Nat)
  | c (v : AV)
  deriving Inhabited

def AE.ev (s : S) : AE → AV
  | .t n => s n
  | .c v => v

/-- Kinds of keys: bools, whole numbers, strings, n whole numbers. -/
inductive KT where
  | bool
  | int (k : IntKind)
  | str
  | arr (k : IntKind) (n : Nat)
  deriving Inhabited, DecidableEq

/-- How a call is told of: as it is; what it answers frozen; what it is handed frozen for its time. -/
inductive CM where
  | raw
  | frz
  | bor
  | own
  deriving Inhabited, DecidableEq

/-- Kinds of operations, their types looked up. -/
inductive K where
  | mov (x : AE)
  | pick (c a b : AE)
  | box (x : AE)
  | alloc (z : AV)
  | build (zero : List AV) (parts : List (Nat × Nat × AE))
  | bslice (len es : Nat) (zero : List AV) (parts : List (Nat × AE))
  | load (agg : Bool) (n : Nat) (a : AE)
  | store (n : Nat) (a x : AE)
  | nchk (x : AE)
  | bin (op : BinOp) (x y : AE)
  | eqb (neg : Bool) (x y : AE)
  | eqs (neg : Bool) (ks : List Nat) (x y : AE)
  | eqnil (kind : Nat) (neg : Bool) (x y : AE)
  | un (op : UnOp) (x : AE)
  | conv (k : IntKind) (x : AE)
  | s2b (x : AE)
  | b2s (x : AE)
  | mslice (es bytes : Nat) (zero : List AV) (len cap : AE)
  | slice (es : Nat) (x : AE) (lo hi mx : Option AE)
  | slstr (x : AE) (lo hi : Option AE)
  | faddr (off : Nat) (x : AE)
  | iaddr (es : Nat) (x i : AE)
  | index (x i : AE)
  | ext (x : AE) (i : Nat)
  | len (st : Bool) (x : AE)
  | movs (x : AE)
  | append (es bytes : Nat) (x y : AE)
  | mkfn (f : FuncId) (cap : List AE)
  | mx (max : Bool) (x : AE) (ys : List AE)
  | lbox (x : AE)
  | laddr (t : Nat)
  | lload (agg : Bool) (n t off : Nat)
  | lstore (n t off : Nat) (x : AE)
  | call (m : CM) (f : FuncId) (args : List AE)
  | callv (m : CM) (f : AE) (args : List AE)
  | bsliceF (len es : Nat) (zero : List AV) (parts : List (Nat × AE))
  | msliceF (es bytes : Nat) (zero : List AV) (len cap : AE)
  | s2bF (x : AE)
  | appendF (es bytes : Nat) (x y : AE)
  | appendS (x y : AE)
  | mkmap
  | mget (kt : KT) (ok : Bool) (zero : AV) (m k : AE)
  | mset (kt : KT) (m k x : AE)
  | mlen (x : AE)
  deriving Inhabited

structure AOp where
  dst : Option Nat
  guard : Option (Nat × Bool)
  k : K
  deriving Inhabited

inductive AC where
  | skip
  | reg (ops : List AOp)
  | regA (ops : List AOp) (after : List (List Nat))
  | regF (L : List (Nat × Bool × AOp)) (after : List (List Nat))
  | seq (a b : AC)
  | cond (x : AE) (a b : AC)
  | block (id : Nat) (c : AC)
  | loop (c : AC)
  | exit (id : Nat)
  | ret
  deriving Inhabited

inductive AR where
  | tmp (t : Nat)
  | cell (agg : Bool) (n : Nat) (a : Nat)
  | lcell (agg : Bool) (n : Nat) (a : Nat)
  deriving Inhabited

structure AFunc where
  boxes : List Nat
  np : Nat
  results : List AR
  body : AC
  deriving Inhabited

/-! ### reading and writing -/
/-- n cells of block b from o on. -/
def AH.read (h : AH) (b o n : Nat) : Option (List AV) :=
  match h.get b with
  | some (.cells _ l) => if o + n ≤ l.length then some ((l.drop o).take n) else none
  | _ => none

def setAll {α : Type} (l : List α) (o : Nat) : List α → List α
  | [] => l
  | x :: r => setAll (l.set o x) (o + 1) r

def AH.write (h : AH) (b o : Nat) (xs : List AV) : Option AH :=
  match h.get b with
  | some (.cells true l) => if o + xs.length ≤ l.length && xs.all AV.one then some (h.upd b (some (.cells true (setAll l o xs)))) else none
  | _ => none

/-- the cells of a slice -/
def AH.cellsOf (h : AH) (es : Nat) : AV → Option (List AV)
  | .nils => some []
  | .sl b o e n _ => if e = es then h.read b o (n * es) else none
  | _ => none

def pickv (c : Bool) (a b : AV) : AV :=
  match a, b with
  | .bool p, .bool q => .bool (bif c then p else q)
  | a, b => bif c then a else b

def binInt (op : BinOp) (k : IntKind) (a b : Int) : Option AV :=
  match op with
  | .add => some (.int k (k.wrap (a + b)))
  | .sub => some (.int k (k.wrap (a - b)))
  | .mul => some (.int k (k.wrap (a * b)))
  | .quo => if b = 0 then none else some (.int k (k.wrap (a.tdiv b)))
  | .rem => if b = 0 then none else some (.int k (a.tmod b))
  | .and => some (.int k (k.wrap (BitVec.ofInt k.bits a &&& BitVec.ofInt k.bits b).toNat))
  | .or => some (.int k (k.wrap (BitVec.ofInt k.bits a ||| BitVec.ofInt k.bits b).toNat))
  | .xor => some (.int k (k.wrap (BitVec.ofInt k.bits a ^^^ BitVec.ofInt k.bits b).toNat))
  | .shl => if b < 0 then none else some (.int k (k.wrap (a * 2 ^ min b.toNat k.bits)))
  | .shr => if b < 0 then none else some (.int k (a.fdiv (2 ^ min b.toNat k.bits)))
  | .eql => some (.bool (a == b))
  | .neq => some (.bool (a != b))
  | .lss => some (.bool (decide (a < b)))
  | .leq => some (.bool (decide (a ≤ b)))
  | .gtr => some (.bool (decide (a > b)))
  | .geq => some (.bool (decide (a ≥ b)))
  | _ => none

def binStr (op : BinOp) (a b : ByteArray) : Option AV :=
  match op with
  | .add => if ((a.size + b.size : Nat) : Int) > IntKind.i64.max then none else some (.str (a ++ b))
  | .eql => some (.bool (a.toList == b.toList))
  | .neq => some (.bool (!(a.toList == b.toList)))
  | .lss => some (.bool (Op.bytesLess a.toList b.toList))
  | .leq => some (.bool (Op.bytesLess a.toList b.toList || a.toList == b.toList))
  | .gtr => some (.bool (!(Op.bytesLess a.toList b.toList || a.toList == b.toList)))
  | .geq => some (.bool (!Op.bytesLess a.toList b.toList))
  | _ => none

def bin (op : BinOp) : AV → AV → Option AV
  | .int k a, .int k' b => if k = k' then binInt op k a b else match op with
    | .shl | .shr => binInt op k a b
    | _ => none
  | .str a, .str b => binStr op a b
  | _, _ => none

/-- One cell against one: bools (0), whole numbers (1), strings (2). -/
def eqCell : Nat → AV → AV → Option Bool
  | 0, .bool a, .bool b => some (a == b)
  | 1, .int k a, .int k' b => if k = k' then some (a == b) else none
  | 2, .str a, .str b => some (a.toList == b.toList)
  | _, _, _ => none

def eqCells : List Nat → List AV → List AV → Option Bool
  | [], [], [] => some true
  | k :: ks, x :: xs, y :: ys => match eqCell k x y, eqCells ks xs ys with
    | some a, some b => some (a && b)
    | _, _ => none
  | _, _, _ => none

/-- Of a key's kind? -/
def AV.hasKT : KT → AV → Bool
  | .bool, .bool _ => true
  | .int k, .int k' _ => k == k'
  | .str, .str _ => true
  | .arr k n, .agg l => l.length == n && l.all fun x => match x with | .int k' _ => k == k' | _ => false
  | _, _ => false
def eqIntsA : List AV → List AV → Option Bool
  | [], [] => some true
  | .int k a :: l, .int k' b :: m => if k = k' then match eqIntsA l m with
    | some r => some (a == b && r)
    | none => none
    else none
  | _, _ => none
/-- Are two keys one?  Bools, whole numbers, strings, rows of whole numbers. -/
def keyEq : AV → AV → Option Bool
  | .bool a, .bool b => some (a == b)
  | .int k a, .int k' b => if k = k' then some (a == b) else none
  | .str a, .str b => some (a == b)
  | .agg l, .agg m => eqIntsA l m
  | _, _ => none
/-- Where the key stands. -/
def findA (k : AV) : List (AV × AV) → Nat → Option (Option (Nat × AV))
  | [], _ => some none
  | (k', v) :: r, i => match keyEq k k' with
    | some true => some (some (i, v))
    | some false => findA k r (i + 1)
    | none => none

def un (op : UnOp) : AV → Option AV
  | .int k n => match op with
    | .neg => some (.int k (k.wrap (0 - n)))
    | _ => none
  | .bool b => match op with
    | .not => some (.bool (!b))
    | _ => none
  | _ => none

def fillA (es : Nat) (cells : List AV) : List (Nat × AV) → Option (List AV)
  | [] => some cells
  | (i, v) :: r => if v.cells.length = es ∧ i * es + es ≤ cells.length ∧ v.cells.all AV.one = true then fillA es (setAll cells (i * es) v.cells) r else none

def fillB (cells : List AV) : List (Nat × Nat × AV) → Option (List AV)
  | [] => some cells
  | (off, n, v) :: r => if v.cells.length = n ∧ off + n ≤ cells.length ∧ v.cells.all AV.one = true then fillB (setAll cells off v.cells) r else none

def rep (n : Nat) (z : List AV) : List AV := match n with | 0 => [] | n + 1 => z ++ rep n z

def bound (x : Option AV) (dflt lim : Nat) : Option Nat :=
  match x with
  | none => some dflt
  | some (.int _ i) => if 0 ≤ i ∧ i ≤ lim then some i.toNat else none
  | _ => none

/-- Is it nil? of slices (0), pointers (1), maps (2), functions (3) -/
def isNil : Nat → AV → Option Bool
  | 0, .nils => some true
  | 0, .sl .. => some false
  | 0, .fs _ (_ :: _) => some false
  | 1, .nilp => some true
  | 1, .ptr .. => some false
  | 1, .fp .. => some false
  | 2, .nilm => some true
  | 2, .mp .. => some false
  | 3, .nilf => some true
  | 3, .fn .. => some false
  | _, _ => none

/-- Bytes, out of cells. -/
def bytesA : List AV → Option (List UInt8)
  | [] => some []
  | .int .u8 n :: r => if n = ((UInt8.ofNat n.toNat).toNat : Int) then match bytesA r with
      | some l => some (UInt8.ofNat n.toNat :: l)
      | none => none
    else none
  | _ => none

def mapO {α β : Type} (f : α → Option β) : List α → Option (List β)
  | [] => some []
  | x :: xs => match f x, mapO f xs with
    | some y, some ys => some (y :: ys)
    | _, _ => none

/-- n cells of a block of one's own. -/
def AH.readO (h : AH) (b o n : Nat) : Option (List AV) :=
  match h.get b with
  | some (.cells true l) => if o + n ≤ l.length then some ((l.drop o).take n) else none
  | _ => none

/-- Rows of es cells. -/
def chunk (es : Nat) : Nat → List AV → List (List AV)
  | 0, _ => []
  | n + 1, l => l.take es :: chunk es n (l.drop es)

/-- A value, frozen: what its own blocks (from lo on) hold stands in it; nil or empty is one. -/
def frzV (lo : Nat) (h : AH) : Nat → AV → Option AV
  | 0, _ => none
  | d + 1, v => match v with
    | .sl b o es n _ => if lo ≤ b then match h.readO b o (n * es) with
      | some l => match mapO (frzV lo h d) l with
        | some l' => some (.fs none (chunk es n l'))
        | none => none
      | none => none
      else none
    | .agg l => match mapO (frzV lo h d) l with
      | some l' => some (.agg l')
      | none => none
    | .tup l => match mapO (frzV lo h d) l with
      | some l' => some (.tup l')
      | none => none
    | .fn f c => match mapO (frzV lo h d) c with
      | some l' => some (.fn f l')
      | none => none
    | .ifc t x => match frzV lo h d x with
      | some y => some (.ifc t y)
      | none => none
    | .nils => some (.fs none [])
    | .fs _ l => some (.fs none l)
    | .ptr _ _ => none
    | .mp _ => none
    | v => some v

def AH.nil : AH := ⟨0, fun _ => none⟩
/-- The same blocks' names, and none of the blocks. -/
def AH.hide (h : AH) : AH := ⟨h.next, fun _ => none⟩
def DF : Nat := 20
/-- Frozen, without memory. -/
def nrm (v : AV) : Option AV := frzV 0 AH.nil DF v

mutual
/-- It leads to no block. -/
def AV.clo : AV → Bool
  | .ptr _ _ | .sl _ _ _ _ _ | .mp _ => false
  | .fn _ c => cloL c
  | .ifc _ v => v.clo
  | .agg l => cloL l
  | .tup l => cloL l
  | .fs _ l => cloLL l
  | .fp c _ => cloL c
  | _ => true
def cloL : List AV → Bool
  | [] => true
  | x :: xs => x.clo && cloL xs
def cloLL : List (List AV) → Bool
  | [] => true
  | x :: xs => cloL x && cloLL xs
end

mutual
/-- Whole numbers, bools, strings, and tuples of these. -/
def AV.scal : AV → Bool
  | .bool _ | .int _ _ | .str _ => true
  | .tup l | .agg l => scalL l
  | _ => false
def scalL : List AV → Bool
  | [] => true
  | x :: xs => x.scal && scalL xs
end

mutual
/-- It holds nothing frozen. -/
def AV.raw : AV → Bool
  | .fp _ _ => false
  | .fs _ l => l.isEmpty
  | .fn _ c => rawL c
  | .ifc _ v => v.raw
  | .agg l => rawL l
  | .tup l => rawL l
  | _ => true
def rawL : List AV → Bool
  | [] => true
  | x :: xs => x.raw && rawL xs
end
/-- What h holds, and what is new in h' and holds nothing frozen. -/
def AH.join (h h' : AH) : AH := ⟨h'.next, fun b => if b < h.next then h.f b else match h'.f b with
  | some (.cells own l) => if own && rawL l then some (.cells own l) else none
  | _ => none⟩

/-- The cells that an address leads to. -/
def rdA (h : AH) (a : AV) (n : Nat) : Option (List AV) :=
  match a with
  | .ptr b o => h.read b o n
  | .fp c o => if o + n ≤ c.length then some ((c.drop o).take n) else none
  | _ => none

/-- What a slice holds: how many elements, and their cells. -/
def srcA (h : AH) (es : Nat) (y : AV) : Option (Nat × List AV) :=
  match y with
  | .nils => some (0, [])
  | .sl b o e n _ => if e = es then (h.read b o (n * es)).map fun l => (n, l) else none
  | .fs _ l => if l.all (fun r => r.length == es) then some (l.length, l.flatten) else none
  | _ => none

/-- What is appended to. -/
def appendA (es bytes : Nat) (v y : AV) (h : AH) : Option (AV × AH) :=
  match v, srcA h es y with
    | .nils, some (m, new) => if m = 0 then some (.nils, h) else if m * bytes ≤ 2 ^ 47 ∧ m ≤ 2 ^ 47 ∧ new.all AV.one = true then some (.sl h.next 0 es m none, h.new (.cells true new)) else none
    | .fs c l, some (m, new) => if m = 0 then some (.fs c l, h) else match c with
      | some k => if k < l.length + m ∧ (l.length + m) * bytes ≤ 2 ^ 47 ∧ l.length + m ≤ 2 ^ 47 ∧ new.all AV.one = true ∧ l.all (fun r => r.length == es) = true then some (.sl h.next 0 es (l.length + m) none, h.new (.cells true (l.flatten ++ new))) else none
      | none => none
    | .sl b o e n cp, some (m, new) =>
      if e ≠ es then none else if m = 0 then some (.sl b o e n cp, h) else
      match h.get b with
      | some (.cells own l) => if o + n * es ≤ l.length ∧ (n + m) * bytes ≤ 2 ^ 47 ∧ n + m ≤ 2 ^ 47 ∧ new.all AV.one = true then
          match cp with
          | some c => if c < n + m then some (.sl h.next 0 es (n + m) none, h.new (.cells true ((l.drop o).take (n * es) ++ new))) else none
          | none => if own then some (.sl h.next 0 es (n + m) none, (h.upd b none).new (.cells true ((l.drop o).take (n * es) ++ new))) else none
        else none
      | _ => none
    | _, _ => none

/-- What an operation that is no call makes: a value, and the memory behind it. -/
def aop (k : K) (s : S) (h : AH) : Option (AV × AH) :=
  match k with
  | .mov x => some (x.ev s, h)
  | .pick c a b => match c.ev s with
    | .bool c => some (pickv c (a.ev s) (b.ev s), h)
    | _ => none
  | .box x => if (x.ev s).cells.all AV.one then some (.ptr h.next 0, h.new (.cells true (x.ev s).cells)) else none
  | .alloc z => if z.cells.all AV.one then some (.ptr h.next 0, h.new (.cells true z.cells)) else none
  | .build zero parts => match fillB zero (parts.map fun (o, n, x) => (o, n, x.ev s)) with
    | some cs => some (.agg cs, h)
    | none => none
  | .bslice len es zero parts => match fillA es (rep len zero) (parts.map fun (i, x) => (i, x.ev s)) with
    | some cs => if cs.length = len * es ∧ cs.all AV.one = true then some (.sl h.next 0 es len (some len), h.new (.cells true cs)) else none
    | none => none
  | .load agg n a => match rdA h (a.ev s) n with
    | some l => if agg then some (.agg l, h) else match l with
      | [x] => some (x, h)
      | _ => none
    | none => none
  | .store n a x => match a.ev s with
    | .ptr b o => if (x.ev s).cells.length = n then match h.write b o (x.ev s).cells with
      | some h' => some (.tup [], h')
      | none => none
      else none
    | _ => none
  | .nchk x => match x.ev s with
    | .ptr b o => some (.ptr b o, h)
    | .fp c o => some (.fp c o, h)
    | _ => none
  | .bin op x y => match bin op (x.ev s) (y.ev s) with
    | some v => some (v, h)
    | none => none
  | .eqb neg x y => match x.ev s, y.ev s with
    | .bool a, .bool b => some (.bool (bif neg then !(a == b) else a == b), h)
    | _, _ => none
  | .eqs neg ks x y => match x.ev s, y.ev s with
    | .agg l, .agg m => match eqCells ks l m with
      | some b => some (.bool (bif neg then !b else b), h)
      | none => none
    | _, _ => none
  | .eqnil kd neg x y => match isNil kd (x.ev s), isNil kd (y.ev s) with
    | some a, some b => if a || b then some (.bool (bif neg then !(a && b) else a && b), h) else none
    | _, _ => none
  | .un op x => match un op (x.ev s) with
    | some v => some (v, h)
    | none => none
  | .conv k x => match x.ev s with
    | .int _ n => some (.int k (k.wrap n), h)
    | _ => none
  | .s2b x => match x.ev s with
    | .str t => some (.sl h.next 0 1 t.size none, h.new (.cells true (t.toList.map fun c => .int .u8 c.toNat)))
    | _ => none
  | .b2s x => match srcA h 1 (x.ev s) with
    | some (_, l) => match bytesA l with
      | some bs => some (.str ⟨bs.toArray⟩, h)
      | none => none
    | none => none
  | .mslice es bytes zero l c => match l.ev s, c.ev s with
    | .int _ l, .int _ c => if 0 ≤ l ∧ l = c ∧ bytes * l ≤ 2 ^ 47 ∧ l ≤ 2 ^ 47 ∧ zero.length = es ∧ zero.all AV.one = true then some (.sl h.next 0 es l.toNat (some l.toNat), h.new (.cells true (rep l.toNat zero))) else none
    | _, _ => none
  | .slice es x lo hi mx => match x.ev s with
    | .nils => match bound (hi.map (AE.ev s)) 0 0, bound (lo.map (AE.ev s)) 0 0, mx with
      | some 0, some 0, none => some (.nils, h)
      | _, _, _ => none
    | .sl b o e n cp =>
      if e ≠ es then none else
      match (match mx with | none => some cp | some m => (bound (some (m.ev s)) 0 n).map some) with
      | none => none
      | some m =>
        match bound (hi.map (AE.ev s)) n (m.getD n) with
        | none => none
        | some j => if n < j then none else match bound (lo.map (AE.ev s)) 0 j with
          | none => none
          | some i => some (.sl b (o + i * es) es (j - i) (m.map (· - i)), h)
    | .fs c l =>
      match (match mx with | none => some c | some m => (bound (some (m.ev s)) 0 l.length).map some) with
      | none => none
      | some m =>
        match bound (hi.map (AE.ev s)) l.length (m.getD l.length) with
        | none => none
        | some j => if l.length < j then none else match bound (lo.map (AE.ev s)) 0 j with
          | none => none
          | some i => if l.all (fun r => r.length == es) = true then some (.fs (m.map (· - i)) ((l.drop i).take (j - i)), h) else none
    | _ => none
  | .slstr x lo hi => match x.ev s with
    | .str t => match bound (hi.map (AE.ev s)) t.size t.size with
      | none => none
      | some j => match bound (lo.map (AE.ev s)) 0 j with
        | none => none
        | some i => some (.str (t.extract i j), h)
    | _ => none
  | .faddr off x => match x.ev s with
    | .ptr b o => some (.ptr b (o + off), h)
    | .fp c o => some (.fp c (o + off), h)
    | _ => none
  | .iaddr es x i => match x.ev s, i.ev s with
    | .sl b o e n _, .int _ i => if e = es ∧ 0 ≤ i ∧ i < n then some (.ptr b (o + i.toNat * es), h) else none
    | .fs _ l, .int _ i => if 0 ≤ i then match l[i.toNat]? with
      | some r => if r.length = es ∧ 0 < es then some (.fp r 0, h) else none
      | none => none
      else none
    | _, _ => none
  | .index x i => match x.ev s, i.ev s with
    | .str t, .int _ i => if 0 ≤ i ∧ i < t.size then some (.int .u8 ((t.toList.getD i.toNat 0).toNat : Int), h) else none
    | _, _ => none
  | .ext x i => match x.ev s with
    | .tup l => match l[i]? with
      | some v => some (v, h)
      | none => none
    | _ => none
  | .len st x => match st, x.ev s with
    | true, .str t => some (.int .i64 t.size, h)
    | false, .nils => some (.int .i64 0, h)
    | false, .sl _ _ _ n _ => some (.int .i64 n, h)
    | false, .fs _ l => some (.int .i64 l.length, h)
    | _, _ => none
  | .movs x => match x.ev s with
    | .str t => some (.str t, h)
    | _ => none
  | .append es bytes x y => appendA es bytes (x.ev s) (y.ev s) h
  | .appendS x y => match y.ev s with
    | .str t => appendA 1 1 (x.ev s) (.fs none (t.toList.map fun c => [.int .u8 c.toNat])) h
    | _ => none
  | .appendF es bytes x y => match x.ev s, y.ev s with
    | .nils, .nils => some (.fs none [], h)
    | .nils, .fs _ l => if l.length * bytes ≤ 2 ^ 47 ∧ l.length ≤ 2 ^ 47 ∧ l.all (fun r => r.length == es) = true then some (.fs none l, h) else none
    | .fs _ l, .nils => some (.fs none l, h)
    | .fs c l, .fs _ l' => if l'.length = 0 then some (.fs none l, h) else match c with
      | some k => if k < l.length + l'.length ∧ (l.length + l'.length) * bytes ≤ 2 ^ 47 ∧ l.length + l'.length ≤ 2 ^ 47 ∧ l.all (fun r => r.length == es) = true ∧ l'.all (fun r => r.length == es) = true then some (.fs none (l ++ l'), h) else none
      | none => none
    | _, _ => none
  | .bsliceF len es zero parts => match fillA es (rep len zero) (parts.map fun (i, x) => (i, x.ev s)) with
    | some cs => if cs.length = len * es ∧ cs.all AV.one = true then match mapO nrm cs with
      | some l => some (.fs (some len) (chunk es len l), h)
      | none => none
      else none
    | none => none
  | .msliceF es bytes zero l c => match l.ev s, c.ev s with
    | .int _ l, .int _ c => if 0 ≤ l ∧ l = c ∧ bytes * l ≤ 2 ^ 47 ∧ l ≤ 2 ^ 47 ∧ zero.length = es ∧ zero.all AV.one = true then match mapO nrm zero with
      | some z => some (.fs (some l.toNat) (List.replicate l.toNat z), h)
      | none => none
      else none
    | _, _ => none
  | .s2bF x => match x.ev s with
    | .str t => some (.fs none (t.toList.map fun c => [.int .u8 c.toNat]), h)
    | _ => none
  | .mkfn f cap => some (.fn f (cap.map (AE.ev s)), h)
  | .mx big x ys => match x.ev s with
    | .int k a => (ys.foldl (fun (acc : Option Int) y => match acc, y.ev s with
        | some a, .int _ b => some (if big then (if b > a then b else a) else (if b < a then b else a))
        | _, _ => none) (some a)).map fun n => (.int k n, h)
    | _ => none
  | .lbox x => if (x.ev s).cells.all AV.one then some (.agg (x.ev s).cells, h) else none
  | .laddr t => match s t with
    | .agg _ => some (.any, h)
    | _ => none
  | .lload agg n t off => match s t with
    | .agg l => if agg then (if off + n ≤ l.length then some (.agg ((l.drop off).take n), h) else none) else match l[off]? with
      | some x => some (x, h)
      | none => none
    | _ => none
  | .lstore n t off x => match s t with
    | .agg l => if (x.ev s).cells.length = n ∧ off + n ≤ l.length ∧ (x.ev s).cells.all AV.one = true then some (.agg (setAll l off (x.ev s).cells), h) else none
    | _ => none
  | .mkmap => some (.mp h.next, h.new (.map []))
  | .mget kt ok z m k => if (k.ev s).hasKT kt then match m.ev s with
    | .nilm => some (if ok then .tup [z, .bool false] else z, h)
    | .mp b => match h.get b with
      | some (.map l) => match findA (k.ev s) l 0 with
        | some (some (_, v)) => some (if ok then .tup [v, .bool true] else v, h)
        | some none => some (if ok then .tup [z, .bool false] else z, h)
        | none => none
      | _ => none
    | _ => none
    else none
  | .mset kt m k x => if (k.ev s).hasKT kt && (x.ev s).clo then match m.ev s with
    | .mp b => match h.get b with
      | some (.map l) => match findA (k.ev s) l 0 with
        | some (some (i, _)) => some (.tup [], h.upd b (some (.map (l.set i (k.ev s, x.ev s)))))
        | some none => some (.tup [], h.upd b (some (.map (l ++ [(k.ev s, x.ev s)]))))
        | none => none
      | _ => none
    | _ => none
    else none
  | .mlen x => match x.ev s with
    | .nilm => some (.int .i64 0, h)
    | .mp b => match h.get b with
      | some (.map l) => some (.int .i64 l.length, h)
      | _ => none
    | _ => none
  | .call .. => none
  | .callv .. => none

abbrev AQ := FuncId → List AV → AH → (AV → AH → Prop) → Prop

/-- A call, as it is told of. -/
def acallM (C : AQ) (m : CM) (f : FuncId) (args : List AV) (h : AH) (R : AV → AH → Prop) : Prop :=
  match m with
  | .raw => C f args h R
  | .frz => C f args h fun v h' => h.le h' ∧ ∃ r, frzV h.next h' DF v = some r ∧ R r h
  | .bor => ∃ args', mapO (frzV 0 h DF) args = some args' ∧ C f args' h.hide fun v _ => v.scal = true ∧ R v h
  | .own => ∃ args', mapO (frzV 0 h DF) args = some args' ∧ C f args' h.hide fun v h' => v.raw = true ∧ h.next ≤ h'.next ∧ R v (h.join h')

/-- Is an empty row nil?  It may be, or not. -/
def aamb (k : K) (s : S) : Bool := match k with
  | .eqnil 0 _ x y => match x.ev s, y.ev s with
    | .fs _ [], .nils => true
    | _, _ => false
  | _ => false
/-- One operation, then what follows. -/
def astep (C : AQ) (o : AOp) (Q : S → AH → Prop) (s : S) (h : AH) : Prop :=
  match o.k with
  | .call m f args => acallM C m f (args.map (AE.ev s)) h fun v h' => Q (s.put o.dst v) h'
  | .callv m f args => match f.ev s with
    | .fn f cap => acallM C m f (args.map (AE.ev s) ++ cap) h fun v h' => Q (s.put o.dst v) h'
    | _ => False
  | k => match aop k s h with
    | some (v, h') => Q (s.put o.dst v) h'
    | none => aamb k s = true ∧ ∀ b : Bool, Q (s.put o.dst (.bool b)) h

def aguard (o : AOp) (X : Prop) (Y : Prop) (s : S) : Prop :=
  match o.guard with
  | none => X
  | some (t, want) => match s t with
    | .bool b => (b = want → X) ∧ (b = !want → Y)
    | .tup [] => Y
    | _ => False

def aone (C : AQ) (o : AOp) (Q : S → AH → Prop) (s : S) (h : AH) : Prop := aguard o (astep C o Q s h) (Q (s.put o.dst (.tup [])) h) s

def aops (C : AQ) : List AOp → (S → AH → Prop) → S → AH → Prop
  | [], Q, s, h => Q s h
  | o :: r, Q, s, h => match o.guard with
    | none => astep C o (aops C r Q) s h
    | some (t, want) => match s t with
      | .bool b => (b = want → astep C o (aops C r Q) s h) ∧ (b = !want → aops C r Q (s.put o.dst (.tup [])) h)
      | .tup [] => aops C r Q (s.put o.dst (.tup [])) h
      | _ => False

/-- May i be next, behind those of L? -/
def readyA (n : Nat) (after : List (List Nat)) (L : List Nat) (i : Nat) : Bool := decide (i < n) && !L.contains i && (after.getD i []).all L.contains

/-- In whatever order. -/
def aany (C : AQ) (ops : List AOp) (after : List (List Nat)) : Nat → List Nat → (S → AH → Prop) → S → AH → Prop
  | 0, _, Q, s, h => Q s h
  | n + 1, L, Q, s, h => ∀ i o, readyA ops.length after L i = true → ops[i]? = some o → aone C o (aany C ops after n (i :: L) Q) s h

/-- A call that is known to answer one thing, and to leave the memory as it is. -/
def softC (X : (AV → AH → Prop) → Prop) (h : AH) (Q : AV → Prop) : Prop := ∃ v, (∀ R : AV → AH → Prop, R v h → X R) ∧ Q v

/-- An operation that leaves the memory as it is, then what follows. -/
def fstep (C : AQ) (o : AOp) (Q : S → AH → Prop) (s : S) (h : AH) : Prop :=
  match o.k with
  | .call m f args => softC (acallM C m f (args.map (AE.ev s)) h) h fun v => Q (s.put o.dst v) h
  | .callv m f args => match f.ev s with
    | .fn f cap => softC (acallM C m f (args.map (AE.ev s) ++ cap) h) h fun v => Q (s.put o.dst v) h
    | _ => False
  | k => match aop k s h with
    | some (v, h') => h' = h ∧ Q (s.put o.dst v) h
    | none => False

/-- In the order of the list; those marked may turn the memory. -/
def fflow (C : AQ) : List (Nat × Bool × AOp) → (S → AH → Prop) → S → AH → Prop
  | [], Q, s, h => Q s h
  | (_, b, o) :: r, Q, s, h => aguard o (match b with | true => astep C o (fflow C r Q) s h | false => fstep C o (fflow C r Q) s h) (fflow C r Q (s.put o.dst (.tup [])) h) s

def AE.slots : AE → List Nat
  | .t n => [n]
  | .c _ => []
def oslots : Option AE → List Nat
  | some e => e.slots
  | none => []
/-- the slots that are read -/
def K.slots : K → List Nat
  | .mov x | .box x | .nchk x | .un _ x | .conv _ x | .s2b x | .s2bF x | .b2s x | .ext x _ | .len _ x | .movs x | .faddr _ x | .load _ _ x => x.slots
  | .pick c a b => c.slots ++ a.slots ++ b.slots
  | .alloc _ => []
  | .build _ ps => ps.flatMap fun p => p.2.2.slots
  | .bslice _ _ _ ps | .bsliceF _ _ _ ps => ps.flatMap fun p => p.2.slots
  | .store _ a x | .bin _ a x | .eqb _ a x | .eqs _ _ a x | .eqnil _ _ a x | .mslice _ _ _ a x | .msliceF _ _ _ a x | .iaddr _ a x | .index a x | .append _ _ a x | .appendF _ _ a x => a.slots ++ x.slots
  | .slice _ x lo hi m3 => x.slots ++ oslots lo ++ oslots hi ++ oslots m3
  | .slstr x lo hi => x.slots ++ oslots lo ++ oslots hi
  | .mkfn _ l => l.flatMap AE.slots
  | .mx _ x l => x.slots ++ l.flatMap AE.slots
  | .lbox x => x.slots
  | .laddr t | .lload _ _ t _ => [t]
  | .lstore _ t _ x => t :: x.slots
  | .appendS a x => a.slots ++ x.slots
  | .mkmap => []
  | .mget _ _ _ m k => m.slots ++ k.slots
  | .mset _ m k x => m.slots ++ k.slots ++ x.slots
  | .mlen x => x.slots
  | .call _ _ l => l.flatMap AE.slots
  | .callv _ f l => f.slots ++ l.flatMap AE.slots
def AOp.slots (o : AOp) : List Nat := o.k.slots ++ (match o.guard with | some (t, _) => [t] | none => [])
/-- It asks nothing of the memory, and leaves it. -/
def K.calm : K → Bool
  | .mov _ | .pick .. | .build .. | .nchk _ | .bin .. | .eqb .. | .eqs .. | .eqnil .. | .un .. | .conv .. | .slice .. | .slstr .. | .faddr .. | .iaddr .. | .index .. | .ext .. | .len .. | .movs _ | .mkfn .. | .mx .. | .lbox _ | .laddr _ | .lload .. | .lstore .. | .bsliceF .. | .msliceF .. | .s2bF _ | .appendF .. => true
  | _ => false

/-- Each once. -/
def dd : List Nat → List Nat → List Nat
  | acc, [] => acc
  | acc, x :: l => dd (bif acc.contains x then acc else x :: acc) l
theorem mem_dd {k : Nat} : ∀ {l acc : List Nat}, k ∈ dd acc l → k ∈ acc ∨ k ∈ l
  | [], acc, h => .inl h
  | x :: l, acc, h => by
    rcases mem_dd (l := l) h with h | h
    · cases hc : acc.contains x with
      | true => rw [hc] at h; exact .inl h
      | false =>
        rw [hc] at h
        rcases List.mem_cons.1 h with rfl | h
        · exact .inr (by simp)
        · exact .inl h
    · exact .inr (by simp [h])
theorem mem_dd0 {k : Nat} {l : List Nat} (h : k ∈ dd [] l) : k ∈ l := (mem_dd h).elim (fun h => by cases h) id
/-- What must come ahead of each. -/
def anA (after : List (List Nat)) : List (List Nat) := after.foldl (fun acc l => acc ++ [dd [] (l.flatMap fun j => j :: acc.getD j [])]) []
/-- p may be done behind q. -/
def flowSwap (p q : Bool × AOp) : Bool :=
  (match p.2.dst with | some d => !q.2.slots.contains d && q.2.dst != some d | none => true) && (match q.2.dst with | some d => !p.2.slots.contains d | none => true) &&
  !p.1 && (p.2.k.calm || !q.1)
def flowPairs (an : List (List Nat)) : List (Nat × Bool × AOp) → Bool
  | [] => true
  | p :: r => r.all (fun q => (an.getD q.1 []).contains p.1 || flowSwap p.2 q.2) && flowPairs an r
def flowOk (L : List (Nat × Bool × AOp)) (after : List (List Nat)) : Bool :=
  (L.map Prod.fst).Nodup && (L.map Prod.fst).all (fun i => decide (i < L.length)) && flowPairs (anA after) L
def opAt (L : List (Nat × Bool × AOp)) (i : Nat) : AOp := match L.find? (fun p => p.1 == i) with
  | some p => p.2.2
  | none => default

inductive AX where
  | normal
  | exit (id : Nat)
  | ret

def AX.then (n : S → AH → Prop) (Q : AX → S → AH → Prop) : AX → S → AH → Prop
  | .normal => n
  | e => Q e

def AX.inBlock (id : Nat) (Q : AX → S → AH → Prop) : AX → S → AH → Prop
  | .exit i => if i = id then Q .normal else Q (.exit i)
  | e => Q e

def rounds (W : (AX → S → AH → Prop) → S → AH → Prop) (Q : AX → S → AH → Prop) : Nat → S → AH → Prop
  | 0 => fun _ _ => False
  | n + 1 => W (AX.then (rounds W Q n) Q)

def awp (C : AQ) : AC → (AX → S → AH → Prop) → S → AH → Prop
  | .skip, Q => Q .normal
  | .reg ops, Q => aops C ops (Q .normal)
  | .regA _ _, _ => fun _ _ => False
  | .regF L _, Q => fflow C L (Q .normal)
  | .seq a b, Q => awp C a (AX.then (awp C b Q) Q)
  | .cond x a b, Q => fun s h => match x.ev s with
    | .bool c => (c = true → awp C a Q s h) ∧ (c = false → awp C b Q s h)
    | _ => False
  | .block id c, Q => awp C c (AX.inBlock id Q)
  | .loop c, Q => fun s h => ∃ n, rounds (awp C c) Q n s h
  | .exit id, Q => Q (.exit id)
  | .ret, Q => Q .ret

def ares (s : S) (h : AH) : AR → Option AV
  | .tmp t => some (s t)
  | .cell agg n t => match s t with
    | .ptr b o => match h.read b o n with
      | some l => if agg then some (.agg l) else match l with
        | [x] => some x
        | _ => none
      | none => none
    | _ => none
  | .lcell agg n t => match s t with
    | .agg l => if l.length = n then (if agg then some (.agg l) else match l with
        | [x] => some x
        | _ => none) else none
    | _ => none

def aress (s : S) (h : AH) : List AR → Option (List AV)
  | [] => some []
  | r :: rs => match ares s h r, aress s h rs with
    | some v, some vs => some (v :: vs)
    | _, _ => none

def aresult (s : S) (h : AH) (rs : List AR) : Option AV :=
  match aress s h rs with
  | some [v] => some v
  | some vs => some (.tup vs)
  | none => none

def S.init (boxes : List Nat) (args : List AV) : S := fun k => match args[k]? with | some v => v | none => if boxes.contains k then .any else .tup []

/-- What the compiler knows nothing of is struck. -/
def K.erase : K → K
  | .call _ f args => .call .raw f args
  | .callv _ f args => .callv .raw f args
  | .bsliceF a b c d => .bslice a b c d
  | .msliceF a b c d e => .mslice a b c d e
  | .s2bF x => .s2b x
  | .appendF a b c d => .append a b c d
  | k => k
def AOp.erase (o : AOp) : AOp := ⟨o.dst, o.guard, o.k.erase⟩
def AC.erase : AC → AC
  | .reg ops => .reg (ops.map AOp.erase)
  | .regA ops a => .regA (ops.map AOp.erase) a
  | .regF L a => bif flowOk L a then .regA ((List.range L.length).map fun i => (opAt L i).erase) a else .regF L a
  | .seq a b => .seq a.erase b.erase
  | .cond x a b => .cond x a.erase b.erase
  | .block id c => .block id c.erase
  | .loop c => .loop c.erase
  | c => c
def AFunc.erase (f : AFunc) : AFunc := ⟨f.boxes, f.np, f.results, f.body.erase⟩

/-- A body, entered. -/
def abody (C : AQ) (af : AFunc) (args : List AV) (h : AH) (R : AV → AH → Prop) : Prop :=
  args.length = af.np ∧ awp C af.body (fun e s h' => match e with
    | .exit _ => False
    | _ => match aresult s h' af.results with
      | some v => R v h'
      | none => False) (S.init af.boxes args) h

/-- The calls of the functions that ap lists, and of those that E tells of. -/
def ACalls (ap : FuncId → Option AFunc) (E : AQ) : AQ := fun f args h R =>
  ∀ C : AQ, (∀ f args h R, E f args h R → C f args h R) → (∀ f args h R af, ap f = some af → abody C af args h R → C f args h R) → C f args h R

end Go.Bm
