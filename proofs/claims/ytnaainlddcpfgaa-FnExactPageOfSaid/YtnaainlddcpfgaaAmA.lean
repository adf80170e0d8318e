/- The abstract machine: values, memory, what one operation does, what code does. Plain definitions. -/
import Derived.Calls
import Derived.Orders
import Derived.LoopN
import Derived.Below
import Derived.WalkKit
import Derived.KernelRfl
namespace Go.Am
set_option linter.all false
open Go Go.RowKit

inductive AV where
  | any
  | bool (b : Bool)
  | int (k : IntKind) (n : Int)
  | str (s : ByteArray)
  | nilp
  | ptr (b o : Nat)
  | nils
  | sl (b o es len : Nat) (cap : Option Nat)
  | nilm
  | mp (b : Nat)
  | nilf
  | fn (f : FuncId) (cap : List AV)
  | nili
  | ifc (t : TypeId) (v : AV)
  | agg (l : List AV)
  | tup (l : List AV)
  deriving Inhabited

def AV.cells : AV → List AV
  | .agg l => l
  | v => [v]

/-- It fits one cell of memory. -/
def AV.one : AV → Bool
  | .any | .agg _ | .tup _ => false
  | _ => true

inductive AB where
  | cells (own : Bool) (l : List AV)
  | map (l : List (AV × AV))
  deriving Inhabited

def AB.own : AB → Bool
  | .cells o _ => o
  | .map _ => true

structure AH where
  next : Nat
  f : Nat → Option AB

def AH.get (h : AH) (b : Nat) : Option AB := if b < h.next then h.f b else none
def AH.upd (h : AH) (b : Nat) (x : Option AB) : AH := ⟨h.next, fun k => if k = b then x else h.f k⟩
def AH.new (h : AH) (x : AB) : AH := ⟨h.next + 1, fun k => if k = h.next then some x else h.f k⟩

theorem AH.get_new (h : AH) (x : AB) (b : Nat) : (h.new x).get b = if b = h.next then some x else h.get b := by
  show (if b < h.next + 1 then (if b = h.next then some x else h.f b) else none) = if b = h.next then some x else (if b < h.next then h.f b else none)
  by_cases e : b = h.next
  · subst e; simp
  · by_cases l : b < h.next
    · simp [e, l, show b < h.next + 1 by omega]
    · simp [e, l, show ¬ b < h.next + 1 by omega]
theorem AH.get_lt {h : AH} {b : Nat} {x : AB} (e : h.get b = some x) : b < h.next := by
  unfold AH.get at e
  split at e
  · assumption
  · cases e
theorem AH.get_kill (h : AH) (b c : Nat) : (h.upd b none).get c = if c = b then none else h.get c := by
  show (if c < h.next then (if c = b then none else h.f c) else none) = if c = b then none else (if c < h.next then h.f c else none)
  by_cases e : c = b
  · subst e; simp
  · simp [e]
theorem AH.get_upd {h : AH} {b : Nat} (hb : b < h.next) (x : AB) (c : Nat) : (h.upd b (some x)).get c = if c = b then some x else h.get c := by
  show (if c < h.next then (if c = b then some x else h.f c) else none) = if c = b then some x else (if c < h.next then h.f c else none)
  by_cases e : c = b
  · subst e; simp [hb]
  · simp [e]
theorem AH.next_new (h : AH) (x : AB) : (h.new x).next = h.next + 1 := rfl
theorem AH.next_upd (h : AH) (b : Nat) (x : Option AB) : (h.upd b x).next = h.next := rfl

/-- Whatever lay there lies there still. -/
def AH.le (h h' : AH) : Prop := h.next ≤ h'.next ∧ ∀ b, b < h.next → h'.get b = h.get b

abbrev S := Nat → AV
def S.upd (s : S) (d : Nat) (v : AV) : S := fun k => if k = d then v else s k
def S.put (s : S) (d : Option Nat) (v : AV) : S := match d with | some d => s.upd d v | none => s

inductive AE where
  | t (n : Nat)
  | c (v : AV)
  deriving Inhabited

def AE.ev (s : S) : AE → AV
  | .t n => s n
  | .c v => v

/-- Kinds of operations, their types looked up. -/
inductive K where
  | mov (x : AE)
  | pick (c a b : AE)
  | box (x : AE)
  | alloc (z : AV)
  | build (zero : List AV) (parts : List (Nat × Nat × AE))
  | bslice (len es : Nat) (zero : List AV) (parts : List (Nat × AE))
  | load (agg : Bool) (n : Nat) (a : AE)
  | store (n : Nat) (a x : AE)
  | loadR (agg : Bool) (n : Nat) (a : AE) (t off : Nat)
  | storeD (n : Nat) (a x : AE) (av : List (Nat × Nat × Nat))
  | nchk (x : AE)
  | bin (op : BinOp) (x y : AE)
  | eqb (neg : Bool) (x y : AE)
  | eqs (neg : Bool) (ks : List Nat) (x y : AE)
  | eqnil (kind : Nat) (neg : Bool) (x y : AE)
  | un (op : UnOp) (x : AE)
  | conv (k : IntKind) (x : AE)
  | s2b (x : AE)
  | b2s (x : AE)
  | mslice (es bytes : Nat) (zero : List AV) (len cap : AE)
  | slice (es : Nat) (x : AE) (lo hi mx : Option AE)
  | slstr (x : AE) (lo hi : Option AE)
  | faddr (off : Nat) (x : AE)
  | iaddr (es : Nat) (x i : AE)
  | index (x i : AE)
  | ext (x : AE) (i : Nat)
  | len (st : Bool) (x : AE)
  | movs (x : AE)
  | append (es bytes : Nat) (x y : AE)
  | mkfn (f : FuncId) (cap : List AE)
  | mx (max : Bool) (x : AE) (ys : List AE)
  | lbox (x : AE)
  | laddr (t : Nat)
  | lload (agg : Bool) (n t off : Nat)
  | lstore (n t off : Nat) (x : AE)
  | call (f : FuncId) (args : List AE)
  | callv (f : AE) (args : List AE)
  deriving Inhabited

structure AOp where
  dst : Option Nat
  guard : Option (Nat × Bool)
  k : K
  deriving Inhabited

inductive AC where
  | skip
  | reg (ops : List AOp)
  | regD (ops : List AOp)
  | seq (a b : AC)
  | cond (x : AE) (a b : AC)
  | block (id : Nat) (c : AC)
  | loop (c : AC)
  | exit (id : Nat)
  | ret
  deriving Inhabited

inductive AR where
  | tmp (t : Nat)
  | cell (agg : Bool) (n : Nat) (a : Nat)
  | lcell (agg : Bool) (n : Nat) (a : Nat)
  deriving Inhabited

structure AFunc where
  boxes : List Nat
  np : Nat
  results : List AR
  body : AC
  deriving Inhabited

/-! ### reading and writing -/
/-- n cells of block b from o on. -/
def AH.read (h : AH) (b o n : Nat) : Option (List AV) :=
  match h.get b with
  | some (.cells _ l) => if o + n ≤ l.length then some ((l.drop o).take n) else none
  | _ => none

def setAll {α : Type} (l : List α) (o : Nat) : List α → List α
  | [] => l
  | x :: r => setAll (l.set o x) (o + 1) r

def AH.write (h : AH) (b o : Nat) (xs : List AV) : Option AH :=
  match h.get b with
  | some (.cells true l) => if o + xs.length ≤ l.length && xs.all AV.one then some (h.upd b (some (.cells true (setAll l o xs)))) else none
  | _ => none

/-- the cells of a slice -/
def AH.cellsOf (h : AH) (es : Nat) : AV → Option (List AV)
  | .nils => some []
  | .sl b o e n _ => if e = es then h.read b o (n * es) else none
  | _ => none

def pickv (c : Bool) (a b : AV) : AV :=
  match a, b with
  | .bool p, .bool q => .bool (bif c then p else q)
  | a, b => bif c then a else b

def binInt (op : BinOp) (k : IntKind) (a b : Int) : Option AV :=
  match op with
  | .add => some (.int k (k.wrap (a + b)))
  | .sub => some (.int k (k.wrap (a - b)))
  | .mul => some (.int k (k.wrap (a * b)))
  | .quo => if b = 0 then none else some (.int k (k.wrap (a.tdiv b)))
  | .rem => if b = 0 then none else some (.int k (a.tmod b))
  | .and => some (.int k (k.wrap (BitVec.ofInt k.bits a &&& BitVec.ofInt k.bits b).toNat))
  | .or => some (.int k (k.wrap (BitVec.ofInt k.bits a ||| BitVec.ofInt k.bits b).toNat))
  | .xor => some (.int k (k.wrap (BitVec.ofInt k.bits a ^^^ BitVec.ofInt k.bits b).toNat))
  | .shl => if b < 0 then none else some (.int k (k.wrap (a * 2 ^ min b.toNat k.bits)))
  | .shr => if b < 0 then none else some (.int k (a.fdiv (2 ^ min b.toNat k.bits)))
  | .eql => some (.bool (a == b))
  | .neq => some (.bool (a != b))
  | .lss => some (.bool (decide (a < b)))
  | .leq => some (.bool (decide (a ≤ b)))
  | .gtr => some (.bool (decide (a > b)))
  | .geq => some (.bool (decide (a ≥ b)))
  | _ => none

def binStr (op : BinOp) (a b : ByteArray) : Option AV :=
  match op with
  | .add => if ((a.size + b.size : Nat) : Int) > IntKind.i64.max then none else some (.str (a ++ b))
  | .eql => some (.bool (a.toList == b.toList))
  | .neq => some (.bool (!(a.toList == b.toList)))
  | .lss => some (.bool (Op.bytesLess a.toList b.toList))
  | .leq => some (.bool (Op.bytesLess a.toList b.toList || a.toList == b.toList))
  | .gtr => some (.bool (!(Op.bytesLess a.toList b.toList || a.toList == b.toList)))
  | .geq => some (.bool (!Op.bytesLess a.toList b.toList))
  | _ => none

def bin (op : BinOp) : AV → AV → Option AV
  | .int k a, .int k' b => if k = k' then binInt op k a b else match op with
    | .shl | .shr => binInt op k a b
    | _ => none
  | .str a, .str b => binStr op a b
  | _, _ => none

/-- One cell against one: bools (0), whole numbers (1), strings (2). -/
def eqCell : Nat → AV → AV → Option Bool
  | 0, .bool a, .bool b => some (a == b)
  | 1, .int k a, .int k' b => if k = k' then some (a == b) else none
  | 2, .str a, .str b => some (a.toList == b.toList)
  | _, _, _ => none

def eqCells : List Nat → List AV → List AV → Option Bool
  | [], [], [] => some true
  | k :: ks, x :: xs, y :: ys => match eqCell k x y, eqCells ks xs ys with
    | some a, some b => some (a && b)
    | _, _ => none
  | _, _, _ => none

def un (op : UnOp) : AV → Option AV
  | .int k n => match op with
    | .neg => some (.int k (k.wrap (0 - n)))
    | _ => none
  | .bool b => match op with
    | .not => some (.bool (!b))
    | _ => none
  | _ => none

def fillA (es : Nat) (cells : List AV) : List (Nat × AV) → Option (List AV)
  | [] => some cells
  | (i, v) :: r => if v.cells.length = es ∧ i * es + es ≤ cells.length ∧ v.cells.all AV.one = true then fillA es (setAll cells (i * es) v.cells) r else none

def fillB (cells : List AV) : List (Nat × Nat × AV) → Option (List AV)
  | [] => some cells
  | (off, n, v) :: r => if v.cells.length = n ∧ off + n ≤ cells.length ∧ v.cells.all AV.one = true then fillB (setAll cells off v.cells) r else none

def rep (n : Nat) (z : List AV) : List AV := match n with | 0 => [] | n + 1 => z ++ rep n z

def bound (x : Option AV) (dflt lim : Nat) : Option Nat :=
  match x with
  | none => some dflt
  | some (.int _ i) => if 0 ≤ i ∧ i ≤ lim then some i.toNat else none
  | _ => none

/-- Is it nil? of slices (0), pointers (1), maps (2), functions (3) -/
def isNil : Nat → AV → Option Bool
  | 0, .nils => some true
  | 0, .sl .. => some false
  | 1, .nilp => some true
  | 1, .ptr .. => some false
  | 2, .nilm => some true
  | 2, .mp .. => some false
  | 3, .nilf => some true
  | 3, .fn .. => some false
  | _, _ => none

/-- Bytes, out of cells. -/
def bytesA : List AV → Option (List UInt8)
  | [] => some []
  | .int .u8 n :: r => if n = ((UInt8.ofNat n.toNat).toNat : Int) then match bytesA r with
      | some l => some (UInt8.ofNat n.toNat :: l)
      | none => none
    else none
  | _ => none

/-- What is written lies apart from what the slots tell of. -/
def apartAll (s : S) (b o n : Nat) (av : List (Nat × Nat × Nat)) : Bool := av.all fun (m, t, off) => match s t with
  | .ptr b' o' => b' != b || decide (o' + off + m ≤ o) || decide (o + n ≤ o' + off)
  | _ => true

/-- What an operation that is no call makes: a value, and the memory behind it. -/
def aop (k : K) (s : S) (h : AH) : Option (AV × AH) :=
  match k with
  | .mov x => some (x.ev s, h)
  | .pick c a b => match c.ev s with
    | .bool c => some (pickv c (a.ev s) (b.ev s), h)
    | _ => none
  | .box x => if (x.ev s).cells.all AV.one then some (.ptr h.next 0, h.new (.cells true (x.ev s).cells)) else none
  | .alloc z => if z.cells.all AV.one then some (.ptr h.next 0, h.new (.cells true z.cells)) else none
  | .build zero parts => match fillB zero (parts.map fun (o, n, x) => (o, n, x.ev s)) with
    | some cs => some (.agg cs, h)
    | none => none
  | .bslice len es zero parts => match fillA es (rep len zero) (parts.map fun (i, x) => (i, x.ev s)) with
    | some cs => if cs.length = len * es ∧ cs.all AV.one = true then some (.sl h.next 0 es len (some len), h.new (.cells true cs)) else none
    | none => none
  | .load agg n a => match a.ev s with
    | .ptr b o => match h.read b o n with
      | some l => if agg then some (.agg l, h) else match l with
        | [x] => some (x, h)
        | _ => none
      | none => none
    | _ => none
  | .store n a x => match a.ev s with
    | .ptr b o => if (x.ev s).cells.length = n then match h.write b o (x.ev s).cells with
      | some h' => some (.tup [], h')
      | none => none
      else none
    | _ => none
  | .loadR agg n a t off => match a.ev s, s t with
    | .ptr b o, .ptr b' o' => if b = b' ∧ o = o' + off then match h.read b o n with
      | some l => if agg then some (.agg l, h) else match l with
        | [x] => some (x, h)
        | _ => none
      | none => none
      else none
    | _, _ => none
  | .storeD n a x av => match a.ev s with
    | .ptr b o => if (x.ev s).cells.length = n ∧ apartAll s b o n av = true then match h.write b o (x.ev s).cells with
      | some h' => some (.tup [], h')
      | none => none
      else none
    | _ => none
  | .nchk x => match x.ev s with
    | .ptr b o => some (.ptr b o, h)
    | _ => none
  | .bin op x y => match bin op (x.ev s) (y.ev s) with
    | some v => some (v, h)
    | none => none
  | .eqb neg x y => match x.ev s, y.ev s with
    | .bool a, .bool b => some (.bool (bif neg then !(a == b) else a == b), h)
    | _, _ => none
  | .eqs neg ks x y => match x.ev s, y.ev s with
    | .agg l, .agg m => match eqCells ks l m with
      | some b => some (.bool (bif neg then !b else b), h)
      | none => none
    | _, _ => none
  | .eqnil kd neg x y => match isNil kd (x.ev s), isNil kd (y.ev s) with
    | some a, some b => if a || b then some (.bool (bif neg then !(a && b) else a && b), h) else none
    | _, _ => none
  | .un op x => match un op (x.ev s) with
    | some v => some (v, h)
    | none => none
  | .conv k x => match x.ev s with
    | .int _ n => some (.int k (k.wrap n), h)
    | _ => none
  | .s2b x => match x.ev s with
    | .str t => some (.sl h.next 0 1 t.size none, h.new (.cells true (t.toList.map fun c => .int .u8 c.toNat)))
    | _ => none
  | .b2s x => match x.ev s with
    | .nils => some (.str ⟨#[]⟩, h)
    | .sl b o e n _ => if e = 1 then match h.read b o n with
      | some l => match bytesA l with
        | some bs => some (.str ⟨bs.toArray⟩, h)
        | none => none
      | none => none
      else none
    | _ => none
  | .mslice es bytes zero l c => match l.ev s, c.ev s with
    | .int _ l, .int _ c => if 0 ≤ l ∧ l = c ∧ bytes * l ≤ 2 ^ 47 ∧ l ≤ 2 ^ 47 ∧ zero.length = es ∧ zero.all AV.one = true then some (.sl h.next 0 es l.toNat (some l.toNat), h.new (.cells true (rep l.toNat zero))) else none
    | _, _ => none
  | .slice es x lo hi mx => match x.ev s with
    | .nils => match bound (hi.map (AE.ev s)) 0 0, bound (lo.map (AE.ev s)) 0 0, mx with
      | some 0, some 0, none => some (.nils, h)
      | _, _, _ => none
    | .sl b o e n cp =>
      if e ≠ es then none else
      match (match mx with | none => some cp | some m => (bound (some (m.ev s)) 0 n).map some) with
      | none => none
      | some m =>
        match bound (hi.map (AE.ev s)) n (m.getD n) with
        | none => none
        | some j => if n < j then none else match bound (lo.map (AE.ev s)) 0 j with
          | none => none
          | some i => some (.sl b (o + i * es) es (j - i) (m.map (· - i)), h)
    | _ => none
  | .slstr x lo hi => match x.ev s with
    | .str t => match bound (hi.map (AE.ev s)) t.size t.size with
      | none => none
      | some j => match bound (lo.map (AE.ev s)) 0 j with
        | none => none
        | some i => some (.str (t.extract i j), h)
    | _ => none
  | .faddr off x => match x.ev s with
    | .ptr b o => some (.ptr b (o + off), h)
    | _ => none
  | .iaddr es x i => match x.ev s, i.ev s with
    | .sl b o e n _, .int _ i => if e = es ∧ 0 ≤ i ∧ i < n then some (.ptr b (o + i.toNat * es), h) else none
    | _, _ => none
  | .index x i => match x.ev s, i.ev s with
    | .str t, .int _ i => if 0 ≤ i ∧ i < t.size then some (.int .u8 ((t.toList.getD i.toNat 0).toNat : Int), h) else none
    | _, _ => none
  | .ext x i => match x.ev s with
    | .tup l => match l[i]? with
      | some v => some (v, h)
      | none => none
    | _ => none
  | .len st x => match st, x.ev s with
    | true, .str t => some (.int .i64 t.size, h)
    | false, .nils => some (.int .i64 0, h)
    | false, .sl _ _ _ n _ => some (.int .i64 n, h)
    | _, _ => none
  | .movs x => match x.ev s with
    | .str t => some (.str t, h)
    | _ => none
  | .append es bytes x y =>
    match x.ev s, (match y.ev s with
        | .nils => some (0, [])
        | .sl b o e n _ => if e = es then (h.read b o (n * es)).map fun l => (n, l) else none
        | _ => none) with
    | .nils, some (m, new) => if m = 0 then some (.nils, h) else if m * bytes ≤ 2 ^ 47 ∧ m ≤ 2 ^ 47 ∧ new.all AV.one = true then some (.sl h.next 0 es m none, h.new (.cells true new)) else none
    | .sl b o e n cp, some (m, new) =>
      if e ≠ es then none else if m = 0 then some (.sl b o e n cp, h) else
      match h.get b with
      | some (.cells own l) => if o + n * es ≤ l.length ∧ (n + m) * bytes ≤ 2 ^ 47 ∧ n + m ≤ 2 ^ 47 ∧ new.all AV.one = true then
          match cp with
          | some c => if c < n + m then some (.sl h.next 0 es (n + m) none, h.new (.cells true ((l.drop o).take (n * es) ++ new))) else none
          | none => if own then some (.sl h.next 0 es (n + m) none, (h.upd b none).new (.cells true ((l.drop o).take (n * es) ++ new))) else none
        else none
      | _ => none
    | _, _ => none
  | .mkfn f cap => some (.fn f (cap.map (AE.ev s)), h)
  | .mx big x ys => match x.ev s with
    | .int k a => (ys.foldl (fun (acc : Option Int) y => match acc, y.ev s with
        | some a, .int _ b => some (if big then (if b > a then b else a) else (if b < a then b else a))
        | _, _ => none) (some a)).map fun n => (.int k n, h)
    | _ => none
  | .lbox x => if (x.ev s).cells.all AV.one then some (.agg (x.ev s).cells, h) else none
  | .laddr t => match s t with
    | .agg _ => some (.any, h)
    | _ => none
  | .lload agg n t off => match s t with
    | .agg l => if agg then (if off + n ≤ l.length then some (.agg ((l.drop off).take n), h) else none) else match l[off]? with
      | some x => some (x, h)
      | none => none
    | _ => none
  | .lstore n t off x => match s t with
    | .agg l => if (x.ev s).cells.length = n ∧ off + n ≤ l.length ∧ (x.ev s).cells.all AV.one = true then some (.agg (setAll l off (x.ev s).cells), h) else none
    | _ => none
  | .call .. => none
  | .callv .. => none

abbrev AQ := FuncId → List AV → AH → (AV → AH → Prop) → Prop

/-- One operation, then what follows. -/
def astep (C : AQ) (o : AOp) (Q : S → AH → Prop) (s : S) (h : AH) : Prop :=
  match o.k with
  | .call f args => C f (args.map (AE.ev s)) h fun v h' => Q (s.put o.dst v) h'
  | .callv f args => match f.ev s with
    | .fn f cap => C f (args.map (AE.ev s) ++ cap) h fun v h' => Q (s.put o.dst v) h'
    | _ => False
  | k => match aop k s h with
    | some (v, h') => Q (s.put o.dst v) h'
    | none => False

def aops (C : AQ) : List AOp → (S → AH → Prop) → S → AH → Prop
  | [], Q, s, h => Q s h
  | o :: r, Q, s, h => match o.guard with
    | none => astep C o (aops C r Q) s h
    | some (t, want) => match s t with
      | .bool b => (b = want → astep C o (aops C r Q) s h) ∧ (b = !want → aops C r Q (s.put o.dst (.tup [])) h)
      | .tup [] => aops C r Q (s.put o.dst (.tup [])) h
      | _ => False

/-- The same in a region that draws its order: a call leaves what lay there. -/
def astepD (C : AQ) (o : AOp) (Q : S → AH → Prop) (s : S) (h : AH) : Prop :=
  match o.k with
  | .call f args => C f (args.map (AE.ev s)) h fun v h' => h.le h' ∧ Q (s.put o.dst v) h'
  | .callv f args => match f.ev s with
    | .fn f cap => C f (args.map (AE.ev s) ++ cap) h fun v h' => h.le h' ∧ Q (s.put o.dst v) h'
    | _ => False
  | k => match aop k s h with
    | some (v, h') => Q (s.put o.dst v) h'
    | none => False

def aguard (o : AOp) (X : Prop) (Y : Prop) (s : S) : Prop :=
  match o.guard with
  | none => X
  | some (t, want) => match s t with
    | .bool b => (b = want → X) ∧ (b = !want → Y)
    | .tup [] => Y
    | _ => False

def aopsD (C : AQ) : List AOp → (S → AH → Prop) → S → AH → Prop
  | [], Q, s, h => Q s h
  | o :: r, Q, s, h => aguard o (astepD C o (aopsD C r Q) s h) (aopsD C r Q (s.put o.dst (.tup [])) h) s

inductive AX where
  | normal
  | exit (id : Nat)
  | ret

def AX.then (n : S → AH → Prop) (Q : AX → S → AH → Prop) : AX → S → AH → Prop
  | .normal => n
  | e => Q e

def AX.inBlock (id : Nat) (Q : AX → S → AH → Prop) : AX → S → AH → Prop
  | .exit i => if i = id then Q .normal else Q (.exit i)
  | e => Q e

def rounds (W : (AX → S → AH → Prop) → S → AH → Prop) (Q : AX → S → AH → Prop) : Nat → S → AH → Prop
  | 0 => fun _ _ => False
  | n + 1 => W (AX.then (rounds W Q n) Q)

def awp (C : AQ) : AC → (AX → S → AH → Prop) → S → AH → Prop
  | .skip, Q => Q .normal
  | .reg ops, Q => aops C ops (Q .normal)
  | .regD ops, Q => aopsD C ops (Q .normal)
  | .seq a b, Q => awp C a (AX.then (awp C b Q) Q)
  | .cond x a b, Q => fun s h => match x.ev s with
    | .bool c => (c = true → awp C a Q s h) ∧ (c = false → awp C b Q s h)
    | _ => False
  | .block id c, Q => awp C c (AX.inBlock id Q)
  | .loop c, Q => fun s h => ∃ n, rounds (awp C c) Q n s h
  | .exit id, Q => Q (.exit id)
  | .ret, Q => Q .ret

def ares (s : S) (h : AH) : AR → Option AV
  | .tmp t => some (s t)
  | .cell agg n t => match s t with
    | .ptr b o => match h.read b o n with
      | some l => if agg then some (.agg l) else match l with
        | [x] => some x
        | _ => none
      | none => none
    | _ => none
  | .lcell agg n t => match s t with
    | .agg l => if l.length = n then (if agg then some (.agg l) else match l with
        | [x] => some x
        | _ => none) else none
    | _ => none

def aress (s : S) (h : AH) : List AR → Option (List AV)
  | [] => some []
  | r :: rs => match ares s h r, aress s h rs with
    | some v, some vs => some (v :: vs)
    | _, _ => none

def aresult (s : S) (h : AH) (rs : List AR) : Option AV :=
  match aress s h rs with
  | some [v] => some v
  | some vs => some (.tup vs)
  | none => none

def S.init (boxes : List Nat) (args : List AV) : S := fun k => match args[k]? with | some v => v | none => if boxes.contains k then .any else .tup []

/-- A body, entered. -/
def abody (C : AQ) (af : AFunc) (args : List AV) (h : AH) (R : AV → AH → Prop) : Prop :=
  args.length = af.np ∧ awp C af.body (fun e s h' => match e with
    | .exit _ => False
    | _ => match aresult s h' af.results with
      | some v => R v h'
      | none => False) (S.init af.boxes args) h

/-- The calls of the functions that ap lists, and of those that E tells of. -/
def ACalls (ap : FuncId → Option AFunc) (E : AQ) : AQ := fun f args h R =>
  ∀ C : AQ, (∀ f args h R, E f args h R → C f args h R) → (∀ f args h R af, ap f = some af → abody C af args h R → C f args h R) → C f args h R

end Go.Am
