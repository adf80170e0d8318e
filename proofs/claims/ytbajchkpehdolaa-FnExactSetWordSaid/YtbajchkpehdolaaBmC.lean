/- From the model's code to the abstract machine's: a function that looks the types up. -/
import Derived.Test.YtbajchkpehdolaaBmB
import Derived.Test.YtbajchkpehdolaaBmI
import Derived.Orders
import Derived.Laws.MakeOwn
namespace Go.Bm
set_option linter.all false
open Go Go.RowKit
set_option linter.unusedVariables false
set_option linter.unusedSimpArgs false

def cV1 : Value → Option AV
  | .bool b => some (.bool b)
  | .int k n => some (.int k n)
  | .string s => some (.str s)
  | .pointer none => some .nilp
  | .slice none 0 0 => some .nils
  | .map none => some .nilm
  | .nilFunc => some .nilf
  | .nilIface => some .nili
  | _ => none

def cV : Value → Option AV
  | .agg cs => match mapO cV1 cs.toList with
    | some l => some (.agg l)
    | none => none
  | .tuple cs => if cs.size = 0 then some (.tup []) else none
  | v => cV1 v

/-- From this slot on lie what the local boxes hold. -/
def LB : Nat := 100000

def cE : Operand → Option AE
  | .tmp t => if t < LB then some (.t t) else none
  | .const v => match cV v with
    | some x => some (.c x)
    | none => none
  | .func f => some (.c (.fn f []))
  | .global _ => none

def cEo : Option Operand → Option (Option AE)
  | none => some none
  | some x => match cE x with
    | some e => some (some e)
    | none => none

def zeroOf (P : Program) (t : TypeId) : Option AV :=
  match P.info? t with
  | some i => match i.zero with
    | some z => cV z
    | none => none
  | none => none

def sizeT (P : Program) (t : TypeId) : Option Nat :=
  match P.info? t with
  | some i => some i.size
  | none => none

/-- Struct types whose parts are whole numbers, bools and strings, cell by cell: how many cells. -/
def flatFields (f : TypeId → Option (List Nat)) : Nat → List Field → Option (List Nat)
  | _, [] => some []
  | o, x :: xs => if x.offset = o ∧ x.name ≠ "_" then match f x.type with
      | some n => match flatFields f (o + n.length) xs with
        | some m => some (n ++ m)
        | none => none
      | none => none
    else none
def flatEq (P : Program) : Nat → TypeId → Option (List Nat)
  | 0, _ => none
  | d + 1, t => match P.underlying t, P.info? t with
    | some .bool, some _ => some [0]
    | some (.int _), some _ => some [1]
    | some .string, some _ => some [2]
    | some (.struct fs), some i => if P.stoodInHeld t then none else match flatFields (flatEq P d) 0 fs.toList with
      | some n => if i.size = n.length then some n else none
      | none => none
    | _, _ => none

def cBin (P : Program) (op : BinOp) (t : TypeId) (x y : AE) : Option K :=
  match op with
  | .eql | .neq => match P.underlying t with
    | some (.int _) | some .string => some (.bin op x y)
    | some .bool => some (.eqb (match op with | .neq => true | _ => false) x y)
    | some (.struct _) => if P.eqGuardType P.depth t then none else match flatEq P 6 t with
      | some n => some (.eqs (match op with | .neq => true | _ => false) n x y)
      | none => none
    | some (.slice _) => some (.eqnil 0 (match op with | .neq => true | _ => false) x y)
    | some (.pointer _) => some (.eqnil 1 (match op with | .neq => true | _ => false) x y)
    | some (.map _ _) => some (.eqnil 2 (match op with | .neq => true | _ => false) x y)
    | some (.func _ _ _) => some (.eqnil 3 (match op with | .neq => true | _ => false) x y)
    | _ => none
  | _ => some (.bin op x y)

/-- The kind of a map's keys. -/
def keyKT (P : Program) (t : TypeId) : Option KT := match P.underlying t with
  | some .bool => some .bool
  | some (.int k) => some (.int k)
  | some .string => some .str
  | some (.array n e) => match P.underlying e, P.info? e with
    | some (.int k), some i => if i.size = 1 ∧ P.cellsOf e = 1 then some (.arr k n) else none
    | _, _ => none
  | _ => none

def cParts (P : Program) (fs : Array Field) (p : Nat × Operand) : Option (Nat × Nat × AE) :=
  match fs[p.1]?, cE p.2 with
  | some f, some e => match sizeT P f.type with
    | some n => some (f.offset, n, e)
    | none => none
  | _, _ => none

def cPart1 (p : Nat × Operand) : Option (Nat × AE) :=
  match cE p.2 with
  | some e => some (p.1, e)
  | none => none

def cCall (P : Program) (c : Call) : Option K :=
  match c.callee, mapO cE c.args.toList with
  | .value (.func f), some args => some (.call .raw f args)
  | .value x, some args => match cE x with
    | some e => some (.callv .raw e args)
    | none => none
  | .builtin .len, some [x] => match c.argTypes[0]? with
    | some t => match P.underlying t with
      | some .string => some (.len true x)
      | some (.slice _) => some (.len false x)
      | some (.map _ _) => some (.mlen x)
      | _ => none
    | none => none
  | .builtin .append, some [x, y] => match c.argTypes[0]?, c.argTypes[1]? with
    | some t, some u => match P.underlying t, P.underlying u with
      | some (.slice e), some (.slice e') => match P.info? e, zeroOf P e with
        | some i, some z => if e = e' ∧ 0 < i.size ∧ 0 < i.bytes ∧ z.cells.length = i.size ∧ z.cells.all AV.one = true then some (.append i.size i.bytes x y) else none
        | _, _ => none
      | some (.slice e), some .string => match P.underlying e, P.info? e, zeroOf P e with
        | some (.int .u8), some i, some z => if i.size = 1 ∧ i.bytes = 1 ∧ z.cells.length = 1 ∧ z.cells.all AV.one = true then some (.appendS x y) else none
        | _, _, _ => none
      | _, _ => none
    | _, _ => none
  | .builtin .max, some (x :: ys) => some (.mx true x ys)
  | .builtin .min, some (x :: ys) => some (.mx false x ys)
  | _, _ => none

def cK (P : Program) (o : Op) : Option K :=
  match o with
  | .move x | .assign x => match cE x with | some e => some (.mov e) | none => none
  | .pick c a b => match cE c, cE a, cE b with | some c, some a, some b => some (.pick c a b) | _, _, _ => none
  | .box _ x => match cE x with | some e => some (.box e) | none => none
  | .alloc t => match zeroOf P t with | some z => some (.alloc z) | none => none
  | .build t ps => match P.underlying t with
    | some (.struct fs) => match zeroOf P t, mapO (cParts P fs) ps.toList, mapO (fun f : Field => sizeT P f.type) fs.toList with
      | some z, some l, some _ => if z.cells.all AV.one = true then some (.build z.cells l) else none
      | _, _, _ => none
    | some (.array _ e) => match zeroOf P t, sizeT P e, mapO cPart1 ps.toList with
      | some z, some n, some l => if z.cells.all AV.one = true then some (.build z.cells (l.map fun (i, x) => (i * n, n, x))) else none
      | _, _, _ => none
    | _ => none
  | .buildSlice t len ps => match P.underlying t with
    | some (.slice e) => match P.info? e, zeroOf P e, mapO cPart1 ps.toList with
      | some i, some z, some l => if 0 < i.size ∧ len * i.size ≤ 2 ^ 24 ∧ z.cells.length = i.size ∧ z.cells.all AV.one = true then some (.bslice len i.size z.cells l) else none
      | _, _, _ => none
    | _ => none
  | .load t a => match P.underlying t, P.info? t, cE a with
    | some (.struct _), some i, some e => some (.load true i.size e)
    | some (.array _ _), _, _ => none
    | some _, some i, some e => some (.load false 1 e)
    | _, _, _ => none
  | .store t a x => match P.info? t, cE a, cE x with
    | some i, some a, some x => some (.store i.size a x)
    | _, _, _ => none
  | .nilCheck x => match cE x with | some e => some (.nchk e) | none => none
  | .binOp op t x y _ => match cE x, cE y with | some x, some y => cBin P op t x y | _, _ => none
  | .unOp op _ x => match cE x with | some e => some (.un op e) | none => none
  | .convert src dst x => match P.underlying src, P.underlying dst, cE x with
    | some (.int _), some (.int k), some e => some (.conv k e)
    | some .string, some .string, some e => some (.movs e)
    | some (.slice b), some .string, some e => match P.underlying b with
      | some (.int .u8) => some (.b2s e)
      | _ => none
    | some .string, some (.slice b), some e => match P.underlying b with
      | some (.int .u8) => some (.s2b e)
      | _ => none
    | _, _, _ => none
  | .makeSlice t l c => match P.underlying t with
    | some (.slice e) => match P.info? e, zeroOf P e, cE l, cE c with
      | some i, some z, some l, some c => if 0 < i.size ∧ z.cells.length = i.size then some (.mslice i.size i.bytes z.cells l c) else none
      | _, _, _, _ => none
    | _ => none
  | .slice t x lo hi mx => match P.underlying t, cE x, cEo lo, cEo hi, cEo mx with
    | some (.slice e), some x, some lo, some hi, some mx => match P.info? e with
      | some i => if mx.isSome = true → hi.isSome = true then some (.slice i.size x lo hi mx) else none
      | none => none
    | some .string, some x, some lo, some hi, some none => some (.slstr x lo hi)
    | _, _, _, _, _ => none
  | .fieldAddr t x f => match P.underlying t with
    | some (.struct fs) => match fs[f]?, cE x with
      | some fd, some e => match sizeT P fd.type with
        | some n => if n = 0 then none else some (.faddr fd.offset e)
        | none => none
      | _, _ => none
    | _ => none
  | .indexAddr t x i => match P.underlying t, cE x, cE i with
    | some (.slice e), some x, some i => match P.info? e with
      | some q => some (.iaddr q.size x i)
      | none => none
    | _, _, _ => none
  | .index t x i => match P.underlying t, cE x, cE i with
    | some .string, some x, some i => some (.index x i)
    | _, _, _ => none
  | .extract x i => match cE x with | some e => some (.ext e i) | none => none
  | .makeFunc (.func f) first cap => match mapO cE cap.toList with
    | some l => if first.size = 0 then some (.mkfn f l) else none
    | none => none
  | .call c => cCall P c
  | .makeMap t r => match P.underlying t, r with
    | some (.map _ _), none => some .mkmap
    | some (.map _ _), some (.const (.int _ _)) => some .mkmap
    | _, _ => none
  | .lookup t m k ok => match P.underlying t with
    | some (.map kt e) => match keyKT P kt, zeroOf P e, cE m, cE k with
      | some q, some z, some m, some k => some (.mget q ok z m k)
      | _, _, _, _ => none
    | _ => none
  | .mapUpdate t m k x => match P.underlying t with
    | some (.map kt _) => match keyKT P kt, cE m, cE k, cE x with
      | some q, some m, some k, some x => some (.mset q m k x)
      | _, _, _, _ => none
    | _ => none
  | .insert t m k x => match P.underlying t with
    | some (.map kt _) => match keyKT P kt, cE m, cE k, cE x with
      | some q, some m, some k, some x => some (.mset q m k x)
      | _, _, _, _ => none
    | _ => none
  | _ => none

def cOp (P : Program) (N : Nat) (ops : Array Oper) (o : Oper) : Option AOp :=
  match cK P o.op, (match o.dst with | some d => decide (d < N) | none => true), o.guard with
  | some k, true, none => some ⟨o.dst, none, k⟩
  | some k, true, some (j, want) => match ops[j]? with
    | some q => match q.dst with
      | some t => if t < LB then some ⟨o.dst, some (t, want), k⟩ else none
      | none => none
    | none => none
  | _, _, _ => none

/-! ### local boxes -/
/-- An address inside a local box: operation j makes it, in slot u: off cells into the box t; under the guard g. -/
structure Ent where
  j : Nat
  u : Nat
  t : Nat
  off : Nat
  g : Option (Nat × Bool)
  deriving DecidableEq

def guardOf (ops : Array Oper) (o : Oper) : Option (Option (Nat × Bool)) := match o.guard with
  | none => some none
  | some (j, want) => match ops[j]? with
    | some q => match q.dst with
      | some t => if t < LB then some (some (t, want)) else none
      | none => none
    | none => none

/-- The box that an address lies in, and where. -/
def rootL (B : List Nat) (E : List Ent) (bf : Nat → Nat → Bool) (i : Nat) (g : Option (Nat × Bool)) (x : Operand) : Option (Nat × Nat) := match x with
  | .tmp u => if B.contains u then some (u, 0) else match E.find? (fun e => e.u == u && bf e.j i && (e.g == none || e.g == g) && B.contains e.t) with
    | some e => some (e.t, e.off)
    | none => none
  | _ => none

/-- The addresses that a region makes. -/
def entsGo (P : Program) (B : List Nat) (bf : Nat → Nat → Bool) (ops : Array Oper) : List (Oper × Nat) → List Ent → List Ent
  | [], E => E
  | (o, i) :: r, E => match guardOf ops o with
    | some g => match o.op with
      | .fieldAddr ty x f => match rootL B E bf i g x, P.underlying ty, o.dst with
        | some (t, off), some (.struct fs), some u => match fs[f]? with
          | some fd => entsGo P B bf ops r (⟨i, u, t, off + fd.offset, g⟩ :: E)
          | none => entsGo P B bf ops r E
        | _, _, _ => entsGo P B bf ops r E
      | _ => entsGo P B bf ops r E
    | none => entsGo P B bf ops r E

def Ent.slots (e : Ent) : List Nat := e.u :: e.t :: (match e.g with | some (tg, _) => [tg] | none => [])

/-- Nothing writes into an address's slots behind it. -/
def entsOk (bf : Nat → Nat → Bool) (E : List Ent) (l : List (Oper × Nat)) : Bool := E.all fun e => l.all fun (o, i) => i == e.j || bf i e.j || (match o.dst with | some d => !e.slots.contains d | none => true)

/-- An operation, compiled beside local boxes. -/
inductive LK where
  | plain (k : AOp)
  | box (t : Nat) (e : AE)
  | addr (t u off : Nat) (g : Option (Nat × Bool))
  | load (agg : Bool) (n t off : Nat) (g : Option (Nat × Bool))
  | store (n t off : Nat) (e : AE)

def freeDst (B : List Nat) (o : Oper) : Bool := match o.dst with | some d => !B.contains d | none => true
def goodDst (N : Nat) (B : List Nat) (o : Oper) : Bool := match o.dst with | some d => decide (d < N) && !B.contains d | none => true

def cL (P : Program) (N : Nat) (B : List Nat) (E : List Ent) (bf : Nat → Nat → Bool) (ops : Array Oper) (o : Oper) (i : Nat) : Option LK :=
  let plain : Option LK := if freeDst B o = true then match cOp P N ops o with
    | some k => some (.plain k)
    | none => none
    else none
  match guardOf ops o with
  | none => none
  | some g => match o.op with
    | .box _ x => match o.dst, cE x with
      | some t, some e => if B.contains t && decide (g = none) then some (.box t e) else plain
      | _, _ => plain
    | .alloc ty => match o.dst, zeroOf P ty with
      | some t, some z => if B.contains t && decide (g = none) then some (.box t (.c z)) else plain
      | _, _ => plain
    | .fieldAddr ty x f => match rootL B E bf i g x with
      | some (t, off) => match P.underlying ty, o.dst with
        | some (.struct fs), some u => match fs[f]? with
          | some fd => match sizeT P fd.type with
            | some n => if n ≠ 0 ∧ u < N ∧ B.contains u = false then some (.addr t u (off + fd.offset) g) else none
            | none => none
          | none => none
        | _, _ => none
      | none => plain
    | .load ty x => match rootL B E bf i g x with
      | some (t, off) => if goodDst N B o = true then match P.underlying ty, P.info? ty with
        | some (.struct _), some q => some (.load true q.size t off g)
        | some (.array _ _), _ => none
        | some _, some _ => some (.load false 1 t off g)
        | _, _ => none
        else none
      | none => plain
    | .store ty x y => match rootL B E bf i g x with
      | some (t, off) => match P.info? ty, cE y with
        | some q, some e => if g = none ∧ o.dst = none then some (.store q.size t off e) else none
        | _, _ => none
      | none => plain
    | _ => plain

def LK.aop (d : Option Nat) : LK → AOp
  | .plain k => k
  | .box t e => ⟨some (LB + t), none, .lbox e⟩
  | .addr t u _ g => ⟨some u, g, .laddr (LB + t)⟩
  | .load agg n t off g => ⟨d, g, .lload agg n (LB + t) off⟩
  | .store n t off e => ⟨some (LB + t), none, .lstore n (LB + t) off e⟩

def cOpL (P : Program) (N : Nat) (B : List Nat) (E : List Ent) (bf : Nat → Nat → Bool) (ops : Array Oper) (p : Oper × Nat) : Option AOp := match cL P N B E bf ops p.1 p.2 with
  | some (.addr t u off g) => if E.filter (fun e => e.j == p.2) = [⟨p.2, u, t, off, g⟩] then some ((LK.addr t u off g).aop p.1.dst) else none
  | some k => if E.all (fun e => e.j != p.2) = true then some (k.aop p.1.dst) else none
  | none => none

/-! ### regions that draw their order -/
/-- The operations that must come ahead of each. -/
def ancs : List Oper → List (List Nat)
  | l => l.foldl (fun acc o => acc ++ [dd [] (o.after.toList.flatMap fun e => if Region.binds .any e then e.on :: acc.getD e.on [] else [])]) []

/-- What must come ahead of each, told directly. -/
def afterOf (ops : Array Oper) : List (List Nat) := ops.toList.map fun o => (o.after.toList.filter (Region.binds .any)).map (·.on)

def cD (P : Program) (N : Nat) (B : List Nat) (ops : Array Oper) : Option (List AOp) :=
  let an := ancs ops.toList
  let bf : Nat → Nat → Bool := fun i j => (an.getD j []).contains i
  let E := entsGo P B bf ops ops.toList.zipIdx []
  match mapO (cOpL P N B E bf ops) ops.toList.zipIdx with
  | some l => if P.follows .mixedOrders = true ∧ entsOk bf E ops.toList.zipIdx = true ∧ (ops.toList.zipIdx.all fun (o, i) => o.after.all fun e => !Region.binds .any e || decide (e.on < i)) = true then some l else none
  | none => none

/-- Code. -/
def cS (P : Program) (N : Nat) (B : List Nat) (ops : Array Oper) : Option (List AOp) :=
  let bf : Nat → Nat → Bool := fun i j => decide (i < j)
  let E := entsGo P B bf ops ops.toList.zipIdx []
  if entsOk bf E ops.toList.zipIdx = true then mapO (cOpL P N B E bf ops) ops.toList.zipIdx else none

def cC (P : Program) (N : Nat) (B : List Nat) : Code → Option AC
  | .skip => some .skip
  | .region _ ops false => match cS P N B ops with | some l => some (.reg l) | none => none
  | .region _ ops true => match cD P N B ops with | some l => some (.regA l (afterOf ops)) | none => none
  | .seq a b => match cC P N B a, cC P N B b with | some a, some b => some (.seq a b) | _, _ => none
  | .cond x a b => match cE x, cC P N B a, cC P N B b with | some x, some a, some b => some (.cond x a b) | _, _, _ => none
  | .block id c => match cC P N B c with | some c => some (.block id c) | none => none
  | .loop c => match cC P N B c with | some c => some (.loop c) | none => none
  | .exit id => some (.exit id)
  | .ret => some .ret
  | _ => none

def cR (P : Program) (B : List Nat) : ResultVar → Option AR
  | .tmp t => if t < LB then some (.tmp t) else none
  | .cell a t => if ¬ a < LB then none else match P.underlying t, P.info? t with
    | some (.struct _), some i => if B.contains a then some (.lcell true i.size (LB + a)) else some (.cell true i.size a)
    | some (.array _ _), _ => none
    | some _, some _ => if B.contains a then some (.lcell false 1 (LB + a)) else some (.cell false 1 a)
    | _, _ => none

def cF (P : Program) (B : List Nat) (fn : Func) : Option AFunc :=
  match fn.body with
  | some c => match cC P fn.ntmps B c, mapO (cR P B) fn.results.toList with
    | some body, some rs => if fn.params.size + fn.nfree ≤ fn.ntmps ∧ fn.name ≠ "runtime.NumGoroutine" ∧ fn.ntmps ≤ LB ∧ B.all (fun t => decide (fn.params.size + fn.nfree ≤ t ∧ t < fn.ntmps)) = true then some ⟨B, fn.params.size + fn.nfree, rs, body⟩ else none
    | _, _ => none
  | none => none

/-! ### operands -/
structure SR (N : Nat) (ν : V) (s : S) (a : Act) : Prop where
  size : a.tmps.size = N
  defers : a.defers = []
  val : ∀ t, t < LB → VR ν (s t) (a.tmps.getD t undef)

theorem SR.mono {N : Nat} {ν ν' : V} (hν : V.le ν ν') {s : S} {a : Act} (h : SR N ν s a) : SR N ν' s a := ⟨h.size, h.defers, fun t ht => (h.val t ht).mono hν _ _⟩

theorem SR.put {N : Nat} {ν : V} {s : S} {a : Act} (h : SR N ν s a) {d : Option Tmp} (hd : ∀ t, d = some t → t < N) {v : AV} {u : Value} (hv : VR ν v u) : SR N ν (s.put d v) (a.put d u) := by
  cases d with
  | none => exact h
  | some d =>
    have hdn := hd d rfl
    refine ⟨by simp [Act.put, h.size], by simp [Act.put, h.defers], fun t htl => ?_⟩
    simp only [S.put, S.upd, Act.put]
    by_cases e : t = d
    · subst e
      rw [if_pos rfl]
      simp [Array.getD_eq_getD_getElem?, h.size, hdn]
      exact hv
    · rw [if_neg e]
      have := h.val t htl
      simp only [Array.getD_eq_getD_getElem?] at this ⊢
      rw [Array.getElem?_setIfInBounds_ne (fun q => e q.symm)]
      exact this

theorem mapO_get {α β : Type} {f : α → Option β} : ∀ {l : List α} {r : List β}, mapO f l = some r → l.length = r.length ∧ ∀ (k : Nat) (x : α), l[k]? = some x → ∃ y, f x = some y ∧ r[k]? = some y
  | [], r, h => by simp [mapO] at h; subst h; exact ⟨rfl, fun k x hx => by simp at hx⟩
  | x :: xs, r, h => by
    simp only [mapO] at h
    split at h
    · rename_i y ys hy hys
      cases h
      obtain ⟨hl, hk⟩ := mapO_get hys
      refine ⟨by simp [hl], fun k z hz => ?_⟩
      cases k with
      | zero => simp at hz; subst hz; exact ⟨y, hy, rfl⟩
      | succ k => simpa using hk k z (by simpa using hz)
    · cases h

theorem cV1_ok {v : Value} {x : AV} (h : cV1 v = some x) (ν : V) : VR ν x v := by
  unfold cV1 at h
  split at h <;> first | (cases h; rfl) | cases h

theorem mapO_VRs {f : Value → Option AV} (hf : ∀ v x, f v = some x → ∀ ν, VR ν x v) (ν : V) {l : List Value} {r : List AV} (h : mapO f l = some r) : VRs ν r l := by
  obtain ⟨hl, hk⟩ := mapO_get h
  refine VRs.of hl.symm fun k x hx => ?_
  have hk' : k < l.length := by rw [hl]; exact (List.getElem?_eq_some_iff.1 hx).1
  obtain ⟨y, hy, hr⟩ := hk k l[k] (List.getElem?_eq_getElem hk')
  rw [hx] at hr; cases hr
  exact ⟨_, List.getElem?_eq_getElem hk', hf _ _ hy ν⟩

theorem cV_ok {v : Value} {x : AV} (h : cV v = some x) (ν : V) : VR ν x v := by
  unfold cV at h
  split at h
  · rename_i cs
    split at h
    · rename_i l hl
      cases h
      exact ⟨cs, rfl, mapO_VRs (fun _ _ h => cV1_ok h) ν hl⟩
    · cases h
  · rename_i cs
    split at h
    · rename_i hz
      cases h
      exact ⟨cs, rfl, by have : cs = #[] := Array.eq_empty_of_size_eq_zero hz; subst this; rfl⟩
    · cases h
  · exact cV1_ok h ν

theorem cE_ok {N : Nat} {ν : V} {s : S} {a : Act} (hS : SR N ν s a) {x : Operand} {e : AE} (h : cE x = some e) : VR ν (e.ev s) (a.eval x) := by
  unfold cE at h
  split at h
  · split at h
    · rename_i hlt; cases h; exact hS.val _ hlt
    · cases h
  · split at h
    · rename_i hv; cases h; exact cV_ok hv ν
    · cases h
  · cases h; exact ⟨#[], rfl, rfl⟩
  · cases h

theorem mapO_cE_ok {N : Nat} {ν : V} {s : S} {a : Act} (hS : SR N ν s a) {l : List Operand} {r : List AE} (h : mapO cE l = some r) : VRs ν (r.map (AE.ev s)) (l.map a.eval) := by
  obtain ⟨hl, hk⟩ := mapO_get h
  refine VRs.of (by simp [hl]) fun k x hx => ?_
  rw [List.getElem?_map] at hx
  cases hr : r[k]? with
  | none => rw [hr] at hx; cases hx
  | some e =>
    rw [hr] at hx; cases hx
    have hk' : k < l.length := by rw [hl]; exact (List.getElem?_eq_some_iff.1 hr).1
    obtain ⟨y, hy, hr'⟩ := hk k l[k] (List.getElem?_eq_getElem hk')
    rw [hr] at hr'; cases hr'
    exact ⟨a.eval l[k], by rw [List.getElem?_map, List.getElem?_eq_getElem hk']; rfl, cE_ok hS hy⟩

end Go.Bm
