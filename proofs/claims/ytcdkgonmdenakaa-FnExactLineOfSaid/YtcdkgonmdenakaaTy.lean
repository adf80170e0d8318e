/- The data of the program, and their cells. -/
import Derived.Test.YtcdkgonmdenakaaBmP
namespace Go.Proofs.Ytcdkgonmdenakaa
open Go Go.Bm Go.Proofs
set_option linter.all false

structure Glue where
  size : Int
  plus : Int
  plusOrder : Int
  minus : Int
  minusOrder : Int
  deriving Inhabited, DecidableEq
@[simp] def Glue.enc (x : Glue) : List AV := [.int .i64 x.size, .int .i64 x.plus, .int .i64 x.plusOrder, .int .i64 x.minus, .int .i64 x.minusOrder]
theorem Glue.ok : EncF 5 Glue.enc := ⟨⟨fun _ => rfl, fun _ => rfl⟩, fun _ _ _ _ => rfl⟩
@[simp] theorem Glue.eta (x : Glue) : (⟨x.size, x.plus, x.plusOrder, x.minus, x.minusOrder⟩ : Glue) = x := rfl
def Glue.Ok (x : Glue) : Prop := (-9223372036854775808 ≤ x.size ∧ x.size ≤ 9223372036854775807) ∧ (-9223372036854775808 ≤ x.plus ∧ x.plus ≤ 9223372036854775807) ∧ (-9223372036854775808 ≤ x.plusOrder ∧ x.plusOrder ≤ 9223372036854775807) ∧ (-9223372036854775808 ≤ x.minus ∧ x.minus ≤ 9223372036854775807) ∧ (-9223372036854775808 ≤ x.minusOrder ∧ x.minusOrder ≤ 9223372036854775807)
def Glue.ty : List Ty := [.int .i64, .int .i64, .int .i64, .int .i64, .int .i64]
theorem Glue.dec : ∀ r, TyL Glue.ty r → ∃ x : Glue, r = x.enc ∧ x.Ok := by
  rintro r ⟨_, _, rfl, ⟨a0, rfl, o0⟩, _, _, rfl, ⟨a1, rfl, o1⟩, _, _, rfl, ⟨a2, rfl, o2⟩, _, _, rfl, ⟨a3, rfl, o3⟩, _, _, rfl, ⟨a4, rfl, o4⟩, rfl⟩
  exact ⟨⟨a0, a1, a2, a3, a4⟩, rfl, ⟨wf_i64 o0, wf_i64 o1, wf_i64 o2, wf_i64 o3, wf_i64 o4⟩⟩

structure Node where
  kind : Int
  width : Int
  height : Int
  depth : Int
  shift : Int
  font : Int
  char : Int
  n : Int
  glue : Glue
  text : ByteArray
  kids : Int
  deriving Inhabited, DecidableEq
@[simp] def Node.enc (x : Node) : List AV := [.int .i64 x.kind, .int .i64 x.width, .int .i64 x.height, .int .i64 x.depth, .int .i64 x.shift, .int .i64 x.font, .int .i64 x.char, .int .i64 x.n, .int .i64 x.glue.size, .int .i64 x.glue.plus, .int .i64 x.glue.plusOrder, .int .i64 x.glue.minus, .int .i64 x.glue.minusOrder, .str x.text, .int .i64 x.kids]
theorem Node.ok : EncF 15 Node.enc := ⟨⟨fun _ => rfl, fun _ => rfl⟩, fun _ _ _ _ => rfl⟩
@[simp] theorem Node.eta (x : Node) : (⟨x.kind, x.width, x.height, x.depth, x.shift, x.font, x.char, x.n, x.glue, x.text, x.kids⟩ : Node) = x := rfl
def Node.W (x : Node) : Nat := x.text.size
def Node.Ok (x : Node) : Prop := (-9223372036854775808 ≤ x.kind ∧ x.kind ≤ 9223372036854775807) ∧ (-9223372036854775808 ≤ x.width ∧ x.width ≤ 9223372036854775807) ∧ (-9223372036854775808 ≤ x.height ∧ x.height ≤ 9223372036854775807) ∧ (-9223372036854775808 ≤ x.depth ∧ x.depth ≤ 9223372036854775807) ∧ (-9223372036854775808 ≤ x.shift ∧ x.shift ≤ 9223372036854775807) ∧ (-9223372036854775808 ≤ x.font ∧ x.font ≤ 9223372036854775807) ∧ (-9223372036854775808 ≤ x.char ∧ x.char ≤ 9223372036854775807) ∧ (-9223372036854775808 ≤ x.n ∧ x.n ≤ 9223372036854775807) ∧ (Glue.Ok x.glue) ∧ (x.text.size ≤ maxLen) ∧ (-9223372036854775808 ≤ x.kids ∧ x.kids ≤ 9223372036854775807)
def Node.ty : List Ty := [.int .i64, .int .i64, .int .i64, .int .i64, .int .i64, .int .i64, .int .i64, .int .i64, .int .i64, .int .i64, .int .i64, .int .i64, .int .i64, .str, .int .i64]
theorem Node.dec : ∀ r, TyL Node.ty r → ∃ x : Node, r = x.enc ∧ x.Ok := by
  rintro r ⟨_, _, rfl, ⟨a0, rfl, o0⟩, _, _, rfl, ⟨a1, rfl, o1⟩, _, _, rfl, ⟨a2, rfl, o2⟩, _, _, rfl, ⟨a3, rfl, o3⟩, _, _, rfl, ⟨a4, rfl, o4⟩, _, _, rfl, ⟨a5, rfl, o5⟩, _, _, rfl, ⟨a6, rfl, o6⟩, _, _, rfl, ⟨a7, rfl, o7⟩, _, _, rfl, ⟨a8, rfl, o8⟩, _, _, rfl, ⟨a9, rfl, o9⟩, _, _, rfl, ⟨a10, rfl, o10⟩, _, _, rfl, ⟨a11, rfl, o11⟩, _, _, rfl, ⟨a12, rfl, o12⟩, _, _, rfl, ⟨a13, rfl, o13⟩, _, _, rfl, ⟨a14, rfl, o14⟩, rfl⟩
  exact ⟨⟨a0, a1, a2, a3, a4, a5, a6, a7, ⟨a8, a9, a10, a11, a12⟩, a13, a14⟩, rfl, ⟨wf_i64 o0, wf_i64 o1, wf_i64 o2, wf_i64 o3, wf_i64 o4, wf_i64 o5, wf_i64 o6, wf_i64 o7, ⟨wf_i64 o8, wf_i64 o9, wf_i64 o10, wf_i64 o11, wf_i64 o12⟩, o13, wf_i64 o14⟩⟩

structure Style where
  width : Int
  narrow : Int
  hang : Int
  tolerance : Int
  line : Int
  hyphen : Int
  double : Int
  adjacent : Int
  left : Glue
  right : Glue
  fill : Glue
  deriving Inhabited, DecidableEq
@[simp] def Style.enc (x : Style) : List AV := [.int .i64 x.width, .int .i64 x.narrow, .int .i64 x.hang, .int .i64 x.tolerance, .int .i64 x.line, .int .i64 x.hyphen, .int .i64 x.double, .int .i64 x.adjacent, .int .i64 x.left.size, .int .i64 x.left.plus, .int .i64 x.left.plusOrder, .int .i64 x.left.minus, .int .i64 x.left.minusOrder, .int .i64 x.right.size, .int .i64 x.right.plus, .int .i64 x.right.plusOrder, .int .i64 x.right.minus, .int .i64 x.right.minusOrder, .int .i64 x.fill.size, .int .i64 x.fill.plus, .int .i64 x.fill.plusOrder, .int .i64 x.fill.minus, .int .i64 x.fill.minusOrder]
theorem Style.ok : EncF 23 Style.enc := ⟨⟨fun _ => rfl, fun _ => rfl⟩, fun _ _ _ _ => rfl⟩
@[simp] theorem Style.eta (x : Style) : (⟨x.width, x.narrow, x.hang, x.tolerance, x.line, x.hyphen, x.double, x.adjacent, x.left, x.right, x.fill⟩ : Style) = x := rfl
def Style.Ok (x : Style) : Prop := (-9223372036854775808 ≤ x.width ∧ x.width ≤ 9223372036854775807) ∧ (-9223372036854775808 ≤ x.narrow ∧ x.narrow ≤ 9223372036854775807) ∧ (-9223372036854775808 ≤ x.hang ∧ x.hang ≤ 9223372036854775807) ∧ (-9223372036854775808 ≤ x.tolerance ∧ x.tolerance ≤ 9223372036854775807) ∧ (-9223372036854775808 ≤ x.line ∧ x.line ≤ 9223372036854775807) ∧ (-9223372036854775808 ≤ x.hyphen ∧ x.hyphen ≤ 9223372036854775807) ∧ (-9223372036854775808 ≤ x.double ∧ x.double ≤ 9223372036854775807) ∧ (-9223372036854775808 ≤ x.adjacent ∧ x.adjacent ≤ 9223372036854775807) ∧ (Glue.Ok x.left) ∧ (Glue.Ok x.right) ∧ (Glue.Ok x.fill)
def Style.ty : List Ty := [.int .i64, .int .i64, .int .i64, .int .i64, .int .i64, .int .i64, .int .i64, .int .i64, .int .i64, .int .i64, .int .i64, .int .i64, .int .i64, .int .i64, .int .i64, .int .i64, .int .i64, .int .i64, .int .i64, .int .i64, .int .i64, .int .i64, .int .i64]
theorem Style.dec : ∀ r, TyL Style.ty r → ∃ x : Style, r = x.enc ∧ x.Ok := by
  rintro r ⟨_, _, rfl, ⟨a0, rfl, o0⟩, _, _, rfl, ⟨a1, rfl, o1⟩, _, _, rfl, ⟨a2, rfl, o2⟩, _, _, rfl, ⟨a3, rfl, o3⟩, _, _, rfl, ⟨a4, rfl, o4⟩, _, _, rfl, ⟨a5, rfl, o5⟩, _, _, rfl, ⟨a6, rfl, o6⟩, _, _, rfl, ⟨a7, rfl, o7⟩, _, _, rfl, ⟨a8, rfl, o8⟩, _, _, rfl, ⟨a9, rfl, o9⟩, _, _, rfl, ⟨a10, rfl, o10⟩, _, _, rfl, ⟨a11, rfl, o11⟩, _, _, rfl, ⟨a12, rfl, o12⟩, _, _, rfl, ⟨a13, rfl, o13⟩, _, _, rfl, ⟨a14, rfl, o14⟩, _, _, rfl, ⟨a15, rfl, o15⟩, _, _, rfl, ⟨a16, rfl, o16⟩, _, _, rfl, ⟨a17, rfl, o17⟩, _, _, rfl, ⟨a18, rfl, o18⟩, _, _, rfl, ⟨a19, rfl, o19⟩, _, _, rfl, ⟨a20, rfl, o20⟩, _, _, rfl, ⟨a21, rfl, o21⟩, _, _, rfl, ⟨a22, rfl, o22⟩, rfl⟩
  exact ⟨⟨a0, a1, a2, a3, a4, a5, a6, a7, ⟨a8, a9, a10, a11, a12⟩, ⟨a13, a14, a15, a16, a17⟩, ⟨a18, a19, a20, a21, a22⟩⟩, rfl, ⟨wf_i64 o0, wf_i64 o1, wf_i64 o2, wf_i64 o3, wf_i64 o4, wf_i64 o5, wf_i64 o6, wf_i64 o7, ⟨wf_i64 o8, wf_i64 o9, wf_i64 o10, wf_i64 o11, wf_i64 o12⟩, ⟨wf_i64 o13, wf_i64 o14, wf_i64 o15, wf_i64 o16, wf_i64 o17⟩, ⟨wf_i64 o18, wf_i64 o19, wf_i64 o20, wf_i64 o21, wf_i64 o22⟩⟩⟩

end Go.Proofs.Ytcdkgonmdenakaa
