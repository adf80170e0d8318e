/- The data of the program, and their cells. -/
import Derived.Test.YtbajchkpehdolaaBmP
namespace Go.Proofs.Ytbajchkpehdolaa
open Go Go.Bm Go.Proofs
set_option linter.all false

structure Glyph where
  code : Int
  width : Int
  height : Int
  depth : Int
  deriving Inhabited, DecidableEq
@[simp] def Glyph.enc (x : Glyph) : List AV := [.int .i64 x.code, .int .i64 x.width, .int .i64 x.height, .int .i64 x.depth]
theorem Glyph.ok : EncF 4 Glyph.enc := ⟨⟨fun _ => rfl, fun _ => rfl⟩, fun _ _ _ _ => rfl⟩
@[simp] theorem Glyph.eta (x : Glyph) : (⟨x.code, x.width, x.height, x.depth⟩ : Glyph) = x := rfl
def Glyph.Ok (x : Glyph) : Prop := (-9223372036854775808 ≤ x.code ∧ x.code ≤ 9223372036854775807) ∧ (-9223372036854775808 ≤ x.width ∧ x.width ≤ 9223372036854775807) ∧ (-9223372036854775808 ≤ x.height ∧ x.height ≤ 9223372036854775807) ∧ (-9223372036854775808 ≤ x.depth ∧ x.depth ≤ 9223372036854775807)
def Glyph.ty : List Ty := [.int .i64, .int .i64, .int .i64, .int .i64]
theorem Glyph.dec : ∀ r, TyL Glyph.ty r → ∃ x : Glyph, r = x.enc ∧ x.Ok := by
  rintro r ⟨_, _, rfl, ⟨a0, rfl, o0⟩, _, _, rfl, ⟨a1, rfl, o1⟩, _, _, rfl, ⟨a2, rfl, o2⟩, _, _, rfl, ⟨a3, rfl, o3⟩, rfl⟩
  exact ⟨⟨a0, a1, a2, a3⟩, rfl, ⟨wf_i64 o0, wf_i64 o1, wf_i64 o2, wf_i64 o3⟩⟩

structure Pair where
  left : Int
  right : Int
  lig : Int
  kern : Int
  deriving Inhabited, DecidableEq
@[simp] def Pair.enc (x : Pair) : List AV := [.int .i64 x.left, .int .i64 x.right, .int .i64 x.lig, .int .i64 x.kern]
theorem Pair.ok : EncF 4 Pair.enc := ⟨⟨fun _ => rfl, fun _ => rfl⟩, fun _ _ _ _ => rfl⟩
@[simp] theorem Pair.eta (x : Pair) : (⟨x.left, x.right, x.lig, x.kern⟩ : Pair) = x := rfl
def Pair.Ok (x : Pair) : Prop := (-9223372036854775808 ≤ x.left ∧ x.left ≤ 9223372036854775807) ∧ (-9223372036854775808 ≤ x.right ∧ x.right ≤ 9223372036854775807) ∧ (-9223372036854775808 ≤ x.lig ∧ x.lig ≤ 9223372036854775807) ∧ (-9223372036854775808 ≤ x.kern ∧ x.kern ≤ 9223372036854775807)
def Pair.ty : List Ty := [.int .i64, .int .i64, .int .i64, .int .i64]
theorem Pair.dec : ∀ r, TyL Pair.ty r → ∃ x : Pair, r = x.enc ∧ x.Ok := by
  rintro r ⟨_, _, rfl, ⟨a0, rfl, o0⟩, _, _, rfl, ⟨a1, rfl, o1⟩, _, _, rfl, ⟨a2, rfl, o2⟩, _, _, rfl, ⟨a3, rfl, o3⟩, rfl⟩
  exact ⟨⟨a0, a1, a2, a3⟩, rfl, ⟨wf_i64 o0, wf_i64 o1, wf_i64 o2, wf_i64 o3⟩⟩

structure Glue where
  size : Int
  plus : Int
  plusOrder : Int
  minus : Int
  minusOrder : Int
  deriving Inhabited, DecidableEq
@[simp] def Glue.enc (x : Glue) : List AV := [.int .i64 x.size, .int .i64 x.plus, .int .i64 x.plusOrder, .int .i64 x.minus, .int .i64 x.minusOrder]
theorem Glue.ok : EncF 5 Glue.enc := ⟨⟨fun _ => rfl, fun _ => rfl⟩, fun _ _ _ _ => rfl⟩
@[simp] theorem Glue.eta (x : Glue) : (⟨x.size, x.plus, x.plusOrder, x.minus, x.minusOrder⟩ : Glue) = x := rfl
def Glue.Ok (x : Glue) : Prop := (-9223372036854775808 ≤ x.size ∧ x.size ≤ 9223372036854775807) ∧ (-9223372036854775808 ≤ x.plus ∧ x.plus ≤ 9223372036854775807) ∧ (-9223372036854775808 ≤ x.plusOrder ∧ x.plusOrder ≤ 9223372036854775807) ∧ (-9223372036854775808 ≤ x.minus ∧ x.minus ≤ 9223372036854775807) ∧ (-9223372036854775808 ≤ x.minusOrder ∧ x.minusOrder ≤ 9223372036854775807)
def Glue.ty : List Ty := [.int .i64, .int .i64, .int .i64, .int .i64, .int .i64]
theorem Glue.dec : ∀ r, TyL Glue.ty r → ∃ x : Glue, r = x.enc ∧ x.Ok := by
  rintro r ⟨_, _, rfl, ⟨a0, rfl, o0⟩, _, _, rfl, ⟨a1, rfl, o1⟩, _, _, rfl, ⟨a2, rfl, o2⟩, _, _, rfl, ⟨a3, rfl, o3⟩, _, _, rfl, ⟨a4, rfl, o4⟩, rfl⟩
  exact ⟨⟨a0, a1, a2, a3, a4⟩, rfl, ⟨wf_i64 o0, wf_i64 o1, wf_i64 o2, wf_i64 o3, wf_i64 o4⟩⟩

structure Font where
  name : ByteArray
  glyphs : List Glyph
  pairs : List Pair
  space : Glue
  quad : Int
  rise : Int
  deriving Inhabited, DecidableEq
@[simp] def Font.enc (x : Font) : List AV := [.str x.name, .fs none (x.glyphs.map Glyph.enc), .fs none (x.pairs.map Pair.enc), .int .i64 x.space.size, .int .i64 x.space.plus, .int .i64 x.space.plusOrder, .int .i64 x.space.minus, .int .i64 x.space.minusOrder, .int .i64 x.quad, .int .i64 x.rise]
theorem Font.ok : EncF 10 Font.enc := ⟨⟨fun _ => rfl, fun _ => rfl⟩, fun _ _ _ _ => rfl⟩
@[simp] theorem Font.eta (x : Font) : (⟨x.name, x.glyphs, x.pairs, x.space, x.quad, x.rise⟩ : Font) = x := rfl
def Font.W (x : Font) : Nat := x.name.size + x.glyphs.length + x.pairs.length
def Font.Ok (x : Font) : Prop := (x.name.size ≤ maxLen) ∧ (x.glyphs.length ≤ maxLen ∧ ∀ y ∈ x.glyphs, Glyph.Ok y) ∧ (x.pairs.length ≤ maxLen ∧ ∀ y ∈ x.pairs, Pair.Ok y) ∧ (Glue.Ok x.space) ∧ (-9223372036854775808 ≤ x.quad ∧ x.quad ≤ 9223372036854775807) ∧ (-9223372036854775808 ≤ x.rise ∧ x.rise ≤ 9223372036854775807)
def Font.ty : List Ty := [.str, .sl 4 Glyph.ty, .sl 4 Pair.ty, .int .i64, .int .i64, .int .i64, .int .i64, .int .i64, .int .i64, .int .i64]
theorem Font.dec : ∀ r, TyL Font.ty r → ∃ x : Font, r = x.enc ∧ x.Ok := by
  rintro r ⟨_, _, rfl, ⟨a0, rfl, o0⟩, _, _, rfl, o1, _, _, rfl, o2, _, _, rfl, ⟨a3, rfl, o3⟩, _, _, rfl, ⟨a4, rfl, o4⟩, _, _, rfl, ⟨a5, rfl, o5⟩, _, _, rfl, ⟨a6, rfl, o6⟩, _, _, rfl, ⟨a7, rfl, o7⟩, _, _, rfl, ⟨a8, rfl, o8⟩, _, _, rfl, ⟨a9, rfl, o9⟩, rfl⟩
  obtain ⟨a1, rfl, o1l, o1m⟩ := sl_dec (enc := Glyph.enc) (ok := fun z => Glyph.Ok z) Glyph.dec o1
  obtain ⟨a2, rfl, o2l, o2m⟩ := sl_dec (enc := Pair.enc) (ok := fun z => Pair.Ok z) Pair.dec o2
  exact ⟨⟨a0, a1, a2, ⟨a3, a4, a5, a6, a7⟩, a8, a9⟩, rfl, ⟨o0, ⟨o1l, o1m⟩, ⟨o2l, o2m⟩, ⟨wf_i64 o3, wf_i64 o4, wf_i64 o5, wf_i64 o6, wf_i64 o7⟩, wf_i64 o8, wf_i64 o9⟩⟩

structure Piece where
  code : Int
  kern : Int
  deriving Inhabited, DecidableEq
@[simp] def Piece.enc (x : Piece) : List AV := [.int .i64 x.code, .int .i64 x.kern]
theorem Piece.ok : EncF 2 Piece.enc := ⟨⟨fun _ => rfl, fun _ => rfl⟩, fun _ _ _ _ => rfl⟩
@[simp] theorem Piece.eta (x : Piece) : (⟨x.code, x.kern⟩ : Piece) = x := rfl
def Piece.Ok (x : Piece) : Prop := (-9223372036854775808 ≤ x.code ∧ x.code ≤ 9223372036854775807) ∧ (-9223372036854775808 ≤ x.kern ∧ x.kern ≤ 9223372036854775807)
def Piece.ty : List Ty := [.int .i64, .int .i64]
theorem Piece.dec : ∀ r, TyL Piece.ty r → ∃ x : Piece, r = x.enc ∧ x.Ok := by
  rintro r ⟨_, _, rfl, ⟨a0, rfl, o0⟩, _, _, rfl, ⟨a1, rfl, o1⟩, rfl⟩
  exact ⟨⟨a0, a1⟩, rfl, ⟨wf_i64 o0, wf_i64 o1⟩⟩

structure Size where
  width : Int
  height : Int
  depth : Int
  deriving Inhabited, DecidableEq
@[simp] def Size.enc (x : Size) : List AV := [.int .i64 x.width, .int .i64 x.height, .int .i64 x.depth]
theorem Size.ok : EncF 3 Size.enc := ⟨⟨fun _ => rfl, fun _ => rfl⟩, fun _ _ _ _ => rfl⟩
@[simp] theorem Size.eta (x : Size) : (⟨x.width, x.height, x.depth⟩ : Size) = x := rfl
def Size.Ok (x : Size) : Prop := (-9223372036854775808 ≤ x.width ∧ x.width ≤ 9223372036854775807) ∧ (-9223372036854775808 ≤ x.height ∧ x.height ≤ 9223372036854775807) ∧ (-9223372036854775808 ≤ x.depth ∧ x.depth ≤ 9223372036854775807)
def Size.ty : List Ty := [.int .i64, .int .i64, .int .i64]
theorem Size.dec : ∀ r, TyL Size.ty r → ∃ x : Size, r = x.enc ∧ x.Ok := by
  rintro r ⟨_, _, rfl, ⟨a0, rfl, o0⟩, _, _, rfl, ⟨a1, rfl, o1⟩, _, _, rfl, ⟨a2, rfl, o2⟩, rfl⟩
  exact ⟨⟨a0, a1, a2⟩, rfl, ⟨wf_i64 o0, wf_i64 o1, wf_i64 o2⟩⟩

end Go.Proofs.Ytbajchkpehdolaa
