/- The data of the program, and their cells. -/
import Derived.Test.YtimpbgncgdaofaaDoorBmP
namespace Go.Proofs.YtimpbgncgdaofaaDoor
open Go Go.Bm Go.Proofs
set_option linter.all false

structure Pattern where
  letters : ByteArray
  marks : List Int
  deriving Inhabited, DecidableEq
@[simp] def Pattern.enc (x : Pattern) : List AV := [.str x.letters, .fs none (x.marks.map (encI .i64))]
theorem Pattern.ok : EncF 2 Pattern.enc := ⟨⟨fun _ => rfl, fun _ => rfl⟩, fun _ _ _ _ => rfl⟩
@[simp] theorem Pattern.eta (x : Pattern) : (⟨x.letters, x.marks⟩ : Pattern) = x := rfl
def Pattern.W (x : Pattern) : Nat := x.letters.size + x.marks.length
def Pattern.Ok (x : Pattern) : Prop := (x.letters.size ≤ maxLen) ∧ (x.marks.length ≤ maxLen ∧ ∀ y ∈ x.marks, (fun z => -9223372036854775808 ≤ z ∧ z ≤ 9223372036854775807) y)
def Pattern.ty : List Ty := [.str, .sl 1 [.int .i64]]
theorem Pattern.dec : ∀ r, TyL Pattern.ty r → ∃ x : Pattern, r = x.enc ∧ x.Ok := by
  rintro r ⟨_, _, rfl, ⟨a0, rfl, o0⟩, _, _, rfl, o1, rfl⟩
  obtain ⟨a1, rfl, o1l, o1m⟩ := sl_dec (enc := (encI .i64)) (ok := fun z => -9223372036854775808 ≤ z ∧ z ≤ 9223372036854775807) int_dec_i64 o1
  exact ⟨⟨a0, a1⟩, rfl, ⟨o0, ⟨o1l, o1m⟩⟩⟩

structure Exception where
  word : ByteArray
  places : List Int
  deriving Inhabited, DecidableEq
@[simp] def Exception.enc (x : Exception) : List AV := [.str x.word, .fs none (x.places.map (encI .i64))]
theorem Exception.ok : EncF 2 Exception.enc := ⟨⟨fun _ => rfl, fun _ => rfl⟩, fun _ _ _ _ => rfl⟩
@[simp] theorem Exception.eta (x : Exception) : (⟨x.word, x.places⟩ : Exception) = x := rfl
def Exception.W (x : Exception) : Nat := x.word.size + x.places.length
def Exception.Ok (x : Exception) : Prop := (x.word.size ≤ maxLen) ∧ (x.places.length ≤ maxLen ∧ ∀ y ∈ x.places, (fun z => -9223372036854775808 ≤ z ∧ z ≤ 9223372036854775807) y)
def Exception.ty : List Ty := [.str, .sl 1 [.int .i64]]
theorem Exception.dec : ∀ r, TyL Exception.ty r → ∃ x : Exception, r = x.enc ∧ x.Ok := by
  rintro r ⟨_, _, rfl, ⟨a0, rfl, o0⟩, _, _, rfl, o1, rfl⟩
  obtain ⟨a1, rfl, o1l, o1m⟩ := sl_dec (enc := (encI .i64)) (ok := fun z => -9223372036854775808 ≤ z ∧ z ≤ 9223372036854775807) int_dec_i64 o1
  exact ⟨⟨a0, a1⟩, rfl, ⟨o0, ⟨o1l, o1m⟩⟩⟩

structure Book where
  patterns : List Pattern
  words : List Exception
  deriving Inhabited, DecidableEq
@[simp] def Book.enc (x : Book) : List AV := [.fs none (x.patterns.map Pattern.enc), .fs none (x.words.map Exception.enc)]
theorem Book.ok : EncF 2 Book.enc := ⟨⟨fun _ => rfl, fun _ => rfl⟩, fun _ _ _ _ => rfl⟩
@[simp] theorem Book.eta (x : Book) : (⟨x.patterns, x.words⟩ : Book) = x := rfl
def Book.W (x : Book) : Nat := WS Pattern.W x.patterns + WS Exception.W x.words
def Book.Ok (x : Book) : Prop := (x.patterns.length ≤ maxLen ∧ ∀ y ∈ x.patterns, Pattern.Ok y) ∧ (x.words.length ≤ maxLen ∧ ∀ y ∈ x.words, Exception.Ok y)
def Book.ty : List Ty := [.sl 2 Pattern.ty, .sl 2 Exception.ty]
theorem Book.dec : ∀ r, TyL Book.ty r → ∃ x : Book, r = x.enc ∧ x.Ok := by
  rintro r ⟨_, _, rfl, o0, _, _, rfl, o1, rfl⟩
  obtain ⟨a0, rfl, o0l, o0m⟩ := sl_dec (enc := Pattern.enc) (ok := fun z => Pattern.Ok z) Pattern.dec o0
  obtain ⟨a1, rfl, o1l, o1m⟩ := sl_dec (enc := Exception.enc) (ok := fun z => Exception.Ok z) Exception.dec o1
  exact ⟨⟨a0, a1⟩, rfl, ⟨⟨o0l, o0m⟩, ⟨o1l, o1m⟩⟩⟩

end Go.Proofs.YtimpbgncgdaofaaDoor
