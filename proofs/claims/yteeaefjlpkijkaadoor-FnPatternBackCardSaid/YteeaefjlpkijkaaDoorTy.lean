/- The data of the program, and their cells. -/
import Derived.Test.YteeaefjlpkijkaaDoorBmP
namespace Go.Proofs.YteeaefjlpkijkaaDoor
open Go Go.Bm Go.Proofs
set_option linter.all false

structure Pattern where
  letters : ByteArray
  marks : List Int
  deriving Inhabited, DecidableEq
@[simp] def Pattern.enc (x : Pattern) : List AV := [.str x.letters, .fs none (x.marks.map (encI .i64))]
theorem Pattern.ok : EncF 2 Pattern.enc := ⟨⟨fun _ => rfl, fun _ => rfl⟩, fun _ _ _ _ => rfl⟩
@[simp] theorem Pattern.eta (x : Pattern) : (⟨x.letters, x.marks⟩ : Pattern) = x := rfl
def Pattern.W (x : Pattern) : Nat := x.letters.size + x.marks.length
def Pattern.Ok (x : Pattern) : Prop := (x.letters.size ≤ maxLen) ∧ (x.marks.length ≤ maxLen ∧ ∀ y ∈ x.marks, (fun z => -9223372036854775808 ≤ z ∧ z ≤ 9223372036854775807) y)
def Pattern.ty : List Ty := [.str, .sl 1 [.int .i64]]
theorem Pattern.dec : ∀ r, TyL Pattern.ty r → ∃ x : Pattern, r = x.enc ∧ x.Ok := by
  rintro r ⟨_, _, rfl, ⟨a0, rfl, o0⟩, _, _, rfl, o1, rfl⟩
  obtain ⟨a1, rfl, o1l, o1m⟩ := sl_dec (enc := (encI .i64)) (ok := fun z => -9223372036854775808 ≤ z ∧ z ≤ 9223372036854775807) int_dec_i64 o1
  exact ⟨⟨a0, a1⟩, rfl, ⟨o0, ⟨o1l, o1m⟩⟩⟩

end Go.Proofs.YteeaefjlpkijkaaDoor
