/- Kinds of elements, and how they are read. -/
import Derived.Test.YtbajchkpehdolaaBmT
import Derived.Test.YtbajchkpehdolaaBmO
namespace Go.Bm
set_option linter.all false
open Go Go.RowKit
set_option linter.unusedVariables false
set_option linter.unusedSimpArgs false

@[simp] def encI (k : IntKind) (n : Int) : List AV := [.int k n]
theorem encI_ok (k : IntKind) : EncF 1 (encI k) := ⟨⟨fun _ => rfl, fun _ => rfl⟩, fun _ _ _ _ => rfl⟩
@[simp] def encBool (b : Bool) : List AV := [.bool b]
theorem encBool_ok : EncF 1 encBool := ⟨⟨fun _ => rfl, fun _ => rfl⟩, fun _ _ _ _ => rfl⟩
@[simp] def encStr (s : ByteArray) : List AV := [.str s]
theorem encStr_ok : EncF 1 encStr := ⟨⟨fun _ => rfl, fun _ => rfl⟩, fun _ _ _ _ => rfl⟩
@[simp] def encS {α : Type} (e : α → List AV) (l : List α) : List AV := [.fs none (l.map e)]
theorem encS_ok {α : Type} (e : α → List AV) : EncF 1 (encS e) := ⟨⟨fun _ => rfl, fun _ => rfl⟩, fun _ _ _ _ => rfl⟩

theorem wf_i64 {n : Int} (h : (Lit.int .i64 n).wf = true) : -9223372036854775808 ≤ n ∧ n ≤ 9223372036854775807 := by
  simp [Lit.wf, IntKind.min, IntKind.max, IntKind.signed, IntKind.bits] at h
  omega
theorem wf_u8 {n : Int} (h : (Lit.int .u8 n).wf = true) : 0 ≤ n ∧ n ≤ 255 := by
  simp [Lit.wf, IntKind.min, IntKind.max, IntKind.signed, IntKind.bits] at h
  omega
theorem int_dec_i64 : ∀ r, TyL [.int .i64] r → ∃ n, r = encI .i64 n ∧ (-9223372036854775808 ≤ n ∧ n ≤ 9223372036854775807) := by
  rintro r ⟨_, _, rfl, ⟨n, rfl, o⟩, rfl⟩
  exact ⟨n, rfl, wf_i64 o⟩
theorem int_dec_u8 : ∀ r, TyL [.int .u8] r → ∃ n, r = encI .u8 n ∧ (0 ≤ n ∧ n ≤ 255) := by
  rintro r ⟨_, _, rfl, ⟨n, rfl, o⟩, rfl⟩
  exact ⟨n, rfl, wf_u8 o⟩
theorem str_dec : ∀ r, TyL [.str] r → ∃ s, r = encStr s ∧ s.size ≤ maxLen := by
  rintro r ⟨_, _, rfl, ⟨s, rfl, o⟩, rfl⟩
  exact ⟨s, rfl, o⟩
theorem bool_dec : ∀ r, TyL [.bool] r → ∃ b, r = encBool b ∧ True := by
  rintro r ⟨_, _, rfl, ⟨b, rfl⟩, rfl⟩
  exact ⟨b, rfl, trivial⟩
theorem sl_dec1 {α : Type} {es : Nat} {e : List Ty} {enc : α → List AV} {ok : α → Prop} (hdec : ∀ r, TyL e r → ∃ x, r = enc x ∧ ok x) : ∀ r, TyL [.sl es e] r → ∃ xs : List α, r = encS enc xs ∧ xs.length ≤ maxLen ∧ ∀ y ∈ xs, ok y := by
  rintro r ⟨_, _, rfl, H, rfl⟩
  obtain ⟨xs, rfl, h1, h2⟩ := sl_dec hdec H
  exact ⟨xs, rfl, h1, h2⟩

/-! ### going over a list -/
theorem all_succ {α : Type} [Inhabited α] {p : α → Bool} {xs : List α} {i : Nat} (h : i < xs.length) : (xs.take (i + 1)).all p = ((xs.take i).all p && p (nth xs i)) := by
  rw [take_succ h, List.all_append]; simp
theorem all_no {α : Type} [Inhabited α] {p : α → Bool} {xs : List α} {i : Nat} (h : i < xs.length) (hp : p (nth xs i) = false) : xs.all p = false := by
  cases e : xs.all p with
  | false => rfl
  | true => rw [List.all_eq_true] at e; rw [e _ (nth_mem h)] at hp; cases hp
theorem all_nth {α : Type} [Inhabited α] {p : α → Bool} {xs : List α} (hp : xs.all p = true) {i : Nat} (h : i < xs.length) : p (nth xs i) = true := by
  rw [List.all_eq_true] at hp; exact hp _ (nth_mem h)
end Go.Bm
