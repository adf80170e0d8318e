/- The library's comparison of strings, as the kit tells it, laid at this program. -/
import Derived.Test.YtojmemlbajnhhaaA15
namespace Go.Proofs.Ytojmemlbajnhhaa
open Go Go.Bm Go.Proofs
set_option linter.all false

def rho : Go.Shelf.Ren := ⟨fun n => if n = 213 then 162 else 171, fun n => n, fun n => n⟩
theorem mixedO : Try.prog.follows .mixedOrders = true := by kernel_rfl
theorem lays213 : Lays.n213 Try.prog rho where
  mixed := mixedO
  f213 := Try.func162
  f265 := Try.func171
  t3 := Try.underlying3
  a3 := Try.isAgg3
  z3 := Try.sizeOf3
  v3 := Try.zeroValue3
  t9 := Try.underlying9
  a9 := Try.isAgg9
  z9 := Try.sizeOf9
  v9 := Try.zeroValue9
theorem hapL (base : Nat) : ∀ f af, ap f = some af → (∃ fn B, Try.prog.funcs[f]? = some fn ∧ cF Try.prog B fn = some af.erase) ∨ ∀ args h R, abody (CC Try.prog base) af args h R → CC Try.prog base f args h R := by
  intro f af hf
  rcases hap2 f af hf with h | ⟨rfl, rfl⟩
  · exact .inl h
  · exact .inr (cmp_cc ⟨_, Try.func162, by decide, rfl⟩ fun a b w => Any.bytealg_CompareString lays213 a b w)
end Go.Proofs.Ytojmemlbajnhhaa
