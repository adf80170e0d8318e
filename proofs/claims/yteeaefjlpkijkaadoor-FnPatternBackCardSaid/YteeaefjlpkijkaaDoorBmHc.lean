/- Functions of the library that are told by a summary: the machine's own code stands for them. -/
import Derived.Test.YteeaefjlpkijkaaDoorBmR
import Derived.Test.YteeaefjlpkijkaaDoorBmH
import Derived.Shelf.Small.Strs
namespace Go.Bm
set_option linter.all false
open Go Go.RowKit
set_option linter.unusedVariables false
set_option linter.unusedSimpArgs false

section
variable {P : Program} {base : Nat}
/-- Calls are sound: a function's code is compiled, or it is told to stand for the function. -/
theorem calls_sound2 {ap : FuncId → Option AFunc} {E : AQ} (hE : ∀ f args h R, E f args h R → CC P base f args h R)
    (hap : ∀ f af, ap f = some af → (∃ fn B, P.funcs[f]? = some fn ∧ cF P B fn = some af.erase) ∨ ∀ args h R, abody (CC P base) af args h R → CC P base f args h R)
    {f : FuncId} {args : List AV} {h : AH} {R : AV → AH → Prop} (hc : ACalls ap E f args h R) : CC P base f args h R :=
  hc (CC P base) hE fun f args h R af hf hb => by
    rcases hap f af hf with ⟨fn, B, h1, h2⟩ | h1
    · exact body_sound CC.mono_ (fun _ _ _ _ h => h) h1 h2 hb
    · exact h1 args h R hb

/-- Two strings, compared. -/
def cmpAF : AFunc := ⟨[], 2, [(.tmp 4)], .seq (.reg [⟨some 5, none, .len true (.t 0)⟩, ⟨some 6, none, .len true (.t 1)⟩, ⟨some 7, none, .bin .lss (.t 0) (.t 1)⟩]) (.seq (.cond (.t 7) (.seq (.reg [⟨some 4, none, .mov (.c (.int .i64 (-1)))⟩]) .ret) .skip) (.seq (.reg [⟨some 8, none, .bin .eql (.t 0) (.t 1)⟩]) (.seq (.cond (.t 8) (.seq (.reg [⟨some 4, none, .mov (.c (.int .i64 0))⟩]) .ret) .skip) (.seq (.reg [⟨some 4, none, .mov (.c (.int .i64 1))⟩]) .ret))))⟩
def cmpS (a b : ByteArray) : Int := if Op.bytesLess a.toList b.toList then -1 else if a = b then 0 else 1
theorem bin_lss (a b : ByteArray) : binStr .lss a b = some (.bool (Op.bytesLess a.toList b.toList)) := rfl
theorem bin_seql (a b : ByteArray) : binStr .eql a b = some (.bool (a.toList == b.toList)) := rfl
theorem cmpAF_str (C : AQ) (a b : ByteArray) (h : AH) (R : AV → AH → Prop) : abody C cmpAF [.str a, .str b] h R ↔ R (.int .i64 (cmpS a b)) h := by
  simp [cmpAF, cmpS, bin_lss]
  cases Op.bytesLess a.toList b.toList with
  | true => simp
  | false =>
    simp
    by_cases e : a = b
    · simp [e]
    · simp [e]
theorem cmpAF_inv (C : AQ) (args : List AV) (h : AH) (R : AV → AH → Prop) (H : abody C cmpAF args h R) : ∃ a b, args = [.str a, .str b] := by
  obtain ⟨hl, H⟩ := H
  match args, hl with
  | [x, y], _ =>
    have hx : ∃ a, x = .str a := by
      cases x <;> first | exact ⟨_, rfl⟩ | (simp [cmpAF, lenA, thenA] at H)
    obtain ⟨a, rfl⟩ := hx
    have hy : ∃ b, y = .str b := by
      cases y <;> first | exact ⟨_, rfl⟩ | (simp [cmpAF, lenA, thenA] at H)
    obtain ⟨b, rfl⟩ := hy
    exact ⟨a, b, rfl⟩
theorem less_cmp : ∀ x y : List UInt8, (if Op.bytesLess x y then (-1 : Int) else if x = y then 0 else 1) = Lib.compareBytes x y
  | [], [] => by simp [Op.bytesLess, Lib.compareBytes]
  | [], _ :: _ => by simp [Op.bytesLess, Lib.compareBytes]
  | _ :: _, [] => by simp [Op.bytesLess, Lib.compareBytes]
  | a :: x, b :: y => by
    have ih := less_cmp x y
    simp only [Op.bytesLess, Lib.compareBytes, ← ih]
    by_cases h1 : a < b
    · simp [h1]
    · by_cases h2 : b < a
      · have : a ≠ b := fun e => by subst e; exact h1 h2
        simp [h1, h2, this]
      · have : a = b := by
          have h1' := UInt8.not_lt.1 h1
          have h2' := UInt8.not_lt.1 h2
          exact UInt8.le_antisymm h2' h1'
        subst this
        simp [h1]
theorem cmpS_eq (a b : ByteArray) : cmpS a b = Lib.compareBytes a.data.toList b.data.toList := by
  rw [← less_cmp]
  unfold cmpS
  rw [Lib.toList_data, Lib.toList_data]
  have : (a = b) = (a.data.toList = b.data.toList) := by
    obtain ⟨⟨la⟩⟩ := a
    obtain ⟨⟨lb⟩⟩ := b
    simp
  simp only [this]
theorem cmp_cc {f : FuncId} (hg : GoodFn P f) (hc : ∀ a b w, Calls P f #[.string a, .string b] w fun e w' => e = .returned (.int .i64 (Lib.compareBytes a.data.toList b.data.toList)) ∧ w' = w) (args : List AV) (h : AH) (R : AV → AH → Prop)
    (H : abody (CC P base) cmpAF args h R) : CC P base f args h R := by
  obtain ⟨a, b, rfl⟩ := cmpAF_inv _ _ _ _ H
  rw [cmpAF_str] at H
  refine ⟨hg, fun ν w vs hh hz hv => ?_⟩
  obtain ⟨u, us, rfl, hu, u2, us2, rfl, hu2, rfl⟩ := hv
  simp only [VR] at hu hu2
  subst hu; subst hu2
  refine (hc a b w).mono ?_
  rintro e w' ⟨rfl, rfl⟩
  exact ⟨_, _, h, ν, rfl, V.le_refl ν, hh, hz, by rw [← cmpS_eq]; rfl, FrL.refl _ _ _ _ _, H⟩
end
end Go.Bm
