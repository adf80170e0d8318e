/- Plain: a pattern that is shown is read back. -/
import Derived.Test.YteeaefjlpkijkaaDoorBmHd
namespace Go.Proofs.YteeaefjlpkijkaaDoor
open Go Go.Bm Go.Proofs
set_option linter.all false

def digB (c : UInt8) : Bool := decide (48 ≤ c.toNat) && decide (c.toNat ≤ 57)
/-- What is read so far: letters, marks, whether a digit came last. -/
structure Rst where
  letters : List UInt8
  marks : List Int
  digit : Bool
def rdStep (st : Rst) (c : UInt8) : Option Rst :=
  if digB c then (if st.digit then none else some ⟨st.letters, st.marks.dropLast ++ [(c.toNat : Int) - 48], true⟩) else some ⟨st.letters ++ [c], st.marks ++ [0], false⟩
def rd : List UInt8 → Rst → Option Rst
  | [], st => some st
  | c :: r, st => (rdStep st c).bind (rd r)
theorem rd_append : ∀ (a b : List UInt8) (st : Rst), rd (a ++ b) st = (rd a st).bind (rd b)
  | [], b, st => rfl
  | c :: a, b, st => by
    show (rdStep st c).bind (rd (a ++ b)) = ((rdStep st c).bind (rd a)).bind (rd b)
    cases rdStep st c with
    | none => rfl
    | some st' => exact rd_append a b st'
def markC (m : Int) : List UInt8 := if 0 < m then [UInt8.ofNat (48 + m.toNat)] else []
/-- The first i marks, each with the letter behind it. -/
def showU (l : List UInt8) (ms : List Int) : Nat → List UInt8
  | 0 => []
  | i + 1 => showU l ms i ++ (markC (nth ms i) ++ if i < l.length then [nth l i] else [])
theorem markC_dig {m : Int} (h0 : 0 < m) (h9 : m ≤ 9) : digB (UInt8.ofNat (48 + m.toNat)) = true ∧ ((UInt8.ofNat (48 + m.toNat)).toNat : Int) - 48 = m := by
  have : (UInt8.ofNat (48 + m.toNat)).toNat = 48 + m.toNat := by rw [UInt8.toNat_ofNat']; omega
  constructor
  · simp only [digB, this, Bool.and_eq_true, decide_eq_true_eq]; omega
  · rw [this]; omega
theorem rd_mark {l : List UInt8} {ms : List Int} {m : Int} (h0 : 0 ≤ m) (h9 : m ≤ 9) : ∃ d, rd (markC m) ⟨l, ms ++ [0], false⟩ = some ⟨l, ms ++ [m], d⟩ := by
  by_cases h : 0 < m
  · obtain ⟨e1, e2⟩ := markC_dig h h9
    refine ⟨true, ?_⟩
    simp only [markC, h, if_true, rd, rdStep, e1, Bool.false_eq_true, if_false, Option.bind_some, List.dropLast_concat, e2]
  · have : m = 0 := by omega
    subst this
    exact ⟨false, rfl⟩
theorem rd_show {l : List UInt8} {ms : List Int} (hl : ∀ k, k < l.length → digB (nth l k) = false) (hn : ms.length = l.length + 1) (hm : ∀ k, k < ms.length → 0 ≤ nth ms k ∧ nth ms k ≤ 9) :
    ∀ i, i ≤ l.length → rd (showU l ms i) ⟨[], [0], false⟩ = some ⟨l.take i, ms.take i ++ [0], false⟩
  | 0, _ => rfl
  | i + 1, hi => by
    have ih := rd_show hl hn hm i (by omega)
    obtain ⟨m1, m2⟩ := hm i (by omega)
    obtain ⟨d, hd⟩ := rd_mark (l := l.take i) (ms := ms.take i) m1 m2
    rw [showU, rd_append, ih, Option.bind_some, rd_append, hd, Option.bind_some, if_pos (by omega)]
    simp only [rd, rdStep, hl i (by omega), Bool.false_eq_true, if_false, Option.bind_some]
    rw [take_succ (by omega : i < l.length), take_succ (by omega : i < ms.length)]
/-- A pattern's text, read, is the pattern. -/
theorem rd_all {l : List UInt8} {ms : List Int} (hl : ∀ k, k < l.length → digB (nth l k) = false) (hn : ms.length = l.length + 1) (hm : ∀ k, k < ms.length → 0 ≤ nth ms k ∧ nth ms k ≤ 9) :
    ∃ d, rd (showU l ms ms.length) ⟨[], [0], false⟩ = some ⟨l, ms, d⟩ := by
  have ih := rd_show hl hn hm l.length (Nat.le_refl _)
  obtain ⟨m1, m2⟩ := hm l.length (by omega)
  obtain ⟨d, hd⟩ := rd_mark (l := l.take l.length) (ms := ms.take l.length) m1 m2
  refine ⟨d, ?_⟩
  rw [hn, showU, rd_append, ih, Option.bind_some, rd_append, hd, Option.bind_some, if_neg (by omega)]
  have e2 : ms.take l.length ++ [nth ms l.length] = ms := by
    rw [← take_succ (by omega : l.length < ms.length), ← hn, List.take_length]
  rw [e2, List.take_length]
  rfl
end Go.Proofs.YteeaefjlpkijkaaDoor
