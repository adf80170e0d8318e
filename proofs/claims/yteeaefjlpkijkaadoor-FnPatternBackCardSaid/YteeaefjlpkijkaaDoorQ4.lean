/- Contracts: a pattern read. -/
import Derived.Test.YteeaefjlpkijkaaDoorQ3
namespace Go.Proofs.YteeaefjlpkijkaaDoor
open Go Go.Bm Go.Proofs
set_option linter.all false

/-- What is appended to lies in a block that is new. -/
theorem append_blk {es bytes : Nat} {v : AV} {c : Option Nat} {row : List AV} {h : AH} {v' : AV} {h' : AH} (e : appendA es bytes v (.fs c [row]) h = some (v', h')) : blk v' = some h.next := by
  have hs : ∀ m new, srcA h es (.fs c [row]) = some (m, new) → m = 1 := by
    intro m new hm
    simp only [srcA] at hm
    split at hm
    · cases hm; rfl
    · cases hm
  unfold appendA at e
  split at e
  · rename_i m new hm
    have := hs _ _ hm
    subst this
    rw [if_neg (by omega)] at e
    split at e
    · cases e; rfl
    · cases e
  · rename_i c2 l m new hm
    have := hs _ _ hm
    subst this
    rw [if_neg (by omega)] at e
    split at e
    · split at e
      · cases e; rfl
      · cases e
    · cases e
  · rename_i b o e2 n cp m new hm
    have := hs _ _ hm
    subst this
    split at e
    · cases e
    · rw [if_neg (by omega)] at e
      split at e
      · split at e
        · split at e
          · split at e
            · cases e; rfl
            · cases e
          · split at e
            · cases e; rfl
            · cases e
        · cases e
      · cases e
  · cases e
def rdInit : Rst := ⟨[], [0], false⟩
def readP (s : ByteArray) : Pattern × Bool := match rd s.toList rdInit with
  | none => (⟨⟨#[]⟩, []⟩, false)
  | some st => if patB ⟨⟨st.letters.toArray⟩, st.marks⟩ then (⟨⟨st.letters.toArray⟩, st.marks⟩, true) else (⟨⟨#[]⟩, []⟩, false)
theorem rd_take {l : List UInt8} {i : Nat} (hi : i < l.length) (st : Rst) : rd (l.take (i + 1)) st = (rd (l.take i) st).bind fun st' => rdStep st' (nth l i) := by
  rw [take_succ hi, rd_append]
  congr 1
  funext st'
  show (rdStep st' (nth l i)).bind (rd []) = _
  cases rdStep st' (nth l i) <;> rfl
theorem rd_stop {l : List UInt8} {i : Nat} (st : Rst) (h : rd (l.take i) st = none) : rd l st = none := by
  have : l = l.take i ++ l.drop i := (List.take_append_drop i l).symm
  rw [this, rd_append, h]
  rfl
theorem rd_sz : ∀ (l : List UInt8) {st st' : Rst}, rd l st = some st' → 0 < st.marks.length → 0 < st'.marks.length ∧ st'.marks.length ≤ st.marks.length + l.length ∧ st'.letters.length ≤ st.letters.length + l.length
  | [], st, st', h, h0 => by cases h; exact ⟨h0, by simp, by simp⟩
  | c :: l, st, st', h, h0 => by
    change (rdStep st c).bind (rd l) = some st' at h
    cases hs : rdStep st c with
    | none => rw [hs] at h; cases h
    | some st1 =>
      rw [hs] at h
      unfold rdStep at hs
      split at hs
      · split at hs
        · cases hs
        · cases hs
          have := rd_sz l h (by simp)
          simp at this ⊢
          omega
      · cases hs
        have := rd_sz l h (by simp)
        simp at this ⊢
        omega
theorem sub48 (b : UInt8) (h : digB b = true) : IntKind.wrap .u8 ((b.toNat : Int) - 48) = (b.toNat : Int) - 48 ∧ IntKind.wrap .i64 ((b.toNat : Int) - 48) = (b.toNat : Int) - 48 := by
  simp only [digB, Bool.and_eq_true, decide_eq_true_eq] at h
  exact ⟨wrap_u8 (by omega) (by omega), wrap_i64 (by omega) (by omega)⟩
end Go.Proofs.YteeaefjlpkijkaaDoor
