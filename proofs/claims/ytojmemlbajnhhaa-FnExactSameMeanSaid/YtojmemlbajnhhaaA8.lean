/- Contracts: the reference's CloseGroup. -/
import Derived.Test.YtojmemlbajnhhaaA7
namespace Go.Proofs.Ytojmemlbajnhhaa
open Go Go.Bm Go.Proofs
set_option linter.all false

def closeL (ls : List Level) : List Level := if envB ⟨ls⟩ then (if ls.length = 1 then ls else ls.take (ls.length - 1)) else []
def closeB (ls : List Level) : Bool := envB ⟨ls⟩ && !decide (ls.length = 1)
theorem l3CloseGroup_iff (ls : List Level) (hW : Env.W ⟨ls⟩ ≤ 1048576) (h : AH) (R : AV → AH → Prop) : acallM CA .frz 22 [.agg [.fs none (ls.map Level.enc)]] h R ↔ R (.tup [.agg [.fs none ((closeL ls).map Level.enc)], .bool (closeB ls)]) h := by
  refine ca_frz (af := ac22) rfl ?_
  have hw : WS Level.W ls ≤ 1048576 := hW
  have l1 := WS_len Level.W ls
  simp [ac22, l3EnvOk_iff _ hW, closeL, closeB]
  cases he : envB ⟨ls⟩ with
  | false => simp
  | true =>
    have hl : 1 ≤ ls.length := by simp [envB] at he; omega
    simp [l3Close_iff ls hl (by omega)]
    have hw2 : WS Level.W (if ls.length = 1 then ls else ls.take (ls.length - 1)) ≤ 1048576 := by
      split
      · exact hw
      · have := WS_append Level.W (ls.take (ls.length - 1)) (ls.drop (ls.length - 1))
        rw [List.take_append_drop] at this
        omega
    simp [l3Copy_iff _ (by have := WS_len Level.W (if ls.length = 1 then ls else ls.take (ls.length - 1)); omega) (fun i hi => Nat.le_trans (WS_nth Level.W hi) hw2)]
def openL (ls : List Level) : List Level := if envB ⟨ls⟩ then (if ls.length = 20 then ls else ls ++ [nth ls (ls.length - 1)]) else []
def openB (ls : List Level) : Bool := envB ⟨ls⟩ && !decide (ls.length = 20)
theorem nth_app1 {α : Type} [Inhabited α] {xs : List α} {x : α} {i : Nat} (hi : i < (xs ++ [x]).length) : nth (xs ++ [x]) i = if i < xs.length then nth xs i else x := by
  rw [nth_eq hi]
  simp at hi
  split
  · rename_i h; rw [nth_eq h, List.getElem_append_left h]
  · rename_i h
    obtain rfl : i = xs.length := by omega
    simp
theorem l3OpenGroup_iff (ls : List Level) (hW : Env.W ⟨ls⟩ ≤ 1048576) (h : AH) (R : AV → AH → Prop) : acallM CA .frz 25 [.agg [.fs none (ls.map Level.enc)]] h R ↔ R (.tup [.agg [.fs none ((openL ls).map Level.enc)], .bool (openB ls)]) h := by
  refine ca_frz (af := ac25) rfl ?_
  have hw : WS Level.W ls ≤ 1048576 := hW
  have l1 := WS_len Level.W ls
  simp [ac25, l3EnvOk_iff _ hW, openL, openB]
  cases he : envB ⟨ls⟩ with
  | false => simp
  | true =>
    have hl : 1 ≤ ls.length ∧ ls.length ≤ 20 := by simp [envB] at he; omega
    have h1 : ∀ i, i < ls.length → Level.W (nth ls i) ≤ 1048576 := fun i hi => Nat.le_trans (WS_nth Level.W hi) hw
    simp [-List.map_append, l3Open_iff ls hl.1 (by omega)]
    have hlen : (if ls.length = 20 then ls else ls ++ [nth ls (ls.length - 1)]).length ≤ 1048576 := by
      split
      · omega
      · rw [List.length_append, List.length_singleton]; omega
    have hall : ∀ i, i < (if ls.length = 20 then ls else ls ++ [nth ls (ls.length - 1)]).length → Level.W (nth (if ls.length = 20 then ls else ls ++ [nth ls (ls.length - 1)]) i) ≤ 1048576 := by
      intro i hi
      split at hi
      · rename_i e; rw [if_pos e]; exact h1 i hi
      · rename_i e; rw [if_neg e, nth_app1 hi]; split
        · exact h1 i (by assumption)
        · exact h1 _ (by omega)
    have := l3Copy_iff _ hlen hall
    simp [-List.map_append, this]
end Go.Proofs.Ytojmemlbajnhhaa
