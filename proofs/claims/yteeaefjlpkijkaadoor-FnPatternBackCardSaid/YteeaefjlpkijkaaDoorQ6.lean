/- Plain: what is shown is read. -/
import Derived.Test.YteeaefjlpkijkaaDoorQ5
namespace Go.Proofs.YteeaefjlpkijkaaDoor
open Go Go.Bm Go.Proofs
set_option linter.all false

theorem toList_mk (x : List UInt8) : (⟨x.toArray⟩ : ByteArray).toList = x := by rw [Lib.toList_data]
theorem mk_toList (l : ByteArray) : (⟨l.toList.toArray⟩ : ByteArray) = l := by
  obtain ⟨⟨x⟩⟩ := l
  rw [Lib.toList_data]
theorem low_dig {b : UInt8} (h : lowB b = true) : digB b = false := by
  simp only [lowB, Bool.and_eq_true, decide_eq_true_eq] at h
  simp only [digB, Bool.and_eq_false_iff, decide_eq_false_iff_not]
  omega
theorem read_show {l : ByteArray} {ms : List Int} (hp : patB ⟨l, ms⟩ = true) : readP (showS l ms) = (⟨l, ms⟩, true) := by
  have hsz := sz_list l
  have hp2 := hp
  simp only [patB, Bool.and_eq_true, decide_eq_true_eq] at hp2
  obtain ⟨⟨⟨⟨⟨_, _⟩, h3⟩, h4⟩, h5⟩, _⟩ := hp2
  have hl : ∀ k, k < l.toList.length → digB (nth l.toList k) = false := fun k hk => by
    have := rall_iff.1 h4 k (by omega)
    rw [← byt_nth l (by omega)]
    simp only [chrF, Bool.or_eq_true, Bool.and_eq_true, decide_eq_true_eq] at this
    rcases this with h | h
    · exact low_dig h
    · simp only [digB, Bool.and_eq_false_iff, decide_eq_false_iff_not]; omega
  have hm : ∀ k, k < ms.length → 0 ≤ nth ms k ∧ nth ms k ≤ 9 := fun k hk => by
    have := rall_iff.1 h5 k hk
    simpa [mrkF, mrkB] using this
  obtain ⟨d, hd⟩ := rd_all hl (by omega) hm
  unfold readP showS
  rw [hp, if_pos rfl, toList_mk]
  simp only [rdInit, hd, mk_toList, hp, if_true]
theorem readP_ok {s : ByteArray} (h : (readP s).2 = true) : patB (readP s).1 = true := by
  unfold readP at h ⊢
  split
  · rename_i e; rw [e] at h; cases h
  · rename_i st e
    rw [e] at h
    simp only at h ⊢
    split
    · assumption
    · rename_i hn; rw [if_neg hn] at h; cases h
theorem showS_ne {l : ByteArray} {ms : List Int} (hp : patB ⟨l, ms⟩ = true) : showS l ms ≠ ⟨#[]⟩ := by
  intro e
  have := read_show hp
  rw [e] at this
  have h2 : readP ⟨#[]⟩ = (⟨⟨#[]⟩, []⟩, false) := by
    have e0 : patB ⟨⟨#[]⟩, [0]⟩ = false := patB_no1 (by intro x; have := x.1; revert this; decide)
    unfold readP
    rw [show (⟨#[]⟩ : ByteArray).toList = [] from toList_mk []]
    simp only [rd, rdInit]
    rw [e0]
    rfl
  rw [h2] at this
  cases this
end Go.Proofs.YteeaefjlpkijkaaDoor
