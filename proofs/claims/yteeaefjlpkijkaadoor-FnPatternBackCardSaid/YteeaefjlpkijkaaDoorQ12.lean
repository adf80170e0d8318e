/- The law: what is shown is read back. -/
import Derived.Test.YteeaefjlpkijkaaDoorQ11
namespace Go.Proofs.YteeaefjlpkijkaaDoor
open Go Go.Bm Go.Proofs
set_option linter.all false

theorem read1a : (readP ⟨#[49, 97]⟩).2 = true := by
  have e : readP ⟨#[49, 97]⟩ = if patB ⟨⟨#[97]⟩, [1, 0]⟩ then (⟨⟨#[97]⟩, [1, 0]⟩, true) else (⟨⟨#[]⟩, []⟩, false) := by
    unfold readP
    rw [show (⟨#[49, 97]⟩ : ByteArray).toList = [49, 97] from toList_mk [49, 97]]
    rfl
  have p : patB ⟨⟨#[97]⟩, [1, 0]⟩ = true := by decide +kernel
  rw [e, if_pos p]
theorem readP_sz (s : ByteArray) : (readP s).1.letters.size ≤ s.size ∧ (readP s).1.marks.length ≤ s.size + 1 := by
  have hsz := sz_list s
  unfold readP
  split
  · exact ⟨Nat.zero_le _, by simp⟩
  · rename_i st e
    have := rd_sz _ e (by simp [rdInit])
    simp [rdInit] at this
    split
    · refine ⟨?_, ?_⟩
      · show st.letters.toArray.size ≤ _
        rw [List.size_toArray]; omega
      · show st.marks.length ≤ _
        omega
    · exact ⟨Nat.zero_le _, by simp⟩
theorem showS_size (l : ByteArray) (ms : List Int) (h : ms.length ≤ 1000) : (showS l ms).size ≤ 2000 := by
  unfold showS
  split
  · have := showU_len l.toList ms ms.length
    show (List.toArray _).size ≤ _
    rw [List.size_toArray]; omega
  · exact Nat.zero_le _
theorem lawPatternBack_ok (xs : List Int) (hx : xs.length ≤ maxLen ∧ ∀ y ∈ xs, 0 ≤ y ∧ y ≤ 255) (h : AH) : CA 3 [.fs none (xs.map (encI .u8))] h (fun v _ => v = .bool true) := by
  refine (ca_iff (af := ac3) rfl).2 ?_
  by_cases hl : (1048576 : Int) < xs.length
  · simp [ac3, big_iff, hl]
  have hl' : xs.length ≤ 1048576 := by omega
  simp [ac3, big_iff, hl]
  refine DrawShowPattern_ok xs hx.2 hl' h _ fun l ms hls hms => ?_
  obtain ⟨p1, e1, h1⟩ : ∃ p, (readP ⟨#[49, 97]⟩) = (p, true) ∧ True := ⟨(readP ⟨#[49, 97]⟩).1, Prod.ext rfl read1a, trivial⟩
  have r1 : ∀ h R, acallM CA .frz 6 [.str ⟨#[49, 97]⟩] h R ↔ R (.tup [.agg p1.enc, .bool true]) h := fun h R => by rw [ReadPattern_iff _ (by decide), e1]
  simp [r1, Pattern.enc]
  have b1 : l.size ≤ 1048576 := by omega
  have b2 : ms.length ≤ 1048576 := by omega
  simp [ShowPattern_iff l ms b1 b2, PatternOk_iff l ms b1 b2]
  have second : ∀ (t : ByteArray) (h' : AH) (R : AV → AH → Prop), t.size ≤ 100 → acallM CA .frz 6 [.str t] h' R = R (.tup [.agg [.str (readP t).1.letters, .fs none ((readP t).1.marks.map (encI .i64))], .bool (readP t).2]) h' := fun t h' R ht => propext (ReadPattern_iff t (by omega) h' R)
  cases hp : patB ⟨l, ms⟩ with
  | false =>
    have he : showS l ms = ⟨#[]⟩ := by unfold showS; rw [hp]; rfl
    simp [he]
  | true =>
    have rs := read_show hp
    have hsz := showS_size l ms (by omega)
    have r2 : ∀ h R, acallM CA .frz 6 [.str (showS l ms)] h R ↔ R (.tup [.agg [.str l, .fs none (ms.map (encI .i64))], .bool true]) h := fun h R => by rw [ReadPattern_iff _ (by omega), rs]; rfl
    have hne := showS_ne hp
    simp [r2, ShowPattern_iff l ms b1 b2, sameInts_iff ms ms b2 b2, hne]
    refine DrawReadPattern_ok xs hx.2 hl' h _ fun t h' le' ht => ?_
    have sz := readP_sz t
    simp [second t _ _ ht]
    cases hk : (readP t).2 with
    | false => simp
    | true =>
      have hp2 := readP_ok hk
      generalize (readP t).1 = q at *
      obtain ⟨l2, ms2⟩ := q
      simp only at sz
      have c1 : l2.size ≤ 1048576 := by omega
      have c2 : ms2.length ≤ 1048576 := by omega
      have rs2 := read_show hp2
      have hsz2 := showS_size l2 ms2 (by omega)
      have r3 : ∀ h R, acallM CA .frz 6 [.str (showS l2 ms2)] h R ↔ R (.tup [.agg [.str l2, .fs none (ms2.map (encI .i64))], .bool true]) h := fun h R => by rw [ReadPattern_iff _ (by omega), rs2]; rfl
      simp [ShowPattern_iff l2 ms2 c1 c2, r3, sameInts_iff ms2 ms2 c2 c2]
end Go.Proofs.YteeaefjlpkijkaaDoor
