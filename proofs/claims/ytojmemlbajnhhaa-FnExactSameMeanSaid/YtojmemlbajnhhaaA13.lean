/- Contracts: looking up a name. -/
import Derived.Test.YtojmemlbajnhhaaA11
namespace Go.Proofs.Ytojmemlbajnhhaa
open Go Go.Bm Go.Proofs
set_option linter.all false

/-! ### the place of a name -/
def bsr (p : Nat → Bool) (lo hi : Nat) : Nat := if h : lo < hi then (if p ((lo + hi) / 2) then bsr p ((lo + hi) / 2 + 1) hi else bsr p lo ((lo + hi) / 2)) else lo
termination_by hi - lo
decreasing_by all_goals omega
theorem bsr_le (p : Nat → Bool) : ∀ (n lo hi : Nat), hi - lo ≤ n → lo ≤ hi → lo ≤ bsr p lo hi ∧ bsr p lo hi ≤ hi := by
  intro n
  induction n with
  | zero => intro lo hi h1 h2; unfold bsr; rw [dif_neg (by omega)]; omega
  | succ n ih =>
    intro lo hi h1 h2
    unfold bsr
    split
    · split
      · have := ih ((lo + hi) / 2 + 1) hi (by omega) (by omega); omega
      · have := ih lo ((lo + hi) / 2) (by omega) (by omega); omega
    · omega
theorem less_irr : ∀ l : List UInt8, Op.bytesLess l l = false
  | [] => rfl
  | a :: l => by simp [Op.bytesLess, less_irr l]
theorem cmpS_neg (a b : ByteArray) : (cmpS a b < 0) = (Op.bytesLess a.toList b.toList = true) := by
  unfold cmpS
  split
  · rename_i h; simp [h]
  · rename_i h; split <;> simp [h]
theorem cmpS_zero (a b : ByteArray) : (cmpS a b = 0) = (a = b) := by
  unfold cmpS
  split
  · rename_i h
    have : a ≠ b := fun e => by subst e; rw [less_irr] at h; cases h
    simp [this]
  · split <;> rename_i h <;> simp [h]
def zMean : Mean := ⟨0, 0, ⟨0, 0, ⟨#[]⟩⟩, ⟨[], 0, []⟩⟩
def lookP (bs : List Bind) (name : ByteArray) (i : Nat) : Bool := Op.bytesLess (nth bs i).name.toList name.toList
def lookI (bs : List Bind) (name : ByteArray) : Nat := bsr (lookP bs name) 0 bs.length
def lookB (bs : List Bind) (name : ByteArray) : Bool := decide (lookI bs name < bs.length) && decide ((nth bs (lookI bs name)).name = name)
def lookM (bs : List Bind) (name : ByteArray) : Mean := if lookB bs name then (nth bs (lookI bs name)).mean else zMean
theorem lookI_le (bs : List Bind) (name : ByteArray) : lookI bs name ≤ bs.length := (bsr_le _ _ 0 bs.length (Nat.le_refl _) (Nat.zero_le _)).2

theorem l3Look_iff (ls : List Level) (h1 : 1 ≤ ls.length) (hl : ls.length ≤ 1048576) (name : ByteArray) (hb : (nth ls (ls.length - 1)).binds.length ≤ 1048576) (h : AH) (R : AV → AH → Prop) :
    acallM CA .frz 47 [.agg [.fs none (ls.map Level.enc)], .str name] h R ↔ R (.agg (lookM (nth ls (ls.length - 1)).binds name).enc) h := by
  refine ca_frz (af := ac47) rfl ?_
  generalize hbs : (nth ls (ls.length - 1)).binds = bs at *
  have hwr : IntKind.wrap .i64 ((ls.length : Int) - 1) = ((ls.length - 1 : Nat) : Int) := by rw [wrap_i64 (by omega) (by omega)]; omega
  have ia := Level.ok.toEncOk.iaddr (by omega) none ls .i64 ((ls.length - 1 : Nat) : Int) h (by omega) (by omega)
  simp only [Int.toNat_natCast] at ia
  simp [ac47, Level.ok.toEncOk.len, hwr, ia, hbs, Bind.ok.toEncOk.len]
  refine awp_loop2 caM (fun n s h' => h' = h ∧ ∃ lo hi : Nat, n = hi - lo ∧ lo ≤ hi ∧ hi ≤ bs.length ∧ (s 1 = .str name ∧ s 5 = .fs none (bs.map Bind.enc) ∧ s 6 = .int .i64 lo ∧ s 7 = .int .i64 hi ∧ s 100004 = .agg [.int .i64 0, .int .i64 0, .int .i64 0, .int .i64 0, .str ⟨#[]⟩, .nils, .int .i64 0, .nils]) ∧ bsr (lookP bs name) lo hi = lookI bs name) ?_ (n := bs.length) ⟨rfl, 0, bs.length, by simp, by simp, by simp, by simp, rfl⟩
  rintro n s h' ⟨rfl, lo, hi, rfl, h2, h3, ⟨s1, s5, s6, s7, s4⟩, hbr⟩ K hK hE hQ
  simp [s1, s5, s6, s7]
  by_cases hlt : lo < hi
  · have hw : IntKind.wrap .i64 ((lo : Int) + hi) = (lo : Int) + hi := wrap_i64 (by omega) (by omega)
    obtain ⟨m, hmd⟩ : ∃ m, m = (lo + hi) / 2 := ⟨_, rfl⟩
    have hq : ((lo : Int) + hi).tdiv 2 = (m : Int) := by rw [Int.tdiv_eq_ediv_of_nonneg (by omega)]; omega
    have hw2 : IntKind.wrap .i64 (m : Int) = (m : Int) := wrap_i64 (by omega) (by omega)
    have hm : m < bs.length := by omega
    have ib := Bind.ok.toEncOk.iaddr (by omega) none bs .i64 (m : Int) h' (by omega) (by omega)
    simp only [Int.toNat_natCast] at ib
    have hw3 : IntKind.wrap .i64 ((m : Int) + 1) = (m : Int) + 1 := wrap_i64 (by omega) (by omega)
    rw [bsr, dif_pos hlt, ← hmd] at hbr
    simp [hlt, hw, hq, hw2, ib, s5, s1, s4, s6, s7, bin_lss]
    cases hp : lookP bs name m with
    | true =>
      have hp' : Op.bytesLess (nth bs m).name.toList name.toList = true := hp
      rw [hp, if_pos rfl] at hbr
      simp [hp', hw3]
      exact hK (hi - (m + 1)) _ _ (by omega) ⟨rfl, m + 1, hi, rfl, by omega, by omega, ⟨by simp [s1], by simp [s5], by simp, by simp [s7], by simp [s4]⟩, hbr⟩
    | false =>
      have hp' : Op.bytesLess (nth bs m).name.toList name.toList = false := hp
      rw [hp, if_neg (by simp)] at hbr
      simp [hp']
      exact hK (m - lo) _ _ (by omega) ⟨rfl, lo, m, rfl, by omega, by omega, ⟨by simp [s1], by simp [s5], by simp [s6], by simp, by simp [s4]⟩, hbr⟩
  · have e : lo = lookI bs name := by rw [← hbr, bsr, dif_neg hlt]
    have hle := lookI_le bs name
    rw [← e] at hle
    simp [hE, hlt, s1, s5, s6, s4, Bind.ok.toEncOk.len]
    by_cases hlb : lo < bs.length
    · have ib := Bind.ok.toEncOk.iaddr (by omega) none bs .i64 (lo : Int) h' (by omega) (by omega)
      simp only [Int.toNat_natCast] at ib
      simp [hlb, s1, s5, s6, s4, ib]
      by_cases hn : (nth bs lo).name = name
      · simp [hn, hQ, lookM, lookB, ← e, hlb, s5, s6, s4, ib]
      · simp [hn, hQ, lookM, lookB, ← e, hlb, s4, zMean]
    · simp [hlb, hQ, lookM, lookB, ← e, s4, zMean]
end Go.Proofs.Ytojmemlbajnhhaa
