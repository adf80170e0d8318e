/- Contracts: Look, of both. -/
import Derived.Test.YtojmemlbajnhhaaA13
namespace Go.Proofs.Ytojmemlbajnhhaa
open Go Go.Bm Go.Proofs
set_option linter.all false

theorem cmpStr_iff (a b : ByteArray) (h : AH) (R : AV → AH → Prop) : CA 162 [.str a, .str b] h R ↔ R (.int .i64 (cmpS a b)) h := (ca_iff (af := cmpAF) rfl).trans (cmpAF_str _ a b h R)
theorem compare_iff (a b : ByteArray) (h : AH) (R : AV → AH → Prop) : CA 112 [.str a, .str b] h R ↔ R (.int .i64 (cmpS a b)) h := by
  refine ca_pure (af := ac112) rfl ?_
  simp [ac112, cmpStr_iff]
theorem lookup1_iff (x : Bind) (b : ByteArray) (h : AH) (R : AV → AH → Prop) : CA 111 [.agg x.enc, .str b] h R ↔ R (.int .i64 (cmpS x.name b)) h := by
  refine ca_pure (af := ac111) rfl ?_
  simp [ac111, compare_iff]
theorem search_iff (bs : List Bind) (hb : bs.length ≤ 1048576) (name : ByteArray) (c : Option Nat) (h : AH) (R : AV → AH → Prop) :
    CA 110 [.fs c (bs.map Bind.enc), .str name, .fn 111 []] h R ↔ R (.tup [.int .i64 (lookI bs name), .bool (lookB bs name)]) h := by
  refine ca_pure (af := ac110) rfl ?_
  simp [ac110, Bind.ok.toEncOk.len]
  refine awp_loop2 caM (fun n s h' => h' = h ∧ ∃ lo hi : Nat, n = hi - lo ∧ lo ≤ hi ∧ hi ≤ bs.length ∧ (s 1 = .str name ∧ s 0 = .fs c (bs.map Bind.enc) ∧ s 2 = .fn 111 [] ∧ s 8 = .int .i64 bs.length ∧ s 9 = .int .i64 lo ∧ s 10 = .int .i64 hi) ∧ bsr (lookP bs name) lo hi = lookI bs name) ?_ (n := bs.length) ⟨rfl, 0, bs.length, by simp, by simp, by simp, by simp, rfl⟩
  rintro n s h' ⟨rfl, lo, hi, rfl, h2, h3, ⟨s1, s0, s2, s8, s9, s10⟩, hbr⟩ K hK hE hQ
  simp [s9, s10]
  by_cases hlt : lo < hi
  · have hw : IntKind.wrap .i64 ((lo : Int) + hi) = (lo : Int) + hi := wrap_i64 (by omega) (by omega)
    obtain ⟨m, hmd⟩ : ∃ m, m = (lo + hi) / 2 := ⟨_, rfl⟩
    have hwu : IntKind.wrap .u64 ((lo : Int) + hi) = (lo : Int) + hi := by simp [IntKind.wrap, IntKind.bits, IntKind.signed]; omega
    have hq : binInt .shr .u64 ((lo : Int) + hi) 1 = some (.int .u64 (m : Int)) := by
      simp only [binInt]
      rw [if_neg (by omega)]
      have : ((lo : Int) + hi).fdiv (2 ^ min (Int.toNat 1) (IntKind.bits .u64)) = (m : Int) := by
        show ((lo : Int) + hi).fdiv 2 = _
        rw [Int.fdiv_eq_ediv_of_nonneg _ (by omega)]
        omega
      rw [this]
    have hw2 : IntKind.wrap .i64 (m : Int) = (m : Int) := wrap_i64 (by omega) (by omega)
    have hm : m < bs.length := by omega
    have ib := Bind.ok.toEncOk.iaddr (by omega) c bs .i64 (m : Int) h' (by omega) (by omega)
    simp only [Int.toNat_natCast] at ib
    have hw3 : IntKind.wrap .i64 ((m : Int) + 1) = (m : Int) + 1 := wrap_i64 (by omega) (by omega)
    rw [bsr, dif_pos hlt, ← hmd] at hbr
    have lk := lookup1_iff (nth bs m)
    simp only [Bind.enc] at lk
    simp [hlt, hw, hwu, hq, hw2, ib, s0, s1, s2, s8, s9, s10, lk, cmpS_neg]
    cases hp : lookP bs name m with
    | true =>
      have hp' : Op.bytesLess (nth bs m).name.toList name.toList = true := hp
      rw [hp, if_pos rfl] at hbr
      simp [hp', hw3]
      exact hK (hi - (m + 1)) _ _ (by omega) ⟨rfl, m + 1, hi, rfl, by omega, by omega, ⟨by simp [s1], by simp [s0], by simp [s2], by simp [s8], by simp, by simp [s10]⟩, hbr⟩
    | false =>
      have hp' : Op.bytesLess (nth bs m).name.toList name.toList = false := hp
      rw [hp, if_neg (by simp)] at hbr
      simp [hp']
      exact hK (m - lo) _ _ (by omega) ⟨rfl, lo, m, rfl, by omega, by omega, ⟨by simp [s1], by simp [s0], by simp [s2], by simp [s8], by simp [s9], by simp⟩, hbr⟩
  · have e : lo = lookI bs name := by rw [← hbr, bsr, dif_neg hlt]
    have hle := lookI_le bs name
    rw [← e] at hle
    simp [hE, hlt, s0, s1, s2, s8, s9]
    by_cases hlb : lo < bs.length
    · have ib := Bind.ok.toEncOk.iaddr (by omega) c bs .i64 (lo : Int) h' (by omega) (by omega)
      simp only [Int.toNat_natCast] at ib
      have lk := lookup1_iff (nth bs lo)
      simp only [Bind.enc] at lk
      simp [hlb, s0, s1, s2, s8, s9, ib, lk, cmpS_zero, lookB, ← e]
    · simp [hlb, lookB, ← e]
theorem lookup_iff (a : List Int) (bs : List Bind) (c d : List Int) (e : List Glue) (f : List (List Token)) (hb : bs.length ≤ 1048576) (name : ByteArray) (h : AH) (R : AV → AH → Prop) :
    acallM CA .frz 49 [.fp [.fs none (a.map (encI .i64)), .fs none (bs.map Bind.enc), .fs none (c.map (encI .i64)), .fs none (d.map (encI .i64)), .fs none (e.map Glue.enc), .fs none (f.map (encS Token.enc))] 0, .str name] h R ↔ R (.agg (lookM bs name).enc) h := by
  refine ca_frz (af := ac49) rfl ?_
  simp [ac49, search_iff bs hb name]
  cases hk : lookB bs name with
  | false => simp [lookM, hk, zMean]
  | true =>
    have hlt : lookI bs name < bs.length := by simp [lookB] at hk; exact hk.1
    have ib := Bind.ok.toEncOk.iaddr (by omega) none bs .i64 (lookI bs name : Int) h (by omega) (by omega)
    simp only [Int.toNat_natCast] at ib
    simp [lookM, hk, ib]
/-- What Look answers. -/
def lookL (ls : List Level) (name : ByteArray) : Mean := if envB ⟨ls⟩ then lookM (nth ls (ls.length - 1)).binds name else zMean
theorem binds_len {ls : List Level} (hW : WS Level.W ls ≤ 1048576) {i : Nat} (hi : i < ls.length) : (nth ls i).binds.length ≤ 1048576 ∧ WS Bind.W (nth ls i).binds ≤ 1048576 := by
  have h1 := WS_nth Level.W hi
  have h2 := WS_len Bind.W (nth ls i).binds
  simp only [Level.W] at h1
  omega
theorem lookM_le (bs : List Bind) (hW : WS Bind.W bs ≤ 1048576) (name : ByteArray) : (lookM bs name).macro_.pattern.length ≤ 1048576 ∧ (lookM bs name).macro_.body.length ≤ 1048576 ∧ Mean.W (lookM bs name) ≤ 1048576 := by
  unfold lookM
  split
  · rename_i hk
    have hlt : lookI bs name < bs.length := by simp [lookB] at hk; exact hk.1
    obtain ⟨m1, m2⟩ := bind_le hlt hW
    have := WS_nth Bind.W hlt
    simp only [Bind.W] at this
    exact ⟨m1, m2, by omega⟩
  · exact ⟨by simp [zMean], by simp [zMean], by decide⟩
theorem specLook_iff (ls : List Level) (hW : Env.W ⟨ls⟩ ≤ 1048576) (name : ByteArray) (h : AH) (R : AV → AH → Prop) : acallM CA .frz 16 [.agg [.fs none (ls.map Level.enc)], .str name] h R ↔ R (.agg (lookL ls name).enc) h := by
  refine ca_frz (af := ac16) rfl ?_
  have hw : WS Level.W ls ≤ 1048576 := hW
  have l1 := WS_len Level.W ls
  simp [ac16, l3EnvOk_iff _ hW, lookL]
  cases he : envB ⟨ls⟩ with
  | false => simp [zMean]
  | true =>
    have hl : 1 ≤ ls.length := by simp [envB] at he; omega
    obtain ⟨hb1, hb2⟩ := binds_len hw (show ls.length - 1 < ls.length by omega)
    obtain ⟨m1, m2, _⟩ := lookM_le _ hb2 name
    have lk := l3Look_iff ls hl (by omega) name hb1
    simp only [Mean.enc] at lk
    simp [lk, l3CopyMean_iff _ _ _ _ _ _ _ _ m1 m2]
theorem implLook_ok (d : Nat) (ls : List Level) (hW : Env.W ⟨ls⟩ ≤ 1048576) (name : ByteArray) (h : AH) (R : AV → AH → Prop)
    (hR : ∀ h' y z F, NewL h h' (d + 2) (lookL ls name).enc [.int .i64 (lookL ls name).kind, .int .i64 (lookL ls name).num, .int .i64 (lookL ls name).token.cat, .int .i64 (lookL ls name).token.char, .str (lookL ls name).token.name, y, .int .i64 (lookL ls name).macro_.slots, z] F →
      R (.agg [.int .i64 (lookL ls name).kind, .int .i64 (lookL ls name).num, .int .i64 (lookL ls name).token.cat, .int .i64 (lookL ls name).token.char, .str (lookL ls name).token.name, y, .int .i64 (lookL ls name).macro_.slots, z]) h') : CA 17 [.agg [.fs none (ls.map Level.enc)], .str name] h R := by
  refine (ca_iff (af := ac17) rfl).2 ?_
  have hw : WS Level.W ls ≤ 1048576 := hW
  have l1 := WS_len Level.W ls
  simp [ac17, EnvOk_iff _ hW]
  cases he : envB ⟨ls⟩ with
  | false =>
    simp [lookL, he, zMean] at hR ⊢
    exact hR h .nils .nils [] ⟨AH.le_refl h, ⟨_, _, [], [], rfl, rfl, ⟨rfl, rfl⟩, _, _, [], [], rfl, rfl, ⟨rfl, rfl⟩, _, _, [], [], rfl, rfl, ⟨rfl, rfl⟩, _, _, [], [], rfl, rfl, ⟨rfl, rfl⟩, _, _, [], [], rfl, rfl, ⟨rfl, rfl⟩, _, _, [], [], rfl, rfl, ⟨rfl, .inl ⟨.inl rfl, rfl, rfl⟩⟩, _, _, [], [], rfl, rfl, ⟨rfl, rfl⟩, _, _, [], [], rfl, rfl, ⟨rfl, .inl ⟨.inl rfl, rfl, rfl⟩⟩, rfl, rfl⟩, List.nodup_nil, fun b hb => by cases hb⟩
  | true =>
    have hl : 1 ≤ ls.length := by simp [envB] at he; omega
    obtain ⟨hb1, hb2⟩ := binds_len hw (show ls.length - 1 < ls.length by omega)
    obtain ⟨m1, m2, _⟩ := lookM_le _ hb2 name
    have hwr : IntKind.wrap .i64 ((ls.length : Int) - 1) = ((ls.length - 1 : Nat) : Int) := by rw [wrap_i64 (by omega) (by omega)]; omega
    have ia := Level.ok.toEncOk.iaddr (by omega) none ls .i64 ((ls.length - 1 : Nat) : Int) h (by omega) (by omega)
    simp only [Int.toNat_natCast] at ia
    have lk := lookup_iff (nth ls (ls.length - 1)).cats (nth ls (ls.length - 1)).binds (nth ls (ls.length - 1)).counts (nth ls (ls.length - 1)).lens (nth ls (ls.length - 1)).glues (nth ls (ls.length - 1)).toks hb1 name
    simp only [Mean.enc] at lk
    simp only [Level.enc] at ia
    have e : lookL ls name = lookM (nth ls (ls.length - 1)).binds name := by simp [lookL, he]
    rw [e] at hR
    simp [Level.ok.toEncOk.len, hwr, ia, lk]
    refine ownMean_ok d _ _ _ _ _ _ _ _ m1 m2 _ _ fun h' y z F N => ?_
    have o := N.ones rfl
    simp [-AV.one] at o
    simp [-AV.one, -AV.cells, cells_agg, cells_int, cells_str, cells_one, one_int, one_str, one_nils, o]
    exact hR h' y z F N
end Go.Proofs.Ytojmemlbajnhhaa
