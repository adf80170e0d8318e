/- The program's SameMean; the law. -/
import Derived.Test.YtojmemlbajnhhaaA17
namespace Go.Proofs.Ytojmemlbajnhhaa
open Go Go.Bm Go.Proofs
set_option linter.all false

theorem last_iff (ls : List Level) (h1 : 1 ≤ ls.length) (hl : ls.length ≤ 1048576) (be : Nat) (h : AH) (hb : h.get be = some (.cells true [.fs none (ls.map Level.enc)])) (R : AV → AH → Prop) :
    CA 64 [.ptr be 0] h R ↔ R (.fp (nth ls (ls.length - 1)).enc 0) h := by
  refine ca_pure (af := ac64) rfl ?_
  have ld : loadA false 1 (.ptr be 0) h = some (.fs none (ls.map Level.enc), h) := by simp [loadA, rdA, AH.read, hb]
  have hwr : IntKind.wrap .i64 ((ls.length : Int) - 1) = ((ls.length - 1 : Nat) : Int) := by rw [wrap_i64 (by omega) (by omega)]; omega
  have ia := Level.ok.toEncOk.iaddr (by omega) none ls .i64 ((ls.length - 1 : Nat) : Int) h (by omega) (by omega)
  simp only [Int.toNat_natCast] at ia
  simp [ac64, ld, Level.ok.toEncOk.len, hwr, ia]
theorem meaning_iff (ls : List Level) (h1 : 1 ≤ ls.length) (hW : WS Level.W ls ≤ 1048576) (a b : Int) (c : ByteArray) (bx be : Nat) (f1 f2 f3 : AV) (h : AH) (hx : h.get bx = some (.cells true [.fn 64 [.ptr be 0], f1, f2, f3])) (hb : h.get be = some (.cells true [.fs none (ls.map Level.enc)])) (R : AV → AH → Prop) :
    acallM CA .frz 66 [.ptr bx 0, .agg [.int .i64 a, .int .i64 b, .str c]] h R ↔ R (.agg (meanT ls ⟨a, b, c⟩).enc) h := by
  refine ca_frz (af := ac66) rfl ?_
  have l1 := WS_len Level.W ls
  by_cases e : a = 0
  · subst e
    have ld : loadA false 1 (.ptr bx 0) h = some (.fn 64 [.ptr be 0], h) := by simp [loadA, rdA, AH.read, hx]
    have la := last_iff ls h1 (by omega) be h hb
    have lk := lookup_iff (nth ls (ls.length - 1)).cats (nth ls (ls.length - 1)).binds (nth ls (ls.length - 1)).counts (nth ls (ls.length - 1)).lens (nth ls (ls.length - 1)).glues (nth ls (ls.length - 1)).toks (binds_len hW (show ls.length - 1 < ls.length by omega)).1 c
    simp only [Mean.enc] at lk
    simp only [Level.enc] at la
    simp [ac66, ld, la, lk, meanT]
  · simp [ac66, e, meanT]
theorem implSame_iff (ls : List Level) (hW : Env.W ⟨ls⟩ ≤ 1048576) (a b : Token) (h : AH) (R : AV → AH → Prop) : acallM CA .frz 30 [.agg [.fs none (ls.map Level.enc)], .agg a.enc, .agg b.enc] h R ↔ R (.bool (sameB ls a b)) h := by
  refine ca_frz (af := ac30) rfl ?_
  have hw : WS Level.W ls ≤ 1048576 := hW
  obtain ⟨ac, ah, an⟩ := a
  obtain ⟨bc, bh, bn⟩ := b
  have g0 : (h.new (.cells true [.fs none (ls.map Level.enc)])).get h.next = some (.cells true [.fs none (ls.map Level.enc)]) := by rw [AH.get_new, if_pos rfl]
  have n0 : (h.new (.cells true [.fs none (ls.map Level.enc)])).next = h.next + 1 := rfl
  have le0 : h.le (h.new (.cells true [.fs none (ls.map Level.enc)])) := AH.le_new_of (AH.le_refl h) _
  simp [ac30, boxA]
  generalize h.new (.cells true [.fs none (ls.map Level.enc)]) = h1 at *
  have ld : loadA true 1 (.ptr h.next 0) h1 = some (.agg [.fs none (ls.map Level.enc)], h1) := by simp [loadA, rdA, AH.read, g0]
  simp [ld, EnvOk_iff _ hW, sameB]
  cases he : envB ⟨ls⟩ with
  | false => simp [le0, sameB, he]
  | true =>
    have hl : 1 ≤ ls.length := by simp [envB] at he; omega
    simp [TokenOk_iff]
    cases h2 : tokB ⟨ac, ah, an⟩ with
    | false => simp [le0, sameB, h2]
    | true =>
      simp [TokenOk_iff]
      cases h3 : tokB ⟨bc, bh, bn⟩ with
      | false => simp [le0, sameB, h3]
      | true =>
        simp
        by_cases h4 : ac = 16
        · simp [h4, le0, sameB]
        · simp [h4]
          by_cases h5 : bc = 16
          · simp [h5, le0, sameB]
          · simp [h5, boxA]
            have g1 : (h1.new (.cells true [.fn 64 [.ptr h.next 0], .nils, .nilf, .int .i64 0])).get h1.next = some (.cells true [.fn 64 [.ptr h.next 0], .nils, .nilf, .int .i64 0]) := by rw [AH.get_new, if_pos rfl]
            have g2 : (h1.new (.cells true [.fn 64 [.ptr h.next 0], .nils, .nilf, .int .i64 0])).get h.next = some (.cells true [.fs none (ls.map Level.enc)]) := by rw [AH.get_new, if_neg (by omega)]; exact g0
            have le1 : h.le (h1.new (.cells true [.fn 64 [.ptr h.next 0], .nils, .nilf, .int .i64 0])) := AH.le_new_of le0 _
            generalize h1.new (.cells true [.fn 64 [.ptr h.next 0], .nils, .nilf, .int .i64 0]) = hx at *
            have m1 := meaning_iff ls hl hw ac ah an _ _ _ _ _ hx g1 g2
            have m2 := meaning_iff ls hl hw bc bh bn _ _ _ _ _ hx g1 g2
            obtain ⟨b1, b2⟩ := meanT_le ls hl hw ⟨ac, ah, an⟩
            obtain ⟨b3, b4⟩ := meanT_le ls hl hw ⟨bc, bh, bn⟩
            have sm := sameMean_iff (meanT ls ⟨ac, ah, an⟩) (meanT ls ⟨bc, bh, bn⟩) b1 b2 b3 b4
            simp only [Mean.enc] at m1 m2 sm
            simp [m1, m2, sm, le1, sameB, he, h2, h3, h4, h5]
theorem lawSameMean_ok (x : Env) (hx : x.Ok) (a : Token) (ha : a.Ok) (b : Token) (hb : b.Ok) (h : AH) : CA 7 [.agg x.enc, .agg a.enc, .agg b.enc] h (fun v _ => v = .bool true) := by
  obtain ⟨ls⟩ := x
  refine (ca_iff (af := ac7) rfl).2 ?_
  simp [ac7, szEnv_iff' _ hx, szr_neg]
  by_cases hW : (1048576 : Int) < Env.W ⟨ls⟩
  · simp [hW]
  have hw : Env.W ⟨ls⟩ ≤ 1048576 := by omega
  have hle : ((Env.W ⟨ls⟩ : Nat) : Int) ≤ 1048576 := by omega
  rw [szr_nonneg hle]
  obtain ⟨ac, ah, an⟩ := a
  obtain ⟨bc, bh, bn⟩ := b
  simp [hW, szToken_iff' _ _ _ ha ((1048576 : Int) - (Env.W ⟨ls⟩ : Nat)) (by omega) (by omega), szr_neg]
  by_cases hA : (1048576 : Int) - (Env.W ⟨ls⟩ : Nat) < (Token.W ⟨ac, ah, an⟩ : Nat)
  · simp [hA]
  rw [szr_nonneg (by omega)]
  simp [hA, szToken_iff' _ _ _ hb ((1048576 : Int) - (Env.W ⟨ls⟩ : Nat) - (Token.W ⟨ac, ah, an⟩ : Nat)) (by omega) (by omega), szr_neg]
  by_cases hB : (1048576 : Int) - (Env.W ⟨ls⟩ : Nat) - (Token.W ⟨ac, ah, an⟩ : Nat) < (Token.W ⟨bc, bh, bn⟩ : Nat)
  · simp [hB]
  have ss := specSame_iff ls hw ⟨ac, ah, an⟩ ⟨bc, bh, bn⟩
  have si := implSame_iff ls hw ⟨ac, ah, an⟩ ⟨bc, bh, bn⟩
  simp only [Token.enc] at ss si
  have ta := toToken_iff' ac ah an (by omega)
  have tb := toToken_iff' bc bh bn (by omega)
  simp [hB, toEnv_iff' _ hw, ta, tb, ss, si, eqEnv_iff' _ _ (Nat.le_trans hw (by decide))]
end Go.Proofs.Ytojmemlbajnhhaa
