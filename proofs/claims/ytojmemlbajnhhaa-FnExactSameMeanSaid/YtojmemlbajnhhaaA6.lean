/- Contracts: the reference's copies. -/
import Derived.Test.YtojmemlbajnhhaaA5
namespace Go.Proofs.Ytojmemlbajnhhaa
open Go Go.Bm Go.Proofs
set_option linter.all false

theorem l3CopyMean_iff (a b c e : Int) (t : ByteArray) (p : List Token) (f : Int) (q : List Token) (hp : p.length ≤ 1048576) (hq : q.length ≤ 1048576) (h : AH) (R : AV → AH → Prop) :
    acallM CA .frz 46 [.agg [.int .i64 a, .int .i64 b, .int .i64 c, .int .i64 e, .str t, .fs none (p.map Token.enc), .int .i64 f, .fs none (q.map Token.enc)]] h R ↔ R (.agg [.int .i64 a, .int .i64 b, .int .i64 c, .int .i64 e, .str t, .fs none (p.map Token.enc), .int .i64 f, .fs none (q.map Token.enc)]) h := by
  refine ca_frz (af := ac46) rfl ?_
  obtain ⟨y, h1, e1, O1, _, k1⟩ := (Own.lit0 (h := h) Token.ok.toEncOk (AH.le_refl h)).appendR none p 32 (by simp; omega) (by simp; omega)
  rw [List.nil_append] at O1
  obtain ⟨z, h2, e2, O2, _, k2⟩ := (Own.lit0 (h := h1) Token.ok.toEncOk (AH.le_refl h1)).appendR none q 32 (by simp; omega) (by simp; omega)
  rw [List.nil_append] at O2
  have N1 := O1.new_ Token.flat 0
  have N2 := O2.new_ Token.flat 0
  obtain ⟨F1, N1⟩ := N1
  obtain ⟨F2, N2⟩ := N2
  have o1 := N1.one1
  have o2 := N2.one1
  have f1 := (N1.grow N2.le).tw.frz 2 N1.new 19 (by omega)
  have f2 := N2.tw.frz 2 (lo := h.next) (fun b hb => Nat.le_trans N1.le.1 (N2.new b hb)) 19 (by omega)
  (iterate 4 ((try simp [ac46, -AV.one, -AV.cells, cells_agg, cells_one, cells_int, cells_str, cells_fs, one_int, one_str, one_fs, one_nils, o1, o2, e1, e2, f1, f2]); (try simp (disch := omega) [ac46, -AV.one, -AV.cells, cells_agg, cells_one, cells_int, cells_str, cells_fs, one_int, one_str, one_fs, one_nils, o1, o2, e1, e2, f1, f2])))
  exact AH.le_trans N1.le N2.le
theorem l3Close_iff (ls : List Level) (h1 : 1 ≤ ls.length) (hb : ls.length ≤ 1048576) (h : AH) (R : AV → AH → Prop) : acallM CA .frz 55 [.agg [.fs none (ls.map Level.enc)]] h R ↔
    R (.tup [.agg [.fs none ((if ls.length = 1 then ls else ls.take (ls.length - 1)).map Level.enc)], .bool (!decide (ls.length = 1))]) h := by
  refine ca_frz (af := ac55) rfl ?_
  by_cases e : ls.length = 1
  · simp [ac55, e, Level.ok.toEncOk.len]
  have e' : ¬ (ls.length : Int) = 1 := by omega
  have hw : IntKind.wrap .i64 ((ls.length : Int) - 1) = ((ls.length - 1 : Nat) : Int) := by rw [wrap_i64 (by omega) (by omega)]; omega
  have hs := Level.ok.toEncOk.sliceHi ls h .i64 ((ls.length - 1 : Nat) : Int) (by omega) (by omega)
  rw [Int.toNat_natCast] at hs
  obtain ⟨y, h2, e1, O1, _, k1⟩ := (Own.lit0 (h := h) Level.ok.toEncOk (AH.le_refl h)).appendR none (ls.take (ls.length - 1)) 144 (by simp; omega) (by simp; omega)
  rw [List.nil_append] at O1
  have f1 := O1.frz18 Level.ok
  have o1 : y.one = true := by rcases O1.at_ with ⟨_, rfl | rfl⟩ | ⟨_, _, rfl, _⟩ <;> rfl
  rw [if_neg e]
  (iterate 4 ((try simp [ac55, -AV.one, -AV.cells, -List.map_take, cells_agg, cells_one, cells_fs, one_fs, one_nils, o1, e, e', Level.ok.toEncOk.len, hw, hs, e1, f1]); (try simp (disch := omega) [ac55, -AV.one, -AV.cells, -List.map_take, cells_agg, cells_one, cells_fs, one_fs, one_nils, o1, e, e', Level.ok.toEncOk.len, hw, hs, e1, f1])))
  exact O1.le
theorem l3Open_iff (ls : List Level) (h1 : 1 ≤ ls.length) (hb : ls.length ≤ 1048576) (h : AH) (R : AV → AH → Prop) : acallM CA .frz 59 [.agg [.fs none (ls.map Level.enc)]] h R ↔
    R (.tup [.agg [.fs none ((if ls.length = 20 then ls else ls ++ [nth ls (ls.length - 1)]).map Level.enc)], .bool (!decide (ls.length = 20))]) h := by
  refine ca_frz (af := ac59) rfl ?_
  by_cases e : ls.length = 20
  · simp [ac59, e, Level.ok.toEncOk.len]
  have e' : ¬ (ls.length : Int) = 20 := by omega
  have hw : IntKind.wrap .i64 ((ls.length : Int) - 1) = ((ls.length - 1 : Nat) : Int) := by rw [wrap_i64 (by omega) (by omega)]; omega
  have ia := Level.ok.toEncOk.iaddr (by omega) none ls .i64 ((ls.length - 1 : Nat) : Int)
  simp only [Int.toNat_natCast] at ia
  obtain ⟨y, h2, e1, O1, _, k1⟩ := (Own.lit0 (h := h) Level.ok.toEncOk (AH.le_refl h)).appendR none ls 144 (by simp; omega) (by simp; omega)
  rw [List.nil_append] at O1
  obtain ⟨z, h3, e2, O2, _, k2⟩ := O1.append1 (some 1) (nth ls (ls.length - 1)) _ rfl 144 (by omega) (by omega)
  have ia2 := ia h2 (by omega) (by omega)
  have hl := Level.ok.toEncOk.load (nth ls (ls.length - 1)) h2
  have hbs := Level.ok.bsliceF1 [.nils, .nils, .nils, .nils, .nils, .nils] rfl (nth ls (ls.length - 1)) h2
  have f1 := O2.frz18 Level.ok
  have o1 : z.one = true := by rcases O2.at_ with ⟨_, rfl | rfl⟩ | ⟨_, _, rfl, _⟩ <;> rfl
  rw [if_neg e]
  (iterate 4 ((try simp [ac59, -AV.one, -AV.cells, -Level.enc, cells_agg, cells_one, cells_fs, one_fs, one_nils, o1, e, e', Level.ok.toEncOk.len, hw, ia2, hl, hbs, e1, e2, f1]); (try simp (disch := omega) [ac59, -AV.one, -AV.cells, -Level.enc, cells_agg, cells_one, cells_fs, one_fs, one_nils, o1, e, e', Level.ok.toEncOk.len, hw, ia2, hl, hbs, e1, e2, f1])))
  exact O2.le
end Go.Proofs.Ytojmemlbajnhhaa
