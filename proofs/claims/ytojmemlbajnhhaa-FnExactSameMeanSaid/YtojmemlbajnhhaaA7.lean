/- Contracts: the reference's copy of a level. -/
import Derived.Test.YtojmemlbajnhhaaA6
namespace Go.Proofs.Ytojmemlbajnhhaa
open Go Go.Bm Go.Proofs
set_option linter.all false

theorem appendF0 {α : Type} {es : Nat} {enc : α → List AV} (E : EncOk es enc) (bytes : Nat) (xs : List α) (hb : xs.length ≤ 1048576) (hby : bytes ≤ 1048576) (h : AH) : appendFA es bytes (.fs (some 0) []) (.fs none (xs.map enc)) h = some (.fs none (xs.map enc), h) := by
  have hbl : xs.length * bytes ≤ 1048576 * 1048576 := Nat.mul_le_mul hb hby
  unfold appendFA
  by_cases e : xs.length = 0
  · have : xs = [] := List.eq_nil_of_length_eq_zero e
    subst this
    rfl
  · simp only [List.length_map, e, if_false, List.length_nil, Nat.zero_add, List.nil_append]
    rw [if_pos ⟨by omega, by omega, by omega, rfl, E.rows xs⟩]
set_option maxRecDepth 100000 in
theorem l3CopyLevel_iff (a : List Int) (b : List Bind) (c d : List Int) (e : List Glue) (f : List (List Token)) (hW : Level.W ⟨a, b, c, d, e, f⟩ ≤ 1048576) (h : AH) (R : AV → AH → Prop) :
    acallM CA .frz 120 [.agg [.fs none (a.map (encI .i64)), .fs none (b.map Bind.enc), .fs none (c.map (encI .i64)), .fs none (d.map (encI .i64)), .fs none (e.map Glue.enc), .fs none (f.map (encS Token.enc))]] h R ↔
    R (.agg [.fs none (a.map (encI .i64)), .fs none (b.map Bind.enc), .fs none (c.map (encI .i64)), .fs none (d.map (encI .i64)), .fs none (e.map Glue.enc), .fs none (f.map (encS Token.enc))]) h := by
  refine ca_frz (af := ac120) rfl ?_
  have w1 : WS Bind.W b ≤ 1048576 := by simp only [Level.W] at hW; omega
  have w2 : WS (WS Token.W) f ≤ 1048576 := by simp only [Level.W] at hW; omega
  have l1 := WS_len Bind.W b
  have l2 := WS_len (WS Token.W) f
  have la : a.length ≤ 1048576 := by simp only [Level.W] at hW; omega
  have lc : c.length ≤ 1048576 := by simp only [Level.W] at hW; omega
  have ld : d.length ≤ 1048576 := by simp only [Level.W] at hW; omega
  have le : e.length ≤ 1048576 := by simp only [Level.W] at hW; omega
  have fa := appendF0 (encI_ok .i64).toEncOk 8 a la (by omega) h
  have fc := appendF0 (encI_ok .i64).toEncOk 8 c lc (by omega) h
  have fd := appendF0 (encI_ok .i64).toEncOk 8 d ld (by omega) h
  have fe := appendF0 Glue.ok.toEncOk 40 e le (by omega) h
  simp [ac120, fa, fc, fd, fe]
  refine awp_loop2 caM (fun n s h' => ∃ (i : Nat) (v : AV), n = b.length - i ∧ i ≤ b.length ∧ (s 4 = .int .i64 i ∧ s 100001 = .agg [.fs none (a.map (encI .i64)), .fs none (b.map Bind.enc), .fs none (c.map (encI .i64)), .fs none (d.map (encI .i64)), .fs none (e.map Glue.enc), .fs none (f.map (encS Token.enc))] ∧ s 100002 = .agg [.nils, .nils, .nils, .nils, .nils, .nils] ∧ s 100003 = .agg [.fs none (a.map (encI .i64)), v, .fs none (c.map (encI .i64)), .fs none (d.map (encI .i64)), .fs none (e.map Glue.enc), .nils]) ∧ Own h 9 Bind.enc h' v (b.take i)) ?_ (n := b.length) ⟨0, .nils, by simp, by simp, by simp, Own.nils Bind.ok.toEncOk (AH.le_refl h)⟩
  rintro n s h' ⟨i, v, rfl, hi, ⟨s4, s1, s2, s3⟩, O⟩ K hK hE hQ
  simp [s4, s1, s3, Bind.ok.toEncOk.len]
  by_cases hlt : i < b.length
  · have a1 := fun c k => Bind.ok.toEncOk.iaddr (by omega) c b k (i : Int) h' (by omega) (by omega)
    have hw : IntKind.wrap .i64 ((i : Int) + 1) = (i : Int) + 1 := wrap_i64 (by omega) (by omega)
    obtain ⟨m1, m2⟩ := bind_le hlt w1
    obtain ⟨v', h2, e1, O2, _, _⟩ := O.append1 (some 1) (nth b i) (Bind.enc (nth b i)) rfl 120 (by simp; omega) (by simp; omega)
    have hbs := Bind.ok.bsliceF1 [.str ⟨#[]⟩, .int .i64 0, .int .i64 0, .int .i64 0, .int .i64 0, .str ⟨#[]⟩, .nils, .int .i64 0, .nils] rfl (nth b i) h'
    rw [← take_succ hlt] at O2
    have o2 : v'.one = true := by rcases O2.at_ with ⟨_, rfl | rfl⟩ | ⟨_, _, rfl, _⟩ <;> rfl
    simp only [Bind.enc] at hbs e1
    simp [-AV.one, -AV.cells, cells_agg, cells_one, cells_fs, cells_str, cells_int, one_fs, one_nils, one_str, one_int, hlt, s4, s1, s3, a1, l3CopyMean_iff _ _ _ _ _ _ _ _ m1 m2, hbs, e1, o2, hw]
    exact hK (b.length - (i + 1)) _ _ (by omega) ⟨i + 1, v', rfl, by omega, ⟨by simp, by simp [s1], by simp [s2], by simp⟩, O2⟩
  · obtain rfl : i = b.length := by omega
    rw [List.take_length] at O
    simp [hE, s1, s2, s3]
    refine awp_loop2 caM (fun n s h'' => ∃ (i : Nat) (w : AV), n = f.length - i ∧ i ≤ f.length ∧ (s 5 = .int .i64 i ∧ s 100001 = .agg [.fs none (a.map (encI .i64)), .fs none (b.map Bind.enc), .fs none (c.map (encI .i64)), .fs none (d.map (encI .i64)), .fs none (e.map Glue.enc), .fs none (f.map (encS Token.enc))] ∧ s 100002 = .agg [.nils, .nils, .nils, .nils, .nils, .nils] ∧ s 100003 = .agg [.fs none (a.map (encI .i64)), v, .fs none (c.map (encI .i64)), .fs none (d.map (encI .i64)), .fs none (e.map Glue.enc), w]) ∧ Own h' 1 (encS Token.enc) h'' w (f.take i)) ?_ (n := f.length) ⟨0, .nils, by simp, by simp, by simp [s1, s2, s3], Own.nils (encS_ok Token.enc).toEncOk (AH.le_refl h')⟩
    clear hK hE s1 s2 s3 s4
    rintro n s h2 ⟨j, w, rfl, hj, ⟨s5, s1, s2, s3⟩, W⟩ K hK hE hQ'
    have ov : v.one = true := by rcases O.at_ with ⟨_, rfl | rfl⟩ | ⟨_, _, rfl, _⟩ <;> rfl
    simp [s5, s1, s3, (encS_ok Token.enc).toEncOk.len]
    by_cases hlt : j < f.length
    · have a1 := fun c k => (encS_ok Token.enc).toEncOk.iaddr (by omega) c f k (j : Int) h2 (by omega) (by omega)
      have hw : IntKind.wrap .i64 ((j : Int) + 1) = (j : Int) + 1 := wrap_i64 (by omega) (by omega)
      have m1 : (nth f j).length ≤ 1048576 := toks_le hlt w2
      have fx := appendF0 Token.ok.toEncOk 32 (nth f j) m1 (by omega) h2
      obtain ⟨w', h3, e1, W2, _, _⟩ := W.append1 (some 1) (nth f j) [.fs none ((nth f j).map Token.enc)] rfl 24 (by simp; omega) (by simp; omega)
      have hbs := (encS_ok Token.enc).bsliceF1 [.nils] rfl (nth f j) h2
      have hb1 : bsliceFA 1 1 [.nils] [(0, .fs none ((nth f j).map Token.enc))] h2 = some (.fs (some 1) [[.fs none ((nth f j).map Token.enc)]], h2) := bsliceF1 1 _ (.fs none _) h2 rfl rfl rfl rfl
      rw [← take_succ hlt] at W2
      have o2 : w'.one = true := by rcases W2.at_ with ⟨_, rfl | rfl⟩ | ⟨_, _, rfl, _⟩ <;> rfl
      simp [-AV.one, -AV.cells, cells_agg, cells_one, cells_fs, one_fs, one_nils, hlt, s5, s1, s3, a1, fx, hb1, e1, o2, hw]
      exact hK (f.length - (j + 1)) _ _ (by omega) ⟨j + 1, w', rfl, by omega, ⟨by simp, by simp [s1], by simp [s2], by simp⟩, W2⟩
    · obtain rfl : j = f.length := by omega
      rw [List.take_length] at W
      have ow : w.one = true := by rcases W.at_ with ⟨_, rfl | rfl⟩ | ⟨_, _, rfl, _⟩ <;> rfl
      have f1 := (O.grow W.le).frz18 Bind.ok
      have f2 := (W.weaken O.le).frz18 (encS_ok Token.enc)
      have f3 := (O.grow W.le).frz19 Bind.ok
      have f4 := (W.weaken O.le).frz19 (encS_ok Token.enc)
      (iterate 4 ((try simp [-AV.one, -AV.cells, cells_agg, cells_one, cells_fs, one_fs, one_nils, hE, hQ, s1, s2, s3, ov, ow, f1, f2, f3, f4]); (try simp (disch := omega) [-AV.one, -AV.cells, cells_agg, cells_one, cells_fs, one_fs, one_nils, hE, hQ, s1, s2, s3, ov, ow, f1, f2, f3, f4])))
      exact (O.grow W.le).le
theorem l3Copy_iff (ls : List Level) (hl : ls.length ≤ 1048576) (hW : ∀ i, i < ls.length → Level.W (nth ls i) ≤ 1048576) (h : AH) (R : AV → AH → Prop) : acallM CA .frz 56 [.agg [.fs none (ls.map Level.enc)]] h R ↔ R (.agg [.fs none (ls.map Level.enc)]) h := by
  refine ca_frz (af := ac56) rfl ?_
  simp [ac56]
  refine awp_loop2 caM (fun n s h' => ∃ (i : Nat) (v : AV), n = ls.length - i ∧ i ≤ ls.length ∧ (s 4 = .int .i64 i ∧ s 100001 = .agg [.fs none (ls.map Level.enc)] ∧ s 100002 = .agg [.nils] ∧ s 100003 = .agg [v]) ∧ Own h 6 Level.enc h' v (ls.take i)) ?_ (n := ls.length) ⟨0, .nils, by simp, by simp, by simp, Own.nils Level.ok.toEncOk (AH.le_refl h)⟩
  rintro n s h' ⟨i, v, rfl, hi, ⟨s4, s1, s2, s3⟩, O⟩ K hK hE hQ
  simp [s4, s1, s3, Level.ok.toEncOk.len]
  by_cases hlt : i < ls.length
  · have a1 := fun c k => Level.ok.toEncOk.iaddr (by omega) c ls k (i : Int) h' (by omega) (by omega)
    have hw : IntKind.wrap .i64 ((i : Int) + 1) = (i : Int) + 1 := wrap_i64 (by omega) (by omega)
    have m1 : Level.W (nth ls i) ≤ 1048576 := hW i hlt
    have lc := l3CopyLevel_iff (nth ls i).cats (nth ls i).binds (nth ls i).counts (nth ls i).lens (nth ls i).glues (nth ls i).toks m1
    obtain ⟨v', h2, e1, O2, _, _⟩ := O.append1 (some 1) (nth ls i) (Level.enc (nth ls i)) rfl 144 (by simp; omega) (by simp; omega)
    have hbs := Level.ok.bsliceF1 [.nils, .nils, .nils, .nils, .nils, .nils] rfl (nth ls i) h'
    rw [← take_succ hlt] at O2
    have o2 : v'.one = true := by rcases O2.at_ with ⟨_, rfl | rfl⟩ | ⟨_, _, rfl, _⟩ <;> rfl
    simp only [Level.enc] at hbs e1
    simp [-AV.one, -AV.cells, cells_agg, cells_one, cells_fs, one_fs, one_nils, hlt, s4, s1, s3, a1, lc, hbs, e1, o2, hw]
    exact hK (ls.length - (i + 1)) _ _ (by omega) ⟨i + 1, v', rfl, by omega, ⟨by simp, by simp [s1], by simp [s2], by simp⟩, O2⟩
  · obtain rfl : i = ls.length := by omega
    rw [List.take_length] at O
    have ov : v.one = true := by rcases O.at_ with ⟨_, rfl | rfl⟩ | ⟨_, _, rfl, _⟩ <;> rfl
    have f1 := O.frz19 Level.ok
    (iterate 4 ((try simp [-AV.one, -AV.cells, cells_agg, cells_one, cells_fs, one_fs, one_nils, hE, s1, s2, s3, ov, f1]); (try simp (disch := omega) [-AV.one, -AV.cells, cells_agg, cells_one, cells_fs, one_fs, one_nils, hE, s1, s2, s3, ov, f1])))
    exact O.le
end Go.Proofs.Ytojmemlbajnhhaa
