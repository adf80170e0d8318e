/- Contracts: the program's copies of an environment; CloseGroup and OpenGroup. -/
import Derived.Test.YtojmemlbajnhhaaA9
namespace Go.Proofs.Ytojmemlbajnhhaa
open Go Go.Bm Go.Proofs
set_option linter.all false

/-- A whole row grows by a level of one's own. -/
theorem parLevel {d : Nat} {h0 h h1 : AH} {y : AV} {ls : List Level} {F : List Nat} (P : Par h0 h (d + 3) 6 Level.enc y ls ls.length [] F) {l : Level} {ys : List AV} {F2 : List Nat} (N : NewL h h1 (d + 3) (Level.enc l) ys F2) (hb : ls.length ≤ 1048576) :
    ∃ v h2 v' h3 F', bsliceA 1 6 [.nils, .nils, .nils, .nils, .nils, .nils] [(0, .agg ys)] h1 = some (v, h2) ∧ appendA 6 144 y v h2 = some (v', h3) ∧ v'.one = true ∧ Par h0 h3 (d + 3) 6 Level.enc v' (ls ++ [l]) (ls ++ [l]).length [] F' := by
  have hl : ys.length = 6 := N.tw.length
  have ho : ys.all AV.one = true := N.ones rfl
  have e1 := bslice1 6 [.nils, .nils, .nils, .nils, .nils, .nils] (.agg ys) h1 rfl hl ho
  have hle : h1.le (h1.new (.cells true (AV.agg ys).cells)) := AH.le_new_of (AH.le_refl h1) _
  obtain ⟨v', h3, F', e2, P2, _, _⟩ := P.grow1 (AH.le_trans N.le hle) hl ho (N.tw.frame fun b hb => hle.2 b (N.lt b hb)) N.nd N.new (z := .sl h1.next 0 6 1 (some 1)) (bytes := 144) (src1 6 ys h1 hl) (by omega) (by omega)
  refine ⟨_, _, v', h3, F', e1, e2, ?_, P2⟩
  exact P2.one1
set_option maxRecDepth 100000 in
theorem ownEnv_ok (d : Nat) (ls : List Level) (hW : WS Level.W ls ≤ 1048576) (h : AH) (R : AV → AH → Prop)
    (hR : ∀ h' y F, Par h h' (d + 3) 6 Level.enc y ls ls.length [] F → R (.agg [y]) h') : CA 57 [.agg [.fs none (ls.map Level.enc)]] h R := by
  refine (ca_iff (af := ac57) rfl).2 ?_
  have l1 := WS_len Level.W ls
  simp [ac57, Level.ok.toEncOk.len]
  refine awp_loop2 caM (fun n s h' => ∃ (i : Nat) (y : AV) (F : List Nat), n = ls.length - i ∧ i ≤ ls.length ∧ (s 7 = .fs none (ls.map Level.enc) ∧ s 8 = .int .i64 ls.length ∧ s 9 = .int .i64 i ∧ s 100002 = .agg [.nils] ∧ s 100003 = .agg [y]) ∧ Par h h' (d + 3) 6 Level.enc y (ls.take i) (ls.take i).length [] F) ?_ (n := ls.length) ⟨0, .nils, [], by simp, by simp, by simp, Par.nils Level.ok.toEncOk (AH.le_refl h) (d + 3)⟩
  rintro n s h' ⟨i, y, F, rfl, hi, ⟨s7, s8, s9, s2, s3⟩, P⟩ K hK hE hQ
  simp [s7, s8, s9]
  by_cases hlt : i < ls.length
  · have a1 := fun c k => Level.ok.toEncOk.iaddr (by omega) c ls k (i : Int) h' (by omega) (by omega)
    have hw : IntKind.wrap .i64 ((i : Int) + 1) = (i : Int) + 1 := wrap_i64 (by omega) (by omega)
    have m1 : Level.W (nth ls i) ≤ 1048576 := Nat.le_trans (WS_nth Level.W hlt) hW
    simp [hlt, s7, s8, s9, s3, a1]
    refine ownLevel_ok d (nth ls i).cats (nth ls i).binds (nth ls i).counts (nth ls i).lens (nth ls i).glues (nth ls i).toks m1 _ _ fun h1 ys F2 N => ?_
    obtain ⟨v, h2, v', h3, F', e1, e2, o, P2⟩ := parLevel P (l := nth ls i) N (by rw [List.length_take]; omega)
    rw [← take_succ hlt] at P2
    simp [-AV.one, -AV.cells, cells_agg, cells_one, one_nils, s7, s8, s9, s2, s3, e1, e2, o, hw]
    exact hK (ls.length - (i + 1)) _ _ (by omega) ⟨i + 1, v', F', rfl, by omega, ⟨by simp [s7], by simp [s8], by simp, by simp [s2], by simp⟩, P2⟩
  · obtain rfl : i = ls.length := by omega
    rw [List.take_length] at P
    have o : y.one = true := by rcases P.at_ with ⟨_, _, rfl | rfl⟩ | ⟨_, _, _, _, rfl, _⟩ <;> rfl
    simp [-AV.one, -AV.cells, cells_agg, cells_one, one_nils, hE, s2, s3, o]
    exact hR _ _ _ P
theorem envT {d : Nat} {h h' : AH} {rows : List (List AV)} {y : AV} {F : List Nat} (N : New h h' (d + 4) (.fs none rows) y F) (b : Bool) : NewL h h' (d + 5) [.agg [.fs none rows], .bool b] [.agg [y], .bool b] (F ++ []) :=
  N.one.agg.one.append (flatNewL h' _ (TwL.flat [.bool b] rfl))
theorem nilS {d : Nat} (h : AH) : New h h (d + 1) (.fs none []) .nils [] := ⟨AH.le_refl h, ⟨rfl, .inl ⟨.inl rfl, rfl, rfl⟩⟩, List.nodup_nil, fun b hb => by cases hb⟩
set_option maxRecDepth 100000 in
theorem closeGroup_ok (d : Nat) (ls : List Level) (hW : Env.W ⟨ls⟩ ≤ 1048576) (h : AH) (R : AV → AH → Prop)
    (hR : ∀ h' ys F, NewL h h' (d + 5) [.agg [.fs none ((closeL ls).map Level.enc)], .bool (closeB ls)] ys F → R (.tup ys) h') : CA 23 [.agg [.fs none (ls.map Level.enc)]] h R := by
  refine (ca_iff (af := ac23) rfl).2 ?_
  have hw : WS Level.W ls ≤ 1048576 := hW
  have l1 := WS_len Level.W ls
  simp [ac23, EnvOk_iff _ hW]
  unfold closeL closeB at hR
  cases he : envB ⟨ls⟩ with
  | false =>
    simp [he] at hR ⊢
    exact hR h _ _ (envT (d := d) (nilS h) false)
  | true =>
    have hl : 1 ≤ ls.length := by simp [envB] at he; omega
    simp [he, Level.ok.toEncOk.len] at hR ⊢
    by_cases e : ls.length = 1
    · simp [e] at hR ⊢
      refine ownEnv_ok d ls hw _ _ fun h' y F P => ?_
      simp [-AV.one, -AV.cells, cells_agg, cells_one, P.one1]
      exact hR h' _ _ (envT P.done false)
    · have e' : ¬ (ls.length : Int) = 1 := by omega
      have hwr : IntKind.wrap .i64 ((ls.length : Int) - 1) = ((ls.length - 1 : Nat) : Int) := by rw [wrap_i64 (by omega) (by omega)]; omega
      have hs := Level.ok.toEncOk.sliceHi ls h .i64 ((ls.length - 1 : Nat) : Int) (by omega) (by omega)
      rw [Int.toNat_natCast] at hs
      have hw2 : WS Level.W (ls.take (ls.length - 1)) ≤ 1048576 := by
        have := WS_append Level.W (ls.take (ls.length - 1)) (ls.drop (ls.length - 1))
        rw [List.take_append_drop] at this
        omega
      simp [-List.map_take, e, e', hwr, hs] at hR ⊢
      refine ownEnv_ok d (ls.take (ls.length - 1)) hw2 _ _ fun h' y F P => ?_
      simp [-AV.one, -AV.cells, cells_agg, cells_one, P.one1]
      exact hR h' _ _ (envT P.done true)
set_option maxRecDepth 100000 in
theorem openGroup_ok (d : Nat) (ls : List Level) (hW : Env.W ⟨ls⟩ ≤ 1048576) (h : AH) (R : AV → AH → Prop)
    (hR : ∀ h' ys F, NewL h h' (d + 5) [.agg [.fs none ((openL ls).map Level.enc)], .bool (openB ls)] ys F → R (.tup ys) h') : CA 26 [.agg [.fs none (ls.map Level.enc)]] h R := by
  refine (ca_iff (af := ac26) rfl).2 ?_
  have hw : WS Level.W ls ≤ 1048576 := hW
  have l1 := WS_len Level.W ls
  simp [ac26, EnvOk_iff _ hW]
  unfold openL openB at hR
  cases he : envB ⟨ls⟩ with
  | false =>
    simp [he] at hR ⊢
    exact hR h _ _ (envT (d := d) (nilS h) false)
  | true =>
    have hl : 1 ≤ ls.length := by simp [envB] at he; omega
    simp [he] at hR ⊢
    refine ownEnv_ok d ls hw _ _ fun h1 y F P => ?_
    have o1 := P.one1
    simp [-AV.one, -AV.cells, cells_agg, cells_one, one_nils, o1, Level.ok.toEncOk.len]
    by_cases e : ls.length = 20
    · simp [-AV.one, -AV.cells, cells_agg, cells_one, one_nils, o1, e] at hR ⊢
      exact hR h1 _ _ (envT P.done false)
    · have e' : ¬ (ls.length : Int) = 20 := by omega
      have hwr : IntKind.wrap .i64 ((ls.length : Int) - 1) = ((ls.length - 1 : Nat) : Int) := by rw [wrap_i64 (by omega) (by omega)]; omega
      have ia := Level.ok.toEncOk.iaddr (by omega) none ls .i64 ((ls.length - 1 : Nat) : Int)
      simp only [Int.toNat_natCast] at ia
      have ia2 := ia h1 (by omega) (by omega)
      have hll : ls.length - 1 < ls.length := by omega
      have m1 : Level.W (nth ls (ls.length - 1)) ≤ 1048576 := Nat.le_trans (WS_nth Level.W hll) hW
      simp [-AV.one, -AV.cells, cells_agg, cells_one, one_nils, o1, e, e', hwr, ia2] at hR ⊢
      refine ownLevel_ok d (nth ls (ls.length - 1)).cats (nth ls (ls.length - 1)).binds (nth ls (ls.length - 1)).counts (nth ls (ls.length - 1)).lens (nth ls (ls.length - 1)).glues (nth ls (ls.length - 1)).toks m1 _ _ fun h2 ys F2 N => ?_
      obtain ⟨v, h3, v', h4, F', e1, e2, o, P2⟩ := parLevel P (l := nth ls (ls.length - 1)) N (by omega)
      simp [-AV.one, -AV.cells, cells_agg, cells_one, one_nils, o1, o, e1, e2]
      have D := envT (d := d) P2.done true
      simp only [List.map_append, List.map_cons, List.map_nil, Level.enc] at D
      exact hR h4 _ _ D
end Go.Proofs.Ytojmemlbajnhhaa
