/- Contracts: the program's copies of a level and of an environment. -/
import Derived.Test.YtojmemlbajnhhaaA8
import Derived.Test.YtojmemlbajnhhaaBmR
namespace Go.Proofs.Ytojmemlbajnhhaa
open Go Go.Bm Go.Proofs
set_option linter.all false

set_option maxRecDepth 100000 in
theorem ownLevel_ok (d : Nat) (a : List Int) (b : List Bind) (c e : List Int) (f : List Glue) (g : List (List Token)) (hW : Level.W ⟨a, b, c, e, f, g⟩ ≤ 1048576) (h : AH) (R : AV → AH → Prop)
    (hR : ∀ h' ys F, NewL h h' (d + 3) [.fs none (a.map (encI .i64)), .fs none (b.map Bind.enc), .fs none (c.map (encI .i64)), .fs none (e.map (encI .i64)), .fs none (f.map Glue.enc), .fs none (g.map (encS Token.enc))] ys F → R (.agg ys) h') :
    CA 60 [.agg [.fs none (a.map (encI .i64)), .fs none (b.map Bind.enc), .fs none (c.map (encI .i64)), .fs none (e.map (encI .i64)), .fs none (f.map Glue.enc), .fs none (g.map (encS Token.enc))]] h R := by
  refine (ca_iff (af := ac60) rfl).2 ?_
  have w1 : WS Bind.W b ≤ 1048576 := by simp only [Level.W] at hW; omega
  have w2 : WS (WS Token.W) g ≤ 1048576 := by simp only [Level.W] at hW; omega
  have l1 := WS_len Bind.W b
  have l2 := WS_len (WS Token.W) g
  have la : a.length ≤ 1048576 := by simp only [Level.W] at hW; omega
  have lc : c.length ≤ 1048576 := by simp only [Level.W] at hW; omega
  have le : e.length ≤ 1048576 := by simp only [Level.W] at hW; omega
  have lf : f.length ≤ 1048576 := by simp only [Level.W] at hW; omega
  simp [ac60]
  refine cloneInt64S_ok a la _ _ _ fun h1 ya Oa => ?_
  simp
  refine cloneInt64S_ok c lc _ _ _ fun h2 yc Oc => ?_
  simp
  refine cloneInt64S_ok e le _ _ _ fun h3 ye Oe => ?_
  simp
  refine cloneGlueS_ok f lf _ _ _ fun h4 yf Of => ?_
  obtain ⟨Fa, Na⟩ := Oa.new_ (encI_flat .i64) (d + 1)
  obtain ⟨Fc, Nc⟩ := Oc.new_ (encI_flat .i64) (d + 1)
  obtain ⟨Fe, Ne⟩ := Oe.new_ (encI_flat .i64) (d + 1)
  obtain ⟨Ff, Nf⟩ := Of.new_ Glue.flat (d + 1)
  have oa := Na.one1
  have oc := Nc.one1
  have oe := Ne.one1
  have of_ := Nf.one1
  (iterate 4 ((try simp [-AV.one, -AV.cells, cells_agg, cells_one, cells_fs, one_fs, oa, oc, oe, of_]); (try simp (disch := omega) [-AV.one, -AV.cells, cells_agg, cells_one, cells_fs, one_fs, oa, oc, oe, of_])))
  refine cloneBindS_ok b (by omega) _ _ _ fun h5 yb Ob => ?_
  simp
  refine cloneTokenSS_ok g (by omega) _ _ _ fun h6 yg Og => ?_
  have ob : yb.one = true := by rcases Ob.at_ with ⟨_, rfl | rfl⟩ | ⟨_, _, rfl, _⟩ <;> rfl
  have og : yg.one = true := by rcases Og.at_ with ⟨_, rfl | rfl⟩ | ⟨_, _, rfl, _⟩ <;> rfl
  (iterate 4 ((try simp [-AV.one, -AV.cells, cells_agg, cells_one, cells_fs, one_fs, oa, oc, oe, of_, ob, og, Ob.len]); (try simp (disch := omega) [-AV.one, -AV.cells, cells_agg, cells_one, cells_fs, one_fs, oa, oc, oe, of_, ob, og, Ob.len])))
  obtain ⟨F0, P0⟩ := Par.of Ob (d + 2)
  have hF0 := P0.lt
  have hle6 := Og.le
  have P6 := P0.grow hle6
  have dj : ∀ k, blk yg = some k → h5.next ≤ k ∧ k < h6.next := fun k hk => ⟨Og.new hk, Og.lt hk⟩
  refine awp_loop2 caM (fun n s h' => ∃ (i : Nat) (F : List Nat), n = b.length - i ∧ i ≤ b.length ∧ (s 31 = .int .i64 b.length ∧ s 32 = .int .i64 i ∧ s 100001 = .agg [ya, yb, yc, ye, yf, yg] ∧ s 100002 = .agg [.nils, .nils, .nils, .nils, .nils, .nils]) ∧ Par h4 h' (d + 2) 9 Bind.enc yb b i ((b.drop i).flatMap Bind.enc) F ∧ (∀ k ∈ F, k < h5.next ∨ h6.next ≤ k) ∧ h6.next ≤ h'.next ∧ (∀ k, h5.next ≤ k → k < h6.next → h'.get k = h6.get k)) ?_ (n := b.length) ⟨0, F0, by simp, by simp, by simp, P6, fun k hk => .inl (hF0 k hk), Nat.le_refl _, fun _ _ _ => rfl⟩
  · rintro n s h' ⟨i, F, rfl, hi, ⟨s31, s32, s1, s2⟩, P, pf, hn6, hk6⟩ K hK hE hQ
    simp [s31, s32]
    by_cases hlt : i < b.length
    · have a1 := P.iaddr h' .i64 (i : Int) (by omega) (by omega)
      simp only [Int.toNat_natCast] at a1
      have hw : IntKind.wrap .i64 ((i : Int) + 1) = (i : Int) + 1 := wrap_i64 (by omega) (by omega)
      have hlp := P.loadp hlt 1 8 (by omega)
      obtain ⟨m1, m2⟩ := bind_le hlt w1
      have ed : (b.drop i).flatMap Bind.enc = Bind.enc (nth b i) ++ (b.drop (i + 1)).flatMap Bind.enc := by rw [drop_eq hlt, List.flatMap_cons, nth_eq hlt]
      have hrow : (((b.drop i).flatMap Bind.enc).drop 1).take 8 = Mean.enc (nth b i).mean := by rw [ed]; rfl
      rw [hrow] at hlp
      simp only [Mean.enc] at hlp
      have ia : ∀ h2, iaddrA 9 yb (.int .i64 (i : Int)) h2 = some (elt 9 yb i 0, h2) := fun h2 => by have := P.iaddr h2 .i64 (i : Int) (by omega) (by omega); simpa using this
      simp [-faddrA, hlt, s31, s32, s1, ia, faddrA_elt, hlp]
      refine ownMean_ok d _ _ _ _ _ _ _ _ m1 m2 _ _ fun h2 y z G N => ?_
      obtain ⟨h3, e3, P3, n3, k3⟩ := P.step (row := [.str (nth b i).name, .int .i64 (nth b i).mean.kind, .int .i64 (nth b i).mean.num, .int .i64 (nth b i).mean.token.cat, .int .i64 (nth b i).mean.token.char, .str (nth b i).mean.token.name, y, .int .i64 (nth b i).mean.macro_.slots, z]) hlt N.le 1 8 (x := .agg [.int .i64 (nth b i).mean.kind, .int .i64 (nth b i).mean.num, .int .i64 (nth b i).mean.token.cat, .int .i64 (nth b i).mean.token.char, .str (nth b i).mean.token.name, y, .int .i64 (nth b i).mean.macro_.slots, z]) rfl (by omega) (N.ones rfl) (by rw [ed]; rfl) (by have := N.ones rfl; simpa using this) ⟨_, _, [], G, rfl, rfl, ⟨rfl, rfl⟩, N.tw⟩ N.nd N.new
      have e9 : ((b.drop i).flatMap Bind.enc).drop 9 = (b.drop (i + 1)).flatMap Bind.enc := by rw [ed]; rfl
      rw [e9] at P3
      simp [-faddrA, s31, s32, s1, s2, ia, faddrA_elt, e3, hw]
      have hn2 := N.le.1
      refine hK (b.length - (i + 1)) _ _ (by omega) ⟨i + 1, F ++ G, rfl, by omega, ⟨by simp [s31], by simp, by simp [s1], by simp [s2]⟩, P3, fun k hk => ?_, by omega, fun k k1 k2 => ?_⟩
      · rcases List.mem_append.1 hk with hk | hk
        · exact pf k hk
        · have := N.new k hk; omega
      · rw [k3 k (fun hk => by have := pf k hk; omega), N.le.2 k (by omega)]
        exact hk6 k k1 k2
    · obtain rfl : i = b.length := by omega
      have Pb := P.done
      have Og2 := (Og.weaken Ob.le).frame P.le fun k hk => hk6 k (dj k hk).1 (dj k hk).2
      obtain ⟨G0, Q0, hq0⟩ := Par.of2 Og2 (d + 2)
      have hb0 : ∀ k ∈ G0, k ∉ F := fun k hk hkF => by have h1 := dj k (hq0 k hk); have h2 := pf k hkF; omega
      simp [hE, s1, s2, Og.len]
      refine awp_loop2 caM (fun n s h'' => ∃ (j : Nat) (G : List Nat), n = g.length - j ∧ j ≤ g.length ∧ (s 50 = .int .i64 g.length ∧ s 51 = .int .i64 j ∧ s 100001 = .agg [ya, yb, yc, ye, yf, yg] ∧ s 100002 = .agg [.nils, .nils, .nils, .nils, .nils, .nils]) ∧ Par h4 h'' (d + 2) 1 (encS Token.enc) yg g j ((g.drop j).flatMap (encS Token.enc)) G ∧ (∀ k ∈ G, k ∉ F) ∧ h'.next ≤ h''.next ∧ (∀ k, k ∈ F → h''.get k = h'.get k)) ?_ (n := g.length) ⟨0, G0, by simp, by simp, by simp [s1, s2], Q0, hb0, Nat.le_refl _, fun _ _ => rfl⟩
      clear hK hE s31 s32 s1 s2
      rintro n s h2 ⟨j, G, rfl, hj, ⟨s50, s51, s1, s2⟩, Q, qf, hn7, hk7⟩ K2 hK hE hQ2
      simp [s50, s51]
      by_cases hlt : j < g.length
      · have ia : ∀ h2, iaddrA 1 yg (.int .i64 (j : Int)) h2 = some (elt 1 yg j 0, h2) := fun h3 => by have := Q.iaddr h3 .i64 (j : Int) (by omega) (by omega); simpa using this
        have hw : IntKind.wrap .i64 ((j : Int) + 1) = (j : Int) + 1 := wrap_i64 (by omega) (by omega)
        have ed : (g.drop j).flatMap (encS Token.enc) = encS Token.enc (nth g j) ++ (g.drop (j + 1)).flatMap (encS Token.enc) := by rw [drop_eq hlt, List.flatMap_cons]
        have hlp := Q.load1 hlt 0 (by omega)
        have hrow : ((g.drop j).flatMap (encS Token.enc)).getD 0 .any = .fs none ((nth g j).map Token.enc) := by rw [ed]; rfl
        rw [hrow] at hlp
        have m1 : (nth g j).length ≤ 1048576 := toks_le hlt w2
        simp [-faddrA, hlt, s50, s51, s1, ia, faddrA_elt, hlp]
        refine cloneTokenS_ok (nth g j) m1 _ _ _ fun h3 z O => ?_
        obtain ⟨F2, N⟩ := O.new_ Token.flat d
        have oz := N.one1
        have cz := cells_one oz
        obtain ⟨h4, e3, Q3, n3, k3⟩ := Q.step (row := [z]) hlt N.le 0 1 (x := z) (by rw [cz]; rfl) (by omega) (by rw [cz]; simp [-AV.one, oz]) (by rw [cz, ed]; rfl) (by simp [-AV.one, oz]) N.one.tw N.nd N.new
        have e9 : ((g.drop j).flatMap (encS Token.enc)).drop 1 = (g.drop (j + 1)).flatMap (encS Token.enc) := by rw [ed]; rfl
        rw [e9] at Q3
        simp [-faddrA, s50, s51, s1, s2, ia, faddrA_elt, e3, hw]
        have hn2 := N.le.1
        refine hK (g.length - (j + 1)) _ _ (by omega) ⟨j + 1, G ++ F2, rfl, by omega, ⟨by simp [s50], by simp, by simp [s1], by simp [s2]⟩, Q3, fun k hk hkF => ?_, by omega, fun k hk => ?_⟩
        · rcases List.mem_append.1 hk with hk | hk
          · exact qf k hk hkF
          · have h1 := N.new k hk
            have h2 := Pb.lt k hkF
            omega
        · have h2 := Pb.lt k hk
          rw [k3 k (fun hkG => qf k hkG hk), N.le.2 k (by omega)]
          exact hk7 k hk
      · obtain rfl : j = g.length := by omega
        have Qb := Q.done
        have q4 := Q.le
        have q3 := AH.le_trans Of.le q4
        have q2 := AH.le_trans Oe.le q3
        have q1 := AH.le_trans Oc.le q2
        have La := Na.lt
        have Lc := Nc.lt
        have Le := Ne.lt
        have Lf := Nf.lt
        have Mc := Nc.new
        have Me := Ne.new
        have Mf := Nf.new
        have Mb := Pb.new
        have Mg := Qb.new
        have z1 := Na.le.1
        have z2 := Nc.le.1
        have z3 := Ne.le.1
        have z4 := Nf.le.1
        simp [hE, s1, s2, -AV.one, -AV.cells, cells_agg, cells_one, cells_fs, one_fs, oa, oc, oe, of_, ob, og]
        refine hR h2 _ (Fa ++ (F ++ (Fc ++ (Fe ++ (Ff ++ (G ++ [])))))) ⟨AH.le_trans Na.le q1, ⟨ya, _, Fa, _, rfl, rfl, (Na.grow q1).tw, yb, _, F, _, rfl, rfl, Pb.tw.frame _ fun k hk => hk7 k hk, yc, _, Fc, _, rfl, rfl, (Nc.grow q2).tw, ye, _, Fe, _, rfl, rfl, (Ne.grow q3).tw, yf, _, Ff, _, rfl, rfl, (Nf.grow q4).tw, yg, _, G, _, rfl, rfl, Qb.tw, rfl, rfl⟩, ?_, fun k hk => ?_⟩
        · rw [List.append_nil]
          refine nodup2 Na.nd (nodup2 Pb.nd (nodup2 Nc.nd (nodup2 Ne.nd (nodup2 Nf.nd Qb.nd ?_) ?_) ?_) ?_) ?_
          · intro k h1 h2; have := Lf k h1; have := Mg k h2; omega
          · intro k h1 h2; simp only [List.mem_append] at h2
            have := Le k h1
            rcases h2 with h2 | h2
            · have := Mf k h2; omega
            · have := Mg k h2; omega
          · intro k h1 h2; simp only [List.mem_append] at h2
            have := Lc k h1
            rcases h2 with h2 | h2 | h2
            · have := Me k h2; omega
            · have := Mf k h2; omega
            · have := Mg k h2; omega
          · intro k h1 h2; simp only [List.mem_append] at h2
            have := Mb k h1
            rcases h2 with h2 | h2 | h2 | h2
            · have := Lc k h2; omega
            · have := Le k h2; omega
            · have := Lf k h2; omega
            · exact qf k h2 h1
          · intro k h1 h2; simp only [List.mem_append] at h2
            have := La k h1
            rcases h2 with h2 | h2 | h2 | h2 | h2
            · have := Mb k h2; omega
            · have := Mc k h2; omega
            · have := Me k h2; omega
            · have := Mf k h2; omega
            · have := Mg k h2; omega
        · simp only [List.mem_append, List.not_mem_nil, or_false] at hk
          rcases hk with h2 | h2 | h2 | h2 | h2 | h2
          · exact Na.new k h2
          · have := Mb k h2; omega
          · have := Mc k h2; omega
          · have := Me k h2; omega
          · have := Mf k h2; omega
          · have := Mg k h2; omega
end Go.Proofs.Ytojmemlbajnhhaa
