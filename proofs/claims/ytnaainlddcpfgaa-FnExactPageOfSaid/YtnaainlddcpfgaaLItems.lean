/- The law FnExactItems, over the abstract machine: it answers true. -/
import Derived.Test.YtnaainlddcpfgaaLInside
import Derived.Test.YtnaainlddcpfgaaC7
namespace Go.Proofs.Ytnaainlddcpfgaa
open Go Go.Am Go.Proofs
set_option linter.all false

theorem tot_items {xs : List Nd} {i : Nat} (h : OkF xs i) : tot ((starts xs i).map (itemL xs)) = xs.length - i := by
  induction h with
  | fin => rw [starts_end]; simp [tot]
  | item i hi hk hn _ ih =>
    rw [starts_lt hi]
    have := itemL_len xs hn
    simp only [tot, List.map_cons, List.sum_cons] at ih ⊢
    omega
theorem itemsL_tot (xs : List Nd) : tot (itemsL xs) ≤ xs.length := by
  unfold itemsL
  split
  · rename_i h
    rw [tot_items (listB_ok h).2]; omega
  · simp [tot]
theorem itemsL_len (xs : List Nd) : (itemsL xs).length ≤ xs.length := by
  unfold itemsL
  split
  · rename_i h
    have := starts_len (listB_ok h).2
    simp; omega
  · simp
theorem tot_nth (xss : List (List Nd)) {i : Nat} (hi : i < xss.length) : (nth xss i).length ≤ tot xss := by
  have a := tot_succ xss hi
  have b := tot_le xss (i + 1)
  omega

set_option maxHeartbeats 1000000 in
theorem lawItems_ok {h : AH} {v : AV} {xs : List Nd} (H : Ra 15 Nd.enc h v xs) (hx : ∀ x ∈ xs, x.text.size ≤ 9223372036854775807) (hl : xs.length ≤ 9223372036854775807) {R : AV → AH → Prop}
    (hR : ∀ h', R (.bool true) h') : CA 4 [v] h R := by
  rw [ca_iff (af := ac4) rfl]
  simp [ac4]
  refine szNodeS_ok H hx hl 1048576 (by omega) (by omega) fun r hr => ?_
  simp
  refine condR_splitD ?_ ?_ <;> intro hr0
  · simp; exact hR _
  have hb : xs.length ≤ 1048576 := by have := sizes_nonneg xs; omega
  have hil := itemsL_len xs
  have hit := itemsL_tot xs
  have hin : ∀ i, i < (itemsL xs).length → (nth (itemsL xs) i).length ≤ 1099511627776 := fun i hi => by have := tot_nth (itemsL xs) hi; omega
  simp
  refine toNodeS_ok H (by omega) fun v1 h1 l1 N1 => ?_
  simp
  refine l8Items_ok N1.rows hb fun vw h2 ws l2 W _ => ?_
  simp
  refine toNodeS_ok (H.le (AH.le_trans l1 l2)) (by omega) fun vx h3 l3 Nx => ?_
  simp
  refine implItems_ok Nx.rows hb fun vg h4 gs l4 G => ?_
  have W4 := W.le (AH.le_trans l3 l4)
  have Nx4 := Nx.le l4
  simp [eqNodeSS_iff G.ss W4 (by omega) hin]
  have l04 : h.le h4 := AH.le_trans l1 (AH.le_trans l2 (AH.le_trans l3 l4))
  refine toNodeS_ok (H.le l04) (by omega) fun vy h5 l5 Ny => ?_
  have Nx5 := Nx4.le l5
  have G5 := G.le l5
  simp [eqNodeS_iff Nx5.rows Ny.rows (by omega)]
  refine mark1_ok Nx5.own (by omega) fun h6 Mx n6 f6 => ?_
  have l26 : h2.le h6 := mark_le Nx.new (AH.le_trans l3 (AH.le_trans l4 l5)) n6 f6
  have G6 : Oss h3 h6 vg gs (itemsL xs) := G5.frame fun b hb1 => by
    have hge : h3.next ≤ b := by
      rcases hb1 with hb1 | hb1
      · exact G.out.new b hb1
      · exact G.new hb1
    have hlt : b < h5.next := by
      rcases hb1 with hb1 | ⟨i, hi, hb1⟩
      · exact G5.out.own.lt hb1
      · exact (G5.inn i hi).own.lt hb1
    exact f6 b hlt fun e => by have := Nx.own.lt e; omega
  have W6 := W.le l26
  have hk1 : ¬ ((1 : Int) + 15 * xs.length < 0) := by omega
  simp [hk1, eqNodeSS_iff G6.ss W6 (by omega) hin]
  refine markNodeSS_ok G6 (by omega) (by omega) fun h7 M7 n7 f7 => ?_
  have l27 : h2.le h7 := ⟨Nat.le_trans l26.1 n7, fun c hc => (f7 c (Nat.lt_of_lt_of_le hc l26.1) fun e => by have := G6.new e; have := l3.1; omega).trans (l26.2 c hc)⟩
  have l07 : h.le h7 := AH.le_trans (AH.le_trans l1 l2) l27
  simp
  refine heldNodeSS_ok M7.ss (by omega) (by omega) fun h8 l8 => ?_
  have hk2 : ¬ ((1 : Int) + 15 * (tot (itemsL xs) : Nat) < 0) := by omega
  simp [hk2]
  have l08 := AH.le_trans l07 l8
  refine toNodeS_ok (H.le l08) (by omega) fun vz h9 l9 Nz => ?_
  simp
  refine implItems_ok Nz.rows hb fun vs ha ss la S => ?_
  have Wa := W.le (AH.le_trans l27 (AH.le_trans l8 (AH.le_trans l9 la)))
  have Ma := M7.ss.le (AH.le_trans l8 (AH.le_trans l9 la))
  simp [eqNodeSS_iff S.ss Wa (by omega) hin]
  refine heldNodeSS_ok Ma (by omega) (by omega) fun hb' lb => ?_
  simp [hk2]
  exact hR _
end Go.Proofs.Ytnaainlddcpfgaa
