/- The law FnExactInside, over the abstract machine: it answers true. -/
import Derived.Test.YtnaainlddcpfgaaC5
namespace Go.Proofs.Ytnaainlddcpfgaa
open Go Go.Am Go.Proofs
set_option linter.all false

theorem sizes_nonneg (xs : List Nd) : 0 ≤ sizes xs := by
  unfold sizes
  induction xs with
  | nil => simp
  | cons x l ih => simp only [List.map_cons, List.sum_cons]; omega

theorem insideL_len (xs : List Nd) : (insideL xs).length ≤ xs.length := by
  unfold insideL
  split
  · rename_i h
    rw [fixL_len _ (oneB_ok h).2.2]; simp
  · simp

theorem mark1_ok {h : AH} {v : AV} {xs : List Nd} (H : Ro 15 Nd.enc h v xs) (hk : 15 * xs.length ≤ 4611686018427387000) {R : AV → AH → Prop}
    (hR : ∀ h', Ro 15 Nd.enc h' v (mkNds 1 xs.length) → h.next ≤ h'.next → (∀ c, c < h.next → blk v ≠ some c → h'.get c = h.get c) → R (.int .i64 (1 + 15 * xs.length : Nat)) h') : CA 15 [v, .int .i64 1] h R :=
  markNodeS_ok H 1 (by omega) hR
theorem held1_ok {h : AH} {v : AV} (n0 : Nat) (H : Rs 15 Nd.enc h v (mkNds 1 n0)) (hk : 15 * n0 ≤ 4611686018427387000) {R : AV → AH → Prop}
    (hR : ∀ h', h.le h' → R (.int .i64 (1 + 15 * n0 : Nat)) h') : CA 16 [v, .int .i64 1] h R :=
  heldNodeS_ok 1 n0 H (by omega) hR
/-- What is marked lies in new memory: what was there is left. -/
theorem mark_le {h0 h h' : AH} {v : AV} (hnew : ∀ b, blk v = some b → h0.next ≤ b) (hle : h0.le h) (hn : h.next ≤ h'.next) (f : ∀ c, c < h.next → blk v ≠ some c → h'.get c = h.get c) : h0.le h' :=
  ⟨Nat.le_trans hle.1 hn, fun c hc => (f c (Nat.lt_of_lt_of_le hc hle.1) fun e => absurd (hnew c e) (by omega)).trans (hle.2 c hc)⟩
/-- Two lie in different blocks. -/
theorem blk_ne {α β : Type} {es es' : Nat} {enc : α → List AV} {enc' : β → List AV} {h1 h : AH} {v w : AV} {xs : List α} {ys : List β} (N : Rn h1 es enc h v xs) (M : Ro es' enc' h1 w ys) : ∀ b, blk v = some b → blk w ≠ some b := by
  intro b hb hw
  have a := N.new b hb
  have c := M.lt hw
  omega

set_option maxHeartbeats 1000000 in
theorem lawInside_ok {h : AH} {v : AV} {xs : List Nd} (H : Ra 15 Nd.enc h v xs) (hx : ∀ x ∈ xs, x.text.size ≤ 9223372036854775807) (hl : xs.length ≤ 9223372036854775807) {R : AV → AH → Prop}
    (hR : ∀ h', R (.bool true) h') : CA 3 [v] h R := by
  rw [ca_iff (af := ac3) rfl]
  simp [ac3]
  refine szNodeS_ok H hx hl 1048576 (by omega) (by omega) fun r hr => ?_
  simp
  refine condR_splitD ?_ ?_ <;> intro hr0
  · simp; exact hR _
  have hb : xs.length ≤ 1048576 := by have := sizes_nonneg xs; omega
  have hil := insideL_len xs
  simp
  -- w0
  refine toNodeS_ok H (by omega) fun v1 h1 l1 N1 => ?_
  simp
  refine l8Inside_ok N1.rows hb fun vw h2 l2 Nw => ?_
  simp
  -- x0, g0
  refine toNodeS_ok (H.le (AH.le_trans l1 l2)) (by omega) fun vx h3 l3 Nx => ?_
  simp
  refine inside_ok Nx.rows hb fun vg h4 l4 Ng => ?_
  have Nw4 := Nw.le (AH.le_trans l3 l4)
  have Nx4 := Nx.le l4
  simp
  simp [eqNodeS_iff Ng.rows Nw4.rows (by omega)]
  -- the argument is what it was
  have l04 : h.le h4 := AH.le_trans l1 (AH.le_trans l2 (AH.le_trans l3 l4))
  refine toNodeS_ok (H.le l04) (by omega) fun vy h5 l5 Ny => ?_
  have Nx5 := Nx4.le l5
  have Nw5 := Nw4.le l5
  have Ng5 := Ng.le l5
  simp [eqNodeS_iff Nx5.rows Ny.rows (by omega)]
  -- x0 is marked
  refine mark1_ok Nx5.own (by omega) fun h6 Mx n6 f6 => ?_
  have gx : ∀ b, blk vg = some b → blk vx ≠ some b := blk_ne Ng Nx.own
  have Ng6 : Ro 15 Nd.enc h6 vg (insideL xs) := Ng5.own.frame fun b hb => f6 b (Ng5.own.lt hb) (gx b hb)
  have l26 : h2.le h6 := mark_le Nx.new (AH.le_trans l3 (AH.le_trans l4 l5)) n6 f6
  have l06 : h.le h6 := AH.le_trans (AH.le_trans l1 l2) l26
  have Nw6 := Nw.le l26
  simp
  have hk1 : ¬ ((1 : Int) + 15 * xs.length < 0) := by omega
  simp [hk1, eqNodeS_iff Ng6.rows Nw6.rows (by omega)]
  -- g0 is marked, and held
  refine mark1_ok Ng6 (by omega) fun h7 Mg n7 f7 => ?_
  have l27 : h2.le h7 := mark_le (fun b hb => Nat.le_trans l3.1 (Ng.new b hb)) l26 n7 f7
  have l07 : h.le h7 := AH.le_trans (AH.le_trans l1 l2) l27
  simp
  refine held1_ok _ Mg.rows (by omega) fun h8 l8 => ?_
  have hk2 : ¬ ((1 : Int) + 15 * (insideL xs).length < 0) := by omega
  simp [hk2]
  -- another call
  have l08 := AH.le_trans l07 l8
  refine toNodeS_ok (H.le l08) (by omega) fun vz h9 l9 Nz => ?_
  simp
  refine inside_ok Nz.rows hb fun vs ha la Ns => ?_
  have Nwa := Nw.le (AH.le_trans l27 (AH.le_trans l8 (AH.le_trans l9 la)))
  have Mga := Mg.rows.le (AH.le_trans l8 (AH.le_trans l9 la))
  simp [eqNodeS_iff Ns.rows Nwa.rows (by omega)]
  refine held1_ok _ Mga (by omega) fun hb' lb => ?_
  simp [hk2]
  exact hR _
end Go.Proofs.Ytnaainlddcpfgaa
