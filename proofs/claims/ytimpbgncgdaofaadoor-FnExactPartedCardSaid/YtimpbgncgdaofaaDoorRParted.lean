/-
FnExactParted: whatever is handed in, the law answers true, and what was handed in reads as it did.
No conditions.
-/
import Derived.Test.YtimpbgncgdaofaaDoorRows
import Derived.Test.YtimpbgncgdaofaaDoorCards
import Derived.Test.YtimpbgncgdaofaaDoorTie
import Derived.SevenTiedAt
import Derived.Test.YtimpbgncgdaofaaDoorB16
import Derived.WalkKit
import Derived.ProofKit
import Derived.OpenShut
import Derived.ShutString
import Derived.ChangeOld
import Derived.Below
import Derived.Carry
import Derived.SizedLaws
import Derived.LaidHandle
import Derived.Deep.DeepLaidRun
set_option linter.all false
namespace Go.Proofs.YtimpbgncgdaofaaDoor.FnExactPartedRow
open Go Go.Bm Go.Proofs Go.ChangeShapes Go.WideShapes Go.ChangeAt Go.RowKit
open Go.ChangeMaps (open_string shut_string)

theorem own : ownKnob Tryd.prog.godebug = none := by kernel_rfl
theorem laidOut : laidOutB Tryd.prog = true := by kernel_rfl
theorem shape25 : shapeT Tryd.prog 14 25 = some (Book.ty) := by kernel_rfl
/-- A world in which the listed variables read as the row lists them. -/
noncomputable def laidWorld (os : Os) : World := { World.holding Tryd.prog os ⟨#[], #[], []⟩ with heap := (((World.holding Tryd.prog os ⟨#[], #[], []⟩).heap.modify 1 fun
      | .cells _ t frozen => .cells firstCells t frozen
      | o => o).modify 2 fun
      | .cells _ t frozen => .cells acceptCells t frozen
      | o => o) }
set_option maxRecDepth 100000 in
theorem laidWorld_met (os : Os) (args : Array Value) : laidMetH Tryd.prog Rows.fnExactPartedRow.laid ((laidWorld os).forCall (fun _ _ => 0) ⟨#[], args, []⟩).memory :=
  laidMetH_of_parts (laidMet_of_run3 9 (by kernel_rfl) (by kernel_rfl) (by kernel_rfl)) (by kernel_rfl)
set_option maxRecDepth 100000 in
theorem lifted (os : Os) (started : os.Started) (H : Type) (enc : TypeId × Value → H) :
    ReturnsInHanded {} Tryd.checked os 5 .any (fun w args => (Rows.fnExactPartedSpec.pre enc Tryd.prog Tryd.f5 Rows.fnExactPartedRow.domain false w args ∧ laidMetH Tryd.prog Rows.fnExactPartedRow.laid w) ∧ sizedMet enc Tryd.prog Tryd.f5 (OpenSpec.ofChange Rows.fnExactPartedSpec) false w args) (Rows.fnExactPartedSpec.post enc Tryd.prog Tryd.f5 false true false false) := by
  refine returnsInHanded_of_change_and (C := Tryd.checked) (X := fun w _ => laidMetH Tryd.prog Rows.fnExactPartedRow.laid w) (fun _ _ _ hh h => h.of_heap hh) own started (by kernel_rfl) Tryd.func5
    (ChangeSpec.witness_at (enc := enc) (C := Tryd.checked) (os := os) (X := fun w _ => laidMetH Tryd.prog Rows.fnExactPartedRow.laid w) false (laidWorld os) #[.agg #[.slice none 0 0, .slice none 0 0], .string ⟨#[]⟩, .int .i64 0, .int .i64 0] 9 rfl (by kernel_rfl) (by kernel_rfl) (by kernel_rfl) (by kernel_rfl) (by kernel_rfl) (laidWorld_met os _)) ?_
  intro W base args ds gs before hval0 hW _ _ hL _
  have hval : ∀ (j : Nat) t v, Tryd.f5.params[j]? = some t → args[j]? = some v → Value.okWide Tryd.prog W .any base t v := hval0
  have hW' := hW
  obtain ⟨p, q, hA0, hV, rfl, hfz, hnd⟩ := hW
  have hA : DataW.TrodAll enc Tryd.prog W 0 (fun _ => true) true Tryd.f5.params.toList args.toList ds p := hA0
  rw [Tryd.params5] at hA hval
  obtain ⟨v0, vs0, d0, ds0, p0, q0, hargs, rfl, rfl, h0, r0⟩ := trodAll_cons hA
  obtain ⟨v1, vs1, d1, ds1, p1, q1, rfl, rfl, rfl, h1, r1⟩ := trodAll_cons r0
  obtain ⟨v2, vs2, d2, ds2, p2, q2, rfl, rfl, rfl, h2, r2⟩ := trodAll_cons r1
  obtain ⟨v3, vs3, d3, ds3, p3, q3, rfl, rfl, rfl, h3, r3⟩ := trodAll_cons r2
  obtain ⟨rfl, rfl, rfl⟩ := trodAll_nil r3
  obtain rfl : args = #[v0, v1, v2, v3] := by cases args; simp_all
  obtain ⟨rfl, rfl⟩ := trodVars_none hV
  have k0 := h0
  have lt0 : ∀ x ∈ p0, x.block < W.heap.size := by obtain ⟨m, hm⟩ := k0; exact DataW.trod_lt m _ _ _ hm
  obtain ⟨u0, rfl, _⟩ := okWide_struct Tryd.underlying25 (hval 0 25 v0 rfl rfl)
  obtain ⟨f0, hf0⟩ := h0
  obtain ⟨ys0, hVR0, hT0⟩ := open_ty 14 25 _ shape25 f0 _ _ hf0
  obtain ⟨x0, rfl, hx0⟩ := Book.dec ys0 hT0
  obtain ⟨a1, rfl, rfl, rfl, w1⟩ := open_string Tryd.underlying9 (hval 1 9 v1 rfl rfl) h1
  obtain ⟨a2, rfl, rfl, rfl, w2⟩ := open_int Tryd.underlying2 (hval 2 2 v2 rfl rfl) h2
  obtain ⟨a3, rfl, rfl, rfl, w3⟩ := open_int Tryd.underlying2 (hval 3 2 v3 rfl rfl) h3
  have hVR : VRs (V.all W) [.agg x0.enc, .str a1, .int .i64 a2, .int .i64 a3] [.agg u0, .string a1, .int .i64 a2, .int .i64 a3] :=
    ⟨_, _, rfl, agg_of hVR0 (fun l => .inl ⟨_, rfl⟩), _, _, rfl, rfl, _, _, rfl, rfl, _, _, rfl, rfl, rfl⟩
  have hc : ACalls ap noE 5 [.agg x0.enc, .str a1, .int .i64 a2, .int .i64 a3] AH.nil (fun v _ => v = .bool true) := lawParted_ok x0 hx0 a1 w1 a2 (wf_i64 w2) a3 (wf_i64 w3) AH.nil
  obtain ⟨_, hcall⟩ := calls_sound2 (P := Tryd.prog) (base := W.heap.size) (fun _ _ _ _ e => e.elim) (hapL W.heap.size) hc
  refine (hcall (V.all W) W _ (hr0 W) (hz0 W) hVR).mono fun e W' ⟨u, v, h', ν', he, _, _, _, hv, hfr, hr⟩ => ?_
  subst hr
  have hu : u = .bool true := hv
  subst hu
  subst he
  have bel := hfr.below
  exact ⟨_, rfl, _, _, _, [], _, [], hW', trodAll_mk1 (shut_bool Tryd.underlying4 _), (trodAll_cons_mk (Below.trod laidOut (by kernel_rfl) (of_decide_eq_true (by kernel_rfl)) k0 bel lt0) (trodAll_cons_mk (shut_string Tryd.underlying9 w1) (trodAll_cons_mk (shut_int Tryd.underlying2 w2) (trodAll_cons_mk (shut_int Tryd.underlying2 w3) trodAll_mk0)))), rfl, bel.frame _, fun h => by cases h⟩

theorem over : Rows.fnExactPartedRow.holds Tryd.pinned (OpenSpec.ofChange Rows.fnExactPartedSpec) :=
  OpenClaim.holds_of_wide 5 Tryd.f5 rfl rfl rfl rfl rfl rfl rfl ⟨rfl, rfl, rfl, rfl, rfl⟩ rfl rfl rfl rfl rfl (by kernel_rfl) Tryd.func5 (by kernel_rfl)
    (of_decide_eq_true (by kernel_rfl)) (by unfold Func.isWrapper; first | (rw [if_pos (by decide +kernel)]; kernel_rfl) | (rw [if_neg (by decide +kernel)]; exact ⟨rfl, rfl⟩))
    (fun os started H enc _ => lifted os started H enc)
theorem proved : Rows.FnExactPartedSaid := over
end Go.Proofs.YtimpbgncgdaofaaDoor.FnExactPartedRow
namespace Go.Proofs.YtimpbgncgdaofaaDoor
/-- The row, under a short name, for the claim. -/
theorem fnExactParted_holds : Rows.FnExactPartedSaid := FnExactPartedRow.proved
#print axioms fnExactParted_holds
end Go.Proofs.YtimpbgncgdaofaaDoor
namespace Go.Proofs.YtimpbgncgdaofaaDoor
/-- The tied card: the row, and its listed variables tied to the program's text. -/
theorem fnExactPartedCard_holds : Rows.FnExactPartedCardSaid :=
  Claim7.holds_tied_plain_at .later [] [.data, .pinned] true (true, "9b02ef3fae2a33f36360b52d03b5ca6904b08f1fb56fd2cb7d574700a41385a4") false
    fnExactParted_holds (fun _ h => by cases h) (by kernel_rfl) (fun _ h => by cases h) fnExactParted_row_tie rfl ⟨rfl, rfl⟩ (by kernel_rfl) rfl
    (fun f fn hf hfn => by
      obtain rfl : f = 5 := Option.some.inj ((show Tryd.prog.funcNamed "loop.example/g00014/laws.FnExactParted" = some 5 by kernel_rfl).symm.trans hf) |>.symm
      obtain rfl : fn = Tryd.f5 := (Option.some.inj (Tryd.func5.symm.trans hfn)).symm
      refine ⟨by kernel_rfl, fun j t ht => ?_⟩
      rw [Tryd.params5] at ht
      rcases j with _ | j
      · obtain rfl : t = 25 := by simpa using ht.symm
        exact (show Tryd.prog.wantsStandIn 25 = false by kernel_rfl)
      rcases j with _ | j
      · obtain rfl : t = 9 := by simpa using ht.symm
        exact (show Tryd.prog.wantsStandIn 9 = false by kernel_rfl)
      rcases j with _ | j
      · obtain rfl : t = 2 := by simpa using ht.symm
        exact (show Tryd.prog.wantsStandIn 2 = false by kernel_rfl)
      rcases j with _ | j
      · obtain rfl : t = 2 := by simpa using ht.symm
        exact (show Tryd.prog.wantsStandIn 2 = false by kernel_rfl)
      simp at ht)
    (by kernel_rfl)
#print axioms fnExactPartedCard_holds
end Go.Proofs.YtimpbgncgdaofaaDoor
