/-
FnPatternBack: whatever is handed in, the law answers true, and what was handed in reads as it did.
No conditions.
-/
import Derived.Test.YteeaefjlpkijkaaDoorRows
import Derived.Test.YteeaefjlpkijkaaDoorCards
import Derived.Test.YteeaefjlpkijkaaDoorTie
import Derived.SevenTiedAt
import Derived.Test.YteeaefjlpkijkaaDoorQ13
import Derived.WalkKit
import Derived.ProofKit
import Derived.OpenShut
import Derived.ShutString
import Derived.ChangeOld
import Derived.Below
import Derived.Carry
import Derived.SizedLaws
import Derived.LaidHandle
import Derived.Deep.DeepLaidRun
set_option linter.all false
namespace Go.Proofs.YteeaefjlpkijkaaDoor.FnPatternBackRow
open Go Go.Bm Go.Proofs Go.ChangeShapes Go.WideShapes Go.ChangeAt Go.RowKit
open Go.ChangeMaps (open_string shut_string)

theorem own : ownKnob Tryd.prog.godebug = none := by kernel_rfl
theorem laidOut : laidOutB Tryd.prog = true := by kernel_rfl
theorem shape22 : shapeT Tryd.prog 14 22 = some ([.sl 1 [.int .u8]]) := by kernel_rfl
/-- A world in which the listed variables read as the row lists them. -/
noncomputable def laidWorld (os : Os) : World := { World.holding Tryd.prog os ⟨#[], #[], []⟩ with heap := (((World.holding Tryd.prog os ⟨#[], #[], []⟩).heap.modify 0 fun
      | .cells _ t frozen => .cells firstCells t frozen
      | o => o).modify 1 fun
      | .cells _ t frozen => .cells acceptCells t frozen
      | o => o) }
set_option maxRecDepth 100000 in
theorem laidWorld_met (os : Os) (args : Array Value) : laidMetH Tryd.prog Rows.fnPatternBackRow.laid ((laidWorld os).forCall (fun _ _ => 0) ⟨#[], args, []⟩).memory :=
  laidMetH_of_parts (laidMet_of_run3 9 (by kernel_rfl) (by kernel_rfl) (by kernel_rfl)) (by kernel_rfl)
set_option maxRecDepth 100000 in
theorem lifted (os : Os) (started : os.Started) (H : Type) (enc : TypeId × Value → H) :
    ReturnsInHanded {} Tryd.checked os 3 .any (fun w args => (Rows.fnPatternBackSpec.pre enc Tryd.prog Tryd.f3 Rows.fnPatternBackRow.domain false w args ∧ laidMetH Tryd.prog Rows.fnPatternBackRow.laid w) ∧ sizedMet enc Tryd.prog Tryd.f3 (OpenSpec.ofChange Rows.fnPatternBackSpec) false w args) (Rows.fnPatternBackSpec.post enc Tryd.prog Tryd.f3 false true false false) := by
  refine returnsInHanded_of_change_and (C := Tryd.checked) (X := fun w _ => laidMetH Tryd.prog Rows.fnPatternBackRow.laid w) (fun _ _ _ hh h => h.of_heap hh) own started (by kernel_rfl) Tryd.func3
    (ChangeSpec.witness_at (enc := enc) (C := Tryd.checked) (os := os) (X := fun w _ => laidMetH Tryd.prog Rows.fnPatternBackRow.laid w) false (laidWorld os) #[.slice none 0 0] 9 rfl (by kernel_rfl) (by kernel_rfl) (by kernel_rfl) (by kernel_rfl) (by kernel_rfl) (laidWorld_met os _)) ?_
  intro W base args ds gs before hval0 hW _ _ hL _
  have hval : ∀ (j : Nat) t v, Tryd.f3.params[j]? = some t → args[j]? = some v → Value.okWide Tryd.prog W .any base t v := hval0
  have hW' := hW
  obtain ⟨p, q, hA0, hV, rfl, hfz, hnd⟩ := hW
  have hA : DataW.TrodAll enc Tryd.prog W 0 (fun _ => true) true Tryd.f3.params.toList args.toList ds p := hA0
  rw [Tryd.params3] at hA hval
  obtain ⟨v0, vs0, d0, ds0, p0, q0, hargs, rfl, rfl, h0, r0⟩ := trodAll_cons hA
  obtain ⟨rfl, rfl, rfl⟩ := trodAll_nil r0
  obtain rfl : args = #[v0] := by cases args; simp_all
  obtain ⟨rfl, rfl⟩ := trodVars_none hV
  have k0 := h0
  have lt0 : ∀ x ∈ p0, x.block < W.heap.size := by obtain ⟨m, hm⟩ := k0; exact DataW.trod_lt m _ _ _ hm
  obtain ⟨a0, len0, cap0, rfl⟩ := okWide_slice Tryd.underlying22 (hval 0 22 v0 rfl rfl)
  obtain ⟨f0, hf0⟩ := h0
  obtain ⟨ys0, hVR0, hT0⟩ := open_ty 14 22 _ shape22 f0 _ _ hf0
  obtain ⟨x0, rfl, hx0l, hx0m⟩ := sl_dec1 (enc := (encI .u8)) (ok := (fun z => 0 ≤ z ∧ z ≤ 255)) int_dec_u8 ys0 hT0
  have hx0 := And.intro hx0l hx0m
  obtain ⟨z0, _, e0, hzz0, _⟩ := hVR0
  have hVR0' : VR (V.all W) (.fs none (x0.map (encI .u8))) (.slice a0 len0 cap0) := by cases e0; exact hzz0
  have hVR : VRs (V.all W) [.fs none (x0.map (encI .u8))] [.slice a0 len0 cap0] :=
    ⟨_, _, rfl, hVR0', rfl⟩
  have hc : ACalls ap noE 3 [.fs none (x0.map (encI .u8))] AH.nil (fun v _ => v = .bool true) := lawPatternBack_ok x0 hx0 AH.nil
  obtain ⟨_, hcall⟩ := calls_sound2 (P := Tryd.prog) (base := W.heap.size) (fun _ _ _ _ e => e.elim) (hapL W.heap.size) hc
  refine (hcall (V.all W) W _ (hr0 W) (hz0 W) hVR).mono fun e W' ⟨u, v, h', ν', he, _, _, _, hv, hfr, hr⟩ => ?_
  subst hr
  have hu : u = .bool true := hv
  subst hu
  subst he
  have bel := hfr.below
  exact ⟨_, rfl, _, _, _, [], _, [], hW', trodAll_mk1 (shut_bool Tryd.underlying4 _), (trodAll_cons_mk (Below.trod laidOut (by kernel_rfl) (of_decide_eq_true (by kernel_rfl)) k0 bel lt0) trodAll_mk0), rfl, bel.frame _, fun h => by cases h⟩

theorem over : Rows.fnPatternBackRow.holds Tryd.pinned (OpenSpec.ofChange Rows.fnPatternBackSpec) :=
  OpenClaim.holds_of_wide 3 Tryd.f3 rfl rfl rfl rfl rfl rfl rfl ⟨rfl, rfl, rfl, rfl, rfl⟩ rfl rfl rfl rfl rfl (by kernel_rfl) Tryd.func3 (by kernel_rfl)
    (of_decide_eq_true (by kernel_rfl)) (by unfold Func.isWrapper; first | (rw [if_pos (by decide +kernel)]; kernel_rfl) | (rw [if_neg (by decide +kernel)]; exact ⟨rfl, rfl⟩))
    (fun os started H enc _ => lifted os started H enc)
theorem proved : Rows.FnPatternBackSaid := over
end Go.Proofs.YteeaefjlpkijkaaDoor.FnPatternBackRow
namespace Go.Proofs.YteeaefjlpkijkaaDoor
/-- The row, under a short name, for the claim. -/
theorem fnPatternBack_holds : Rows.FnPatternBackSaid := FnPatternBackRow.proved
#print axioms fnPatternBack_holds
end Go.Proofs.YteeaefjlpkijkaaDoor
namespace Go.Proofs.YteeaefjlpkijkaaDoor
/-- The tied card: the row, and its listed variables tied to the program's text. -/
theorem fnPatternBackCard_holds : Rows.FnPatternBackCardSaid :=
  Claim7.holds_tied_plain_at .later [] [.data, .pinned] true (true, "9914b3964e607009f87a9a25dc7aabcf0628fffb6bf237c3c31a637c031cffcf") false
    fnPatternBack_holds (fun _ h => by cases h) (by kernel_rfl) (fun _ h => by cases h) fnPatternBack_row_tie rfl ⟨rfl, rfl⟩ (by kernel_rfl) rfl
    (fun f fn hf hfn => by
      obtain rfl : f = 3 := Option.some.inj ((show Tryd.prog.funcNamed "loop.example/g00014/laws.FnPatternBack" = some 3 by kernel_rfl).symm.trans hf) |>.symm
      obtain rfl : fn = Tryd.f3 := (Option.some.inj (Tryd.func3.symm.trans hfn)).symm
      refine ⟨by kernel_rfl, fun j t ht => ?_⟩
      rw [Tryd.params3] at ht
      rcases j with _ | j
      · obtain rfl : t = 22 := by simpa using ht.symm
        exact (show Tryd.prog.wantsStandIn 22 = false by kernel_rfl)
      simp at ht)
    (by kernel_rfl)
#print axioms fnPatternBackCard_holds
end Go.Proofs.YteeaefjlpkijkaaDoor
