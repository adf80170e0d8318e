/-
FnExactOpenGroup: whatever is handed in, the law answers true, and what was handed in reads as it did.
No conditions.
-/
import Derived.Test.YtojmemlbajnhhaaRows
import Derived.Test.YtojmemlbajnhhaaA12
import Derived.WalkKit
import Derived.ProofKit
import Derived.OpenShut
import Derived.ShutString
import Derived.ChangeOld
import Derived.Below
import Derived.Carry
import Derived.SizedLaws
set_option linter.all false
namespace Go.Proofs.Ytojmemlbajnhhaa.FnExactOpenGroupRow
open Go Go.Bm Go.Proofs Go.ChangeShapes Go.WideShapes Go.ChangeAt Go.RowKit
open Go.ChangeMaps (open_string shut_string)

theorem own : ownKnob Try.prog.godebug = none := by kernel_rfl
theorem laidOut : laidOutB Try.prog = true := by kernel_rfl
theorem shape24 : shapeT Try.prog 14 24 = some (Env.ty) := by kernel_rfl
set_option maxRecDepth 100000 in
theorem lifted (os : Os) (started : os.Started) (H : Type) (enc : TypeId × Value → H) :
    ReturnsInHanded {} Try.checked os 6 .any (Rows.fnExactOpenGroupSpec.pre6 enc Try.prog Try.f6 Rows.fnExactOpenGroupRow.domain false) (Rows.fnExactOpenGroupSpec.post enc Try.prog Try.f6 false true false false) := by
  refine returnsInHanded_of_change_sized (C := Try.checked) own started (by kernel_rfl) Try.func6
    (ChangeSpec.witness6 (enc := enc) (C := Try.checked) false ⟨#[], #[.agg #[.slice none 0 0]], []⟩ 9 (by kernel_rfl) (by kernel_rfl) (by kernel_rfl) (by kernel_rfl)) ?_
  intro W base args ds gs before hval0 hW hcnd hsz0 _
  have hval : ∀ (j : Nat) t v, Try.f6.params[j]? = some t → args[j]? = some v → Value.okWide Try.prog W .any base t v := hval0
  have hW' := hW
  obtain ⟨p, q, hA0, hV, rfl, hfz, hnd⟩ := hW
  have hA : DataW.TrodAll enc Try.prog W 0 (fun _ => true) true Try.f6.params.toList args.toList ds p := hA0
  rw [Try.params6] at hA hval
  obtain ⟨v0, vs0, d0, ds0, p0, q0, hargs, rfl, rfl, h0, r0⟩ := trodAll_cons hA
  obtain ⟨rfl, rfl, rfl⟩ := trodAll_nil r0
  obtain rfl : args = #[v0] := by cases args; simp_all
  obtain ⟨rfl, rfl⟩ := trodVars_none hV
  have k0 := h0
  have lt0 : ∀ x ∈ p0, x.block < W.heap.size := by obtain ⟨m, hm⟩ := k0; exact DataW.trod_lt m _ _ _ hm
  obtain ⟨u0, rfl, _⟩ := okWide_struct Try.underlying24 (hval 0 24 v0 rfl rfl)
  obtain ⟨f0, hf0⟩ := h0
  obtain ⟨ys0, hVR0, hT0⟩ := open_ty 14 24 _ shape24 f0 _ _ hf0
  obtain ⟨x0, rfl, hx0⟩ := Env.dec ys0 hT0
  have hVR : VRs (V.all W) [.agg x0.enc] [.agg u0] :=
    ⟨_, _, rfl, agg_of hVR0 (fun l => .inl ⟨_, rfl⟩), rfl⟩
  have hc : ACalls ap noE 6 [.agg x0.enc] AH.nil (fun v _ => v = .bool true) := lawOpenGroup_ok x0 hx0 AH.nil
  obtain ⟨_, hcall⟩ := calls_sound (P := Try.prog) (base := W.heap.size) (fun _ _ _ _ e => e.elim) hap hc
  refine (hcall (V.all W) W _ (hr0 W) (hz0 W) hVR).mono fun e W' ⟨u, v, h', ν', he, _, _, _, hv, hfr, hr⟩ => ?_
  subst hr
  have hu : u = .bool true := hv
  subst hu
  subst he
  have bel := hfr.below
  exact ⟨_, rfl, _, _, _, [], _, [], hW', trodAll_mk1 (shut_bool Try.underlying4 _), (trodAll_cons_mk (Below.trod laidOut (by kernel_rfl) (of_decide_eq_true (by kernel_rfl)) k0 bel lt0) trodAll_mk0), rfl, bel.frame _, fun h => by cases h⟩

theorem over : Rows.fnExactOpenGroupRow.holds Try.pinned (OpenSpec.ofChange Rows.fnExactOpenGroupSpec) :=
  OpenClaim.holds_of_wide 6 Try.f6 rfl rfl rfl rfl rfl rfl rfl ⟨rfl, rfl, rfl, rfl, rfl⟩ rfl rfl rfl rfl rfl (by kernel_rfl) Try.func6 (by kernel_rfl)
    (of_decide_eq_true (by kernel_rfl)) (by unfold Func.isWrapper; first | (rw [if_pos (by decide +kernel)]; kernel_rfl) | (rw [if_neg (by decide +kernel)]; exact ⟨rfl, rfl⟩))
    (fun os started H enc _ => lifted os started H enc)
theorem proved : Rows.FnExactOpenGroupSaid := over
end Go.Proofs.Ytojmemlbajnhhaa.FnExactOpenGroupRow
namespace Go.Proofs.Ytojmemlbajnhhaa
/-- The row, under a short name, for the claim. -/
theorem fnExactOpenGroup_holds : Rows.FnExactOpenGroupSaid := FnExactOpenGroupRow.proved
#print axioms fnExactOpenGroup_holds
end Go.Proofs.Ytojmemlbajnhhaa
