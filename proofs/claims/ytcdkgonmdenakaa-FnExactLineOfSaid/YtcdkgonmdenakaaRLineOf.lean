/-
FnExactLineOf: whatever is handed in, the law answers true, and what was handed in reads as it did.
No conditions.
-/
import Derived.Test.YtcdkgonmdenakaaRows
import Derived.Test.YtcdkgonmdenakaaParaM
import Derived.WalkKit
import Derived.ProofKit
import Derived.OpenShut
import Derived.ShutString
import Derived.ChangeOld
import Derived.Below
import Derived.Carry
import Derived.SizedLaws
set_option linter.all false
namespace Go.Proofs.Ytcdkgonmdenakaa.FnExactLineOfRow
open Go Go.Bm Go.Proofs Go.ChangeShapes Go.WideShapes Go.ChangeAt Go.RowKit
open Go.ChangeMaps (open_string shut_string)

theorem own : ownKnob Try.prog.godebug = none := by kernel_rfl
theorem laidOut : laidOutB Try.prog = true := by kernel_rfl
theorem shape22 : shapeT Try.prog 14 22 = some ([.sl 15 Node.ty]) := by kernel_rfl
theorem shape26 : shapeT Try.prog 14 26 = some (Style.ty) := by kernel_rfl
set_option maxRecDepth 100000 in
theorem lifted (os : Os) (started : os.Started) (H : Type) (enc : TypeId × Value → H) :
    ReturnsInHanded {} Try.checked os 4 .any (Rows.fnExactLineOfSpec.pre6 enc Try.prog Try.f4 Rows.fnExactLineOfRow.domain false) (Rows.fnExactLineOfSpec.post enc Try.prog Try.f4 false true false false) := by
  refine returnsInHanded_of_change_sized (C := Try.checked) own started (by kernel_rfl) Try.func4
    (ChangeSpec.witness6 (enc := enc) (C := Try.checked) false ⟨#[], #[.slice none 0 0, .agg #[.int .i64 0, .int .i64 0, .int .i64 0, .int .i64 0, .int .i64 0, .int .i64 0, .int .i64 0, .int .i64 0, .int .i64 0, .int .i64 0, .int .i64 0, .int .i64 0, .int .i64 0, .int .i64 0, .int .i64 0, .int .i64 0, .int .i64 0, .int .i64 0, .int .i64 0, .int .i64 0, .int .i64 0, .int .i64 0, .int .i64 0], .int .i64 0, .int .i64 0], []⟩ 9 (by kernel_rfl) (by kernel_rfl) (by kernel_rfl) (by kernel_rfl)) ?_
  intro W base args ds gs before hval0 hW hcnd hsz0 _
  have hval : ∀ (j : Nat) t v, Try.f4.params[j]? = some t → args[j]? = some v → Value.okWide Try.prog W .any base t v := hval0
  have hW' := hW
  obtain ⟨p, q, hA0, hV, rfl, hfz, hnd⟩ := hW
  have hA : DataW.TrodAll enc Try.prog W 0 (fun _ => true) true Try.f4.params.toList args.toList ds p := hA0
  rw [Try.params4] at hA hval
  obtain ⟨v0, vs0, d0, ds0, p0, q0, hargs, rfl, rfl, h0, r0⟩ := trodAll_cons hA
  obtain ⟨v1, vs1, d1, ds1, p1, q1, rfl, rfl, rfl, h1, r1⟩ := trodAll_cons r0
  obtain ⟨v2, vs2, d2, ds2, p2, q2, rfl, rfl, rfl, h2, r2⟩ := trodAll_cons r1
  obtain ⟨v3, vs3, d3, ds3, p3, q3, rfl, rfl, rfl, h3, r3⟩ := trodAll_cons r2
  obtain ⟨rfl, rfl, rfl⟩ := trodAll_nil r3
  obtain rfl : args = #[v0, v1, v2, v3] := by cases args; simp_all
  obtain ⟨rfl, rfl⟩ := trodVars_none hV
  have k0 := h0
  have lt0 : ∀ x ∈ p0, x.block < W.heap.size := by obtain ⟨m, hm⟩ := k0; exact DataW.trod_lt m _ _ _ hm
  obtain ⟨a0, len0, cap0, rfl⟩ := okWide_slice Try.underlying22 (hval 0 22 v0 rfl rfl)
  obtain ⟨f0, hf0⟩ := h0
  obtain ⟨ys0, hVR0, hT0⟩ := open_ty 14 22 _ shape22 f0 _ _ hf0
  obtain ⟨x0, rfl, hx0l, hx0m⟩ := sl_dec1 (enc := Node.enc) (ok := (fun z => Node.Ok z)) Node.dec ys0 hT0
  have hx0 := And.intro hx0l hx0m
  obtain ⟨z0, _, e0, hzz0, _⟩ := hVR0
  have hVR0' : VR (V.all W) (.fs none (x0.map Node.enc)) (.slice a0 len0 cap0) := by cases e0; exact hzz0
  have k1 := h1
  have lt1 : ∀ x ∈ p1, x.block < W.heap.size := by obtain ⟨m, hm⟩ := k1; exact DataW.trod_lt m _ _ _ hm
  obtain ⟨u1, rfl, _⟩ := okWide_struct Try.underlying26 (hval 1 26 v1 rfl rfl)
  obtain ⟨f1, hf1⟩ := h1
  obtain ⟨ys1, hVR1, hT1⟩ := open_ty 14 26 _ shape26 f1 _ _ hf1
  obtain ⟨x1, rfl, hx1⟩ := Style.dec ys1 hT1
  obtain ⟨a2, rfl, rfl, rfl, w2⟩ := open_int Try.underlying2 (hval 2 2 v2 rfl rfl) h2
  obtain ⟨a3, rfl, rfl, rfl, w3⟩ := open_int Try.underlying2 (hval 3 2 v3 rfl rfl) h3
  have hVR : VRs (V.all W) [.fs none (x0.map Node.enc), .agg x1.enc, .int .i64 a2, .int .i64 a3] [.slice a0 len0 cap0, .agg u1, .int .i64 a2, .int .i64 a3] :=
    ⟨_, _, rfl, hVR0', _, _, rfl, agg_of hVR1 (fun l => .inl ⟨_, rfl⟩), _, _, rfl, rfl, _, _, rfl, rfl, rfl⟩
  have hc : ACalls ap noE 4 [.fs none (x0.map Node.enc), .agg x1.enc, .int .i64 a2, .int .i64 a3] AH.nil (fun v _ => v = .bool true) := lawLineOf_ok x0 hx0 x1 hx1 a2 (wf_i64 w2) a3 (wf_i64 w3) AH.nil
  obtain ⟨_, hcall⟩ := calls_sound (P := Try.prog) (base := W.heap.size) (fun _ _ _ _ e => e.elim) hap hc
  refine (hcall (V.all W) W _ (hr0 W) (hz0 W) hVR).mono fun e W' ⟨u, v, h', ν', he, _, _, _, hv, hfr, hr⟩ => ?_
  subst hr
  have hu : u = .bool true := hv
  subst hu
  subst he
  have bel := hfr.below
  exact ⟨_, rfl, _, _, _, [], _, [], hW', trodAll_mk1 (shut_bool Try.underlying4 _), (trodAll_cons_mk (Below.trod laidOut (by kernel_rfl) (of_decide_eq_true (by kernel_rfl)) k0 bel lt0) (trodAll_cons_mk (Below.trod laidOut (by kernel_rfl) (of_decide_eq_true (by kernel_rfl)) k1 bel lt1) (trodAll_cons_mk (shut_int Try.underlying2 w2) (trodAll_cons_mk (shut_int Try.underlying2 w3) trodAll_mk0)))), rfl, bel.frame _, fun h => by cases h⟩

theorem over : Rows.fnExactLineOfRow.holds Try.pinned (OpenSpec.ofChange Rows.fnExactLineOfSpec) :=
  OpenClaim.holds_of_wide 4 Try.f4 rfl rfl rfl rfl rfl rfl rfl ⟨rfl, rfl, rfl, rfl, rfl⟩ rfl rfl rfl rfl rfl (by kernel_rfl) Try.func4 (by kernel_rfl)
    (of_decide_eq_true (by kernel_rfl)) (by unfold Func.isWrapper; first | (rw [if_pos (by decide +kernel)]; kernel_rfl) | (rw [if_neg (by decide +kernel)]; exact ⟨rfl, rfl⟩))
    (fun os started H enc _ => lifted os started H enc)
theorem proved : Rows.FnExactLineOfSaid := over
end Go.Proofs.Ytcdkgonmdenakaa.FnExactLineOfRow
namespace Go.Proofs.Ytcdkgonmdenakaa
/-- The row, under a short name, for the claim. -/
theorem fnExactLineOf_holds : Rows.FnExactLineOfSaid := FnExactLineOfRow.proved
#print axioms fnExactLineOf_holds
end Go.Proofs.Ytcdkgonmdenakaa
