/-
FnExactSameMean: whatever is handed in, the law answers true, and what was handed in reads as it did.
No conditions.
-/
import Derived.Test.YtojmemlbajnhhaaRows
import Derived.Test.YtojmemlbajnhhaaA18
import Derived.WalkKit
import Derived.ProofKit
import Derived.OpenShut
import Derived.ShutString
import Derived.ChangeOld
import Derived.Below
import Derived.Carry
import Derived.SizedLaws
set_option linter.all false
namespace Go.Proofs.Ytojmemlbajnhhaa.FnExactSameMeanRow
open Go Go.Bm Go.Proofs Go.ChangeShapes Go.WideShapes Go.ChangeAt Go.RowKit
open Go.ChangeMaps (open_string shut_string)

theorem own : ownKnob Try.prog.godebug = none := by kernel_rfl
theorem laidOut : laidOutB Try.prog = true := by kernel_rfl
theorem shape24 : shapeT Try.prog 14 24 = some (Env.ty) := by kernel_rfl
theorem shape47 : shapeT Try.prog 14 47 = some (Token.ty) := by kernel_rfl
set_option maxRecDepth 100000 in
theorem lifted (os : Os) (started : os.Started) (H : Type) (enc : TypeId × Value → H) :
    ReturnsInHanded {} Try.checked os 7 .any (Rows.fnExactSameMeanSpec.pre6 enc Try.prog Try.f7 Rows.fnExactSameMeanRow.domain false) (Rows.fnExactSameMeanSpec.post enc Try.prog Try.f7 false true false false) := by
  refine returnsInHanded_of_change_sized (C := Try.checked) own started (by kernel_rfl) Try.func7
    (ChangeSpec.witness6 (enc := enc) (C := Try.checked) false ⟨#[], #[.agg #[.slice none 0 0], .agg #[.int .i64 0, .int .i64 0, .string ⟨#[]⟩], .agg #[.int .i64 0, .int .i64 0, .string ⟨#[]⟩]], []⟩ 9 (by kernel_rfl) (by kernel_rfl) (by kernel_rfl) (by kernel_rfl)) ?_
  intro W base args ds gs before hval0 hW hcnd hsz0 _
  have hval : ∀ (j : Nat) t v, Try.f7.params[j]? = some t → args[j]? = some v → Value.okWide Try.prog W .any base t v := hval0
  have hW' := hW
  obtain ⟨p, q, hA0, hV, rfl, hfz, hnd⟩ := hW
  have hA : DataW.TrodAll enc Try.prog W 0 (fun _ => true) true Try.f7.params.toList args.toList ds p := hA0
  rw [Try.params7] at hA hval
  obtain ⟨v0, vs0, d0, ds0, p0, q0, hargs, rfl, rfl, h0, r0⟩ := trodAll_cons hA
  obtain ⟨v1, vs1, d1, ds1, p1, q1, rfl, rfl, rfl, h1, r1⟩ := trodAll_cons r0
  obtain ⟨v2, vs2, d2, ds2, p2, q2, rfl, rfl, rfl, h2, r2⟩ := trodAll_cons r1
  obtain ⟨rfl, rfl, rfl⟩ := trodAll_nil r2
  obtain rfl : args = #[v0, v1, v2] := by cases args; simp_all
  obtain ⟨rfl, rfl⟩ := trodVars_none hV
  have k0 := h0
  have lt0 : ∀ x ∈ p0, x.block < W.heap.size := by obtain ⟨m, hm⟩ := k0; exact DataW.trod_lt m _ _ _ hm
  obtain ⟨u0, rfl, _⟩ := okWide_struct Try.underlying24 (hval 0 24 v0 rfl rfl)
  obtain ⟨f0, hf0⟩ := h0
  obtain ⟨ys0, hVR0, hT0⟩ := open_ty 14 24 _ shape24 f0 _ _ hf0
  obtain ⟨x0, rfl, hx0⟩ := Env.dec ys0 hT0
  have k1 := h1
  have lt1 : ∀ x ∈ p1, x.block < W.heap.size := by obtain ⟨m, hm⟩ := k1; exact DataW.trod_lt m _ _ _ hm
  obtain ⟨u1, rfl, _⟩ := okWide_struct Try.underlying47 (hval 1 47 v1 rfl rfl)
  obtain ⟨f1, hf1⟩ := h1
  obtain ⟨ys1, hVR1, hT1⟩ := open_ty 14 47 _ shape47 f1 _ _ hf1
  obtain ⟨x1, rfl, hx1⟩ := Token.dec ys1 hT1
  have k2 := h2
  have lt2 : ∀ x ∈ p2, x.block < W.heap.size := by obtain ⟨m, hm⟩ := k2; exact DataW.trod_lt m _ _ _ hm
  obtain ⟨u2, rfl, _⟩ := okWide_struct Try.underlying47 (hval 2 47 v2 rfl rfl)
  obtain ⟨f2, hf2⟩ := h2
  obtain ⟨ys2, hVR2, hT2⟩ := open_ty 14 47 _ shape47 f2 _ _ hf2
  obtain ⟨x2, rfl, hx2⟩ := Token.dec ys2 hT2
  have hVR : VRs (V.all W) [.agg x0.enc, .agg x1.enc, .agg x2.enc] [.agg u0, .agg u1, .agg u2] :=
    ⟨_, _, rfl, agg_of hVR0 (fun l => .inl ⟨_, rfl⟩), _, _, rfl, agg_of hVR1 (fun l => .inl ⟨_, rfl⟩), _, _, rfl, agg_of hVR2 (fun l => .inl ⟨_, rfl⟩), rfl⟩
  have hc : ACalls ap noE 7 [.agg x0.enc, .agg x1.enc, .agg x2.enc] AH.nil (fun v _ => v = .bool true) := lawSameMean_ok x0 hx0 x1 hx1 x2 hx2 AH.nil
  obtain ⟨_, hcall⟩ := calls_sound2 (P := Try.prog) (base := W.heap.size) (fun _ _ _ _ e => e.elim) (hapL W.heap.size) hc
  refine (hcall (V.all W) W _ (hr0 W) (hz0 W) hVR).mono fun e W' ⟨u, v, h', ν', he, _, _, _, hv, hfr, hr⟩ => ?_
  subst hr
  have hu : u = .bool true := hv
  subst hu
  subst he
  have bel := hfr.below
  exact ⟨_, rfl, _, _, _, [], _, [], hW', trodAll_mk1 (shut_bool Try.underlying4 _), (trodAll_cons_mk (Below.trod laidOut (by kernel_rfl) (of_decide_eq_true (by kernel_rfl)) k0 bel lt0) (trodAll_cons_mk (Below.trod laidOut (by kernel_rfl) (of_decide_eq_true (by kernel_rfl)) k1 bel lt1) (trodAll_cons_mk (Below.trod laidOut (by kernel_rfl) (of_decide_eq_true (by kernel_rfl)) k2 bel lt2) trodAll_mk0))), rfl, bel.frame _, fun h => by cases h⟩

theorem over : Rows.fnExactSameMeanRow.holds Try.pinned (OpenSpec.ofChange Rows.fnExactSameMeanSpec) :=
  OpenClaim.holds_of_wide 7 Try.f7 rfl rfl rfl rfl rfl rfl rfl ⟨rfl, rfl, rfl, rfl, rfl⟩ rfl rfl rfl rfl rfl (by kernel_rfl) Try.func7 (by kernel_rfl)
    (of_decide_eq_true (by kernel_rfl)) (by unfold Func.isWrapper; first | (rw [if_pos (by decide +kernel)]; kernel_rfl) | (rw [if_neg (by decide +kernel)]; exact ⟨rfl, rfl⟩))
    (fun os started H enc _ => lifted os started H enc)
theorem proved : Rows.FnExactSameMeanSaid := over
end Go.Proofs.Ytojmemlbajnhhaa.FnExactSameMeanRow
namespace Go.Proofs.Ytojmemlbajnhhaa
/-- The row, under a short name, for the claim. -/
theorem fnExactSameMean_holds : Rows.FnExactSameMeanSaid := FnExactSameMeanRow.proved
#print axioms fnExactSameMean_holds
end Go.Proofs.Ytojmemlbajnhhaa
