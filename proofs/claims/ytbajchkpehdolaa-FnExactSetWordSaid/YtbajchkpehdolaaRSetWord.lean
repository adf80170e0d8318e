/-
FnExactSetWord: whatever is handed in, the law answers true, and what was handed in reads as it did.
No conditions.
-/
import Derived.Test.YtbajchkpehdolaaRows
import Derived.Test.YtbajchkpehdolaaFont8
import Derived.WalkKit
import Derived.ProofKit
import Derived.OpenShut
import Derived.ShutString
import Derived.ChangeOld
import Derived.Below
import Derived.Carry
import Derived.SizedLaws
set_option linter.all false
namespace Go.Proofs.Ytbajchkpehdolaa.FnExactSetWordRow
open Go Go.Bm Go.Proofs Go.ChangeShapes Go.WideShapes Go.ChangeAt Go.RowKit
open Go.ChangeMaps (open_string shut_string)

theorem own : ownKnob Try.prog.godebug = none := by kernel_rfl
theorem laidOut : laidOutB Try.prog = true := by kernel_rfl
theorem shape27 : shapeT Try.prog 14 27 = some (Font.ty) := by kernel_rfl
theorem shape28 : shapeT Try.prog 14 28 = some ([.sl 1 [.int .u8]]) := by kernel_rfl
set_option maxRecDepth 100000 in
theorem lifted (os : Os) (started : os.Started) (H : Type) (enc : TypeId × Value → H) :
    ReturnsInHanded {} Try.checked os 4 .any (Rows.fnExactSetWordSpec.pre6 enc Try.prog Try.f4 Rows.fnExactSetWordRow.domain false) (Rows.fnExactSetWordSpec.post enc Try.prog Try.f4 false true false false) := by
  refine returnsInHanded_of_change_sized (C := Try.checked) own started (by kernel_rfl) Try.func4
    (ChangeSpec.witness6 (enc := enc) (C := Try.checked) false ⟨#[], #[.agg #[.string ⟨#[]⟩, .slice none 0 0, .slice none 0 0, .int .i64 0, .int .i64 0, .int .i64 0, .int .i64 0, .int .i64 0, .int .i64 0, .int .i64 0], .slice none 0 0], []⟩ 9 (by kernel_rfl) (by kernel_rfl) (by kernel_rfl) (by kernel_rfl)) ?_
  intro W base args ds gs before hval0 hW hcnd hsz0 _
  have hval : ∀ (j : Nat) t v, Try.f4.params[j]? = some t → args[j]? = some v → Value.okWide Try.prog W .any base t v := hval0
  have hW' := hW
  obtain ⟨p, q, hA0, hV, rfl, hfz, hnd⟩ := hW
  have hA : DataW.TrodAll enc Try.prog W 0 (fun _ => true) true Try.f4.params.toList args.toList ds p := hA0
  rw [Try.params4] at hA hval
  obtain ⟨v0, vs0, d0, ds0, p0, q0, hargs, rfl, rfl, h0, r0⟩ := trodAll_cons hA
  obtain ⟨v1, vs1, d1, ds1, p1, q1, rfl, rfl, rfl, h1, r1⟩ := trodAll_cons r0
  obtain ⟨rfl, rfl, rfl⟩ := trodAll_nil r1
  obtain rfl : args = #[v0, v1] := by cases args; simp_all
  obtain ⟨rfl, rfl⟩ := trodVars_none hV
  have k0 := h0
  have lt0 : ∀ x ∈ p0, x.block < W.heap.size := by obtain ⟨m, hm⟩ := k0; exact DataW.trod_lt m _ _ _ hm
  obtain ⟨u0, rfl, _⟩ := okWide_struct Try.underlying27 (hval 0 27 v0 rfl rfl)
  obtain ⟨f0, hf0⟩ := h0
  obtain ⟨ys0, hVR0, hT0⟩ := open_ty 14 27 _ shape27 f0 _ _ hf0
  obtain ⟨x0, rfl, hx0⟩ := Font.dec ys0 hT0
  have k1 := h1
  have lt1 : ∀ x ∈ p1, x.block < W.heap.size := by obtain ⟨m, hm⟩ := k1; exact DataW.trod_lt m _ _ _ hm
  obtain ⟨a1, len1, cap1, rfl⟩ := okWide_slice Try.underlying28 (hval 1 28 v1 rfl rfl)
  obtain ⟨f1, hf1⟩ := h1
  obtain ⟨ys1, hVR1, hT1⟩ := open_ty 14 28 _ shape28 f1 _ _ hf1
  obtain ⟨x1, rfl, hx1l, hx1m⟩ := sl_dec1 (enc := (encI .u8)) (ok := (fun z => 0 ≤ z ∧ z ≤ 255)) int_dec_u8 ys1 hT1
  have hx1 := And.intro hx1l hx1m
  obtain ⟨z1, _, e1, hzz1, _⟩ := hVR1
  have hVR1' : VR (V.all W) (.fs none (x1.map (encI .u8))) (.slice a1 len1 cap1) := by cases e1; exact hzz1
  have hVR : VRs (V.all W) [.agg x0.enc, .fs none (x1.map (encI .u8))] [.agg u0, .slice a1 len1 cap1] :=
    ⟨_, _, rfl, agg_of hVR0 (fun l => .inl ⟨_, rfl⟩), _, _, rfl, hVR1', rfl⟩
  have hc : ACalls ap noE 4 [.agg x0.enc, .fs none (x1.map (encI .u8))] AH.nil (fun v _ => v = .bool true) := lawSetWord_ok x0 hx0 x1 hx1 AH.nil
  obtain ⟨_, hcall⟩ := calls_sound (P := Try.prog) (base := W.heap.size) (fun _ _ _ _ e => e.elim) hap hc
  refine (hcall (V.all W) W _ (hr0 W) (hz0 W) hVR).mono fun e W' ⟨u, v, h', ν', he, _, _, _, hv, hfr, hr⟩ => ?_
  subst hr
  have hu : u = .bool true := hv
  subst hu
  subst he
  have bel := hfr.below
  exact ⟨_, rfl, _, _, _, [], _, [], hW', trodAll_mk1 (shut_bool Try.underlying4 _), (trodAll_cons_mk (Below.trod laidOut (by kernel_rfl) (of_decide_eq_true (by kernel_rfl)) k0 bel lt0) (trodAll_cons_mk (Below.trod laidOut (by kernel_rfl) (of_decide_eq_true (by kernel_rfl)) k1 bel lt1) trodAll_mk0)), rfl, bel.frame _, fun h => by cases h⟩

theorem over : Rows.fnExactSetWordRow.holds Try.pinned (OpenSpec.ofChange Rows.fnExactSetWordSpec) :=
  OpenClaim.holds_of_wide 4 Try.f4 rfl rfl rfl rfl rfl rfl rfl ⟨rfl, rfl, rfl, rfl, rfl⟩ rfl rfl rfl rfl rfl (by kernel_rfl) Try.func4 (by kernel_rfl)
    (of_decide_eq_true (by kernel_rfl)) (by unfold Func.isWrapper; first | (rw [if_pos (by decide +kernel)]; kernel_rfl) | (rw [if_neg (by decide +kernel)]; exact ⟨rfl, rfl⟩))
    (fun os started H enc _ => lifted os started H enc)
theorem proved : Rows.FnExactSetWordSaid := over
end Go.Proofs.Ytbajchkpehdolaa.FnExactSetWordRow
namespace Go.Proofs.Ytbajchkpehdolaa
/-- The row, under a short name, for the claim. -/
theorem fnExactSetWord_holds : Rows.FnExactSetWordSaid := FnExactSetWordRow.proved
#print axioms fnExactSetWord_holds
end Go.Proofs.Ytbajchkpehdolaa
