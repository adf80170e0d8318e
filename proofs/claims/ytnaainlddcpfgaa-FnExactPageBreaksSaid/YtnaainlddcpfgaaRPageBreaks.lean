/-
FnExactPageBreaks: for every input the law answers true: the program's PageBreaks and the reference's answer the same, the argument is left as it was, and the answer owns its memory.
No conditions.
-/
import Derived.Test.YtnaainlddcpfgaaRows
import Derived.Test.YtnaainlddcpfgaaLPageBreaks
import Derived.WalkKit
import Derived.ProofKit
import Derived.OpenShut
import Derived.ShutString
import Derived.ChangeOld
import Derived.Below
import Derived.Carry
import Derived.SizedLaws
namespace Go.Proofs.Ytnaainlddcpfgaa.PageBreaksRow
open Go Go.Am Go.Proofs Go.ChangeShapes Go.WideShapes Go.ChangeAt Go.RowKit
set_option linter.all false
open Go.ChangeMaps (open_string shut_string)

theorem own : ownKnob Try.prog.godebug = none := by kernel_rfl
theorem laidOut : laidOutB Try.prog = true := by kernel_rfl

def ndTy : List Ty := [.int .i64, .int .i64, .int .i64, .int .i64, .int .i64, .int .i64, .int .i64, .int .i64, .int .i64, .int .i64, .int .i64, .int .i64, .int .i64, .str, .int .i64]
theorem shape22 : shapeT Try.prog 5 22 = some [.sl 15 ndTy] := by kernel_rfl
theorem nd_dec {h : AH} : ∀ r, TyL h ndTy r → ∃ x : Nd, r = x.enc ∧ x.text.size ≤ maxLen := by
  rintro r ⟨_, _, rfl, ⟨a1, rfl, _⟩, _, _, rfl, ⟨a2, rfl, _⟩, _, _, rfl, ⟨a3, rfl, _⟩, _, _, rfl, ⟨a4, rfl, _⟩, _, _, rfl, ⟨a5, rfl, _⟩, _, _, rfl, ⟨a6, rfl, _⟩, _, _, rfl, ⟨a7, rfl, _⟩, _, _, rfl, ⟨a8, rfl, _⟩, _, _, rfl, ⟨a9, rfl, _⟩, _, _, rfl, ⟨a10, rfl, _⟩, _, _, rfl, ⟨a11, rfl, _⟩, _, _, rfl, ⟨a12, rfl, _⟩, _, _, rfl, ⟨a13, rfl, _⟩, _, _, rfl, ⟨a14, rfl, h14⟩, _, _, rfl, ⟨a15, rfl, _⟩, rfl⟩
  exact ⟨⟨a1, a2, a3, a4, a5, a6, a7, a8, a9, a10, a11, a12, a13, a14, a15⟩, rfl, h14⟩
/-- Nothing is read yet. -/
theorem hr0 (w : World) : HR (fun _ => none) w.heap.size ⟨0, fun _ => none⟩ w :=
  ⟨Nat.le_refl _, (fun _ _ h => by cases h), (fun b x h => by simp [AH.get] at h), (fun b _ x _ _ _ h => by simp [AH.get] at h)⟩

set_option maxRecDepth 100000 in
theorem lifted (os : Os) (started : os.Started) (H : Type) (enc : TypeId × Value → H) :
    ReturnsInHanded {} Try.checked os 6 .any (Rows.fnExactPageBreaksSpec.pre6 enc Try.prog Try.f6 Rows.fnExactPageBreaksRow.domain false) (Rows.fnExactPageBreaksSpec.post enc Try.prog Try.f6 false true false false) := by
  refine returnsInHanded_of_change_sized (C := Try.checked) own started (by kernel_rfl) Try.func6
    (ChangeSpec.witness6 (enc := enc) (C := Try.checked) false ⟨#[], #[.slice none 0 0], []⟩ 8 (by kernel_rfl) (by kernel_rfl) (by kernel_rfl) (by kernel_rfl)) ?_
  intro W base args ds gs before hval0 hW hcnd hsz0 _
  have hval : ∀ (j : Nat) t v, Try.f6.params[j]? = some t → args[j]? = some v → Value.okWide Try.prog W .any base t v := hval0
  have hW' := hW
  obtain ⟨p, q, hA0, hV, rfl, hfz, hnd⟩ := hW
  have hA : DataW.TrodAll enc Try.prog W 0 (fun _ => true) true Try.f6.params.toList args.toList ds p := hA0
  rw [Try.params6] at hA hval
  obtain ⟨v0, vs0, d0, ds0, p0, q0, hargs, rfl, rfl, h0, r0⟩ := trodAll_cons hA
  obtain ⟨rfl, rfl, rfl⟩ := trodAll_nil r0
  obtain rfl : args = #[v0] := by cases args; simp_all
  obtain ⟨rfl, rfl⟩ := trodVars_none hV
  have k0 := h0
  have lt0 : ∀ x ∈ p0, x.block < W.heap.size := by obtain ⟨m, hm⟩ := k0; exact DataW.trod_lt m _ _ _ hm
  obtain ⟨a0, len0, cap0, rfl⟩ := okWide_slice Try.underlying22 (hval 0 22 v0 rfl rfl)
  obtain ⟨f0, hf0⟩ := h0
  obtain ⟨ν, h, xs, _, _, hH, hVR, hT⟩ := open_ty 5 22 _ shape22 f0 _ _ hf0 _ _ (hr0 W)
  obtain ⟨x0, _, rfl, hT0, rfl⟩ := hT
  obtain ⟨ns, hR0, hx0, hl0⟩ := Ra.of Nd.ok nd_dec hT0
  have hc : ACalls ap noE 6 [x0] h (fun v _ => v = .bool true) := lawPageBreaks_ok hR0 hx0 hl0 (fun _ => rfl)
  obtain ⟨_, hcall⟩ := calls_sound (P := Try.prog) (base := W.heap.size) (fun _ _ _ _ e => e.elim) hap hc
  refine (hcall ν W _ hH hVR).mono fun e W' ⟨u, v, h', ν', he, _, _, hv, hfr, hr⟩ => ?_
  subst hr
  have hu : u = .bool true := hv
  subst hu
  subst he
  have bel := hfr.below
  exact ⟨_, rfl, _, _, _, [], _, [], hW', trodAll_mk1 (shut_bool Try.underlying4 _), (trodAll_cons_mk (Below.trod laidOut (by kernel_rfl) (of_decide_eq_true (by kernel_rfl)) k0 bel lt0) trodAll_mk0), rfl, bel.frame _, fun h => by cases h⟩

theorem over : Rows.fnExactPageBreaksRow.holds Try.pinned (OpenSpec.ofChange Rows.fnExactPageBreaksSpec) :=
  OpenClaim.holds_of_wide 6 Try.f6 rfl rfl rfl rfl rfl rfl rfl ⟨rfl, rfl, rfl, rfl, rfl⟩ rfl rfl rfl rfl rfl (by kernel_rfl) Try.func6 (by kernel_rfl)
    (of_decide_eq_true (by kernel_rfl)) (by unfold Func.isWrapper; first | (rw [if_pos (by decide +kernel)]; kernel_rfl) | (rw [if_neg (by decide +kernel)]; exact ⟨rfl, rfl⟩))
    (fun os started H enc _ => lifted os started H enc)
theorem proved : Rows.FnExactPageBreaksSaid := over
end Go.Proofs.Ytnaainlddcpfgaa.PageBreaksRow
namespace Go.Proofs.Ytnaainlddcpfgaa
/-- The row, under a short name, for the claim. -/
theorem fnExactPageBreaks_holds : Rows.FnExactPageBreaksSaid := PageBreaksRow.proved
#print axioms fnExactPageBreaks_holds
end Go.Proofs.Ytnaainlddcpfgaa
