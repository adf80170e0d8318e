/-
FnExactPageOf: for every input the law answers true: the program's PageOf and the reference's answer the same, the argument is left as it was, and the answer owns its memory.
No conditions.
-/
import Derived.Test.YtnaainlddcpfgaaRows
import Derived.Test.YtnaainlddcpfgaaLPageOf
import Derived.WalkKit
import Derived.ProofKit
import Derived.OpenShut
import Derived.ShutString
import Derived.ChangeOld
import Derived.Below
import Derived.Carry
import Derived.SizedLaws
namespace Go.Proofs.Ytnaainlddcpfgaa.PageOfRow
open Go Go.Am Go.Proofs Go.ChangeShapes Go.WideShapes Go.ChangeAt Go.RowKit
set_option linter.all false
open Go.ChangeMaps (open_string shut_string)

theorem own : ownKnob Try.prog.godebug = none := by kernel_rfl
theorem laidOut : laidOutB Try.prog = true := by kernel_rfl

def ndTy : List Ty := [.int .i64, .int .i64, .int .i64, .int .i64, .int .i64, .int .i64, .int .i64, .int .i64, .int .i64, .int .i64, .int .i64, .int .i64, .int .i64, .str, .int .i64]
theorem shape22 : shapeT Try.prog 5 22 = some [.sl 15 ndTy] := by kernel_rfl
theorem nd_dec {h : AH} : ∀ r, TyL h ndTy r → ∃ x : Nd, r = x.enc ∧ x.text.size ≤ maxLen := by
  rintro r ⟨_, _, rfl, ⟨a1, rfl, _⟩, _, _, rfl, ⟨a2, rfl, _⟩, _, _, rfl, ⟨a3, rfl, _⟩, _, _, rfl, ⟨a4, rfl, _⟩, _, _, rfl, ⟨a5, rfl, _⟩, _, _, rfl, ⟨a6, rfl, _⟩, _, _, rfl, ⟨a7, rfl, _⟩, _, _, rfl, ⟨a8, rfl, _⟩, _, _, rfl, ⟨a9, rfl, _⟩, _, _, rfl, ⟨a10, rfl, _⟩, _, _, rfl, ⟨a11, rfl, _⟩, _, _, rfl, ⟨a12, rfl, _⟩, _, _, rfl, ⟨a13, rfl, _⟩, _, _, rfl, ⟨a14, rfl, h14⟩, _, _, rfl, ⟨a15, rfl, _⟩, rfl⟩
  exact ⟨⟨a1, a2, a3, a4, a5, a6, a7, a8, a9, a10, a11, a12, a13, a14, a15⟩, rfl, h14⟩
def shTy : List Ty := [.int .i64, .int .i64, .int .i64, .int .i64, .int .i64, .int .i64, .int .i64, .int .i64]
theorem shape49 : shapeT Try.prog 5 49 = some shTy := by kernel_rfl
theorem sh_dec {h : AH} : ∀ r, TyL h shTy r → ∃ x : Sh, r = x.enc := by
  rintro r ⟨_, _, rfl, ⟨a1, rfl, _⟩, _, _, rfl, ⟨a2, rfl, _⟩, _, _, rfl, ⟨a3, rfl, _⟩, _, _, rfl, ⟨a4, rfl, _⟩, _, _, rfl, ⟨a5, rfl, _⟩, _, _, rfl, ⟨a6, rfl, _⟩, _, _, rfl, ⟨a7, rfl, _⟩, _, _, rfl, ⟨a8, rfl, _⟩, rfl⟩
  exact ⟨⟨a1, a2, a3, a4, a5, a6, a7, a8⟩, rfl⟩
/-- A value of more than one cell. -/
theorem agg_of {ν : V} {xs : List AV} {v : Value} (h : VRs ν xs v.cells.toList) (hx : xs.length ≠ 1) : VR ν (.agg xs) v := by
  cases v <;> first | exact ⟨_, rfl, h⟩ | (exfalso; apply hx; rw [h.length]; rfl)
/-- Nothing is read yet. -/
theorem hr0 (w : World) : HR (fun _ => none) w.heap.size ⟨0, fun _ => none⟩ w :=
  ⟨Nat.le_refl _, (fun _ _ h => by cases h), (fun b x h => by simp [AH.get] at h), (fun b _ x _ _ _ h => by simp [AH.get] at h)⟩

set_option maxRecDepth 100000 in
theorem lifted (os : Os) (started : os.Started) (H : Type) (enc : TypeId × Value → H) :
    ReturnsInHanded {} Try.checked os 7 .any (Rows.fnExactPageOfSpec.pre6 enc Try.prog Try.f7 Rows.fnExactPageOfRow.domain false) (Rows.fnExactPageOfSpec.post enc Try.prog Try.f7 false true false false) := by
  refine returnsInHanded_of_change_sized (C := Try.checked) own started (by kernel_rfl) Try.func7
    (ChangeSpec.witness6 (enc := enc) (C := Try.checked) false ⟨#[], #[.slice none 0 0, .agg #[.int .i64 0, .int .i64 0, .int .i64 0, .int .i64 0, .int .i64 0, .int .i64 0, .int .i64 0, .int .i64 0], .int .i64 0, .int .i64 0], []⟩ 8 (by kernel_rfl) (by kernel_rfl) (by kernel_rfl) (by kernel_rfl)) ?_
  intro W base args ds gs before hval0 hW hcnd hsz0 _
  have hval : ∀ (j : Nat) t v, Try.f7.params[j]? = some t → args[j]? = some v → Value.okWide Try.prog W .any base t v := hval0
  have hW' := hW
  obtain ⟨p, q, hA0, hV, rfl, hfz, hnd⟩ := hW
  have hA : DataW.TrodAll enc Try.prog W 0 (fun _ => true) true Try.f7.params.toList args.toList ds p := hA0
  rw [Try.params7] at hA hval
  obtain ⟨v0, vs0, d0, ds0, p0, q0, hargs, rfl, rfl, h0, r0⟩ := trodAll_cons hA
  obtain ⟨v1, vs1, d1, ds1, p1, q1, rfl, rfl, rfl, h1, r1⟩ := trodAll_cons r0
  obtain ⟨v2, vs2, d2, ds2, p2, q2, rfl, rfl, rfl, h2, r2⟩ := trodAll_cons r1
  obtain ⟨v3, vs3, d3, ds3, p3, q3, rfl, rfl, rfl, h3, r3⟩ := trodAll_cons r2
  obtain ⟨rfl, rfl, rfl⟩ := trodAll_nil r3
  obtain rfl : args = #[v0, v1, v2, v3] := by cases args; simp_all
  obtain ⟨rfl, rfl⟩ := trodVars_none hV
  have k0 := h0
  have lt0 : ∀ x ∈ p0, x.block < W.heap.size := by obtain ⟨m, hm⟩ := k0; exact DataW.trod_lt m _ _ _ hm
  have k1 := h1
  have lt1 : ∀ x ∈ p1, x.block < W.heap.size := by obtain ⟨m, hm⟩ := k1; exact DataW.trod_lt m _ _ _ hm
  obtain ⟨a0, len0, cap0, rfl⟩ := okWide_slice Try.underlying22 (hval 0 22 v0 rfl rfl)
  obtain ⟨a2, rfl, rfl, rfl, w2⟩ := open_int Try.underlying2 (hval 2 2 v2 rfl rfl) h2
  obtain ⟨a3, rfl, rfl, rfl, w3⟩ := open_int Try.underlying2 (hval 3 2 v3 rfl rfl) h3
  obtain ⟨f0, hf0⟩ := h0
  obtain ⟨f1, hf1⟩ := h1
  obtain ⟨ν0, g0, xs, _, _, hH0, hVR0, hT⟩ := open_ty 5 22 _ shape22 f0 _ _ hf0 _ _ (hr0 W)
  obtain ⟨x0, _, rfl, hT0, rfl⟩ := hT
  obtain ⟨ν, h, ys, hν, hle, hH, hVR1, hS⟩ := open_ty 5 49 _ shape49 f1 _ _ hf1 _ _ hH0
  obtain ⟨sh, rfl⟩ := sh_dec ys hS
  obtain ⟨ns, hR0, hx0, hl0⟩ := Ra.of Nd.ok nd_dec hT0
  have hR0' : Ra 15 Nd.enc h x0 ns := hR0.le hle
  obtain ⟨u0, _, e0, hu0, _⟩ := hVR0
  have hVR : VRs ν [x0, .agg sh.enc, .int .i64 a2, .int .i64 a3] [.slice a0 len0 cap0, v1, .int .i64 a2, .int .i64 a3] :=
    ⟨_, _, rfl, (by cases e0; exact hu0.mono hν), _, _, rfl, agg_of hVR1 (by simp [Sh.enc]), _, _, rfl, rfl, _, _, rfl, rfl, rfl⟩
  have hc : ACalls ap noE 7 [x0, .agg sh.enc, .int .i64 a2, .int .i64 a3] h (fun v _ => v = .bool true) := lawPageOf_ok hR0' hx0 hl0 sh a2 a3 (fun _ => rfl)
  obtain ⟨_, hcall⟩ := calls_sound (P := Try.prog) (base := W.heap.size) (fun _ _ _ _ e => e.elim) hap hc
  refine (hcall ν W _ hH hVR).mono fun e W' ⟨u, v, h', ν', he, _, _, hv, hfr, hr⟩ => ?_
  subst hr
  have hu : u = .bool true := hv
  subst hu
  subst he
  have bel := hfr.below
  exact ⟨_, rfl, _, _, _, [], _, [], hW', trodAll_mk1 (shut_bool Try.underlying4 _), (trodAll_cons_mk (Below.trod laidOut (by kernel_rfl) (of_decide_eq_true (by kernel_rfl)) k0 bel lt0) (trodAll_cons_mk (Below.trod laidOut (by kernel_rfl) (of_decide_eq_true (by kernel_rfl)) k1 bel lt1) (trodAll_cons_mk (shut_int Try.underlying2 w2) (trodAll_cons_mk (shut_int Try.underlying2 w3) trodAll_mk0)))), rfl, bel.frame _, fun h => by cases h⟩

theorem over : Rows.fnExactPageOfRow.holds Try.pinned (OpenSpec.ofChange Rows.fnExactPageOfSpec) :=
  OpenClaim.holds_of_wide 7 Try.f7 rfl rfl rfl rfl rfl rfl rfl ⟨rfl, rfl, rfl, rfl, rfl⟩ rfl rfl rfl rfl rfl (by kernel_rfl) Try.func7 (by kernel_rfl)
    (of_decide_eq_true (by kernel_rfl)) (by unfold Func.isWrapper; first | (rw [if_pos (by decide +kernel)]; kernel_rfl) | (rw [if_neg (by decide +kernel)]; exact ⟨rfl, rfl⟩))
    (fun os started H enc _ => lifted os started H enc)
theorem proved : Rows.FnExactPageOfSaid := over
end Go.Proofs.Ytnaainlddcpfgaa.PageOfRow
namespace Go.Proofs.Ytnaainlddcpfgaa
/-- The row, under a short name, for the claim. -/
theorem fnExactPageOf_holds : Rows.FnExactPageOfSaid := PageOfRow.proved
#print axioms fnExactPageOf_holds
end Go.Proofs.Ytnaainlddcpfgaa
