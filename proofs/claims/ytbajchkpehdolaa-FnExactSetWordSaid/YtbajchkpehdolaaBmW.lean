/- Templates: copies that are one's own. -/
import Derived.Test.YtbajchkpehdolaaBmV
namespace Go.Bm
set_option linter.all false
open Go Go.RowKit
set_option linter.unusedVariables false
set_option linter.unusedSimpArgs false

theorem Tw.one {h : AH} : ∀ (d : Nat) {x y : AV} {F : List Nat}, x.one = true → Tw h d x y F → y.one = true := by
  intro d x y F hx H
  cases d with
  | zero => exact H.elim
  | succ d =>
    cases x <;> simp only [Tw] at H <;> try (exact H.elim)
    case agg l => simp [AV.one] at hx
    case fs c rows => rcases H.2 with ⟨rfl | rfl, _⟩ | ⟨b, es, l, F', c', rfl, _⟩ <;> rfl
    all_goals (obtain ⟨rfl, _⟩ := H; rfl)
theorem TwL.one {h : AH} {d : Nat} : ∀ {xs ys : List AV} {F : List Nat}, xs.all AV.one = true → TwL (Tw h d) xs ys F → ys.all AV.one = true
  | [], _, _, _, ⟨e, _⟩ => by rw [e]; rfl
  | x :: xs, _, _, hx, ⟨y, zs, F1, F2, e1, e2, h1, h2⟩ => by
    rw [List.all_cons, Bool.and_eq_true] at hx
    rw [e1, List.all_cons, h1.one d hx.1, TwL.one hx.2 h2]; rfl

theorem tplToR_ok {α : Type} [Inhabited α] {es : Nat} {enc : α → List AV} (E : EncOk es enc) (hes : 0 < es) {ap : FuncId → Option AFunc} {f : FuncId} {bytes : Nat} {zero : List AV} {g : Bool} (hg : elW g es) (hz : zero.length = es) (hz1 : zero.all AV.one = true)
    {xs : List α} (hb : xs.length ≤ 1048576) (hby : bytes ≤ 1048576) (d : Nat) (h : AH) (c : Option Nat)
    (hf : ∀ i, i < xs.length → ∀ (h1 : AH) (R : AV → AH → Prop), (∀ h' v F, NewL h1 h' d (enc (nth xs i)) v.cells F → R v h') → ACalls ap noE f [elv g (enc (nth xs i))] h1 R)
    (R : AV → AH → Prop) (hR : ∀ h' y F, New h h' (d + 1) (.fs none (xs.map enc)) y F → R y h') :
    abody (ACalls ap noE) (tplTo es bytes zero g .raw f) [.fs c (xs.map enc)] h R := by
  have hbl : bytes * xs.length ≤ 1048576 * 1048576 := Nat.mul_le_mul hby hb
  have hms := mslice_eq es bytes zero .i64 .i64 xs.length h hz hz1 (by omega) (by omega)
  simp [tplTo, hms]
  have hrl : ∀ n, (rep n zero).length = n * es := fun n => by
    induction n with
    | zero => simp [rep]
    | succ n ih => rw [rep, List.length_append, ih, hz, Nat.succ_mul]; omega
  have hN := Par.make (xs := xs) (enc := enc) (h0 := h) E (AH.le_refl h) rfl (rep xs.length zero) (hrl _) d
  revert hN
  generalize h.new _ = h1
  generalize AV.sl h.next 0 es xs.length (some xs.length) = u
  intro hN
  refine awp_loop2 ca_mono (fun n s h' => ∃ (i : Nat) (rest : List AV) (F : List Nat), n = xs.length - i ∧ i ≤ xs.length ∧ (s 0 = .fs c (xs.map enc) ∧ s 3 = u ∧ s 4 = .int .i64 i) ∧ Par h h' d es enc u xs i rest F) ?_ (n := xs.length) ⟨0, _, _, by simp, by simp, by simp, hN⟩
  rintro n s h' ⟨i, rest, F, rfl, hi, ⟨s0, s3, s4⟩, hN'⟩ K2 hK hE hQ
  simp [s0, s3, s4]
  by_cases hlt : i < xs.length
  · have a1 := fun c k => E.iaddr hes c xs k (i : Int) h' (by omega) (by omega)
    simp [hlt, s0, s3, s4, a1, elv_load E hg]
    refine hf i hlt h' _ fun h2 v F2 N => ?_
    have a2 : iaddrA es u (.int .i64 (i : Int)) h2 = some (elt es u i 0, h2) := by
      have := hN'.iaddr h2 .i64 (i : Int) (by omega) (by omega); simpa using this
    have hro := TwL.one (E.one _) N.tw
    have hvl : v.cells.length = es := by rw [N.tw.length, E.len]
    have hrest : rest.length = (xs.length - i) * es := hN'.rl
    have : 1 * es ≤ (xs.length - i) * es := Nat.mul_le_mul_right _ (by omega)
    obtain ⟨h3, hst, hN3, _, _⟩ := hN'.step hlt N.le 0 es v hvl (by omega) hro (setAll_whole _ _ (by rw [hvl, List.length_take]; omega)) hro N.tw N.nd N.new
    have hw1 : IntKind.wrap .i64 ((i : Int) + 1) = (i : Int) + 1 := wrap_i64 (by omega) (by omega)
    simp [s0, s3, s4, a2, hst, hw1]
    exact hK (xs.length - (i + 1)) _ _ (by omega) ⟨i + 1, _, _, rfl, by omega, ⟨by simp [s0], by simp [s3], by simp⟩, hN3⟩
  · obtain rfl : i = xs.length := by omega
    simp [hE, s3]
    exact hR _ _ _ hN'.done

theorem tplToIR_ok {α : Type} [Inhabited α] {enc : α → List AV} (E : EncF 1 enc) (Fl : Flat enc) {ap : FuncId → Option AFunc} {bytes : Nat} {z : AV} (hz1 : z.one = true)
    {xs : List α} (hb : xs.length ≤ 1048576) (hby : bytes ≤ 1048576) (d : Nat) (h : AH) (c : Option Nat) (R : AV → AH → Prop) (hR : ∀ h' y F, New h h' (d + 2) (.fs none (xs.map enc)) y F → R y h') :
    abody (ACalls ap noE) (tplToI bytes z) [.fs c (xs.map enc)] h R := by
  have hg : elW false 1 := .inr rfl
  have hbl : bytes * xs.length ≤ 1048576 * 1048576 := Nat.mul_le_mul hby hb
  have hz2 : [z].all AV.one = true := by rw [List.all_cons, hz1]; rfl
  have hms := mslice_eq 1 bytes [z] .i64 .i64 xs.length h rfl hz2 (by omega) (by omega)
  simp [tplToI, hms]
  have hrl : ∀ n, (rep n [z]).length = n * 1 := fun n => by
    induction n with
    | zero => simp [rep]
    | succ n ih => rw [rep, List.length_append, ih]; simp; omega
  have hN := Par.make (xs := xs) (enc := enc) (h0 := h) E.toEncOk (AH.le_refl h) rfl (rep xs.length [z]) (hrl _) (d + 1)
  revert hN
  generalize h.new _ = h1
  generalize AV.sl h.next 0 1 xs.length (some xs.length) = u
  intro hN
  refine awp_loop2 ca_mono (fun n s h' => ∃ (i : Nat) (rest : List AV) (F : List Nat), n = xs.length - i ∧ i ≤ xs.length ∧ (s 0 = .fs c (xs.map enc) ∧ s 3 = u ∧ s 4 = .int .i64 i) ∧ Par h h' (d + 1) 1 enc u xs i rest F) ?_ (n := xs.length) ⟨0, _, _, by simp, by simp, by simp, hN⟩
  rintro n s h' ⟨i, rest, F, rfl, hi, ⟨s0, s3, s4⟩, hN'⟩ K2 hK hE hQ
  simp [s0, s3, s4]
  by_cases hlt : i < xs.length
  · have a1 := fun c k => E.iaddr (by omega) c xs k (i : Int) h' (by omega) (by omega)
    have a2 : iaddrA 1 u (.int .i64 (i : Int)) h' = some (elt 1 u i 0, h') := by
      have := hN'.iaddr h' .i64 (i : Int) (by omega) (by omega); simpa using this
    have hcl := elv_cells hg (E.len (nth xs i)) (E.one (nth xs i))
    have hrest : rest.length = (xs.length - i) * 1 := hN'.rl
    obtain ⟨h3, hst, hN3, _, _⟩ := hN'.step hlt (AH.le_refl h') 0 1 (elv false (enc (nth xs i))) (by rw [hcl, E.len]) (by omega) (by rw [hcl]; exact E.one _) (setAll_whole _ _ (by rw [hcl, E.len, List.length_take]; omega)) (by rw [hcl]; exact E.one _) (by rw [hcl]; exact Fl h' d _) List.nodup_nil (fun b hb => by cases hb)
    have hw1 : IntKind.wrap .i64 ((i : Int) + 1) = (i : Int) + 1 := wrap_i64 (by omega) (by omega)
    simp [hlt, s0, s3, s4, a1, a2, elv_load E.toEncOk hg, hst, hw1]
    exact hK (xs.length - (i + 1)) _ _ (by omega) ⟨i + 1, _, _, rfl, by omega, ⟨by simp [s0], by simp [s3], by simp⟩, hN3⟩
  · obtain rfl : i = xs.length := by omega
    simp [hE, s3]
    exact hR _ _ _ hN'.done
end Go.Bm
