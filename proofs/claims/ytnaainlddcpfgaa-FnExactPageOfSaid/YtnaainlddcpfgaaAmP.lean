/- Whole numbers, texts and bytes of the abstract machine. -/
import Derived.Test.YtnaainlddcpfgaaAmM
import Derived.Test.YtnaainlddcpfgaaAmO
namespace Go.Am
set_option linter.all false
open Go Go.RowKit
set_option linter.unusedVariables false
set_option linter.unusedSimpArgs false

/-- A loop, its invariant and measure; what follows a round is kept shut. -/
theorem awp_loop2 {C : AQ} (hC : C.Mono) {c : AC} {Q : AX → S → AH → Prop} (I : Nat → S → AH → Prop)
    (round : ∀ n s h, I n s h → ∀ K : AX → S → AH → Prop, (∀ m s' h', m < n → I m s' h' → K .normal s' h') → (∀ i, K (.exit i) = Q (.exit i)) → K .ret = Q .ret → awp C c K s h)
    {n : Nat} {s : S} {h : AH} (hI : I n s h) : awp C (.loop c) Q s h :=
  awp_loop hC I (fun n s h hi => round n s h hi _ (fun m s' h' hm hi' => ⟨m, hm, hi'⟩) (fun _ => rfl) rfl) hI

theorem wrap_i64 {n : Int} (h0 : -9223372036854775808 ≤ n) (h1 : n ≤ 9223372036854775807) : IntKind.wrap .i64 n = n := by
  simp [IntKind.wrap, IntKind.bits, IntKind.signed]
  omega
theorem wrap_u8 {n : Int} (h0 : 0 ≤ n) (h1 : n ≤ 255) : IntKind.wrap .u8 n = n := by
  simp [IntKind.wrap, IntKind.bits, IntKind.signed]
  omega
theorem tmod_nat (a b : Nat) : Int.tmod (a : Int) (b : Int) = ((a % b : Nat) : Int) := rfl
theorem tdiv_nat (a b : Nat) : Int.tdiv (a : Int) (b : Int) = ((a / b : Nat) : Int) := rfl
theorem tmod_pos {a b : Int} (h : 0 ≤ a) : Int.tmod a b = a % b := Int.tmod_eq_emod_of_nonneg h
theorem tdiv_pos {a b : Int} (h : 0 ≤ a) : Int.tdiv a b = a / b := Int.tdiv_eq_ediv_of_nonneg h
theorem binStr_add (a b : ByteArray) (h : a.size + b.size ≤ 9223372036854775807) : binStr .add a b = some (.str (a ++ b)) := by
  show (if ((a.size + b.size : Nat) : Int) > IntKind.i64.max then none else some (AV.str (a ++ b))) = _
  rw [if_neg]
  simp [IntKind.max, IntKind.signed, IntKind.bits]
  omega
theorem read_new_self (h : AH) (own : Bool) (l : List AV) (o n : Nat) : (h.new (.cells own l)).read h.next o n = if o + n ≤ l.length then some ((l.drop o).take n) else none := by
  unfold AH.read; rw [AH.get_new, if_pos rfl]
theorem b2s_lit1 (m : Int) (h0 : 0 ≤ m) (h1 : m ≤ 255) (c : Option Nat) (h : AH) : b2sA (.sl h.next 0 1 1 c) (h.new (.cells true [.int .u8 m])) = some (.str ⟨#[UInt8.ofNat m.toNat]⟩, h.new (.cells true [.int .u8 m])) := by
  have e : m = max m 0 % 256 := by omega
  simp [b2sA, read_new_self, bytesA]
  rw [if_pos e]
theorem AH.new_le_of {h0 h : AH} (hle : h0.le h) (x : AB) : h0.le (h.new x) := AH.le_trans hle (AH.le_new h x)

/-! ### rows that are handed in -/
structure Ra {α : Type} (es : Nat) (enc : α → List AV) (h : AH) (v : AV) (xs : List α) : Prop where
  ok : EncOk es enc
  at_ : (v = .nils ∧ xs = []) ∨ ∃ b o, v = .sl b o es xs.length none ∧ (xs = [] ∨ h.read b o (xs.length * es) = some (xs.flatMap enc))
section
variable {α : Type} {es : Nat} {enc : α → List AV} {h h' : AH} {v : AV} {xs : List α}
theorem Ra.rs (H : Ra es enc h v xs) (hx : 0 < xs.length) : Rs es enc h v xs := by
  rcases H.at_ with ⟨rfl, rfl⟩ | ⟨b, o, rfl, e | e⟩
  · simp at hx
  · rw [e] at hx; simp at hx
  · exact ⟨H.ok, .inr ⟨b, o, none, rfl, e⟩, fun _ _ _ _ _ e => by cases e⟩
theorem Ra.le (H : Ra es enc h v xs) (hle : h.le h') : Ra es enc h' v xs := by
  refine ⟨H.ok, ?_⟩
  rcases H.at_ with hn | ⟨b, o, rfl, e⟩
  · exact .inl hn
  · exact .inr ⟨b, o, rfl, e.imp id (AH.le_read hle)⟩
theorem Ra.len (H : Ra es enc h v xs) (h2 : AH) : lenA false v h2 = some (.int .i64 xs.length, h2) := by
  rcases H.at_ with ⟨rfl, rfl⟩ | ⟨b, o, rfl, e⟩ <;> simp [lenA]
theorem Ra.iaddr (H : Ra es enc h v xs) (h2 : AH) (k : IntKind) (j : Int) (h0 : 0 ≤ j) (h1 : j < xs.length) : iaddrA es v (.int k j) h2 = some (elt es v j.toNat 0, h2) :=
  (H.rs (by omega)).iaddr h2 k j h0 h1
theorem Ra.load [Inhabited α] (H : Ra es enc h v xs) (i off n : Nat) (hi : i < xs.length) (hn : off + n ≤ es) : loadA true n (elt es v i off) h = some (.agg (((enc (nth xs i)).drop off).take n), h) :=
  (H.rs (by omega)).load i off n hi hn
theorem Ra.load1 [Inhabited α] (H : Ra es enc h v xs) (i off : Nat) (hi : i < xs.length) (hn : off < es) : loadA false 1 (elt es v i off) h = some ((enc (nth xs i)).getD off .any, h) :=
  (H.rs (by omega)).load1 i off hi hn
theorem rows_dec {e : List Ty} {ok : α → Prop} (hdec : ∀ r, TyL h e r → ∃ x, r = enc x ∧ ok x) : ∀ rows : List (List AV), (∀ r ∈ rows, TyL h e r) → ∃ xs : List α, rows = xs.map enc ∧ ∀ x ∈ xs, ok x
  | [], _ => ⟨[], rfl, fun x hx => by cases hx⟩
  | r :: rows, hr => by
    obtain ⟨x, rfl, hx⟩ := hdec r (hr r (by simp))
    obtain ⟨xs, rfl, hxs⟩ := rows_dec hdec rows (fun r' hr' => hr r' (by simp [hr']))
    refine ⟨x :: xs, rfl, fun y hy => ?_⟩
    rcases List.mem_cons.1 hy with rfl | hy
    · exact hx
    · exact hxs y hy
theorem Ra.of {e : List Ty} {ok : α → Prop} (E : EncOk es enc) (hdec : ∀ r, TyL h e r → ∃ x, r = enc x ∧ ok x) (H : TyC h (.sl es e) v) : ∃ xs : List α, Ra es enc h v xs ∧ (∀ x ∈ xs, ok x) ∧ xs.length ≤ maxLen := by
  rcases H with rfl | ⟨b, rows, rfl, hg, hl, hr⟩
  · exact ⟨[], ⟨E, .inl ⟨rfl, rfl⟩⟩, fun x hx => (by cases hx), by simp⟩
  · obtain ⟨xs, rfl, hxs⟩ := rows_dec hdec rows hr
    refine ⟨xs, ⟨E, .inr ⟨b, 0, by simp, ?_⟩⟩, hxs, by simpa using hl⟩
    rcases hg with hg | hg
    · left; simpa using hg
    · right
      rw [← List.flatMap_def] at hg
      unfold AH.read
      rw [hg]
      simp [E.flen]
      exact List.take_of_length_le (by rw [E.flen]; exact Nat.le_refl _)
end
attribute [simp] binInt_quo binInt_rem
end Go.Am
