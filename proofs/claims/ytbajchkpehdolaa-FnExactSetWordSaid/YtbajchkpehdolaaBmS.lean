/- Copies by append, of one's own. -/
import Derived.Test.YtbajchkpehdolaaBmQ
namespace Go.Bm
set_option linter.all false
open Go Go.RowKit
set_option linter.unusedVariables false
set_option linter.unusedSimpArgs false

/-- slices.Clone -/
def tplClone (es bytes : Nat) (zero : List AV) : AFunc := ⟨[], 1, [(.tmp 2)], (.seq (.reg [⟨(some 2), none, (.mov (.c .nils))⟩]) (.seq (.seq (.reg [⟨(some 3), none, (.mov (.t 0))⟩, ⟨(some 4), none, (.eqnil 0 false (.t 3) (.c .nils))⟩]) (.cond (.t 4) (.seq (.reg [⟨(some 2), none, (.mov (.c .nils))⟩]) .ret) .skip)) (.seq (.reg [⟨(some 5), none, (.bsliceF 0 es zero [])⟩, ⟨(some 6), none, (.mov (.t 0))⟩, ⟨(some 7), none, (.append es bytes (.t 5) (.t 6))⟩, ⟨(some 2), none, (.mov (.t 7))⟩]) .ret)))⟩
theorem tplClone_ok {α : Type} {es : Nat} {enc : α → List AV} (E : EncOk es enc) {ap : FuncId → Option AFunc} {bytes : Nat} {zero : List AV} {xs : List α} (hb : xs.length ≤ 1048576) (hby : bytes ≤ 1048576) (h : AH) (c : Option Nat) (R : AV → AH → Prop)
    (hR : ∀ h' y, Own h es enc h' y xs → R y h') : abody (ACalls ap noE) (tplClone es bytes zero) [.fs c (xs.map enc)] h R := by
  have hbl : xs.length * bytes ≤ 1048576 * 1048576 := Nat.mul_le_mul hb hby
  obtain ⟨v', h', e1, O, _, _⟩ := (Own.lit0 E (AH.le_refl h)).appendR c xs bytes (by simpa using by omega) (by simp; omega)
  rw [List.nil_append] at O
  cases xs with
  | nil =>
    simp [tplClone]
    simp at e1
    refine ⟨?_, ?_⟩
    · simp [e1]; exact hR _ _ O
    · exact hR _ _ (Own.nils E (AH.le_refl h))
  | cons x l =>
    simp at e1
    simp [tplClone, e1]
    exact hR _ _ O

section
variable {α : Type} [Inhabited α] {h0 h h1 : AH} {d es : Nat} {enc : α → List AV} {y : AV} {xs : List α} {F : List Nat}
/-- Rows that grow: all of them whole. -/
theorem Par.grow1 (H : Par h0 h d es enc y xs xs.length [] F) (hle : h.le h1) {F2 : List Nat} {row : List AV} {x : α} (hl : row.length = es) (ho : row.all AV.one = true) (N : TwL (Tw h1 d) (enc x) row F2) (nd : F2.Nodup) (new : ∀ b ∈ F2, h.next ≤ b)
    {z : AV} {bytes : Nat} (hz : srcA h1 es z = some (1, row)) (hb : (xs.length + 1) * bytes ≤ 2 ^ 47) (hb2 : xs.length + 1 ≤ 2 ^ 47) :
    ∃ v' h2 F', appendA es bytes y z h1 = some (v', h2) ∧ Par h0 h2 d es enc v' (xs ++ [x]) (xs ++ [x]).length [] F' ∧ h1.next ≤ h2.next ∧ ∀ k, k < h1.next → k ∉ F → h2.get k = h1.get k := by
  have hF := H.lt
  have hrow : 0 < 1 := Nat.one_pos
  have hsw : ∀ k, (xs ++ [x]).take k = (xs ++ [x]).take k := fun _ => rfl
  rcases H.at_ with ⟨rfl, rfl, e0⟩ | ⟨b, c, l1, F1, e1, e2, e3, e4, e5⟩
  · have hst : ∃ v' , appendA es bytes y z h1 = some (v', h1.new (.cells true row)) ∧ v' = .sl h1.next 0 es 1 none := by
      rcases e0 with rfl | rfl
      · exact ⟨_, by simp only [appendA, hz]; rw [if_neg (by omega), if_pos ⟨by simpa using hb, by simpa using hb2, ho⟩], rfl⟩
      · refine ⟨_, ?_, rfl⟩
        simp only [appendA, hz]
        rw [if_neg (by omega), if_pos ⟨by simp, by simpa using hb, by simpa using hb2, ho, rfl⟩]; rfl
    obtain ⟨v', e6, rfl⟩ := hst
    have hlt2 : ∀ b ∈ F2, b < h1.next := N.mem fun _ _ _ t => t.lt d
    refine ⟨_, _, h1.next :: F2, e6, ⟨H.ok, AH.le_new_of (AH.le_trans H.le hle) _, .inr ⟨h1.next, none, row, F2, rfl, by rw [AH.get_new, if_pos rfl, List.append_nil], ho, ?_, rfl⟩, by simp, List.nodup_cons.2 ⟨fun hm => by have := hlt2 _ hm; omega, nd⟩, fun b hb => ?_, fun _ _ _ _ _ e => by cases e; exact .inl rfl⟩, Nat.le_succ _, fun k hk _ => by rw [AH.get_new, if_neg (by omega)]⟩
    · simp only [List.nil_append, List.length_singleton, List.take_succ_cons, List.take_zero, List.flatMap_cons, List.flatMap_nil, List.append_nil]
      exact N.frame fun k hk => by rw [AH.get_new, if_neg (by have := hlt2 k hk; omega)]
    · rcases List.mem_cons.1 hb with rfl | hb
      · exact Nat.le_trans H.le.1 hle.1
      · exact Nat.le_trans H.le.1 (new b hb)
  · have hll := e4.length
    rw [List.take_length, H.ok.flen] at hll
    rw [List.append_nil] at e2
    have e2' := AH.le_of_get hle e2
    have hbn := AH.get_lt e2
    have hst : ∃ h2, appendA es bytes y z h1 = some (.sl h1.next 0 es (xs.length + 1) none, h2) ∧ h1.next ≤ h2.next ∧ h2.get h1.next = some (.cells true (l1 ++ row)) ∧ ∀ k, k < h1.next → k ≠ b → h2.get k = h1.get k := by
      subst e1
      have hd : (l1.drop 0).take (xs.length * es) = l1 := by rw [List.drop_zero, List.take_of_length_le (by omega)]
      rcases H.cap _ _ _ _ _ rfl with rfl | rfl
      · refine ⟨(h1.upd b none).new (.cells true (l1 ++ row)), ?_, Nat.le_succ _, (AH.get_new (h1.upd b none) _ h1.next).trans (if_pos rfl), fun k hk hkb => ?_⟩
        · simp only [appendA, hz, ne_eq, not_true, if_false, e2']
          rw [if_neg (by omega), if_pos ⟨by omega, hb, hb2, ho⟩, if_pos trivial, hd]
        · rw [AH.get_new, if_neg (show ¬ k = (h1.upd b none).next by show ¬ k = h1.next; omega), AH.get_kill, if_neg hkb]
      · refine ⟨h1.new (.cells true (l1 ++ row)), ?_, Nat.le_succ _, by rw [AH.get_new, if_pos rfl], fun k hk hkb => ?_⟩
        · simp only [appendA, hz, ne_eq, not_true, if_false, e2']
          rw [if_neg (by omega), if_pos ⟨by omega, hb, hb2, ho⟩, if_pos (by omega), hd]
        · rw [AH.get_new, if_neg (by omega)]
    obtain ⟨h2, e6, hnx, hg, keep⟩ := hst
    have hlt2 : ∀ b ∈ F2, b < h1.next := N.mem fun _ _ _ t => t.lt d
    have hnd := H.nd
    rw [e5] at hnd
    obtain ⟨hbF, nd1⟩ := List.nodup_cons.1 hnd
    have hF1 : ∀ k ∈ F1, k < h.next ∧ h0.next ≤ k := fun k hk => ⟨hF k (by rw [e5]; simp [hk]), H.new k (by rw [e5]; simp [hk])⟩
    have hb0 := H.new b (by rw [e5]; simp)
    refine ⟨_, h2, h1.next :: (F1 ++ F2), e6, ⟨H.ok, ⟨Nat.le_trans H.le.1 (Nat.le_trans hle.1 hnx), fun k hk => ?_⟩, .inr ⟨h1.next, none, l1 ++ row, F1 ++ F2, by simp, by rw [hg, List.append_nil], by rw [List.all_append, e3, ho]; rfl, ?_, rfl⟩, by simp, List.nodup_cons.2 ⟨fun hm => ?_, nodup_app nd1 nd (fun k hk => (hF1 k hk).1) new⟩, fun k hk => ?_, fun _ _ _ _ _ e => by cases e; exact .inl rfl⟩, hnx, fun k hk hkF => keep k hk fun e => hkF (by rw [e5, e]; simp)⟩
    · rw [keep k (Nat.lt_of_lt_of_le hk (Nat.le_trans H.le.1 hle.1)) (by omega), hle.2 k (Nat.lt_of_lt_of_le hk H.le.1)]
      exact H.le.2 k hk
    · rw [List.take_length, List.flatMap_append]
      rw [List.take_length] at e4
      refine TwL.append (e4.frame fun k hk => ?_) ?_
      · have := hF1 k hk
        rw [keep k (Nat.lt_of_lt_of_le this.1 hle.1) (fun e => hbF (e ▸ hk))]
        exact hle.2 k this.1
      · simp only [List.flatMap_cons, List.flatMap_nil, List.append_nil]
        exact N.frame fun k hk => keep k (hlt2 k hk) (fun e => by have := new k hk; omega)
    · have hh := hle.1
      rcases List.mem_append.1 hm with hm | hm
      · have := (hF1 _ hm).1; omega
      · have := hlt2 _ hm; omega
    · have hh := hle.1
      have hh0 := H.le.1
      rcases List.mem_cons.1 hk with rfl | hk
      · omega
      · rcases List.mem_append.1 hk with hk | hk
        · exact (hF1 k hk).2
        · have := new k hk; omega
theorem Par.nils (E : EncOk es enc) (hle : h0.le h) (d : Nat) : Par h0 h d es enc .nils ([] : List α) 0 [] [] := ⟨E, hle, .inl ⟨rfl, rfl, .inl rfl⟩, by simp, List.nodup_nil, (fun b hb => by cases hb), fun _ _ _ _ _ e => by cases e⟩
end
end Go.Bm
