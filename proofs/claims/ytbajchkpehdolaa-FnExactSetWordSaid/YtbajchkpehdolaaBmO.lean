/- What a call is handed, read as frozen values: whole numbers, bools, strings, structs of such, slices of such, slices within slices. -/
import Derived.Test.YtbajchkpehdolaaBmH
import Derived.ChangeArms
namespace Go.Bm
set_option linter.all false
open Go Go.RowKit
set_option linter.unusedVariables false
set_option linter.unusedSimpArgs false

/-- The kinds of cells. -/
inductive Ty where
  | bool
  | int (k : IntKind)
  | str
  | sl (es : Nat) (e : List Ty)

mutual
def TyC : Ty → AV → Prop
  | .bool, x => ∃ b, x = .bool b
  | .int k, x => ∃ n, x = .int k n ∧ (Lit.int k n).wf = true
  | .str, x => ∃ s : ByteArray, x = .str s ∧ s.size ≤ maxLen
  | .sl es e, x => ∃ rows : List (List AV), x = .fs none rows ∧ rows.length ≤ maxLen ∧ ∀ r ∈ rows, TyL e r
def TyL : List Ty → List AV → Prop
  | [], l => l = []
  | t :: ts, l => ∃ x xs, l = x :: xs ∧ TyC t x ∧ TyL ts xs
end

theorem TyC.one {t : Ty} {x : AV} (H : TyC t x) : x.one = true := by
  cases t with
  | bool => obtain ⟨b, rfl⟩ := H; rfl
  | int k => obtain ⟨n, rfl, _⟩ := H; rfl
  | str => obtain ⟨s, rfl, _⟩ := H; rfl
  | sl es e => obtain ⟨rows, rfl, _⟩ := H; rfl
theorem TyL.one : ∀ {ts : List Ty} {l : List AV}, TyL ts l → l.all AV.one = true
  | [], _, H => by rw [show _ = [] from H]; rfl
  | t :: ts, _, ⟨y, ys, e, a, b⟩ => by rw [e, List.all_cons, a.one, TyL.one b]; rfl
theorem TyL.length : ∀ {ts : List Ty} {l : List AV}, TyL ts l → l.length = ts.length
  | [], _, H => by rw [show _ = [] from H]; rfl
  | t :: ts, _, ⟨y, ys, e, a, b⟩ => by rw [e]; simp [TyL.length b]
theorem TyL.append : ∀ {ts us : List Ty} {l m : List AV}, TyL ts l → TyL us m → TyL (ts ++ us) (l ++ m)
  | [], us, l, m, H, K => by rw [show l = [] from H]; exact K
  | t :: ts, us, _, m, ⟨y, ys, e, a, b⟩, K => ⟨y, ys ++ m, by rw [e]; rfl, a, TyL.append b K⟩
mutual
theorem TyC.clo : ∀ (t : Ty) (x : AV), TyC t x → x.clo = true
  | .bool, _, ⟨b, e⟩ => by rw [e]; rfl
  | .int k, _, ⟨n, e, _⟩ => by rw [e]; rfl
  | .str, _, ⟨s, e, _⟩ => by rw [e]; rfl
  | .sl es ts, _, ⟨rows, e, _, h⟩ => by
    rw [e]
    show cloLL rows = true
    rw [cloLL_iff]
    exact fun r hr => TyL.clo ts r (h r hr)
theorem TyL.clo : ∀ (ts : List Ty) (l : List AV), TyL ts l → cloL l = true
  | [], _, H => by rw [show _ = [] from H]; rfl
  | t :: ts, _, ⟨y, ys, e, a, b⟩ => by rw [e]; simp only [cloL, TyC.clo t y a, TyL.clo ts ys b]; rfl
end

/-! ### the kinds of a type's cells -/
def shapeFs (P : Program) (sh : TypeId → Option (List Ty)) : Nat → List Field → Option (List Ty)
  | _, [] => some []
  | off, f :: r => match sh f.type with
    | some l => if f.offset = off ∧ P.cellsOf f.type = l.length then (shapeFs P sh (off + l.length) r).map (l ++ ·) else none
    | none => none
def shapeT (P : Program) : Nat → TypeId → Option (List Ty)
  | 0, _ => none
  | n + 1, t => match P.underlying t with
    | some .bool => some [.bool]
    | some (.int k) => some [.int k]
    | some .string => some [.str]
    | some (.slice e) => match shapeT P n e with
      | some l => if P.cellsOf e = l.length ∧ 0 < l.length then some [.sl l.length l] else none
      | none => none
    | some (.struct fs) => match shapeFs P (shapeT P n) 0 fs.toList with
      | some l => if P.cellsOf t = l.length then some l else none
      | none => none
    | _ => none

/-! ### memory that is handed in -/
/-- All that is there will not turn. -/
def V.all (w : World) : V := ⟨fun _ => none, fun g k => if g < w.heap.size then w.cell? ⟨g, k, none⟩ else none⟩
theorem hr0 (w : World) : HR (V.all w) w.heap.size AH.nil w :=
  ⟨Nat.le_refl _, (fun _ _ h => by cases h), (fun b x h => by simp [AH.get, AH.nil] at h), (fun b _ x _ _ _ h => by simp [AH.get, AH.nil] at h)⟩
theorem hz0 (w : World) : HZ (V.all w) AH.nil w := by
  refine ⟨fun g k v h => ?_, fun b x p h => ?_⟩
  · simp only [V.all] at h
    split at h
    · rename_i hg; exact ⟨hg, h⟩
    · cases h
  · simp [AH.get, AH.nil] at h

theorem cell_norm {w : World} {a : Addr} {n : Nat} {v : Value} (h : w.cell? (a.add n) = some v) : w.cell? ⟨a.block, a.off + n, none⟩ = some v ∧ a.block < w.heap.size := by
  have hb : (a.add n).block = a.block := by unfold Addr.add; split <;> rfl
  have hlt : a.block < w.heap.size := by
    unfold World.cell? at h
    rw [hb] at h
    cases e : w.heap[a.block]? with
    | none => rw [e] at h; cases h
    | some x => exact (Array.getElem?_eq_some_iff.1 e).1
  refine ⟨?_, hlt⟩
  unfold Addr.add at h
  split at h
  · rename_i e
    subst e
    cases a with
    | mk b o s =>
      cases s with
      | none => exact h
      | some s =>
        unfold World.cell? at h
        split at h
        · simp at h
        · cases h
  · exact h
theorem spot_none {w : World} {a : Addr} {v : Value} (h : w.cell? a = some v) : a.spot = none := by
  cases a with
  | mk b o s =>
    cases s with
    | none => rfl
    | some s =>
      unfold World.cell? at h
      split at h
      · simp at h
      · cases h
theorem add_add (a : Addr) (p q : Nat) : (a.add p).add q = a.add (p + q) := by
  unfold Addr.add
  by_cases hp : p = 0 <;> by_cases hq : q = 0 <;> simp [hp, hq, Nat.add_assoc]

section
variable {H : Type} {enc : TypeId × Value → H} {P : Program} {w : World}

theorem open_fields {sh : TypeId → Option (List Ty)} {n : Nat}
    (ih : ∀ (t : TypeId) (T : List Ty), sh t = some T → ∀ (cs : List Value) (x : DataW H × List MemPlace), DataW.trod enc P w 0 (fun _ => true) true n t cs = some x → ∃ xs, VRs (V.all w) xs cs ∧ TyL T xs) (cs : List Value) :
    ∀ (fs : List Field) (off : Nat) (T : List Ty), shapeFs P sh off fs = some T → (∀ f ∈ fs, ∃ y, DataW.trod enc P w 0 (fun _ => true) true n f.type ((cs.drop f.offset).take (P.cellsOf f.type)) = some y) →
      ∃ xs, VRs (V.all w) xs ((cs.drop off).take T.length) ∧ TyL T xs
  | [], off, T, hT, _ => by
    cases hT
    exact ⟨[], by simp [VRs], rfl⟩
  | f :: r, off, T, hT, hf => by
    unfold shapeFs at hT
    split at hT
    · rename_i l hl
      split at hT
      · rename_i hc
        obtain ⟨ho, hce⟩ := hc
        cases hr : shapeFs P sh (off + l.length) r with
        | none => rw [hr] at hT; cases hT
        | some T2 =>
          rw [hr] at hT
          simp only [Option.map_some, Option.some.injEq] at hT
          subst hT
          obtain ⟨y, hy⟩ := hf f (by simp)
          rw [ho, hce] at hy
          obtain ⟨x1, d1, e1⟩ := ih _ _ hl _ _ hy
          obtain ⟨x2, d2, e2⟩ := open_fields ih cs r (off + l.length) T2 hr (fun g hg => hf g (by simp [hg]))
          refine ⟨x1 ++ x2, ?_, e1.append e2⟩
          rw [List.length_append, List.take_add, List.drop_drop]
          exact d1.append d2
      · cases hT
    · cases hT

theorem open_ty : ∀ (m : Nat) (t : TypeId) (T : List Ty), shapeT P m t = some T → ∀ (n : Nat) (cs : List Value) (x : DataW H × List MemPlace), DataW.trod enc P w 0 (fun _ => true) true n t cs = some x → ∃ xs, VRs (V.all w) xs cs ∧ TyL T xs
  | 0, t, T, hT, _, _, _, _ => by cases hT
  | m + 1, t, T, hT, n, cs, x, hx => by
    unfold shapeT at hT
    split at hT
    · rename_i hu
      cases hT
      obtain ⟨b, rfl, _⟩ := DataW.trod_bool hu hx
      exact ⟨[.bool b], ⟨_, _, rfl, rfl, rfl⟩, ⟨_, _, rfl, ⟨b, rfl⟩, rfl⟩⟩
    · rename_i k hu
      cases hT
      obtain ⟨z, rfl, _, hw⟩ := DataW.trod_int hu hx
      exact ⟨[.int k z], ⟨_, _, rfl, rfl, rfl⟩, ⟨_, _, rfl, ⟨z, rfl, hw⟩, rfl⟩⟩
    · rename_i hu
      cases hT
      obtain ⟨s, rfl, _, hs⟩ := DataW.trod_string hu hx
      exact ⟨[.str s], ⟨_, _, rfl, rfl, rfl⟩, ⟨_, _, rfl, ⟨s, rfl, hs⟩, rfl⟩⟩
    · rename_i e hu
      split at hT
      · rename_i l hl
        split at hT
        · rename_i hc
          obtain ⟨hce, hl0⟩ := hc
          cases hT
          rcases DataW.trod_slice hu hx with ⟨rfl, _⟩ | ⟨a, len, cap, elems, rest, n', rfl, rfl, _, _, hlc, hcm, hel, he, hsp, _⟩
          · exact ⟨[.fs none []], ⟨_, _, rfl, .inl ⟨rfl, rfl, .inl rfl⟩, rfl⟩, ⟨_, _, rfl, ⟨[], rfl, by simp, fun r hr => by cases hr⟩, rfl⟩⟩
          · rw [hce] at he hsp
            have rowsOf : ∀ k, k ≤ len → ∃ (rows : List (List AV)) (us : List Value), rows.length = k ∧ VRss (V.all w) rows us ∧ us.length = k * l.length ∧ (∀ r ∈ rows, TyL l r) ∧ (∀ (j : Nat) (u : Value), us[j]? = some u → w.cell? ⟨a.block, a.off + j, none⟩ = some u ∧ a.block < w.heap.size ∧ a.spot = none) := by
              intro k
              induction k with
              | zero => exact fun _ => ⟨[], [], rfl, rfl, by simp, fun r hr => (by cases hr), fun j u hu => (by simp at hu)⟩
              | succ k ihk =>
                intro hk
                obtain ⟨rows, us, d1, v1, f1, g1, i1⟩ := ihk (by omega)
                have hek := he k (by omega)
                obtain ⟨y, hy⟩ : ∃ y, elems[k]? = some y := ⟨elems[k]'(by omega), List.getElem?_eq_getElem (by omega)⟩
                rw [hy, Option.bind_eq_some_iff] at hek
                obtain ⟨cs', hcs, hy'⟩ := hek
                obtain ⟨_, hcl, hcc⟩ := World.cells?_some hcs
                obtain ⟨r, d2, e2⟩ := open_ty m e l hl n' cs' y hy'
                have hsp0 : a.spot = none := by
                  have hek0 := he 0 (by omega)
                  obtain ⟨y0, hy0⟩ : ∃ y, elems[0]? = some y := ⟨elems[0]'(by omega), List.getElem?_eq_getElem (by omega)⟩
                  rw [hy0, Option.bind_eq_some_iff] at hek0
                  obtain ⟨cs0, hcs0, _⟩ := hek0
                  obtain ⟨_, hcl0, hcc0⟩ := World.cells?_some hcs0
                  have h0 := hcc0 0 hl0
                  obtain ⟨v0, hv0⟩ : ∃ v0, cs0[0]? = some v0 := ⟨cs0[0]'(by omega), List.getElem?_eq_getElem (by omega)⟩
                  rw [hv0, add_add] at h0
                  simp only [Nat.zero_mul, Nat.add_zero] at h0
                  rw [show a.add 0 = a from rfl] at h0
                  exact spot_none h0
                refine ⟨rows ++ [r], us ++ cs', by simp [d1], VRss.of_flat ?_, by rw [List.length_append, f1, hcl, Nat.succ_mul], ?_, ?_⟩
                · rw [List.flatten_append, List.flatten_singleton]
                  exact v1.flat.append d2
                · intro r' hr'
                  rcases List.mem_append.1 hr' with hr' | hr'
                  · exact g1 r' hr'
                  · rw [List.mem_singleton.1 hr']; exact e2
                · intro j u hu
                  by_cases hj : j < us.length
                  · rw [List.getElem?_append_left hj] at hu
                    exact i1 j u hu
                  · rw [List.getElem?_append_right (by omega), f1] at hu
                    have hjl : j - k * l.length < l.length := by
                      have := (List.getElem?_eq_some_iff.1 hu).1; omega
                    have h0 := hcc (j - k * l.length) hjl
                    rw [hu, add_add] at h0
                    have h1 := cell_norm h0
                    rw [show k * l.length + (j - k * l.length) = j by omega] at h1
                    exact ⟨h1.1, h1.2, hsp0⟩
            obtain ⟨rows, us, d1, v1, f1, g1, i1⟩ := rowsOf len (Nat.le_refl _)
            refine ⟨[.fs none rows], ⟨_, [], rfl, .inr ⟨a, cap, us, by rw [d1], by omega, (fun k hk => nomatch hk), v1, ⟨l.length, fun r hr => ⟨(g1 r hr).length, (g1 r hr).one, TyL.clo l r (g1 r hr)⟩⟩, fun hne => ?_⟩, rfl⟩, ⟨_, _, rfl, ⟨rows, rfl, by omega, g1⟩, rfl⟩⟩
            obtain ⟨u, hu⟩ : ∃ u, us[0]? = some u := by
              cases us with
              | nil => exact (hne rfl).elim
              | cons u us => exact ⟨u, rfl⟩
            have hs := (i1 0 u hu).2.2
            refine ⟨a.block, a.off, by cases a; simp_all, fun j x hx => ?_⟩
            obtain ⟨c1, c2, _⟩ := i1 j x hx
            simp only [V.all]
            rw [if_pos c2]; exact c1
        · cases hT
      · cases hT
    · rename_i fs hu
      split at hT
      · rename_i l hl
        split at hT
        · rename_i hc
          cases hT
          obtain ⟨ys, n', rfl, _, hcl, hyl, hys⟩ := DataW.trod_struct hu hx
          obtain ⟨xs, r4, r5⟩ := open_fields (fun t T hT cs x hx => open_ty m t T hT n' cs x hx) cs fs.toList 0 T hl (fun f hf => by
            obtain ⟨i, hi⟩ := List.getElem?_of_mem hf
            have hi' : fs[i]? = some f := by simpa using hi
            have hil : i < fs.size := (Array.getElem?_eq_some_iff.1 hi').1
            exact ⟨ys[i]'(by omega), (hys i f hi').trans (List.getElem?_eq_getElem (by omega))⟩)
          refine ⟨xs, ?_, r5⟩
          rwa [List.drop_zero, List.take_of_length_le (by omega)] at r4
        · cases hT
      · cases hT
    · cases hT
end

/-- A value of more than one cell. -/
theorem agg_of {ν : V} {xs : List AV} {v : Value} (h : VRs ν xs v.cells.toList) (hx : ∀ l, (∃ u, v = .agg u) ∨ xs ≠ [l]) : VR ν (.agg xs) v := by
  cases v <;> first | exact ⟨_, rfl, h⟩ | skip
  all_goals
    exfalso
    obtain ⟨u, us, e, _, hr⟩ : ∃ u us, xs = u :: us ∧ _ ∧ us = [] := by
      cases xs with
      | nil => have := h.length; simp [Value.cells] at this
      | cons u us => refine ⟨u, us, rfl, trivial, ?_⟩; have := h.length; simp [Value.cells] at this; exact this
    subst hr
    rcases hx u with ⟨_, hx⟩ | hx
    · cases hx
    · exact hx e

theorem rows_dec {α : Type} {e : List Ty} {enc : α → List AV} {ok : α → Prop} (hdec : ∀ r, TyL e r → ∃ x, r = enc x ∧ ok x) : ∀ rows : List (List AV), (∀ r ∈ rows, TyL e r) → ∃ xs : List α, rows = xs.map enc ∧ ∀ x ∈ xs, ok x
  | [], _ => ⟨[], rfl, fun x hx => by cases hx⟩
  | r :: rows, hr => by
    obtain ⟨x, rfl, hx⟩ := hdec r (hr r (by simp))
    obtain ⟨xs, rfl, hxs⟩ := rows_dec hdec rows (fun r' hr' => hr r' (by simp [hr']))
    refine ⟨x :: xs, rfl, fun y hy => ?_⟩
    rcases List.mem_cons.1 hy with rfl | hy
    · exact hx
    · exact hxs y hy
theorem sl_dec {α : Type} {es : Nat} {e : List Ty} {enc : α → List AV} {ok : α → Prop} (hdec : ∀ r, TyL e r → ∃ x, r = enc x ∧ ok x) {x : AV} (H : TyC (.sl es e) x) : ∃ xs : List α, x = .fs none (xs.map enc) ∧ xs.length ≤ maxLen ∧ ∀ y ∈ xs, ok y := by
  obtain ⟨rows, rfl, hl, hr⟩ := H
  obtain ⟨xs, rfl, hxs⟩ := rows_dec hdec rows hr
  exact ⟨xs, rfl, by simpa using hl, hxs⟩
end Go.Bm
