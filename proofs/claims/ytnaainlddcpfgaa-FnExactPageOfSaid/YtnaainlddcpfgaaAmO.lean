/- What a call is handed, read into the abstract machine's memory: whole numbers, bools, strings, structs of such, slices of such, slices within slices. -/
import Derived.Test.YtnaainlddcpfgaaAmH
import Derived.ChangeArms
namespace Go.Am
set_option linter.all false
open Go Go.RowKit
set_option linter.unusedVariables false
set_option linter.unusedSimpArgs false

/-- The kinds of cells. -/
inductive Ty where
  | bool
  | int (k : IntKind)
  | str
  | sl (es : Nat) (e : List Ty)

mutual
def TyC (h : AH) : Ty → AV → Prop
  | .bool, x => ∃ b, x = .bool b
  | .int k, x => ∃ n, x = .int k n ∧ (Lit.int k n).wf = true
  | .str, x => ∃ s : ByteArray, x = .str s ∧ s.size ≤ maxLen
  | .sl es e, x => x = .nils ∨ ∃ (b : Nat) (rows : List (List AV)), x = .sl b 0 es rows.length none ∧ (rows = [] ∨ h.get b = some (.cells false rows.flatten)) ∧ rows.length ≤ maxLen ∧ ∀ r ∈ rows, TyL h e r
def TyL (h : AH) : List Ty → List AV → Prop
  | [], l => l = []
  | t :: ts, l => ∃ x xs, l = x :: xs ∧ TyC h t x ∧ TyL h ts xs
end

theorem AH.get_le {h h' : AH} (hle : h.le h') {b : Nat} {x : AB} (e : h.get b = some x) : h'.get b = some x := (hle.2 b (AH.get_lt e)).trans e

mutual
theorem TyC.mono {h h' : AH} (hle : h.le h') : ∀ (t : Ty) (x : AV), TyC h t x → TyC h' t x
  | .bool, _, H => H
  | .int _, _, H => H
  | .str, _, H => H
  | .sl es e, _, .inl H => .inl H
  | .sl es e, _, .inr ⟨b, rows, e1, e2, e3, e4⟩ => .inr ⟨b, rows, e1, e2.imp id (AH.get_le hle), e3, fun r hr => TyL.mono hle e r (e4 r hr)⟩
theorem TyL.mono {h h' : AH} (hle : h.le h') : ∀ (ts : List Ty) (l : List AV), TyL h ts l → TyL h' ts l
  | [], _, H => H
  | t :: ts, _, ⟨x, xs, e, a, b⟩ => ⟨x, xs, e, TyC.mono hle t x a, TyL.mono hle ts xs b⟩
end

theorem TyC.one {h : AH} {t : Ty} {x : AV} (H : TyC h t x) : x.one = true := by
  cases t with
  | bool => obtain ⟨b, rfl⟩ := H; rfl
  | int k => obtain ⟨n, rfl, _⟩ := H; rfl
  | str => obtain ⟨s, rfl, _⟩ := H; rfl
  | sl es e => rcases H with rfl | ⟨b, rows, rfl, _⟩ <;> rfl
theorem TyL.one {h : AH} : ∀ {ts : List Ty} {l : List AV}, TyL h ts l → ∀ x ∈ l, x.one = true
  | [], _, H, x, hx => by rw [H] at hx; cases hx
  | t :: ts, _, ⟨y, ys, e, a, b⟩, x, hx => by
    rw [e] at hx
    rcases List.mem_cons.1 hx with rfl | hx
    · exact a.one
    · exact TyL.one b x hx
theorem TyL.length {h : AH} : ∀ {ts : List Ty} {l : List AV}, TyL h ts l → l.length = ts.length
  | [], _, H => by rw [H]; rfl
  | t :: ts, _, ⟨y, ys, e, a, b⟩ => by rw [e]; simp [TyL.length b]
theorem TyL.append {h : AH} : ∀ {ts us : List Ty} {l m : List AV}, TyL h ts l → TyL h us m → TyL h (ts ++ us) (l ++ m)
  | [], us, l, m, H, K => by rw [H]; exact K
  | t :: ts, us, _, m, ⟨y, ys, e, a, b⟩, K => ⟨y, ys ++ m, by rw [e]; rfl, a, TyL.append b K⟩

/-! ### the kinds of a type's cells -/
def shapeFs (P : Program) (sh : TypeId → Option (List Ty)) : Nat → List Field → Option (List Ty)
  | _, [] => some []
  | off, f :: r => match sh f.type with
    | some l => if f.offset = off ∧ P.cellsOf f.type = l.length then (shapeFs P sh (off + l.length) r).map (l ++ ·) else none
    | none => none
def shapeT (P : Program) : Nat → TypeId → Option (List Ty)
  | 0, _ => none
  | n + 1, t => match P.underlying t with
    | some .bool => some [.bool]
    | some (.int k) => some [.int k]
    | some .string => some [.str]
    | some (.slice e) => match shapeT P n e with
      | some l => if P.cellsOf e = l.length ∧ 0 < l.length then some [.sl l.length l] else none
      | none => none
    | some (.struct fs) => match shapeFs P (shapeT P n) 0 fs.toList with
      | some l => if P.cellsOf t = l.length then some l else none
      | none => none
    | _ => none

/-! ### memory that is handed in -/
section
variable {ν : V} {base : Nat} {h : AH} {w : World}
theorem HR.shared (H : HR ν base h w) {g o sz : Nat} {l : List AV} (hg : g < base) (hl : ∀ (k : Nat) (x : AV), l[k]? = some x → x.one = true ∧ ∃ v, w.cell? ⟨g, o + k, none⟩ = some v ∧ VR ν x v) :
    HR (ν.upd h.next ⟨g, o, sz⟩) base (h.new (.cells false l)) w := by
  have hle := V.le_upd ⟨g, o, sz⟩ H.fresh
  have hgw : g < w.heap.size := Nat.lt_of_lt_of_le hg H.size
  have hne : ∀ b p, ν b = some p → b ≠ h.next := fun b p hb e => by rw [e, H.fresh] at hb; cases hb
  refine ⟨H.size, fun b p hb => ?_, fun b x hb => ?_, fun b b' x x' p p' hb hb' hx hx' hp hp' hpg => ?_⟩
  · rw [AH.next_new]
    unfold V.upd at hb
    split at hb
    · rename_i e; omega
    · have := H.lt _ _ hb; omega
  · rw [AH.get_new] at hb
    split at hb
    · rename_i e
      cases hb
      refine ⟨⟨g, o, sz⟩, by rw [e]; exact V.upd_same _ _ _, hgw, fun k x hx => ?_, (fun e => by cases e), fun _ => hg⟩
      obtain ⟨h1, v, hv, hr⟩ := hl k x hx
      exact ⟨h1, v, hv, hr.mono hle⟩
    · obtain ⟨p, hp, hB⟩ := H.blk b x hb
      exact ⟨p, hle _ _ hp, hB.of_block hle rfl⟩
  · rw [AH.get_new] at hb hb'
    split at hb
    · cases hb; cases hx
    · split at hb'
      · cases hb'; cases hx'
      · rename_i e1 e2
        obtain ⟨q, hq, _⟩ := H.blk b x hb
        obtain ⟨q', hq', _⟩ := H.blk b' x' hb'
        have e3 := hle _ _ hq
        have e4 := hle _ _ hq'
        rw [hp] at e3; rw [hp'] at e4
        cases e3; cases e4
        exact H.inj b b' x x' p p' hb hb' hx hx' hq hq' hpg
/-- A name for nothing. -/
theorem HR.dead (H : HR ν base h w) (p : P3) : HR (ν.upd h.next p) base ((h.new (.cells false [])).upd h.next none) w ∧ h.le ((h.new (.cells false [])).upd h.next none) := by
  have hle := V.le_upd p H.fresh
  have hget : ∀ b, ((h.new (.cells false [])).upd h.next none).get b = h.get b := fun b => by
    rw [AH.get_kill, AH.get_new]
    by_cases e : b = h.next
    · subst e; simp [AH.get]
    · simp [e]
  refine ⟨⟨H.size, fun b q hb => ?_, fun b x hb => ?_, fun b b' x x' q q' hb hb' hx hx' hp hp' hpg => ?_⟩, Nat.le_succ _, fun b _ => hget b⟩
  · show b < h.next + 1
    unfold V.upd at hb
    split at hb
    · rename_i e; omega
    · have := H.lt _ _ hb; omega
  · rw [hget] at hb
    obtain ⟨p, hp, hB⟩ := H.blk b x hb
    exact ⟨p, hle _ _ hp, hB.of_block hle rfl⟩
  · rw [hget] at hb hb'
    obtain ⟨r, hr, _⟩ := H.blk b x hb
    obtain ⟨r', hr', _⟩ := H.blk b' x' hb'
    have e3 := hle _ _ hr
    have e4 := hle _ _ hr'
    rw [hp] at e3; rw [hp'] at e4
    cases e3; cases e4
    exact H.inj b b' x x' _ _ hb hb' hx hx' hr hr' hpg
end

theorem cell_norm {w : World} {a : Addr} {n : Nat} {v : Value} (h : w.cell? (a.add n) = some v) : w.cell? ⟨a.block, a.off + n, none⟩ = some v ∧ a.block < w.heap.size := by
  have hb : (a.add n).block = a.block := by unfold Addr.add; split <;> rfl
  have hlt : a.block < w.heap.size := by
    unfold World.cell? at h
    rw [hb] at h
    cases e : w.heap[a.block]? with
    | none => rw [e] at h; cases h
    | some x => exact (Array.getElem?_eq_some_iff.1 e).1
  refine ⟨?_, hlt⟩
  unfold Addr.add at h
  split at h
  · rename_i e
    subst e
    cases a with
    | mk b o s =>
      cases s with
      | none => exact h
      | some s =>
        unfold World.cell? at h
        split at h
        · simp at h
        · cases h
  · exact h
theorem spot_none {w : World} {a : Addr} {v : Value} (h : w.cell? a = some v) : a.spot = none := by
  cases a with
  | mk b o s =>
    cases s with
    | none => rfl
    | some s =>
      unfold World.cell? at h
      split at h
      · simp at h
      · cases h
theorem add_add (a : Addr) (p q : Nat) : (a.add p).add q = a.add (p + q) := by
  unfold Addr.add
  by_cases hp : p = 0 <;> by_cases hq : q = 0 <;> simp [hp, hq, Nat.add_assoc]

section
variable {H : Type} {enc : TypeId × Value → H} {P : Program} {w : World}

theorem open_fields {sh : TypeId → Option (List Ty)} {n : Nat}
    (ih : ∀ (t : TypeId) (T : List Ty), sh t = some T → ∀ (cs : List Value) (x : DataW H × List MemPlace), DataW.trod enc P w 0 (fun _ => true) true n t cs = some x → ∀ (ν : V) (h : AH), HR ν w.heap.size h w →
      ∃ ν' h' xs, V.le ν ν' ∧ h.le h' ∧ HR ν' w.heap.size h' w ∧ VRs ν' xs cs ∧ TyL h' T xs) (cs : List Value) :
    ∀ (fs : List Field) (off : Nat) (T : List Ty), shapeFs P sh off fs = some T → (∀ f ∈ fs, ∃ y, DataW.trod enc P w 0 (fun _ => true) true n f.type ((cs.drop f.offset).take (P.cellsOf f.type)) = some y) →
      ∀ (ν : V) (h : AH), HR ν w.heap.size h w → ∃ ν' h' xs, V.le ν ν' ∧ h.le h' ∧ HR ν' w.heap.size h' w ∧ VRs ν' xs ((cs.drop off).take T.length) ∧ TyL h' T xs
  | [], off, T, hT, _, ν, h, Hh => by
    cases hT
    exact ⟨ν, h, [], V.le_refl _, ⟨Nat.le_refl _, fun _ _ => rfl⟩, Hh, by simp [VRs], rfl⟩
  | f :: r, off, T, hT, hf, ν, h, Hh => by
    unfold shapeFs at hT
    split at hT
    · rename_i l hl
      split at hT
      · rename_i hc
        obtain ⟨ho, hce⟩ := hc
        cases hr : shapeFs P sh (off + l.length) r with
        | none => rw [hr] at hT; cases hT
        | some T2 =>
          rw [hr] at hT
          simp only [Option.map_some, Option.some.injEq] at hT
          subst hT
          obtain ⟨y, hy⟩ := hf f (by simp)
          rw [ho, hce] at hy
          obtain ⟨ν1, h1, x1, a1, b1, c1, d1, e1⟩ := ih _ _ hl _ _ hy ν h Hh
          obtain ⟨ν2, h2, x2, a2, b2, c2, d2, e2⟩ := open_fields ih cs r (off + l.length) T2 hr (fun g hg => hf g (by simp [hg])) ν1 h1 c1
          refine ⟨ν2, h2, x1 ++ x2, V.le_trans a1 a2, ⟨Nat.le_trans b1.1 b2.1, fun k hk => (b2.2 k (Nat.lt_of_lt_of_le hk b1.1)).trans (b1.2 k hk)⟩, c2, ?_, (e1.mono b2).append e2⟩
          rw [List.length_append, List.take_add, List.drop_drop]
          exact (d1.mono a2).append d2
      · cases hT
    · cases hT

theorem open_ty : ∀ (m : Nat) (t : TypeId) (T : List Ty), shapeT P m t = some T → ∀ (n : Nat) (cs : List Value) (x : DataW H × List MemPlace), DataW.trod enc P w 0 (fun _ => true) true n t cs = some x → ∀ (ν : V) (h : AH), HR ν w.heap.size h w →
    ∃ ν' h' xs, V.le ν ν' ∧ h.le h' ∧ HR ν' w.heap.size h' w ∧ VRs ν' xs cs ∧ TyL h' T xs
  | 0, t, T, hT, _, _, _, _, _, _, _ => by cases hT
  | m + 1, t, T, hT, n, cs, x, hx, ν, h, Hh => by
    have same : ∀ xs, VRs ν xs cs → TyL h T xs → ∃ ν' h' xs, V.le ν ν' ∧ h.le h' ∧ HR ν' w.heap.size h' w ∧ VRs ν' xs cs ∧ TyL h' T xs := fun xs a b => ⟨ν, h, xs, V.le_refl _, ⟨Nat.le_refl _, fun _ _ => rfl⟩, Hh, a, b⟩
    unfold shapeT at hT
    split at hT
    · rename_i hu
      cases hT
      obtain ⟨b, rfl, _⟩ := DataW.trod_bool hu hx
      exact same [.bool b] ⟨_, _, rfl, rfl, rfl⟩ ⟨_, _, rfl, ⟨b, rfl⟩, rfl⟩
    · rename_i k hu
      cases hT
      obtain ⟨z, rfl, _, hw⟩ := DataW.trod_int hu hx
      exact same [.int k z] ⟨_, _, rfl, rfl, rfl⟩ ⟨_, _, rfl, ⟨z, rfl, hw⟩, rfl⟩
    · rename_i hu
      cases hT
      obtain ⟨s, rfl, _, hs⟩ := DataW.trod_string hu hx
      exact same [.str s] ⟨_, _, rfl, rfl, rfl⟩ ⟨_, _, rfl, ⟨s, rfl, hs⟩, rfl⟩
    · rename_i e hu
      split at hT
      · rename_i l hl
        split at hT
        · rename_i hc
          obtain ⟨hce, hl0⟩ := hc
          cases hT
          rcases DataW.trod_slice hu hx with ⟨rfl, _⟩ | ⟨a, len, cap, elems, rest, n', rfl, rfl, _, _, hlc, hcm, hel, he, hsp, _⟩
          · exact same [.nils] ⟨_, _, rfl, rfl, rfl⟩ ⟨_, _, rfl, .inl rfl, rfl⟩
          · rw [hce] at he hsp
            have rowsOf : ∀ k, k ≤ len → ∃ ν' h' rows, V.le ν ν' ∧ h.le h' ∧ HR ν' w.heap.size h' w ∧ rows.length = k ∧ (rows : List (List AV)).flatten.length = k * l.length ∧ (∀ r ∈ rows, TyL h' l r) ∧
                (∀ (j : Nat) (x : AV), rows.flatten[j]? = some x → x.one = true ∧ ∃ v, w.cell? ⟨a.block, a.off + j, none⟩ = some v ∧ VR ν' x v) ∧ (0 < k → a.block < w.heap.size) := by
              intro k
              induction k with
              | zero => exact fun _ => ⟨ν, h, [], V.le_refl _, ⟨Nat.le_refl _, fun _ _ => rfl⟩, Hh, rfl, by simp, fun r hr => (by cases hr), fun j x hx => (by simp at hx), fun e => by omega⟩
              | succ k ihk =>
                intro hk
                obtain ⟨ν1, h1, rows, a1, b1, c1, d1, f1, g1, i1, _⟩ := ihk (by omega)
                have hek := he k (by omega)
                obtain ⟨y, hy⟩ : ∃ y, elems[k]? = some y := ⟨elems[k]'(by omega), List.getElem?_eq_getElem (by omega)⟩
                rw [hy, Option.bind_eq_some_iff] at hek
                obtain ⟨cs', hcs, hy'⟩ := hek
                obtain ⟨_, hcl, hcc⟩ := World.cells?_some hcs
                obtain ⟨ν2, h2, r, a2, b2, c2, d2, e2⟩ := open_ty m e l hl n' cs' y hy' ν1 h1 c1
                have hrl := e2.length
                have hblk : a.block < w.heap.size := by
                  have h0 := hcc 0 hl0
                  obtain ⟨v0, hv0⟩ : ∃ v0, cs'[0]? = some v0 := ⟨cs'[0]'(by omega), List.getElem?_eq_getElem (by omega)⟩
                  rw [hv0, add_add] at h0
                  exact (cell_norm h0).2
                refine ⟨ν2, h2, rows ++ [r], V.le_trans a1 a2, ⟨Nat.le_trans b1.1 b2.1, fun k hk => (b2.2 k (Nat.lt_of_lt_of_le hk b1.1)).trans (b1.2 k hk)⟩, c2, by simp [d1], by simp [f1, hrl, Nat.succ_mul], ?_, ?_, fun _ => hblk⟩
                · intro r' hr'
                  rcases List.mem_append.1 hr' with hr' | hr'
                  · exact (g1 r' hr').mono b2
                  · rw [List.mem_singleton.1 hr']; exact e2
                · intro j x hx
                  rw [List.flatten_append, List.flatten_singleton] at hx
                  by_cases hj : j < rows.flatten.length
                  · rw [List.getElem?_append_left hj] at hx
                    obtain ⟨o1, v, hv, hr⟩ := i1 j x hx
                    exact ⟨o1, v, hv, hr.mono a2⟩
                  · rw [List.getElem?_append_right (by omega), f1] at hx
                    have hjl : j - k * l.length < l.length := by
                      have := (List.getElem?_eq_some_iff.1 hx).1; omega
                    obtain ⟨v, hv, hr⟩ := d2.get _ _ hx
                    refine ⟨e2.one x (List.mem_of_getElem? hx), v, ?_, hr⟩
                    have h0 := hcc (j - k * l.length) hjl
                    rw [hv, add_add] at h0
                    have := (cell_norm h0).1
                    rwa [show k * l.length + (j - k * l.length) = j by omega] at this
            obtain ⟨ν1, h1, rows, a1, b1, c1, d1, f1, g1, i1, j1⟩ := rowsOf len (Nat.le_refl _)
            have hspot : 0 < cap → a.spot = none := by
              intro hc0
              have : ∃ i cs' y, (w.cells? 0 (a.add (i * l.length)) l.length) = some cs' ∧ DataW.trod enc P w 0 (fun _ => true) true n' e cs' = some y ∧ i = 0 := by
                by_cases hl1 : 0 < len
                · have hek := he 0 hl1
                  obtain ⟨y, hy⟩ : ∃ y, elems[0]? = some y := ⟨elems[0]'(by omega), List.getElem?_eq_getElem (by omega)⟩
                  rw [hy, Option.bind_eq_some_iff] at hek
                  obtain ⟨cs', hcs, hy'⟩ := hek
                  exact ⟨0, cs', y, hcs, hy', rfl⟩
                · obtain ⟨hrl, hre⟩ := hsp rfl
                  have hek := hre 0 (by omega)
                  obtain ⟨y, hy⟩ : ∃ y, rest[0]? = some y := ⟨rest[0]'(by omega), List.getElem?_eq_getElem (by omega)⟩
                  rw [hy, Option.bind_eq_some_iff] at hek
                  obtain ⟨cs', hcs, hy'⟩ := hek
                  obtain rfl : len = 0 := by omega
                  exact ⟨0, cs', y, by simpa using hcs, hy', rfl⟩
              obtain ⟨i, cs', y, hcs, _, rfl⟩ := this
              obtain ⟨_, hcl, hcc⟩ := World.cells?_some hcs
              have h0 := hcc 0 hl0
              obtain ⟨v0, hv0⟩ : ∃ v0, cs'[0]? = some v0 := ⟨cs'[0]'(by omega), List.getElem?_eq_getElem (by omega)⟩
              rw [hv0, add_add] at h0
              simp only [Nat.zero_mul, Nat.add_zero] at h0
              rw [show a.add 0 = a from rfl] at h0
              exact spot_none h0
            by_cases hl1 : 0 < len
            · refine ⟨ν1.upd h1.next ⟨a.block, a.off, cap * l.length⟩, h1.new (.cells false rows.flatten), [.sl h1.next 0 l.length rows.length none], V.le_trans a1 (V.le_upd _ c1.fresh), ?_, c1.shared (j1 hl1) i1, ?_, ?_⟩
              · refine ⟨Nat.le_trans b1.1 (Nat.le_succ _), fun k hk => ?_⟩
                rw [AH.get_new, if_neg (by have := b1.1; omega), b1.2 k hk]
              · refine ⟨_, [], rfl, ⟨⟨a.block, a.off, cap * l.length⟩, a, cap, V.upd_same _ _ _, by rw [d1], by omega, (fun c hc => by cases hc), fun hc0 => ⟨?_, by simp⟩⟩, rfl⟩
                have := hspot hc0
                cases a; simp_all
              · refine ⟨_, [], rfl, .inr ⟨h1.next, rows, rfl, .inr (by rw [AH.get_new, if_pos rfl]), by omega, fun r hr => (g1 r hr).mono ⟨Nat.le_succ _, fun k hk => by rw [AH.get_new, if_neg (by omega)]⟩⟩, rfl⟩
            · obtain rfl : len = 0 := by omega
              obtain ⟨D1, D2⟩ := Hh.dead ⟨a.block, a.off, cap * l.length⟩
              refine ⟨_, _, [.sl h.next 0 l.length 0 none], V.le_upd _ Hh.fresh, D2, D1, ?_, ?_⟩
              · refine ⟨_, [], rfl, ⟨⟨a.block, a.off, cap * l.length⟩, a, cap, V.upd_same _ _ _, rfl, by omega, (fun c hc => by cases hc), fun hc0 => ⟨?_, by simp⟩⟩, rfl⟩
                have := hspot hc0
                cases a; simp_all
              · exact ⟨_, [], rfl, .inr ⟨h.next, [], rfl, .inl rfl, by simp, fun r hr => by cases hr⟩, rfl⟩
        · cases hT
      · cases hT
    · rename_i fs hu
      split at hT
      · rename_i l hl
        split at hT
        · rename_i hc
          cases hT
          obtain ⟨ys, n', rfl, _, hcl, hyl, hys⟩ := DataW.trod_struct hu hx
          obtain ⟨ν', h', xs, r1, r2, r3, r4, r5⟩ := open_fields (fun t T hT cs x hx => open_ty m t T hT n' cs x hx) cs fs.toList 0 T hl (fun f hf => by
            obtain ⟨i, hi⟩ := List.getElem?_of_mem hf
            have hi' : fs[i]? = some f := by simpa using hi
            have hil : i < fs.size := (Array.getElem?_eq_some_iff.1 hi').1
            exact ⟨ys[i]'(by omega), (hys i f hi').trans (List.getElem?_eq_getElem (by omega))⟩) ν h Hh
          refine ⟨ν', h', xs, r1, r2, r3, ?_, r5⟩
          rwa [List.drop_zero, List.take_of_length_le (by omega)] at r4
        · cases hT
      · cases hT
    · cases hT
end
end Go.Am
