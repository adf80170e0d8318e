/- One operation of the abstract machine's stands for one of the model's (third part). -/
import Derived.Test.YtbajchkpehdolaaBmE
import Derived.Great.BuildSlice
namespace Go.Bm
set_option linter.all false
open Go Go.RowKit
set_option linter.unusedVariables false
set_option linter.unusedSimpArgs false

section
variable {P : Program} {N : Nat} {ν : V} {base : Nat} {s : S} {h h' : AH} {w w' : World} {a : Act} {o : Oper} {v : AV} {u : Value}

theorem VRs.setAll {l xs : List AV} {vs us : List Value} (hl : VRs ν l vs) (hx : VRs ν xs us) {o : Nat} (ho : o + xs.length ≤ l.length) : VRs ν (setAll l o xs) (Bm.setAll vs o us) := by
  have h1 := hl.length
  have h2 := hx.length
  refine VRs.of (by rw [setAll_length, setAll_length, h1]) fun k x hk => ?_
  rw [setAll_get _ _ _ _ ho] at hk
  rw [setAll_get _ _ _ _ (by omega), ← h2]
  split at hk
  · rename_i hc; rw [if_pos hc]; exact hx.get _ _ hk
  · rename_i hc; rw [if_neg hc]; exact hl.get _ _ hk

theorem foldl_setAll (off : Nat) : ∀ (us : List Value) (k : Nat) (A : Array Value), ((us.zipIdx k).foldl (fun cs (p : Value × Nat) => cs.setIfInBounds (off + p.2) p.1) A).toList = setAll A.toList (off + k) us
  | [], k, A => rfl
  | c :: us, k, A => by
    rw [List.zipIdx_cons, List.foldl_cons, foldl_setAll off us (k + 1)]
    simp [Bm.setAll, Nat.add_assoc]

theorem fill_step (A : Array Value) (off : Nat) (c : Array Value) : (c.zipIdx.foldl (fun cs (p : Value × Nat) => cs.setIfInBounds (off + p.2) p.1) A).toList = setAll A.toList off c.toList := by
  rw [← Array.foldl_toList, Array.toList_zipIdx, foldl_setAll]
  simp

theorem all_cells {z : AV} {c : Value} (hz : VR ν z c) (n : Nat) (hn : z.cells.length = n) (hall : z.cells.all AV.one = true) : VRs ν z.cells c.cells.toList ∧ c.cells.size = n := by
  have := hz.cells hall
  exact ⟨this, by rw [← Array.length_toList, ← this.length, hn]⟩

/-- A slice's literal: its parts, each of es cells. -/
theorem fillA_run (es : Nat) : ∀ (parts : List (Nat × AV)) (cparts : List (Nat × Value)) (cells : List AV) (A : Array Value) (r : List AV), parts.length = cparts.length →
    (∀ (k : Nat) p, parts[k]? = some p → ∃ q, cparts[k]? = some q ∧ q.1 = p.1 ∧ VR ν p.2 q.2) → VRs ν cells A.toList → fillA es cells parts = some r → ∃ B, Instr.fill (fun i => some (i * es, es)) A cparts = some B ∧ VRs ν r B.toList
  | [], cp, cells, A, r, hl, _, hc, hr => by
    cases cp with
    | nil => simp only [fillA, Option.some.injEq] at hr; subst hr; exact ⟨A, rfl, hc⟩
    | cons _ _ => simp at hl
  | (i, x) :: parts, cp, cells, A, r, hl, hp, hc, hr => by
    cases cp with
    | nil => simp at hl
    | cons q cp =>
      obtain ⟨q', hq, e, hx⟩ := hp 0 (i, x) rfl
      simp at hq; subst hq
      obtain ⟨j, c⟩ := q
      simp only at e hx
      subst e
      simp only [fillA] at hr
      split at hr
      · rename_i hcnd
        obtain ⟨h1, h2, h3⟩ := hcnd
        obtain ⟨hcs, hsz⟩ := all_cells hx es h1 h3
        have hA : A.size = cells.length := by rw [← Array.length_toList, ← hc.length]
        obtain ⟨B, hB, hr'⟩ := fillA_run es parts cp _ (c.cells.zipIdx.foldl (fun cs (p : Value × Nat) => cs.setIfInBounds (j * es + p.2) p.1) A) r (by simpa using hl) (fun k p hk => by simpa using hp (k + 1) p (by simpa using hk)) (by rw [fill_step]; exact hc.setAll hcs (by omega)) hr
        refine ⟨B, ?_, hr'⟩
        simp only [Instr.fill]
        rw [if_neg (by simp [hsz]; omega)]
        exact hB
      · cases hr

theorem fillB_run (place : Nat → Option (Nat × Nat)) : ∀ (parts : List (Nat × Nat × AV)) (cparts : List (Nat × Value)) (cells : List AV) (A : Array Value) (r : List AV), parts.length = cparts.length →
    (∀ (k : Nat) p, parts[k]? = some p → ∃ q, cparts[k]? = some q ∧ place q.1 = some (p.1, p.2.1) ∧ VR ν p.2.2 q.2) → VRs ν cells A.toList → fillB cells parts = some r → ∃ B, Instr.fill place A cparts = some B ∧ VRs ν r B.toList
  | [], cp, cells, A, r, hl, _, hc, hr => by
    cases cp with
    | nil => simp only [fillB, Option.some.injEq] at hr; subst hr; exact ⟨A, rfl, hc⟩
    | cons _ _ => simp at hl
  | (off, n, x) :: parts, cp, cells, A, r, hl, hp, hc, hr => by
    cases cp with
    | nil => simp at hl
    | cons q cp =>
      obtain ⟨q', hq, e, hx⟩ := hp 0 (off, n, x) rfl
      simp at hq; subst hq
      obtain ⟨j, c⟩ := q
      simp only at e hx
      simp only [fillB] at hr
      split at hr
      · rename_i hcnd
        obtain ⟨h1, h2, h3⟩ := hcnd
        obtain ⟨hcs, hsz⟩ := all_cells hx n h1 h3
        have hA : A.size = cells.length := by rw [← Array.length_toList, ← hc.length]
        obtain ⟨B, hB, hr'⟩ := fillB_run place parts cp _ (c.cells.zipIdx.foldl (fun cs (p : Value × Nat) => cs.setIfInBounds (off + p.2) p.1) A) r (by simpa using hl) (fun k p hk => by simpa using hp (k + 1) p (by simpa using hk)) (by rw [fill_step]; exact hc.setAll hcs (by omega)) hr
        refine ⟨B, ?_, hr'⟩
        simp only [Instr.fill, e]
        rw [if_neg (by simp [hsz]; omega)]
        exact hB
      · cases hr

theorem rep_get {z : List AV} (hz : 0 < z.length) : ∀ (n k : Nat), k < n * z.length → (rep n z)[k]? = z[k % z.length]?
  | 0, k, hk => by omega
  | n + 1, k, hk => by
    rw [rep]
    by_cases h : k < z.length
    · rw [List.getElem?_append_left h, Nat.mod_eq_of_lt h]
    · rw [List.getElem?_append_right (by omega), rep_get hz n _ (by rw [Nat.add_mul] at hk; omega)]
      congr 1
      conv => rhs; rw [show k = k - z.length + z.length by omega, Nat.add_mod_right]

theorem rep_length (z : List AV) : ∀ n, (rep n z).length = n * z.length
  | 0 => by simp [rep]
  | n + 1 => by simp [rep, rep_length z n, Nat.add_mul]; omega

theorem rep_madeCells {z : AV} {c : Value} (hz : VRs ν z.cells c.cells.toList) (n : Nat) {es : Nat} (he : z.cells.length = es) (hes : 0 < es) : VRs ν (rep n z.cells) (madeCells c.cells (n * es)).toList := by
  have hcs : c.cells.size = es := by rw [← Array.length_toList, ← hz.length, he]
  refine VRs.of (by rw [rep_length, he]; simp [madeCells]) fun k x hk => ?_
  have hk' : k < n * es := by have := (List.getElem?_eq_some_iff.1 hk).1; rwa [rep_length, he] at this
  rw [rep_get (by omega) n k (by rw [he]; exact hk')] at hk
  rw [he] at hk
  obtain ⟨v, hv, r⟩ := hz.get _ _ hk
  have hm : k % es < c.cells.size := by rw [hcs]; exact Nat.mod_lt _ hes
  refine ⟨v, ?_, r⟩
  simp only [madeCells, Array.getElem?_toList, Array.getElem?_map, Array.getElem?_range]
  rw [if_pos hk']
  simp only [Option.map_some, hcs]
  rw [getElem!_pos c.cells _ hm]
  rw [Array.getElem?_toList, Array.getElem?_eq_getElem hm] at hv
  exact hv


theorem mapO_length {α β : Type} {f : α → Option β} {l : List α} {r : List β} (h : mapO f l = some r) : l.length = r.length := (mapO_get h).1

theorem g_build (hS : SR N ν s a) (H : HR ν base h w) {t : TypeId} {ps : Array (Nat × Operand)} {fs : Array Field} {z : AV} {l : List (Nat × Nat × AE)} {szs : List Nat} (ht : P.underlying t = some (.struct fs)) (hz : zeroOf P t = some z)
    (hl : mapO (cParts P fs) ps.toList = some l) (hfs : mapO (fun f : Field => sizeT P f.type) fs.toList = some szs) (ho : o.op = .build t ps) (hv : aop (.build z.cells l) s h = some (v, h')) (hall : z.cells.all AV.one = true) : Good P ν base h w a o v h' := by
  obtain ⟨i, zv, hi, hzv, hcv⟩ := zeroOf_inv hz
  have rz := cV_ok hcv ν
  have hzc := rz.cells hall
  simp only [aop] at hv
  split at hv
  · rename_i cs hcs
    simp only [Option.some.injEq, Prod.mk.injEq] at hv
    obtain ⟨rfl, rfl⟩ := hv
    have hplaces : fs.toList.mapM (fun f => (P.info? f.type).map fun i => (f.offset, i.size)) = some (fs.toList.zipWith (fun f n => (f.offset, n)) szs) := by
      clear hl ht
      generalize fs.toList = fl at hfs
      induction fl generalizing szs with
      | nil => simp [mapO] at hfs; subst hfs; rfl
      | cons f fl ih =>
        simp only [mapO] at hfs
        split at hfs
        · rename_i n ns hn hns
          cases hfs
          obtain ⟨j, hj, hjn⟩ := sizeT_inv hn
          simp [List.mapM_cons, hj, ih hns, hjn]
        · cases hfs
    have hpl : ∀ (k : Nat) (f : Field), fs[k]? = some f → ∃ n, sizeT P f.type = some n ∧ (fs.toList.zipWith (fun f n => (f.offset, n)) szs).toArray[k]? = some (f.offset, n) := by
      intro k f hf
      obtain ⟨n, hn, hk⟩ := (mapO_get hfs).2 k f (by simpa using hf)
      exact ⟨n, hn, by simp [List.getElem?_zipWith, hk, hf]⟩
    obtain ⟨B, hB, hr⟩ := fillB_run (ν := ν) (fun x => (fs.toList.zipWith (fun f n => (f.offset, n)) szs).toArray[x]?) (l.map fun (o, n, x) => (o, n, x.ev s)) (ps.toList.map fun (i, x) => (i, a.eval x)) z.cells zv.cells cs
      (by simp [← mapO_length hl]) (fun k p hk => by
        rw [List.getElem?_map] at hk
        cases hlk : l[k]? with
        | none => rw [hlk] at hk; cases hk
        | some e =>
          rw [hlk] at hk; cases hk
          have hkl : k < ps.toList.length := by rw [mapO_length hl]; exact (List.getElem?_eq_some_iff.1 hlk).1
          obtain ⟨y, hy, hy'⟩ := (mapO_get hl).2 k _ (List.getElem?_eq_getElem hkl)
          rw [hlk] at hy'; cases hy'
          unfold cParts at hy
          split at hy
          · rename_i f e' hf he
            split at hy
            · rename_i n hn
              cases hy
              obtain ⟨n', hn', hpk⟩ := hpl _ f hf
              rw [hn] at hn'; cases hn'
              exact ⟨(ps.toList[k].1, a.eval ps.toList[k].2), by rw [List.getElem?_map, List.getElem?_eq_getElem hkl]; rfl, hpk, cE_ok hS he⟩
            · cases hy
          · cases hy) hzc hcs
    refine Good.quiet H (u := .agg B) ?_ ⟨B, rfl, hr⟩
    have hb : P.built t (ps.map fun (i, x) => (i, a.eval x)).toList = some B := by
      unfold Program.built
      rw [hi, ht]
      simp only [hzv, hplaces]
      simpa using hB
    simp [execOp, ho, run_build w t _ B hb]
  · cases hv

theorem g_bslice (hS : SR N ν s a) (H : HR ν base h w) {t e : TypeId} {len : Nat} {ps : Array (Nat × Operand)} {i : TypeInfo} {z : AV} {l : List (Nat × AE)} (ht : P.underlying t = some (.slice e)) (hi : P.info? e = some i) (hz : zeroOf P e = some z)
    (hl : mapO cPart1 ps.toList = some l) (hpos : 0 < i.size) (h24 : len * i.size ≤ 2 ^ 24) (hzl : z.cells.length = i.size) (hall : z.cells.all AV.one = true) (ho : o.op = .buildSlice t len ps)
    (hv : aop (.bslice len i.size z.cells l) s h = some (v, h')) : Good P ν base h w a o v h' := by
  obtain ⟨i', zv, hi', hzv, hcv⟩ := zeroOf_inv hz
  rw [hi] at hi'; cases hi'
  have rz := cV_ok hcv ν
  have hzc := rz.cells hall
  simp only [aop] at hv
  split at hv
  · rename_i cs hcs
    split at hv
    · rename_i hlen
      obtain ⟨hlen, hone⟩ := hlen
      simp only [Option.some.injEq, Prod.mk.injEq] at hv
      obtain ⟨rfl, rfl⟩ := hv
      obtain ⟨B, hB, hr⟩ := fillA_run (ν := ν) i.size (l.map fun (i, x) => (i, x.ev s)) (ps.toList.map fun (i, x) => (i, a.eval x)) (rep len z.cells) (madeCells zv.cells (len * i.size)) cs
        (by simp [← mapO_length hl]) (fun k p hk => by
          rw [List.getElem?_map] at hk
          cases hlk : l[k]? with
          | none => rw [hlk] at hk; cases hk
          | some q =>
            rw [hlk] at hk; cases hk
            have hkl : k < ps.toList.length := by rw [mapO_length hl]; exact (List.getElem?_eq_some_iff.1 hlk).1
            obtain ⟨y, hy, hy'⟩ := (mapO_get hl).2 k _ (List.getElem?_eq_getElem hkl)
            rw [hlk] at hy'; cases hy'
            unfold cPart1 at hy
            split at hy
            · rename_i e' he
              cases hy
              exact ⟨(ps.toList[k].1, a.eval ps.toList[k].2), by rw [List.getElem?_map, List.getElem?_eq_getElem hkl]; rfl, rfl, cE_ok hS he⟩
            · cases hy) (rep_madeCells hzc len hzl hpos) hcs
      obtain ⟨hH, hle, hb⟩ := H.newCells hr hone [] B (by simp) e
      have hBs : B.size = len * i.size := by rw [← Array.length_toList, ← hr.length, hlen]
      refine Good.of (u := .slice (some ⟨w.heap.size, 0, none⟩) len len) ?_ _ ⟨_, _, len, V.upd_same _ _ _, rfl, Nat.le_refl _, fun c hc => by cases hc; rfl, fun _ => ⟨rfl, by simp [hBs]⟩⟩ hle hH hb
      by_cases h0 : len * i.size = 0
      · have hl0 : len = 0 := by rcases Nat.mul_eq_zero.1 h0 with h | h <;> omega
        subst hl0
        have hB0 : B = #[] := Array.eq_empty_of_size_eq_zero (by rw [hBs]; simp)
        subst hB0
        have hm : madeCells zv.cells (0 * i.size) = #[] := Array.eq_empty_of_size_eq_zero (by simp [madeCells])
        have hB' : Instr.fill (fun j => some (j * i.size, i.size)) #[] (ps.toList.map fun (i, x) => (i, a.eval x)) = some #[] := by rw [hm] at hB; exact hB
        simp [execOp, ho, Instr.buildSlice, run_underlying ht, sizeOf, typeInfo, hi, hB', newRow, Array.range_zero']
      · have := run_buildSlice (P := P) w t e len (ps.map fun (i, x) => (i, a.eval x)) B i zv ht hi hzv (by omega) h0 (by simpa [madeCells] using hB)
        simp [execOp, ho, this]
    · cases hv
  · cases hv

theorem g_mslice (hS : SR N ν s a) (H : HR ν base h w) {t e : TypeId} {x y : Operand} {ex ey : AE} {i : TypeInfo} {z : AV} (ht : P.underlying t = some (.slice e)) (hi : P.info? e = some i) (hz : zeroOf P e = some z) (hx : cE x = some ex) (hy : cE y = some ey)
    (hpos : 0 < i.size) (hzl : z.cells.length = i.size) (ho : o.op = .makeSlice t x y) (hv : aop (.mslice i.size i.bytes z.cells ex ey) s h = some (v, h')) : Good P ν base h w a o v h' := by
  obtain ⟨i', zv, hi', hzv, hcv⟩ := zeroOf_inv hz
  rw [hi] at hi'; cases hi'
  have rz := cV_ok hcv ν
  have rx := cE_ok hS hx
  have ry := cE_ok hS hy
  simp only [aop] at hv
  split at hv
  · rename_i k1 l k2 c hex hey
    rw [hex] at rx; rw [hey] at ry
    have e1 : a.eval x = .int k1 l := rx
    have e2 : a.eval y = .int k2 c := ry
    split at hv
    · rename_i hc
      obtain ⟨h0, hlc, hby, hbig, hzl', hall⟩ := hc
      subst hlc
      simp only [Option.some.injEq, Prod.mk.injEq] at hv
      obtain ⟨rfl, rfl⟩ := hv
      have hzc := rz.cells hall
      have hrm := rep_madeCells hzc l.toNat hzl hpos
      have hone : (rep l.toNat z.cells).all AV.one = true := by
        generalize l.toNat = n
        induction n with
        | zero => rfl
        | succ n ih => rw [rep, List.all_append, hall, ih]; rfl
      obtain ⟨hH, hle, hb⟩ := H.newCells hrm hone [] (madeCells zv.cells (l.toNat * i.size)) (by simp) e
      refine Good.of (u := .slice (some ⟨w.heap.size, 0, none⟩) l.toNat l.toNat) ?_ _ ⟨_, _, l.toNat, V.upd_same _ _ _, rfl, Nat.le_refl _, fun c hc => by cases hc; rfl, fun _ => ⟨rfl, by simp [madeCells]⟩⟩ hle hH hb
      have := run_make (P := P) w t e i zv ht hi hzv k1 k2 l l h0 (Int.le_refl _) (by omega) (by omega)
      simp [execOp, ho, e1, e2, this]
    · cases hv
  · cases hv


/-! ### parts of slices and strings -/
theorem cEo_ok (hS : SR N ν s a) {x : Option Operand} {e : Option AE} (h : cEo x = some e) : match e.map (AE.ev s), x.map a.eval with
    | none, none => True
    | some v, some u => VR ν v u
    | _, _ => False := by
  cases x with
  | none => simp [cEo] at h; subst h; trivial
  | some x =>
    simp only [cEo] at h
    split at h
    · rename_i e' he; cases h; exact cE_ok hS he
    · cases h

/-- A bound that is met, as the model asks it. -/
theorem bound_run {x : Option AV} {y : Option Value} (hxy : match x, y with | none, none => True | some v, some u => VR ν v u | _, _ => False) {dflt lim n : Nat} (hb : bound x dflt lim = some n) :
    (y = none ∧ n = dflt) ∨ (∃ k i, y = some (.int k i) ∧ 0 ≤ i ∧ i ≤ lim ∧ n = i.toNat) := by
  cases x with
  | none => cases y with
    | none => simp [bound] at hb; exact .inl ⟨rfl, hb.symm⟩
    | some _ => exact hxy.elim
  | some x => cases y with
    | none => exact hxy.elim
    | some y =>
      cases x <;> simp [bound] at hb
      rename_i k i
      have e : y = .int k i := hxy
      exact .inr ⟨k, i, by rw [e], hb.1.1, hb.1.2, hb.2.symm⟩

theorem sliceBound_run {k : IntKind} {i : Int} {lim : Nat} (h0 : 0 ≤ i) (h1 : i ≤ lim) (code : BoundsCode) : (Instr.sliceBound (.int k i) lim code).run P w = .ok i.toNat w := by
  simp [Instr.sliceBound, asIntOf, h0, h1]

theorem g_slstr (hS : SR N ν s a) (H : HR ν base h w) {t : TypeId} {x : Operand} {lo hi : Option Operand} {ex : AE} {el eh : Option AE} (ht : P.underlying t = some .string) (hx : cE x = some ex) (hl : cEo lo = some el) (hh : cEo hi = some eh)
    (ho : o.op = .slice t x lo hi none) (hv : aop (.slstr ex el eh) s h = some (v, h')) : Good P ν base h w a o v h' := by
  have rx := cE_ok hS hx
  have rl := cEo_ok hS hl
  have rh := cEo_ok hS hh
  simp only [aop] at hv
  split at hv
  · rename_i q hex
    rw [hex] at rx
    have e1 : a.eval x = .string q := rx
    split at hv
    · cases hv
    · rename_i j hj
      split at hv
      · cases hv
      · rename_i i hi'
        simp only [Option.some.injEq, Prod.mk.injEq] at hv
        obtain ⟨rfl, rfl⟩ := hv
        refine Good.quiet H (u := .string (q.extract i j)) ?_ rfl
        have hrun : (Instr.sliceBounds false q.size q.size (lo.map a.eval) (hi.map a.eval) none).run P w = .ok (i, j, q.size) w := by
          rcases bound_run rh hj with ⟨eh', rfl⟩ | ⟨k, m, eh', h0, h1, rfl⟩ <;> rcases bound_run rl hi' with ⟨el', rfl⟩ | ⟨k', m', el', h0', h1', rfl⟩
          · simp [Instr.sliceBounds, eh', el']
          · simp [Instr.sliceBounds, eh', el', sliceBound_run h0' h1']
          · simp [Instr.sliceBounds, eh', el', sliceBound_run h0 h1]
          · simp [Instr.sliceBounds, eh', el', sliceBound_run h0 h1, sliceBound_run h0' h1']
        simp [execOp, ho, e1, Instr.sliceAt, Instr.slice, run_underlying ht, hrun]
  · cases hv

theorem flatten_drop {es : Nat} : ∀ {l : List (List AV)} (k : Nat), (∀ r ∈ l, r.length = es) → (l.drop k).flatten = l.flatten.drop (k * es)
  | [], _, _ => by simp
  | r :: l, 0, _ => by simp
  | r :: l, k + 1, h => by
    have hr := h r (by simp)
    have e1 : (k + 1) * es = es + k * es := by rw [Nat.add_mul]; omega
    rw [List.drop_succ_cons, flatten_drop k (fun q hq => h q (List.mem_cons_of_mem _ hq)), List.flatten_cons, List.drop_append, hr, e1, List.drop_of_length_le (show r.length ≤ es + k * es by omega), List.nil_append, Nat.add_sub_cancel_left]
theorem flatten_take {es : Nat} : ∀ {l : List (List AV)} (k : Nat), (∀ r ∈ l, r.length = es) → (l.take k).flatten = l.flatten.take (k * es)
  | [], _, _ => by simp
  | r :: l, 0, _ => by simp
  | r :: l, k + 1, h => by
    have hr := h r (by simp)
    have e1 : (k + 1) * es = es + k * es := by rw [Nat.add_mul]; omega
    rw [List.take_succ_cons, List.flatten_cons, flatten_take k (fun q hq => h q (List.mem_cons_of_mem _ hq)), List.flatten_cons, List.take_append, hr, e1, List.take_of_length_le (show r.length ≤ es + k * es by omega), Nat.add_sub_cancel_left]

/-- The bounds of a part, as the model asks them. -/
theorem bounds_run {lo hi mx : Option Operand} {el eh em : Option AE} (rl : match el.map (AE.ev s), lo.map a.eval with | none, none => True | some v, some u => VR ν v u | _, _ => False)
    (rh : match eh.map (AE.ev s), hi.map a.eval with | none, none => True | some v, some u => VR ν v u | _, _ => False) (rm : match em.map (AE.ev s), mx.map a.eval with | none, none => True | some v, some u => VR ν v u | _, _ => False)
    (hm : cEo mx = some em) (hmh : em.isSome = true → eh.isSome = true) {n cap : Nat} {cp : Option Nat} (hle : n ≤ cap) (hcp : ∀ c, cp = some c → c = cap) {m : Option Nat} {j l : Nat}
    (hmm : (match (generalizing := false) em with | none => some cp | some m => (bound (some (m.ev s)) 0 n).map some) = some m) (hj : bound (eh.map (AE.ev s)) n (m.getD n) = some j) (hnj : ¬ n < j) (hl' : bound (el.map (AE.ev s)) 0 j = some l) :
    ∃ M, M ≤ cap ∧ (∀ c, m = some c → c = M) ∧ j ≤ M ∧ l ≤ j ∧ (Instr.sliceBounds true n cap (lo.map a.eval) (hi.map a.eval) (mx.map a.eval)).run P w = .ok (l, j, M) w := by
  cases em with
  | none =>
    have em0 : mx = none := by cases mx with | none => rfl | some _ => simp only [cEo] at hm; split at hm <;> cases hm
    subst em0
    simp only [Option.some.injEq] at hmm
    subst hmm
    refine ⟨cap, Nat.le_refl _, hcp, by omega, ?_, ?_⟩
    · rcases bound_run rl hl' with ⟨_, rfl⟩ | ⟨_, m', _, _, _, rfl⟩ <;> omega
    · have hjc : j ≤ cap := by omega
      have hnc : ∀ q : Int, q ≤ (cp.getD n : Nat) → q ≤ (cap : Int) := fun q hq => by
        cases cp with
        | none => simp only [Option.getD_none] at hq; omega
        | some c => have := hcp c rfl; simp only [Option.getD_some] at hq; omega
      rcases bound_run rh hj with ⟨eh', rfl⟩ | ⟨k, q, eh', h0, h1, rfl⟩ <;> rcases bound_run rl hl' with ⟨el', rfl⟩ | ⟨k', q', el', h0', h1', rfl⟩
      · simp [Instr.sliceBounds, eh', el']
      · simp [Instr.sliceBounds, eh', el', sliceBound_run h0' h1']
      · simp [Instr.sliceBounds, eh', el', sliceBound_run h0 (hnc q h1)]
      · simp [Instr.sliceBounds, eh', el', sliceBound_run h0 (hnc q h1), sliceBound_run h0' h1']
  | some em =>
    simp only [Option.map_eq_some_iff] at hmm
    obtain ⟨M, hbM, rfl⟩ := hmm
    have rm' := bound_run (x := some (em.ev s)) (y := mx.map a.eval) rm hbM
    simp only [Option.getD_some] at hj
    rcases rm' with ⟨e0, rfl⟩ | ⟨k2, q2, em', h02, h12, rfl⟩
    · rw [e0] at rm; exact rm.elim
    · refine ⟨q2.toNat, by omega, fun c hc => by cases hc; rfl, ?_, ?_, ?_⟩
      · rcases bound_run rh hj with ⟨eh', rfl⟩ | ⟨_, q, _, _, h1, rfl⟩
        · exfalso
          have := hmh rfl
          cases eh with
          | none => cases this
          | some eh => rw [eh'] at rh; exact rh.elim
        · omega
      · rcases bound_run rl hl' with ⟨_, rfl⟩ | ⟨_, m', _, _, _, rfl⟩ <;> omega
      · rcases bound_run rh hj with ⟨eh', rfl⟩ | ⟨k, q, eh', h0, h1, rfl⟩
        · exfalso
          have := hmh rfl
          cases eh with
          | none => cases this
          | some eh => rw [eh'] at rh; exact rh.elim
        · rcases bound_run rl hl' with ⟨el', rfl⟩ | ⟨k', q', el', h0', h1', rfl⟩
          · simp [Instr.sliceBounds, em', eh', el', sliceBound_run h02 (show q2 ≤ (cap : Int) by omega), sliceBound_run h0 h1]
          · simp [Instr.sliceBounds, em', eh', el', sliceBound_run h02 (show q2 ≤ (cap : Int) by omega), sliceBound_run h0 h1, sliceBound_run h0' h1']

theorem g_slice (hS : SR N ν s a) (H : HR ν base h w) {t e : TypeId} {i : TypeInfo} {x : Operand} {lo hi mx : Option Operand} {ex : AE} {el eh em : Option AE} (ht : P.underlying t = some (.slice e)) (hi' : P.info? e = some i) (hx : cE x = some ex) (hl : cEo lo = some el)
    (hh : cEo hi = some eh) (hm : cEo mx = some em) (hmh : em.isSome = true → eh.isSome = true) (ho : o.op = .slice t x lo hi mx) (hv : aop (.slice i.size ex el eh em) s h = some (v, h')) : Good P ν base h w a o v h' := by
  have rx := cE_ok hS hx
  have rl := cEo_ok hS hl
  have rh := cEo_ok hS hh
  have rm := cEo_ok hS hm
  simp only [aop] at hv
  split at hv
  · rename_i hex
    rw [hex] at rx
    have e1 : a.eval x = .slice none 0 0 := rx
    split at hv
    · rename_i hbh hbl
      simp only [Option.some.injEq, Prod.mk.injEq] at hv
      obtain ⟨rfl, rfl⟩ := hv
      have em0 : mx = none := by cases mx with | none => rfl | some _ => simp only [cEo] at hm; split at hm <;> cases hm
      subst em0
      refine Good.quiet H (u := .slice none 0 0) ?_ rfl
      have hrun : (Instr.sliceBounds true 0 0 (lo.map a.eval) (hi.map a.eval) none).run P w = .ok (0, 0, 0) w := by
        rcases bound_run rh hbh with ⟨eh', _⟩ | ⟨k, m, eh', h0, h1, h2⟩ <;> rcases bound_run rl hbl with ⟨el', _⟩ | ⟨k', m', el', h0', h1', h2'⟩
        · simp [Instr.sliceBounds, eh', el']
        · simp [Instr.sliceBounds, eh', el', sliceBound_run h0' h1', ← h2']
        · simp [Instr.sliceBounds, eh', el', sliceBound_run h0 h1, ← h2]
        · simp [Instr.sliceBounds, eh', el', sliceBound_run h0 h1, ← h2, sliceBound_run h0' h1', ← h2']
      simp [execOp, ho, e1, Instr.sliceAt, Instr.slice, run_underlying ht, hrun, sizeOf, typeInfo, hi']
    · cases hv
  · rename_i b off es n cp hex
    rw [hex] at rx
    obtain ⟨p, A, cap, hp, e1, hle, hcp, hA⟩ := rx
    split at hv
    · cases hv
    · rename_i hes
      have hes' : es = i.size := Decidable.not_not.1 hes
      subst hes'
      -- the bound on the capacity: what it is for the model
      split at hv
      · cases hv
      · rename_i m hmm
        split at hv
        · cases hv
        · rename_i j hj
          split at hv
          · cases hv
          · rename_i hnj
            split at hv
            · cases hv
            · rename_i l hl'
              simp only [Option.some.injEq, Prod.mk.injEq] at hv
              obtain ⟨rfl, rfl⟩ := hv
              have hM := bounds_run (P := P) (w := w) rl rh rm hm hmh hle hcp hmm hj hnj hl'
              obtain ⟨M, hMc, hcM, hjM, hlj, hrun⟩ := hM
              refine Good.quiet H (u := .slice (some (if M = l then A else A.add (l * i.size))) (j - l) (M - l)) ?_ ?_
              · simp [execOp, ho, e1, Instr.sliceAt, Instr.slice, run_underlying ht, hrun, sizeOf, typeInfo, hi']
                split <;> rfl
              · refine ⟨p, _, M - l, hp, rfl, by omega, ?_, fun hpos => ?_⟩
                · intro c hc
                  simp only [Option.map_eq_some_iff] at hc
                  obtain ⟨c', hc', rfl⟩ := hc
                  rw [hcM c' hc']
                · obtain ⟨rfl, hsz⟩ := hA (by omega)
                  rw [if_neg (by omega), Addr.add_mid]
                  refine ⟨by rw [Nat.add_assoc], ?_⟩
                  have e2 : l * i.size + (M - l) * i.size = M * i.size := by rw [← Nat.add_mul]; congr 1; omega
                  have e3 : M * i.size ≤ cap * i.size := Nat.mul_le_mul_right _ hMc
                  omega
  · rename_i c rows hex
    rw [hex] at rx
    split at hv
    · cases hv
    · rename_i m hmm
      split at hv
      · cases hv
      · rename_i j hj
        split at hv
        · cases hv
        · rename_i hnj
          split at hv
          · cases hv
          · rename_i l hl'
            split at hv
            · rename_i hall
              simp only [Option.some.injEq, Prod.mk.injEq] at hv
              obtain ⟨rfl, rfl⟩ := hv
              have hall' : ∀ r ∈ rows, r.length = i.size := fun r hr => by simpa using List.all_eq_true.1 hall r hr
              rcases rx with ⟨e1, rfl, hc⟩ | ⟨A, cap, us, e1, hle, hcp, h4, ⟨es, h5⟩, h6⟩
              · have hcp : ∀ k, c = some k → k = 0 := fun k hk => by rcases hc with rfl | rfl <;> cases hk; rfl
                obtain ⟨M, hMc, hcM, hjM, hlj, hrun⟩ := bounds_run (P := P) (w := w) rl rh rm hm hmh (Nat.le_refl 0) hcp hmm hj hnj hl'
                have hM0 : M = 0 := by omega
                have hj0 : j = 0 := by omega
                have hl0 : l = 0 := by omega
                subst hM0; subst hj0; subst hl0
                refine Good.quiet H (u := .slice none 0 0) ?_ (.inl ⟨rfl, by simp, ?_⟩)
                · simp [execOp, ho, e1, Instr.sliceAt, Instr.slice, run_underlying ht, hrun, sizeOf, typeInfo, hi']
                · cases m with
                  | none => exact .inl rfl
                  | some c' => rw [hcM c' rfl]; exact .inr rfl
              · obtain ⟨M, hMc, hcM, hjM, hlj, hrun⟩ := bounds_run (P := P) (w := w) rl rh rm hm hmh hle hcp hmm hj hnj hl'
                have hjr : j ≤ rows.length := by omega
                have hlen : ((rows.drop l).take (j - l)).length = j - l := by rw [List.length_take, List.length_drop]; omega
                have hfl : ((rows.drop l).take (j - l)).flatten = (rows.flatten.drop (l * i.size)).take ((j - l) * i.size) := by
                  rw [flatten_take _ (fun r hr => hall' r (List.mem_of_mem_drop hr)), flatten_drop _ hall']
                refine Good.quiet H (u := .slice (some (if M = l then A else A.add (l * i.size))) (j - l) (M - l)) ?_ (.inr ⟨_, M - l, (us.drop (l * i.size)).take ((j - l) * i.size), by rw [hlen], by omega, ?_, ?_, ⟨i.size, fun r hr => ⟨hall' r (List.mem_of_mem_drop (List.mem_of_mem_take hr)), (h5 r (List.mem_of_mem_drop (List.mem_of_mem_take hr))).2⟩⟩, fun hne => ?_⟩)
                · simp [execOp, ho, e1, Instr.sliceAt, Instr.slice, run_underlying ht, hrun, sizeOf, typeInfo, hi']
                  split <;> rfl
                · intro c' hc'
                  simp only [Option.map_eq_some_iff] at hc'
                  obtain ⟨c2, hc2, rfl⟩ := hc'
                  rw [hcM c2 hc2]
                · apply VRss.of_flat
                  rw [hfl]
                  exact (h4.flat.drop _).take _
                · have hne' : us ≠ [] := fun e => hne (by rw [e]; simp)
                  obtain ⟨g, off, rfl, hzz⟩ := h6 hne'
                  have hlM : M ≠ l := fun e => hne (by rw [show j - l = 0 by omega]; simp)
                  rw [if_neg hlM, Addr.add_mid]
                  refine ⟨g, off + l * i.size, rfl, fun k x hx => ?_⟩
                  rw [List.getElem?_take] at hx
                  split at hx
                  · rw [List.getElem?_drop] at hx
                    rw [Nat.add_assoc]; exact hzz _ _ hx
                  · cases hx
            · cases hv
  · cases hv

end
end Go.Bm
