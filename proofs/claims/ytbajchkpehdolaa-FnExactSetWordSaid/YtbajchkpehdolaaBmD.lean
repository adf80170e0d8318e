/- One operation of the abstract machine's stands for one of the model's (first part). -/
import Derived.Test.YtbajchkpehdolaaBmC
namespace Go.Bm
set_option linter.all false
open Go Go.RowKit
set_option linter.unusedVariables false
set_option linter.unusedSimpArgs false

/-- What the operation does, as the abstract machine tells it. -/
def Good (P : Program) (ν : V) (base : Nat) (h : AH) (w : World) (a : Act) (o : Oper) (v : AV) (h' : AH) : Prop :=
  ∃ ν' w' u, (∀ next Q, next (a.put o.dst u) w' → o.wp P a w next Q) ∧ VR ν' v u ∧ V.le ν ν' ∧ HR ν' base h' w' ∧ Fr base ν h w ν' h' w' ∧ ν'.z = ν.z

section
variable {P : Program} {N : Nat} {ν : V} {base : Nat} {s : S} {h h' : AH} {w w' : World} {a : Act} {o : Oper} {v : AV} {u : Value}

theorem Good.of (hr : (execOp a.eval o).run P w = .ok (.value u) w') (ν' : V) (hv : VR ν' v u) (hν : V.le ν ν') (hH : HR ν' base h' w') (hb : Fr base ν h w ν' h' w') (hz : ν'.z = ν.z := by rfl) : Good P ν base h w a o v h' :=
  ⟨ν', w', u, fun next Q hn => by unfold Oper.wp; rw [hr]; exact hn, hv, hν, hH, hb, hz⟩

/-- An operation that changes nothing. -/
theorem Good.quiet (H : HR ν base h w) (hr : (execOp a.eval o).run P w = .ok (.value u) w) (hv : VR ν v u) : Good P ν base h w a o v h :=
  Good.of hr ν hv (V.le_refl _) H (Fr.refl _ _ _ _)

theorem Good.skip (hr : (execOp a.eval o).run P w = .ok .skip w') (ν' : V) (hν : V.le ν ν') (hH : HR ν' base h' w') (hb : Fr base ν h w ν' h' w') (hz : ν'.z = ν.z := by rfl) : Good P ν base h w a o (.tup []) h' :=
  ⟨ν', w', undef, fun next Q hn => by unfold Oper.wp; rw [hr]; exact hn, ⟨#[], rfl, rfl⟩, hν, hH, hb, hz⟩

theorem g_mov (hS : SR N ν s a) (H : HR ν base h w) {x : Operand} {e : AE} (he : cE x = some e) (ho : o.op = .move x ∨ o.op = .assign x) (hv : aop (.mov e) s h = some (v, h')) : Good P ν base h w a o v h' := by
  simp only [aop, Option.some.injEq, Prod.mk.injEq] at hv
  obtain ⟨rfl, rfl⟩ := hv
  refine Good.quiet H (u := a.eval x) ?_ (cE_ok hS he)
  rcases ho with ho | ho <;> simp [execOp, ho]

theorem VR.bool_inv {c : Bool} (hx : VR ν (.bool c) u) : u = .bool c := hx
theorem VR.int_inv {k : IntKind} {n : Int} (hx : VR ν (.int k n) u) : u = .int k n := hx
theorem VR.str_inv {t : ByteArray} (hx : VR ν (.str t) u) : u = .string t := hx

theorem g_pick (hS : SR N ν s a) (H : HR ν base h w) {c x y : Operand} {ec ex ey : AE} (hc : cE c = some ec) (hx : cE x = some ex) (hy : cE y = some ey) (ho : o.op = .pick c x y)
    (hv : aop (.pick ec ex ey) s h = some (v, h')) : Good P ν base h w a o v h' := by
  have rc := cE_ok hS hc
  have rx := cE_ok hS hx
  have ry := cE_ok hS hy
  simp only [aop] at hv
  split at hv
  · rename_i b hb
    rw [hb] at rc
    have rc' : a.eval c = .bool b := rc
    simp only [Option.some.injEq, Prod.mk.injEq] at hv
    obtain ⟨rfl, rfl⟩ := hv
    refine Good.quiet H (u := if b then a.eval x else a.eval y) ?_ ?_
    · simp [execOp, ho, rc', asBool]
    · unfold pickv
      split
      · rename_i p q hp hq
        rw [hp] at rx; rw [hq] at ry
        have e1 : a.eval x = .bool p := rx
        have e2 : a.eval y = .bool q := ry
        cases b <;> simp [e1, e2, VR]
      · cases b
        · simpa using ry
        · simpa using rx
  · cases hv

theorem run_newVar (t : TypeId) (z : Value) : (newVar t z).run P w = .ok ⟨w.heap.size, 0, none⟩ (w.alloc (.cells z.cells t)) := by
  simp [newVar, newRow]

theorem g_box (hS : SR N ν s a) (H : HR ν base h w) {t : TypeId} {x : Operand} {e : AE} (he : cE x = some e) (ho : o.op = .box t x) (hv : aop (.box e) s h = some (v, h')) : Good P ν base h w a o v h' := by
  have rx := cE_ok hS he
  simp only [aop] at hv
  split at hv
  · rename_i hall
    simp only [Option.some.injEq, Prod.mk.injEq] at hv
    obtain ⟨rfl, rfl⟩ := hv
    have hc := rx.cells hall
    obtain ⟨hH, hle, hb⟩ := H.newCells hc hall [] (a.eval x).cells (by simp) t
    refine Good.of (u := .pointer (some ⟨w.heap.size, 0, none⟩)) ?_ _ ⟨_, V.upd_same _ _ _, rfl⟩ hle hH hb
    simp [execOp, ho, Instr.box, run_newVar]
  · cases hv

theorem zeroOf_inv {t : TypeId} {z : AV} (hz : zeroOf P t = some z) : ∃ i zv, P.info? t = some i ∧ i.zero = some zv ∧ cV zv = some z := by
  unfold zeroOf at hz
  split at hz
  · rename_i i hi
    split at hz
    · rename_i zv hzv; exact ⟨i, zv, hi, hzv, hz⟩
    · cases hz
  · cases hz

theorem g_alloc (H : HR ν base h w) {t : TypeId} {z : AV} (hz : zeroOf P t = some z) (ho : o.op = .alloc t) (hv : aop (.alloc z) s h = some (v, h')) : Good P ν base h w a o v h' := by
  obtain ⟨i, zv, hi, hzv, hcv⟩ := zeroOf_inv hz
  have rx := cV_ok hcv ν
  simp only [aop] at hv
  split at hv
  · rename_i hall
    simp only [Option.some.injEq, Prod.mk.injEq] at hv
    obtain ⟨rfl, rfl⟩ := hv
    have hc := rx.cells hall
    obtain ⟨hH, hle, hb⟩ := H.newCells hc hall [] zv.cells (by simp) t
    refine Good.of (u := .pointer (some ⟨w.heap.size, 0, none⟩)) ?_ _ ⟨_, V.upd_same _ _ _, rfl⟩ hle hH hb
    simp [execOp, ho, Instr.alloc, zeroValue, typeInfo, hi, hzv, run_newVar]
  · cases hv

theorem g_load_agg (hS : SR N ν s a) (H : HR ν base h w) (hz : HZ ν h w) {t : TypeId} {x : Operand} {e : AE} {fs : Array Field} {i : TypeInfo} (he : cE x = some e) (ht : P.underlying t = some (.struct fs)) (hi : P.info? t = some i) (ho : o.op = .load t x)
    (hv : aop (.load true i.size e) s h = some (v, h')) : Good P ν base h w a o v h' := by
  have rx := cE_ok hS he
  simp only [aop] at hv
  split at hv
  · rename_i l hl
    simp only [if_true, Option.some.injEq, Prod.mk.injEq] at hv
    obtain ⟨rfl, rfl⟩ := hv
    obtain ⟨g, off, vs, hpx, hr, hvs, hln⟩ := rdA_ok H hz rx hl
    refine Good.quiet H (u := .agg vs.toArray) ?_ ⟨_, rfl, by simpa using hvs⟩
    have := run_loadAt_mid (P := P) w g off t vs _ hr ht rfl (by simp [hi, ← hvs.length, hln])
    simp [execOp, ho, hpx, this]
  · cases hv

theorem g_load_one (hS : SR N ν s a) (H : HR ν base h w) (hz : HZ ν h w) {t : TypeId} {x : Operand} {e : AE} {d : TypeDesc} (he : cE x = some e) (ht : P.underlying t = some d) (hd : d.isRow = false) (ho : o.op = .load t x)
    (hv : aop (.load false 1 e) s h = some (v, h')) : Good P ν base h w a o v h' := by
  have rx := cE_ok hS he
  simp only [aop] at hv
  split at hv
  · rename_i l hl
    simp only [Bool.false_eq_true, if_false] at hv
    split at hv
    · rename_i y
      simp only [Option.some.injEq, Prod.mk.injEq] at hv
      obtain ⟨rfl, rfl⟩ := hv
      obtain ⟨g, off, vs, hpx, hr, hvs, hln⟩ := rdA_ok H hz rx hl
      obtain ⟨u, us, rfl, hu, _⟩ := hvs
      have hc := hr 0 u rfl
      simp only [Nat.add_zero] at hc
      refine Good.quiet H (u := u) ?_ hu
      have hagg : (isAgg t).run P w = .ok false w := by
        unfold isAgg
        rw [Sem.run_bind, run_underlying ht w]
        cases d <;> simp_all [TypeDesc.isRow]
      simp [execOp, ho, hpx, Instr.loadAt, Instr.sureAddr, loadVar, hagg, hc]
    · cases hv
  · cases hv

theorem g_store (hS : SR N ν s a) (H : HR ν base h w) {t : TypeId} {x y : Operand} {ex ey : AE} {i : TypeInfo} (hx : cE x = some ex) (hy : cE y = some ey) (hi : P.info? t = some i) (ho : o.op = .store t x y)
    (hv : aop (.store i.size ex ey) s h = some (v, h')) : Good P ν base h w a o v h' := by
  have rx := cE_ok hS hx
  have ry := cE_ok hS hy
  simp only [aop] at hv
  split at hv
  · rename_i b off hex
    rw [hex] at rx
    obtain ⟨p, hp, hpx⟩ := rx
    split at hv
    · rename_i hlen
      split at hv
      · rename_i h2 hw
        simp only [Option.some.injEq, Prod.mk.injEq] at hv
        obtain ⟨rfl, rfl⟩ := hv
        have hall : (ey.ev s).cells.all AV.one = true := by
          unfold AH.write at hw
          split at hw
          · split at hw
            · rename_i hc; simp only [Bool.and_eq_true] at hc; exact hc.2
            · cases hw
          · cases hw
        have hc := ry.cells hall
        obtain ⟨q, hq, hth, _, hH, hb⟩ := H.write hc hw
        rw [hp] at hq; cases hq
        refine Good.skip ?_ ν (V.le_refl _) hH hb
        have hst := run_storeCells_cells (P := P) p.g (p.o + off) (a.eval y).cells.toList 0 w (fun j hj => by simpa using (hth j (by simpa using hj)).1) (fun j hj => by simpa using (hth j (by simpa using hj)).2) (hc.one hall)
        have hsz : (a.eval y).cells.size = i.size := by rw [← hlen, hc.length]; simp
        simp only [Nat.add_zero] at hst
        simp [execOp, ho, hpx, Instr.storeAt, Instr.sureAddr, storeVar, sizeOf, typeInfo, hi, hsz, hst]
      · cases hv
    · cases hv
  · cases hv

theorem g_nchk (hS : SR N ν s a) (H : HR ν base h w) {x : Operand} {e : AE} (he : cE x = some e) (ho : o.op = .nilCheck x) (hv : aop (.nchk e) s h = some (v, h')) : Good P ν base h w a o v h' := by
  have rx := cE_ok hS he
  simp only [aop] at hv
  split at hv
  · rename_i b off hx
    rw [hx] at rx
    simp only [Option.some.injEq, Prod.mk.injEq] at hv
    obtain ⟨rfl, rfl⟩ := hv
    obtain ⟨p, hp, hpx⟩ := rx
    refine Good.quiet H (u := .pointer (some ⟨p.g, p.o + off, none⟩)) ?_ ⟨p, hp, rfl⟩
    simp [execOp, ho, hpx]
  · rename_i c off hx
    rw [hx] at rx
    simp only [Option.some.injEq, Prod.mk.injEq] at hv
    obtain ⟨rfl, rfl⟩ := hv
    have rx0 := rx
    obtain ⟨g, o1, us, hpx, _⟩ := rx
    refine Good.quiet H (u := .pointer (some ⟨g, o1 + off, none⟩)) ?_ (hpx ▸ rx0)
    simp [execOp, ho, hpx]
  · cases hv

theorem g_un (hS : SR N ν s a) (H : HR ν base h w) {op : UnOp} {t : TypeId} {x : Operand} {e : AE} (he : cE x = some e) (ho : o.op = .unOp op t x) (hv : aop (.un op e) s h = some (v, h')) : Good P ν base h w a o v h' := by
  have rx := cE_ok hS he
  simp only [aop] at hv
  split at hv
  · rename_i r hr
    simp only [Option.some.injEq, Prod.mk.injEq] at hv
    obtain ⟨rfl, rfl⟩ := hv
    unfold un at hr
    split at hr
    · rename_i k n hx
      rw [hx] at rx
      have e1 : a.eval x = .int k n := rx
      split at hr
      · cases hr
        refine Good.quiet H (u := .int k (k.wrap (0 - n))) ?_ rfl
        simp [execOp, ho, e1, Op.unary, Op.intArith]
      · cases hr
    · rename_i b hx
      rw [hx] at rx
      have e1 : a.eval x = .bool b := rx
      split at hr
      · cases hr
        refine Good.quiet H (u := .bool (!b)) ?_ rfl
        simp [execOp, ho, e1, Op.unary]
      · cases hr
    · cases hr
  · cases hv

theorem g_conv (hS : SR N ν s a) (H : HR ν base h w) {src dst : TypeId} {x : Operand} {e : AE} {k' k : IntKind} (he : cE x = some e) (hs : P.underlying src = some (.int k')) (hd : P.underlying dst = some (.int k)) (ho : o.op = .convert src dst x)
    (hv : aop (.conv k e) s h = some (v, h')) : Good P ν base h w a o v h' := by
  have rx := cE_ok hS he
  simp only [aop] at hv
  split at hv
  · rename_i k2 n hx
    rw [hx] at rx
    have e1 : a.eval x = .int k2 n := rx
    simp only [Option.some.injEq, Prod.mk.injEq] at hv
    obtain ⟨rfl, rfl⟩ := hv
    refine Good.quiet H (u := .int k (k.wrap n)) ?_ rfl
    simp [execOp, ho, e1, convert, run_underlying hs, run_underlying hd, Conv.intToInt]
  · cases hv

theorem g_movs (hS : SR N ν s a) (H : HR ν base h w) {src dst : TypeId} {x : Operand} {e : AE} (he : cE x = some e) (hs : P.underlying src = some .string) (hd : P.underlying dst = some .string) (ho : o.op = .convert src dst x)
    (hv : aop (.movs e) s h = some (v, h')) : Good P ν base h w a o v h' := by
  have rx := cE_ok hS he
  simp only [aop] at hv
  split at hv
  · rename_i t hx
    rw [hx] at rx
    have e1 : a.eval x = .string t := rx
    simp only [Option.some.injEq, Prod.mk.injEq] at hv
    obtain ⟨rfl, rfl⟩ := hv
    refine Good.quiet H (u := .string t) ?_ rfl
    simp [execOp, ho, e1, convert, run_underlying hs, run_underlying hd]
  · cases hv

theorem bytesA_spec : ∀ (l : List AV) (bs : List UInt8), bytesA l = some bs → l = bs.map fun b => .int .u8 (b.toNat : Int)
  | [], bs, h => by simp only [bytesA, Option.some.injEq] at h; subst h; rfl
  | x :: r, bs, h => by
    unfold bytesA at h
    split at h
    · cases h; rename_i e; cases e
    · rename_i n r' e
      cases e
      split at h
      · rename_i hn
        split at h
        · rename_i l hl
          cases h
          rw [List.map_cons, ← bytesA_spec r l hl, ← hn]
        · cases h
      · cases h
    · cases h

theorem g_b2s (hS : SR N ν s a) (H : HR ν base h w) (hz : HZ ν h w) {src dst b : TypeId} {x : Operand} {e : AE} (he : cE x = some e) (hs : P.underlying src = some (.slice b)) (hb : P.underlying b = some (.int .u8)) (hd : P.underlying dst = some .string) (ho : o.op = .convert src dst x)
    (hv : aop (.b2s e) s h = some (v, h')) : Good P ν base h w a o v h' := by
  have rx := cE_ok hS he
  simp only [aop] at hv
  split at hv
  · rename_i n l hl
    split at hv
    · rename_i bs hbs
      simp only [Option.some.injEq, Prod.mk.injEq] at hv
      obtain ⟨rfl, rfl⟩ := hv
      obtain ⟨A, cap, vs, e1, hle, hln, hvs, _, hnone, hat⟩ := srcA_ok H hz rx hl
      have hmap := bytesA_spec l bs hbs
      have hbl : bs.length = n := by rw [← Nat.mul_one n, ← hln, hmap, List.length_map]
      refine Good.quiet H (u := .string ⟨bs.toArray⟩) ?_ rfl
      cases A with
      | none =>
        obtain ⟨rfl, rfl⟩ := hnone rfl
        have : bs = [] := List.eq_nil_of_length_eq_zero hbl
        subst this
        simp only [execOp, ho, e1]
        rw [Sem.run_bind, run_convert_bytes_nil w src b hs hb 0 0 dst hd]
        rfl
      | some A =>
        have := run_convert_bytes_back (P := P) w src dst b A cap bs hs hb hd (fun j hj => by
          have hne : vs ≠ [] := fun e => by rw [e] at hvs; have := hvs.length; rw [hmap] at this; simp at this; rw [this] at hj; simp at hj
          obtain ⟨g, off, hA, hr⟩ := hat hne
          cases hA
          have hadd : (⟨g, off, none⟩ : Addr).add j = ⟨g, off + j, none⟩ := by unfold Addr.add; split <;> simp_all
          rw [hadd]
          have hlj : l[j]? = some (.int .u8 (bs[j].toNat : Int)) := by rw [hmap, List.getElem?_map, List.getElem?_eq_getElem hj]; rfl
          obtain ⟨u, hu, ru⟩ := hvs.get j _ hlj
          have : u = .int .u8 (bs[j].toNat : Int) := ru
          rw [hr j u hu, this])
        rw [hbl] at this
        simp only [execOp, ho, e1]
        rw [Sem.run_bind, this]
        rfl
    · cases hv
  · cases hv

theorem g_s2b (hS : SR N ν s a) (H : HR ν base h w) {src dst b : TypeId} {x : Operand} {e : AE} (he : cE x = some e) (hs : P.underlying src = some .string) (hd : P.underlying dst = some (.slice b)) (hb : P.underlying b = some (.int .u8)) (ho : o.op = .convert src dst x)
    (hv : aop (.s2b e) s h = some (v, h')) : Good P ν base h w a o v h' := by
  have rx := cE_ok hS he
  simp only [aop] at hv
  split at hv
  · rename_i q hx
    rw [hx] at rx
    have e1 : a.eval x = .string q := rx
    simp only [Option.some.injEq, Prod.mk.injEq] at hv
    obtain ⟨rfl, rfl⟩ := hv
    have hsz : q.toList.length = q.size := by rw [ByteArray.toList_eq]; simp
    have hvs : VRs ν (q.toList.map fun c => AV.int .u8 (c.toNat : Int)) (q.toList.map fun c => Value.int .u8 (c.toNat : Int)) := by
      refine VRs.of (by simp) fun k x hx => ?_
      rw [List.getElem?_map] at hx ⊢
      cases hk : q.toList[k]? with
      | none => rw [hk] at hx; cases hx
      | some c => rw [hk] at hx; cases hx; exact ⟨_, rfl, rfl⟩
    have hone : (q.toList.map fun c => AV.int .u8 (c.toNat : Int)).all AV.one = true := by
      rw [List.all_eq_true]; intro x hx
      obtain ⟨c, _, rfl⟩ := List.mem_map.1 hx; rfl
    have hcap := grownCap_ge w q.size 0 b
    have hrow : (bytesRow q (grownCap w q.size 0 b)).toList = (q.toList.map fun c => Value.int .u8 (c.toNat : Int)) ++ List.replicate (grownCap w q.size 0 b - q.size) (.int .u8 0) := by
      simp [bytesRow, ByteArray.toList_eq]
    have hrs : (bytesRow q (grownCap w q.size 0 b)).size = grownCap w q.size 0 b := by
      rw [← Array.length_toList, hrow]; simp [hsz]; omega
    obtain ⟨hH, hle, hb'⟩ := H.drew.newCells hvs hone (List.replicate (grownCap w q.size 0 b - q.size) (.int .u8 0)) (bytesRow q (grownCap w q.size 0 b)) hrow b ((bytesRow q (grownCap w q.size 0 b)).size, (bytesRow q (grownCap w q.size 0 b)).size + 1) (fun k hk => by simp only; omega)
    refine Good.of (u := .slice (some ⟨w.heap.size, 0, none⟩) q.size (grownCap w q.size 0 b)) ?_ _ ⟨_, _, _, V.upd_same _ _ _, rfl, hcap, (fun c hc => by cases hc), fun _ => ⟨rfl, by simp [hrs]⟩⟩ hle hH ((Fr.drew fun _ _ h => h).trans hb')
    have := run_bytes_of_string (P := P) w src dst b q hs hd hb
    simp only [execOp, ho, e1]
    rw [Sem.run_bind, this]
    rfl
  · cases hv

theorem sizeT_inv {t : TypeId} {n : Nat} (hz : sizeT P t = some n) : ∃ i, P.info? t = some i ∧ i.size = n := by
  unfold sizeT at hz
  split at hz
  · rename_i i hi; cases hz; exact ⟨i, hi, rfl⟩
  · cases hz

theorem g_faddr (hS : SR N ν s a) (H : HR ν base h w) {t : TypeId} {x : Operand} {e : AE} {f : Nat} {fs : Array Field} {fd : Field} {n : Nat} (he : cE x = some e) (ht : P.underlying t = some (.struct fs)) (hf : fs[f]? = some fd)
    (hn : sizeT P fd.type = some n) (hn0 : n ≠ 0) (ho : o.op = .fieldAddr t x f) (hv : aop (.faddr fd.offset e) s h = some (v, h')) : Good P ν base h w a o v h' := by
  have rx := cE_ok hS he
  obtain ⟨i, hi, hin⟩ := sizeT_inv hn
  simp only [aop] at hv
  split at hv
  · rename_i b off hx
    rw [hx] at rx
    simp only [Option.some.injEq, Prod.mk.injEq] at hv
    obtain ⟨rfl, rfl⟩ := hv
    obtain ⟨p, hp, hpx⟩ := rx
    refine Good.quiet H (u := .pointer (some ⟨p.g, p.o + off + fd.offset, none⟩)) ?_ ⟨p, hp, by rw [Nat.add_assoc]⟩
    have hin0 : ¬ i.size = 0 := by omega
    simp [execOp, ho, hpx, Instr.fieldAt, run_underlying ht, hf, Instr.sureAddr, fieldPlace, sizeOf, typeInfo, hi, hin0, Addr.add_mid]
  · rename_i c off hx
    rw [hx] at rx
    simp only [Option.some.injEq, Prod.mk.injEq] at hv
    obtain ⟨rfl, rfl⟩ := hv
    obtain ⟨g, o1, us, hpx, h2, hcl, h3⟩ := rx
    refine Good.quiet H (u := .pointer (some ⟨g, o1 + off + fd.offset, none⟩)) ?_ ⟨g, o1, us, by rw [Nat.add_assoc], h2, hcl, h3⟩
    have hin0 : ¬ i.size = 0 := by omega
    simp [execOp, ho, hpx, Instr.fieldAt, run_underlying ht, hf, Instr.sureAddr, fieldPlace, sizeOf, typeInfo, hi, hin0, Addr.add_mid]
  · cases hv

theorem g_iaddr (hS : SR N ν s a) (H : HR ν base h w) {t el : TypeId} {x y : Operand} {ex ey : AE} {i : TypeInfo} (hx : cE x = some ex) (hy : cE y = some ey) (ht : P.underlying t = some (.slice el)) (hi : P.info? el = some i)
    (ho : o.op = .indexAddr t x y) (hv : aop (.iaddr i.size ex ey) s h = some (v, h')) : Good P ν base h w a o v h' := by
  have rx := cE_ok hS hx
  have ry := cE_ok hS hy
  simp only [aop] at hv
  split at hv
  · rename_i b off es n cp k j hex hey
    rw [hex] at rx; rw [hey] at ry
    have e2 : a.eval y = .int k j := ry
    split at hv
    · rename_i hc
      obtain ⟨rfl, h0, hlt⟩ := hc
      simp only [Option.some.injEq, Prod.mk.injEq] at hv
      obtain ⟨rfl, rfl⟩ := hv
      obtain ⟨p, A, cap, hp, e1, hle, _, hA⟩ := rx
      obtain ⟨rfl, _⟩ := hA (by omega)
      refine Good.quiet H (u := .pointer (some ⟨p.g, p.o + off + j.toNat * i.size, none⟩)) ?_ ⟨p, hp, by rw [Nat.add_assoc]⟩
      simp [execOp, ho, e1, e2, Instr.indexAt, asIntOf, run_underlying ht, h0, hlt, sizeOf, typeInfo, hi, Addr.add_mid]
    · cases hv
  · rename_i c l k j hex hey
    rw [hex] at rx; rw [hey] at ry
    have e2 : a.eval y = .int k j := ry
    split at hv
    · rename_i h0
      split at hv
      · rename_i r hr
        split at hv
        · rename_i hc
          obtain ⟨hrl, hes⟩ := hc
          simp only [Option.some.injEq, Prod.mk.injEq] at hv
          obtain ⟨rfl, rfl⟩ := hv
          have hlt := (List.getElem?_eq_some_iff.1 hr).1
          rcases rx with ⟨_, rfl, _⟩ | ⟨A, cap, us, e1, hle, _, h4, ⟨es, h5⟩, h6⟩
          · cases hlt
          · have hrm := List.mem_of_getElem? hr
            have hes' : es = i.size := by rw [← (h5 r hrm).1, hrl]
            subst hes'
            have hfl := flatten_rows (fun r hr => (h5 r hr).1)
            have hul := h4.flat.length
            have hmul : (j.toNat + 1) * i.size ≤ l.length * i.size := Nat.mul_le_mul_right _ hlt
            rw [Nat.add_mul] at hmul
            have hne : us ≠ [] := fun e => by rw [e, hfl] at hul; simp only [List.length_nil] at hul; omega
            obtain ⟨g, off, rfl, hzz⟩ := h6 hne
            have hseg := (h4.flat.drop (j.toNat * i.size)).take i.size
            rw [flatten_at (fun r hr => (h5 r hr).1) hr] at hseg
            refine Good.quiet H (u := .pointer (some ⟨g, off + j.toNat * i.size, none⟩)) ?_ ⟨g, off + j.toNat * i.size, _, rfl, hseg, (h5 r hrm).2.2, fun m x hx => ?_⟩
            · have hlt' : j < (l.length : Int) := by omega
              simp [execOp, ho, e1, e2, Instr.indexAt, asIntOf, run_underlying ht, h0, hlt', sizeOf, typeInfo, hi, Addr.add_mid]
            · rw [List.getElem?_take] at hx
              split at hx
              · rw [List.getElem?_drop] at hx
                rw [Nat.add_assoc]; exact hzz _ _ hx
              · cases hx
        · cases hv
      · cases hv
    · cases hv
  · cases hv

theorem g_ext (hS : SR N ν s a) (H : HR ν base h w) {x : Operand} {e : AE} {i : Nat} (he : cE x = some e) (ho : o.op = .extract x i) (hv : aop (.ext e i) s h = some (v, h')) : Good P ν base h w a o v h' := by
  have rx := cE_ok hS he
  simp only [aop] at hv
  split at hv
  · rename_i l hx
    rw [hx] at rx
    split at hv
    · rename_i y hy
      simp only [Option.some.injEq, Prod.mk.injEq] at hv
      obtain ⟨rfl, rfl⟩ := hv
      obtain ⟨vs, e1, hvs⟩ := rx
      obtain ⟨u, hu, r⟩ := hvs.get i y hy
      refine Good.quiet H (u := u) ?_ r
      rw [Array.getElem?_toList] at hu
      simp [execOp, ho, e1, Instr.extract, hu]
    · cases hv
  · cases hv

theorem args_one {c : Call} {x : Operand} (ha : c.args.toList = [x]) : c.args = #[x] := by rw [← Array.toArray_toList (xs := c.args), ha]
theorem args_two {c : Call} {x y : Operand} (ha : c.args.toList = [x, y]) : c.args = #[x, y] := by rw [← Array.toArray_toList (xs := c.args), ha]

theorem g_len_str (hS : SR N ν s a) (H : HR ν base h w) {c : Call} {x : Operand} {e : AE} {t : TypeId} (he : cE x = some e) (hc : c.callee = .builtin .len) (ha : c.args.toList = [x]) (ht : c.argTypes[0]? = some t) (hd : P.underlying t = some .string)
    (ho : o.op = .call c) (hv : aop (.len true e) s h = some (v, h')) : Good P ν base h w a o v h' := by
  have rx := cE_ok hS he
  have ha' := args_one ha
  simp only [aop] at hv
  split at hv <;> first | cases hv; done | skip
  · rename_i t' _ hx
    rw [hx] at rx
    have e1 : a.eval x = .string t' := rx
    simp only [Option.some.injEq, Prod.mk.injEq] at hv
    obtain ⟨rfl, rfl⟩ := hv
    refine Good.quiet H (u := .int .i64 t'.size) ?_ rfl
    simp [execOp, ho, resolve, hc, ha', invoke, builtin, Builtin.len_, ht, run_underlying hd, e1, goInt]
  all_goals (rename_i hst _; first | cases hst | skip)

theorem g_len_sl (hS : SR N ν s a) (H : HR ν base h w) {c : Call} {x : Operand} {e : AE} {t q : TypeId} (he : cE x = some e) (hc : c.callee = .builtin .len) (ha : c.args.toList = [x]) (ht : c.argTypes[0]? = some t) (hd : P.underlying t = some (.slice q))
    (ho : o.op = .call c) (hv : aop (.len false e) s h = some (v, h')) : Good P ν base h w a o v h' := by
  have rx := cE_ok hS he
  have ha' := args_one ha
  simp only [aop] at hv
  split at hv <;> first | cases hv; done | skip
  · rename_i hst _; cases hst
  · rename_i _ hx
    rw [hx] at rx
    have e1 : a.eval x = .slice none 0 0 := rx
    simp only [Option.some.injEq, Prod.mk.injEq] at hv
    obtain ⟨rfl, rfl⟩ := hv
    refine Good.quiet H (u := .int .i64 0) ?_ rfl
    simp [execOp, ho, resolve, hc, ha', invoke, builtin, Builtin.len_, ht, run_underlying hd, e1, goInt]
  · rename_i b o' es n cp _ hx
    rw [hx] at rx
    obtain ⟨p, A, cap, hp, e1, _⟩ := rx
    simp only [Option.some.injEq, Prod.mk.injEq] at hv
    obtain ⟨rfl, rfl⟩ := hv
    refine Good.quiet H (u := .int .i64 n) ?_ rfl
    simp [execOp, ho, resolve, hc, ha', invoke, builtin, Builtin.len_, ht, run_underlying hd, e1, goInt]
  · rename_i c l _ hx
    rw [hx] at rx
    simp only [Option.some.injEq, Prod.mk.injEq] at hv
    obtain ⟨rfl, rfl⟩ := hv
    refine Good.quiet H (u := .int .i64 l.length) ?_ rfl
    rcases rx with ⟨e1, rfl, _⟩ | ⟨A, cap, us, e1, _⟩
    · simp [execOp, ho, resolve, hc, ha', invoke, builtin, Builtin.len_, ht, run_underlying hd, e1, goInt]
    · simp [execOp, ho, resolve, hc, ha', invoke, builtin, Builtin.len_, ht, run_underlying hd, e1, goInt]

theorem g_mkfn (hS : SR N ν s a) (H : HR ν base h w) {f : FuncId} {first cap : Array Operand} {l : List AE} (hl : mapO cE cap.toList = some l) (hf : first.size = 0) (ho : o.op = .makeFunc (.func f) first cap)
    (hv : aop (.mkfn f l) s h = some (v, h')) : Good P ν base h w a o v h' := by
  simp only [aop, Option.some.injEq, Prod.mk.injEq] at hv
  obtain ⟨rfl, rfl⟩ := hv
  have hf' : first = #[] := Array.eq_empty_of_size_eq_zero hf
  refine Good.quiet H (u := .func (.func f) #[] (cap.map a.eval)) ?_ ⟨_, rfl, by simpa using mapO_cE_ok hS hl⟩
  simp [execOp, ho, Instr.makeFunc, hf']

theorem g_index (hS : SR N ν s a) (H : HR ν base h w) {t : TypeId} {x y : Operand} {ex ey : AE} (hx : cE x = some ex) (hy : cE y = some ey) (ht : P.underlying t = some .string) (ho : o.op = .index t x y)
    (hv : aop (.index ex ey) s h = some (v, h')) : Good P ν base h w a o v h' := by
  have rx := cE_ok hS hx
  have ry := cE_ok hS hy
  simp only [aop] at hv
  split at hv
  · rename_i q k j hex hey
    rw [hex] at rx; rw [hey] at ry
    have e1 : a.eval x = .string q := rx
    have e2 : a.eval y = .int k j := ry
    split at hv
    · rename_i hc
      obtain ⟨h0, hlt⟩ := hc
      simp only [Option.some.injEq, Prod.mk.injEq] at hv
      obtain ⟨rfl, rfl⟩ := hv
      have hj : j.toNat < q.size := by omega
      refine Good.quiet H (u := .int .u8 ((q.toList.getD j.toNat 0).toNat : Int)) ?_ rfl
      have hg : q[j.toNat]? = some (q.toList.getD j.toNat 0) := by
        rw [getElem?_pos q j.toNat hj]
        congr 1
        rw [List.getD_eq_getElem?_getD, ByteArray.toList_eq, Array.getElem?_toList, Array.getElem?_eq_getElem (by exact hj)]
        rfl
      simp [execOp, ho, e1, e2, Instr.index, asIntOf, run_underlying ht, h0, hg]
    · cases hv
  · cases hv

end
end Go.Bm
