/- One operation of the abstract machine's stands for one of the model's (maps; arrays that are built). -/
import Derived.Test.YtbajchkpehdolaaBmG
import Derived.ChangeKeysEq
import Derived.MapKept
namespace Go.Bm
set_option linter.all false
open Go Go.RowKit
set_option linter.unusedVariables false
set_option linter.unusedSimpArgs false

section
variable {P : Program} {N : Nat} {ν : V} {base : Nat} {s : S} {h h' : AH} {w w' : World} {a : Act} {o : Oper} {v : AV} {u : Value}

/-! ### keys -/
/-- An array of whole numbers. -/
structure ArrT (P : Program) (t : TypeId) (n : Nat) (q : IntKind) (e : TypeId) (i : TypeInfo) : Prop where
  hu : P.underlying t = some (.array n e)
  he : P.underlying e = some (.int q)
  hi : P.info? e = some i
  hc : P.cellsOf e = 1
theorem ArrT.plain {t e : TypeId} {n : Nat} {q : IntKind} {i : TypeInfo} (A : ArrT P t n q e i) : P.plainKey e = true := by
  unfold Program.plainKey; rw [A.he]
theorem key_kind {t : TypeId} {kt : KT} {k : AV} {u : Value} (hkt : keyKT P t = some kt) (hk : k.hasKT kt = true) (hv : VR ν k u) :
    (∃ d, P.underlying t = some d ∧ MapKept.IsKey d u ∧ (∀ l, k ≠ .agg l)) ∨ (∃ n q e i l us, ArrT P t n q e i ∧ k = .agg l ∧ u = .agg us ∧ VRs ν l us.toList ∧ l.length = n ∧ ∀ x ∈ l, ∃ m, x = .int q m) := by
  unfold keyKT at hkt
  split at hkt
  · rename_i hu
    cases hkt
    cases k <;> simp [AV.hasKT] at hk
    have e : u = _ := hv
    subst e
    exact .inl ⟨_, hu, trivial, fun l e => by cases e⟩
  · rename_i q hu
    cases hkt
    cases k <;> simp [AV.hasKT] at hk
    have e : u = _ := hv
    subst e
    subst hk
    exact .inl ⟨_, hu, rfl, fun l e => by cases e⟩
  · rename_i hu
    cases hkt
    cases k <;> simp [AV.hasKT] at hk
    have e : u = _ := hv
    subst e
    exact .inl ⟨_, hu, trivial, fun l e => by cases e⟩
  · rename_i n e hu
    split at hkt
    · rename_i q i he hi
      split at hkt
      · rename_i hc
        cases hkt
        cases k <;> simp only [AV.hasKT, Bool.false_eq_true] at hk
        rename_i l
        obtain ⟨us, rfl, hs⟩ := hv
        simp only [Bool.and_eq_true, beq_iff_eq, List.all_eq_true] at hk
        refine .inr ⟨n, q, e, i, l, us, ⟨hu, he, hi, hc.2⟩, rfl, rfl, hs, hk.1, fun x hx => ?_⟩
        have := hk.2 x hx
        cases x <;> simp at this
        rename_i q' m
        exact ⟨m, by rw [this]⟩
      · cases hkt
    · cases hkt
  · cases hkt

theorem run_checkKey_arr {t e : TypeId} {n : Nat} {q : IntKind} {i : TypeInfo} (A : ArrT P t n q e i) (us : Array Value) (hs : us.size = n) (hall : ∀ (j : Nat) (v : Value), us[j]? = some v → ∃ m, v = .int q m) (em : Bool) (d : Nat) : (Instr.checkKey em (d + 2) t (.agg us)).run P w = .ok () w := by
  unfold Instr.checkKey
  simp only [Sem.run_bind, run_underlying A.hu, Result.andThen_ok]
  simp only [Std.Legacy.Range.forIn_eq_forIn_range', Std.Legacy.Range.size, Nat.sub_zero, Nat.add_one_sub_one, Nat.div_one]
  have key : ∀ (is : List Nat), (∀ j ∈ is, j < us.size) → (forIn is PUnit.unit (fun j _ => do
      let a ← sizeOf e
      let x ← part e us (j * a)
      Instr.checkKey em (d + 1) e x
      pure (ForInStep.yield PUnit.unit)) : Sem PUnit).run P w = .ok PUnit.unit w := by
    intro is
    induction is with
    | nil => intro _; simp
    | cons j is ih =>
      intro hj
      have hjl := hj j (by simp)
      have hg : us[j]? = some us[j] := Array.getElem?_eq_getElem hjl
      obtain ⟨m, hm⟩ := hall j _ hg
      have hp : (part e us (j * 1)).run P w = .ok us[j] w := run_part_plain w A.plain (by rw [Nat.mul_one]; exact hg)
      have hck : (Instr.checkKey em (d + 1) e us[j]).run P w = .ok () w := MapKept.run_checkKey (d := .int q) A.he (by rw [hm]; rfl) em d
      simp only [List.forIn_cons, Sem.run_bind, run_sizeOf w A.hi, A.hc, Result.andThen_ok, hp, hck, Sem.run_pure]
      exact ih fun j hj' => hj j (by simp [hj'])
  have := key (List.range' 0 n) (fun j hj => by have := List.mem_range'.1 hj; omega)
  simp at this ⊢
  rw [this]
  rfl
theorem VRs.ints {q : IntKind} {l : List AV} {us : Array Value} (hs : VRs ν l us.toList) (hl : ∀ x ∈ l, ∃ m, x = .int q m) : us.size = l.length ∧ ∀ (j : Nat) (v : Value), us[j]? = some v → ∃ m, v = .int q m := by
  have hln := hs.length
  refine ⟨by rw [hln]; simp, fun j v hv => ?_⟩
  have hj : j < us.size := (Array.getElem?_eq_some_iff.1 hv).1
  have hjl : j < l.length := by rw [hln]; simpa using hj
  obtain ⟨v', hv', r⟩ := hs.get j l[j] (List.getElem?_eq_getElem hjl)
  rw [Array.getElem?_toList, hv] at hv'
  cases hv'
  obtain ⟨m, hm⟩ := hl _ (List.getElem_mem hjl)
  rw [hm] at r
  exact ⟨m, r⟩
theorem check_ok {t : TypeId} {kt : KT} {k : AV} {u : Value} (hkt : keyKT P t = some kt) (hk : k.hasKT kt = true) (hv : VR ν k u) (em : Bool) : (Instr.checkKey em 10000 t u).run P w = .ok () w := by
  rcases key_kind hkt hk hv with ⟨d, hd, hi, _⟩ | ⟨n, q, e, i, l, us, A, rfl, rfl, hs, hln, hl⟩
  · exact MapKept.run_checkKey hd hi em 9999
  · obtain ⟨h1, h2⟩ := hs.ints hl
    exact run_checkKey_arr A us (h1.trans hln) h2 em 9998

theorem eqIntsA_eq : ∀ {l m : List AV}, eqIntsA l m = some true → l = m
  | [], [], _ => rfl
  | [], _ :: _, h => by simp [eqIntsA] at h
  | x :: l, [], h => by cases x <;> simp [eqIntsA] at h
  | x :: l, y :: m, h => by
    cases x <;> cases y <;> simp only [eqIntsA] at h <;> try (cases h; done)
    split at h
    · rename_i hk
      split at h
      · rename_i r hr
        simp only [Option.some.injEq, Bool.and_eq_true, beq_iff_eq] at h
        obtain ⟨e1, e2⟩ := h
        subst e2
        rw [hk, e1, eqIntsA_eq hr]
      · cases h
    · cases h
theorem eqIntsA_int : ∀ {l m : List AV} {b : Bool}, eqIntsA l m = some b → (∀ x ∈ l, ∃ q n, x = .int q n) ∧ l.length = m.length
  | [], [], _, _ => ⟨(fun x hx => by cases hx), rfl⟩
  | [], _ :: _, _, h => by simp [eqIntsA] at h
  | x :: l, [], _, h => by cases x <;> simp [eqIntsA] at h
  | x :: l, y :: m, b, h => by
    cases x <;> cases y <;> simp only [eqIntsA] at h <;> try (cases h; done)
    split at h
    · split at h
      · rename_i r hr
        obtain ⟨h1, h2⟩ := eqIntsA_int hr
        refine ⟨fun x hx => ?_, by simp [h2]⟩
        rcases List.mem_cons.1 hx with rfl | hx
        · exact ⟨_, _, rfl⟩
        · exact h1 x hx
      · cases h
    · cases h
theorem VRs.det : ∀ {l : List AV} {us vs : List Value}, (∀ x ∈ l, ∃ q n, x = .int q n) → VRs ν l us → VRs ν l vs → us = vs
  | [], us, vs, _, a, b => by rw [show us = [] from a, show vs = [] from b]
  | x :: l, us, vs, hx, ⟨u, us', e1, r1, s1⟩, ⟨v, vs', e2, r2, s2⟩ => by
    obtain ⟨q, n, rfl⟩ := hx x (by simp)
    have h1 : u = .int q n := r1
    have h2 : v = .int q n := r2
    rw [e1, e2, h1, h2, VRs.det (fun x hx' => hx x (by simp [hx'])) s1 s2]
theorem items_ok {t e : TypeId} {n : Nat} {q : IntKind} {i : TypeInfo} (A : ArrT P t n q e i) (us vs : Array Value) (d : Nat) : ∀ (l m : List AV) (j : Nat) (b : Bool), eqIntsA l m = some b → VRs ν l (us.toList.drop j) → VRs ν m (vs.toList.drop j) → (Op.eqItems (d + 1) e 1 us vs (List.range' j l.length)).run P w = .ok b w
  | [], [], j, b, hb, _, _ => by simp [eqIntsA] at hb; subst hb; simp [Op.eqItems]
  | [], _ :: _, _, _, h, _, _ => by simp [eqIntsA] at h
  | x :: l, [], _, _, h, _, _ => by cases x <;> simp [eqIntsA] at h
  | x :: l, y :: m, j, b, h, hl, hm => by
    cases x <;> cases y <;> simp only [eqIntsA] at h <;> try (cases h; done)
    rename_i k p k' p'
    split at h
    · rename_i hk
      subst hk
      split at h
      · rename_i r hr
        simp only [Option.some.injEq] at h
        obtain ⟨u1, us1, e1, r1, s1⟩ := hl
        obtain ⟨v1, vs1, e2, r2, s2⟩ := hm
        have r1' : u1 = .int k p := r1
        have r2' : v1 = .int k p' := r2
        subst r1'; subst r2'
        have g1 : us[j]? = some (.int k p) := by
          have := congrArg (fun l => l[0]?) e1
          simpa [List.getElem?_drop] using this
        have g2 : vs[j]? = some (.int k p') := by
          have := congrArg (fun l => l[0]?) e2
          simpa [List.getElem?_drop] using this
        have d1 : us.toList.drop (j + 1) = us1 := by rw [← List.drop_drop, e1]; rfl
        have d2 : vs.toList.drop (j + 1) = vs1 := by rw [← List.drop_drop, e2]; rfl
        have p1 : (part e us (j * 1)).run P w = .ok (.int k p) w := run_part_plain w A.plain (by rw [Nat.mul_one]; exact g1)
        have p2 : (part e vs (j * 1)).run P w = .ok (.int k p') w := run_part_plain w A.plain (by rw [Nat.mul_one]; exact g2)
        have ih := items_ok A us vs d l m (j + 1) r hr (by rw [d1]; exact s1) (by rw [d2]; exact s2)
        rw [List.length_cons, List.range'_succ]
        simp only [Op.eqItems, Sem.run_bind, p1, p2, Result.andThen_ok, run_equalIn_int w d e k q p p' A.he]
        cases hpp : (p == p') with
        | true => rw [hpp, Bool.true_and] at h; subst h; simpa using ih
        | false => rw [hpp, Bool.false_and] at h; subst h; simp
      · cases h
    · cases h
theorem equal_arr {t e : TypeId} {n : Nat} {q : IntKind} {i : TypeInfo} (A : ArrT P t n q e i) {l m : List AV} {us vs : Array Value} (hl : VRs ν l us.toList) (hm : VRs ν m vs.toList) (hn : l.length = n) {b : Bool} (hb : eqIntsA l m = some b) : (Op.equal t (.agg us) (.agg vs)).run P w = .ok b w := by
  have := items_ok (w := w) A us vs 9998 l m 0 b hb (by simpa using hl) (by simpa using hm)
  unfold Op.equal Op.maxDepth
  rw [run_equalIn_array w 9999 us vs A.hu A.hi, A.hc, List.range_eq_range', ← hn]
  exact this

/-! ### where a key stands -/
/-- A map's entries. -/
def MR (ν : V) (l : List (AV × AV)) (es : List MapEntry) : Prop := es.length = l.length ∧ ∀ (k : Nat) (x y : AV), l[k]? = some (x, y) → ∃ e : MapEntry, es[k]? = some e ∧ VR ν x e.key ∧ VR ν y e.val
theorem MR.nil_inv {es : List MapEntry} (h : MR ν [] es) : es = [] := List.eq_nil_of_length_eq_zero (by simpa using h.1)
theorem MR.cons_inv {x y : AV} {l : List (AV × AV)} {es : List MapEntry} (h : MR ν ((x, y) :: l) es) : ∃ e es', es = e :: es' ∧ VR ν x e.key ∧ VR ν y e.val ∧ MR ν l es' := by
  cases es with
  | nil => have := h.1; simp at this
  | cons e es' =>
    obtain ⟨e', he, h1, h2⟩ := h.2 0 x y rfl
    simp at he; subst he
    exact ⟨e, es', rfl, h1, h2, by simpa using h.1, fun k x y hk => by simpa using h.2 (k + 1) x y (by simpa using hk)⟩
/-- What was found is what stands there. -/
def FR (ν : V) (u : Value) (l : List (AV × AV)) (es : List MapEntry) (i : Nat) : Option (Nat × AV) → Option (Nat × Value) → Prop
  | none, none => True
  | some (j, y), some (j', y') => j = j' ∧ i ≤ j ∧ VR ν y y' ∧ ∃ (e : MapEntry) (x : AV), es[j - i]? = some e ∧ e.key = u ∧ e.val = y' ∧ l[j - i]? = some (x, y)
  | _, _ => False
theorem FR.succ {u : Value} {x y : AV} {l : List (AV × AV)} {e : MapEntry} {es : List MapEntry} {i : Nat} {r : Option (Nat × AV)} {r' : Option (Nat × Value)} (h : FR ν u l es (i + 1) r r') : FR ν u ((x, y) :: l) (e :: es) i r r' := by
  cases r with
  | none => cases r' with
    | none => trivial
    | some p => exact h.elim
  | some p =>
    cases r' with
    | none => exact h.elim
    | some p' =>
      obtain ⟨j, z⟩ := p
      obtain ⟨j', z'⟩ := p'
      obtain ⟨h1, h2, h3, e', x', h4, h5, h6, h7⟩ := h
      have e1 : j - i = (j - (i + 1)) + 1 := by omega
      exact ⟨h1, by omega, h3, e', x', by rw [e1]; simpa using h4, h5, h6, by rw [e1]; simpa using h7⟩
theorem same_ok {d : TypeDesc} {k k' : AV} {u u' : Value} {b : Bool} (hi : MapKept.IsKey d u) (hn : ∀ l, k ≠ .agg l) (hv : VR ν k u) (hv' : VR ν k' u') (hb : keyEq k k' = some b) : Instr.sameNow d u u' = some b ∧ (b = true → u' = u) := by
  cases k <;> cases k' <;> simp only [keyEq] at hb <;> try (cases hb; done)
  · cases hb
    have e1 : u = _ := hv
    have e2 : u' = _ := hv'
    subst e1; subst e2
    cases d <;> simp only [MapKept.IsKey] at hi
    refine ⟨by simp [Instr.sameNow], fun e => ?_⟩
    rw [beq_iff_eq] at e; rw [e]
  · split at hb
    · rename_i hk
      cases hb
      subst hk
      have e1 : u = _ := hv
      have e2 : u' = _ := hv'
      subst e1; subst e2
      cases d <;> simp only [MapKept.IsKey] at hi
      refine ⟨by simp [Instr.sameNow], fun e => ?_⟩
      rw [beq_iff_eq] at e; rw [e]
    · cases hb
  · cases hb
    have e1 : u = _ := hv
    have e2 : u' = _ := hv'
    subst e1; subst e2
    cases d <;> simp only [MapKept.IsKey] at hi
    refine ⟨by simp [Instr.sameNow], fun e => ?_⟩
    rw [MapKept.bytes_beq] at e; rw [e]
  · rename_i l m
    exact absurd rfl (hn l)
theorem now_ok {d : TypeDesc} {k : AV} {u : Value} (hi : MapKept.IsKey d u) (hn : ∀ l, k ≠ .agg l) (hv : VR ν k u) : ∀ (l : List (AV × AV)) (es : List MapEntry) (i : Nat) (r : Option (Nat × AV)), MR ν l es → findA k l i = some r → ∃ r', Instr.findNow d u es i = some r' ∧ FR ν u l es i r r'
  | [], es, i, r, hm, hf => by
    rw [hm.nil_inv]
    simp only [findA, Option.some.injEq] at hf
    subst hf
    exact ⟨none, rfl, trivial⟩
  | (k', y) :: l, es, i, r, hm, hf => by
    obtain ⟨e, es', rfl, h1, h2, hm'⟩ := hm.cons_inv
    simp only [findA] at hf
    split at hf
    · rename_i hb
      cases hf
      obtain ⟨s1, s2⟩ := same_ok hi hn hv h1 hb
      exact ⟨some (i, e.val), by simp [Instr.findNow, s1], rfl, Nat.le_refl _, h2, e, k', by simp, s2 rfl, rfl, by simp⟩
    · rename_i hb
      obtain ⟨s1, _⟩ := same_ok hi hn hv h1 hb
      obtain ⟨r', h3, h4⟩ := now_ok hi hn hv l es' (i + 1) r hm' hf
      exact ⟨r', by simp [Instr.findNow, s1, h3], h4.succ⟩
    · cases hf
theorem ask_ok {t e : TypeId} {n : Nat} {q : IntKind} {ti : TypeInfo} (A : ArrT P t n q e ti) {k : List AV} {us : Array Value} (hv : VRs ν k us.toList) (hn : k.length = n) : ∀ (l : List (AV × AV)) (es : List MapEntry) (i : Nat) (r : Option (Nat × AV)), MR ν l es → findA (.agg k) l i = some r → ∃ r', (Instr.findAsking t (.agg us) es i).run P w = .ok r' w ∧ FR ν (.agg us) l es i r r'
  | [], es, i, r, hm, hf => by
    rw [hm.nil_inv]
    simp only [findA, Option.some.injEq] at hf
    subst hf
    exact ⟨none, by simp [Instr.findAsking], trivial⟩
  | (k', y) :: l, es, i, r, hm, hf => by
    obtain ⟨e, es', rfl, h1, h2, hm'⟩ := hm.cons_inv
    simp only [findA] at hf
    have go : ∀ b, keyEq (.agg k) k' = some b → (Op.equal t (.agg us) e.key).run P w = .ok b w ∧ (b = true → e.key = .agg us) := by
      intro b hb
      cases k' <;> simp only [keyEq] at hb <;> try (cases hb; done)
      rename_i m
      obtain ⟨vs, he, hs⟩ := h1
      rw [he]
      refine ⟨equal_arr A hv hs hn hb, fun eb => ?_⟩
      subst eb
      have em := eqIntsA_eq hb
      have := VRs.det (eqIntsA_int hb).1 hv (em ▸ hs)
      rw [Array.toList_inj.1 this]
    split at hf
    · rename_i hb
      cases hf
      obtain ⟨s1, s2⟩ := go _ hb
      exact ⟨some (i, e.val), by simp [Instr.findAsking, s1], rfl, Nat.le_refl _, h2, e, k', by simp, s2 rfl, rfl, by simp⟩
    · rename_i hb
      obtain ⟨s1, _⟩ := go _ hb
      obtain ⟨r', h3, h4⟩ := ask_ok A hv hn l es' (i + 1) r hm' hf
      exact ⟨r', by simp [Instr.findAsking, s1, h3], h4.succ⟩
    · cases hf
theorem find_ok {t : TypeId} {kt : KT} {k : AV} {u : Value} (hkt : keyKT P t = some kt) (hk : k.hasKT kt = true) (hv : VR ν k u) {l : List (AV × AV)} {es : List MapEntry} (hm : MR ν l es) {r : Option (Nat × AV)} (hf : findA k l 0 = some r) : ∃ r', (Instr.findKey t u es).run P w = .ok r' w ∧ FR ν u l es 0 r r' := by
  rcases key_kind hkt hk hv with ⟨d, hd, hi, hn⟩ | ⟨n, q, e, i, ks, us, A, rfl, rfl, hs, hln, hl⟩
  · obtain ⟨r', h1, h2⟩ := now_ok hi hn hv l es 0 r hm hf
    exact ⟨r', MapKept.run_findKey hd h1, h2⟩
  · obtain ⟨r', h1, h2⟩ := ask_ok (w := w) A hs hln l es 0 r hm hf
    refine ⟨r', ?_, h2⟩
    cases es with
    | nil =>
      have e1 : r' = none := by simpa [Instr.findAsking] using h1.symm
      subst e1
      simp [Instr.findKey, run_underlying A.hu, Instr.findNow]
    | cons e es => simpa [Instr.findKey, run_underlying A.hu, Instr.findNow, Instr.sameNow] using h1
theorem sameBits_int (n : Nat) (q : IntKind) (m : Int) : Instr.sameBits n (.int q m) (.int q m) = true := by cases n <;> simp [Instr.sameBits]
theorem stays_ok {t : TypeId} {kt : KT} {k : AV} {u : Value} (hkt : keyKT P t = some kt) (hk : k.hasKT kt = true) (hv : VR ν k u) : (Instr.keyThatStays u u).run P w = .ok u w := by
  have : Instr.sameBits 10000 u u = true := by
    rcases key_kind hkt hk hv with ⟨d, hd, hi, hn⟩ | ⟨n, q, e, i, ks, us, A, rfl, rfl, hs, hln, hl⟩
    · cases d <;> cases u <;> simp only [MapKept.IsKey] at hi <;> simp [Instr.sameBits, MapKept.bytes_beq]
    · obtain ⟨h1, h2⟩ := hs.ints hl
      simp only [Instr.sameBits, beq_self_eq_true, Bool.true_and, List.all_eq_true]
      intro p hp
      obtain ⟨j, hj⟩ := List.getElem?_of_mem hp
      rw [List.getElem?_zip_eq_some] at hj
      have e := hj.1.symm.trans hj.2
      simp only [Option.some.injEq] at e
      obtain ⟨m, hm⟩ := h2 j p.1 (by simpa using hj.1)
      rw [← e, hm]
      exact sameBits_int _ _ _
  simp [Instr.keyThatStays, this]

/-! ### the operations -/
theorem g_mkmap (H : HR ν base h w) {t : TypeId} {r : Option Operand} {kt et : TypeId} (ht : P.underlying t = some (.map kt et)) (hr : r = none ∨ ∃ q n, r = some (.const (.int q n))) (ho : o.op = .makeMap t r) (hv : aop .mkmap s h = some (v, h')) : Good P ν base h w a o v h' := by
  simp only [aop, Option.some.injEq, Prod.mk.injEq] at hv
  obtain ⟨rfl, rfl⟩ := hv
  obtain ⟨hH, hle, hb⟩ := H.newMap
  refine Good.of (u := .map (some w.heap.size)) ?_ _ ⟨_, V.upd_same _ _ _, rfl⟩ hle hH hb
  rcases hr with rfl | ⟨q, n, rfl⟩
  · simp [execOp, ho, run_makeMap]
  · have : (Instr.makeMap t (some (.int q n))).run P w = .ok (.map (some w.heap.size)) (w.alloc (.map #[] 0)) := by
      simp [Instr.makeMap, run_underlying ht, asInt]
      rfl
    simp [execOp, ho, Act.eval, this]
theorem HR.map_at (H : HR ν base h w) {b : Nat} {l : List (AV × AV)} (hg : h.get b = some (.map l)) {u : Value} (hu : VR ν (.mp b) u) : ∃ p es clock, ν b = some p ∧ u = .map (some p.g) ∧ w.heap[p.g]? = some (.map es clock) ∧ MR ν l es.toList ∧ es.size = l.length ∧ ∀ (k : Nat) (x y : AV), l[k]? = some (x, y) → x.clo = true ∧ y.clo = true ∧ ∃ e : MapEntry, es[k]? = some e ∧ VR ν x e.key ∧ VR ν y e.val := by
  obtain ⟨p, hp, rfl⟩ := hu
  obtain ⟨q, hq, hB⟩ := H.blk b _ hg
  rw [hp] at hq; cases hq
  obtain ⟨_, _, es, clock, h1, h2, h3⟩ := hB
  exact ⟨p, es, clock, hp, rfl, h1, ⟨by simpa using h2, fun k x y hk => let ⟨_, _, e, a, b, c⟩ := h3 k x y hk; ⟨e, by simpa using a, b, c⟩⟩, h2, h3⟩
theorem zero_run {t : TypeId} {z : AV} (hz : zeroOf P t = some z) : ∃ zv, (zeroValue t).run P w = .ok zv w ∧ VR ν z zv := by
  obtain ⟨i, zv, hi, hzv, hcv⟩ := zeroOf_inv hz
  exact ⟨zv, by simp [zeroValue, typeInfo, hi, hzv], cV_ok hcv ν⟩
theorem tup2 {x y : AV} {p q : Value} (hx : VR ν x p) (hy : VR ν y q) : VR ν (.tup [x, y]) (.tuple #[p, q]) := ⟨_, rfl, _, _, rfl, hx, _, _, rfl, hy, rfl⟩
theorem g_mget (hS : SR N ν s a) (H : HR ν base h w) {t kt et : TypeId} {q : KT} {z : AV} {ok : Bool} {m k : Operand} {em ek : AE} (ht : P.underlying t = some (.map kt et)) (hq : keyKT P kt = some q) (hz : zeroOf P et = some z) (hm : cE m = some em) (hk : cE k = some ek)
    (ho : o.op = .lookup t m k ok) (hv : aop (.mget q ok z em ek) s h = some (v, h')) : Good P ν base h w a o v h' := by
  have rm := cE_ok hS hm
  have rk := cE_ok hS hk
  obtain ⟨zv, hzr, hzz⟩ := zero_run (w := w) (ν := ν) hz
  simp only [aop] at hv
  split at hv
  · rename_i hkt
    split at hv
    · rename_i hmm
      rw [hmm] at rm
      have em' : a.eval m = .map none := rm
      simp only [Option.some.injEq, Prod.mk.injEq] at hv
      obtain ⟨rfl, rfl⟩ := hv
      have hck := check_ok (w := w) hq hkt rk true
      obtain ⟨r', hf, hr⟩ := find_ok (w := w) (l := []) (es := []) hq hkt rk ⟨rfl, fun k x y hxy => by simp at hxy⟩ (r := none) rfl
      have er : r' = none := by cases r' with
        | none => rfl
        | some p => exact hr.elim
      subst er
      refine Good.quiet H (u := if ok then .tuple #[zv, .bool false] else zv) ?_ ?_
      · simp [execOp, ho, Instr.lookup, run_underlying ht, em', hck, hf, hzr]
      · cases ok
        · exact hzz
        · exact tup2 hzz rfl
    · rename_i b hmm
      rw [hmm] at rm
      split at hv
      · rename_i l hg
        obtain ⟨p, es, clock, hp, em', hes, hMR, _, _⟩ := H.map_at hg rm
        have hck := check_ok (w := w) hq hkt rk es.isEmpty
        have hgo := MapKept.run_getObj_map (P := P) hes
        split at hv
        · rename_i j y hf
          simp only [Option.some.injEq, Prod.mk.injEq] at hv
          obtain ⟨rfl, rfl⟩ := hv
          obtain ⟨r', hfr, hr⟩ := find_ok (w := w) hq hkt rk hMR hf
          cases r' with
          | none => exact hr.elim
          | some p' =>
            obtain ⟨j', y'⟩ := p'
            refine Good.quiet H (u := if ok then .tuple #[y', .bool true] else y') ?_ ?_
            · simp [execOp, ho, Instr.lookup, run_underlying ht, em', hgo, hck, hfr]
            · cases ok
              · exact hr.2.2.1
              · exact tup2 hr.2.2.1 rfl
        · rename_i hf
          simp only [Option.some.injEq, Prod.mk.injEq] at hv
          obtain ⟨rfl, rfl⟩ := hv
          obtain ⟨r', hfr, hr⟩ := find_ok (w := w) hq hkt rk hMR hf
          have er : r' = none := by cases r' with
            | none => rfl
            | some p => exact hr.elim
          subst er
          refine Good.quiet H (u := if ok then .tuple #[zv, .bool false] else zv) ?_ ?_
          · simp [execOp, ho, Instr.lookup, run_underlying ht, em', hgo, hck, hfr, hzr]
          · cases ok
            · exact hzz
            · exact tup2 hzz rfl
        · cases hv
      · cases hv
    · cases hv
  · cases hv
theorem hasKT_clo {q : KT} {k : AV} (h : k.hasKT q = true) : k.clo = true := by
  cases q <;> cases k <;> simp only [AV.hasKT, Bool.false_eq_true] at h <;> try rfl
  rename_i l
  simp only [Bool.and_eq_true, List.all_eq_true] at h
  show cloL l = true
  have : ∀ (l : List AV), (∀ x ∈ l, x.clo = true) → cloL l = true := by
    intro l
    induction l with
    | nil => intro _; rfl
    | cons x l ih => intro h; simp only [cloL, h x (by simp), ih fun y hy => h y (by simp [hy]), Bool.and_self]
  refine this l fun x hx => ?_
  have := h.2 x hx
  cases x <;> first | rfl | (simp at this)
theorem g_mset (hS : SR N ν s a) (H : HR ν base h w) {t kt et : TypeId} {q : KT} {m k x : Operand} {em ek ex : AE} (ht : P.underlying t = some (.map kt et)) (hq : keyKT P kt = some q) (hm : cE m = some em) (hk : cE k = some ek) (hx : cE x = some ex)
    (ho : o.op = .mapUpdate t m k x ∨ o.op = .insert t m k x) (hv : aop (.mset q em ek ex) s h = some (v, h')) : Good P ν base h w a o v h' := by
  have rm := cE_ok hS hm
  have rk := cE_ok hS hk
  have rx := cE_ok hS hx
  have run : ∀ w', (Instr.mapUpdate t (a.eval m) (a.eval k) (a.eval x)).run P w = .ok () w' → (execOp a.eval o).run P w = .ok .skip w' := by
    intro w' hw
    rcases ho with ho | ho <;> simp [execOp, ho, hw]
  simp only [aop] at hv
  split at hv
  · rename_i hc
    rw [Bool.and_eq_true] at hc
    obtain ⟨hkt, hclo⟩ := hc
    split at hv
    · rename_i b hmm
      rw [hmm] at rm
      split at hv
      · rename_i l hg
        obtain ⟨p, es, clock, hp, em', hes, hMR, hsz, hent⟩ := H.map_at hg rm
        have hck := check_ok (w := w) hq hkt rk false
        have hgo := MapKept.run_getObj_map (P := P) hes
        split at hv
        · rename_i j y hf
          simp only [Option.some.injEq, Prod.mk.injEq] at hv
          obtain ⟨rfl, rfl⟩ := hv
          obtain ⟨r', hfr, hr⟩ := find_ok (w := w) hq hkt rk hMR hf
          cases r' with
          | none => exact hr.elim
          | some p' =>
            obtain ⟨j', y'⟩ := p'
            obtain ⟨rfl, _, _, e0, x0, he0, hek, _, hl0⟩ := hr
            rw [Nat.sub_zero] at he0 hl0
            have hej : es[j]? = some e0 := by simpa using he0
            have hjl : j < l.length := (List.getElem?_eq_some_iff.1 hl0).1
            obtain ⟨hH, hF⟩ := H.setMap hg hp (l' := l.set j (ek.ev s, ex.ev s)) (es.modify j fun e => { e with key := a.eval k, val := a.eval x }) clock (by simpa using hsz) (fun i x y hxy => by
              rw [List.getElem?_set] at hxy
              rw [Array.getElem?_modify]
              by_cases hij : j = i
              · subst hij
                rw [if_pos rfl, if_pos hjl] at hxy
                cases hxy
                rw [if_pos rfl, hej]
                exact ⟨hasKT_clo hkt, hclo, _, rfl, rk, rx⟩
              · rw [if_neg hij] at hxy
                obtain ⟨c1, c2, e, h1, h2, h3⟩ := hent i x y hxy
                rw [if_neg hij]
                exact ⟨c1, c2, e, h1, h2, h3⟩)
            refine Good.skip (run _ ?_) ν (V.le_refl _) hH hF
            have hst := stays_ok (w := w) hq hkt rk
            have hso := MapKept.run_setObj_map (P := P) (.map (es.modify j fun e => { e with key := a.eval k, val := a.eval x }) clock) hes
            simp [Instr.mapUpdate, run_underlying ht, em', hgo, hck, hfr, hej, hek, hst, hso]
        · rename_i hf
          simp only [Option.some.injEq, Prod.mk.injEq] at hv
          obtain ⟨rfl, rfl⟩ := hv
          obtain ⟨r', hfr, hr⟩ := find_ok (w := w) hq hkt rk hMR hf
          have er : r' = none := by cases r' with
            | none => rfl
            | some p => exact hr.elim
          subst er
          obtain ⟨hH, hF⟩ := H.setMap hg hp (l' := l ++ [(ek.ev s, ex.ev s)]) (es.push { key := a.eval k, val := a.eval x, born := clock }) (clock + 1) (by simp [hsz]) (fun i x y hxy => by
            rw [Array.getElem?_push]
            by_cases hil : i < l.length
            · rw [List.getElem?_append_left hil] at hxy
              obtain ⟨c1, c2, e, h1, h2, h3⟩ := hent i x y hxy
              rw [if_neg (by omega)]
              exact ⟨c1, c2, e, h1, h2, h3⟩
            · rw [List.getElem?_append_right (by omega)] at hxy
              have hi0 : i - l.length = 0 := by
                have := (List.getElem?_eq_some_iff.1 hxy).1
                simp at this; omega
              rw [hi0] at hxy
              cases hxy
              rw [if_pos (by omega)]
              exact ⟨hasKT_clo hkt, hclo, _, rfl, rk, rx⟩)
          refine Good.skip (run _ ?_) ν (V.le_refl _) hH hF
          have hso := MapKept.run_setObj_map (P := P) (.map (es.push { key := a.eval k, val := a.eval x, born := clock }) (clock + 1)) hes
          simp [Instr.mapUpdate, run_underlying ht, em', hgo, hck, hfr, hso]
        · cases hv
      · cases hv
    · cases hv
  · cases hv
theorem g_mlen (hS : SR N ν s a) (H : HR ν base h w) {c : Call} {x : Operand} {e : AE} {t kt et : TypeId} (he : cE x = some e) (hc : c.callee = .builtin .len) (ha : c.args.toList = [x]) (ht : c.argTypes[0]? = some t) (hd : P.underlying t = some (.map kt et))
    (ho : o.op = .call c) (hv : aop (.mlen e) s h = some (v, h')) : Good P ν base h w a o v h' := by
  have rx := cE_ok hS he
  have ha' := args_one ha
  simp only [aop] at hv
  split at hv
  · rename_i hx
    rw [hx] at rx
    have e1 : a.eval x = .map none := rx
    simp only [Option.some.injEq, Prod.mk.injEq] at hv
    obtain ⟨rfl, rfl⟩ := hv
    refine Good.quiet H (u := .int .i64 0) ?_ rfl
    simp [execOp, ho, resolve, hc, ha', invoke, builtin, Builtin.len_, ht, run_underlying hd, e1, goInt]
  · rename_i b hx
    rw [hx] at rx
    split at hv
    · rename_i l hg
      obtain ⟨p, es, clock, hp, e1, hes, _, hsz, _⟩ := H.map_at hg rx
      have hgo := MapKept.run_getObj_map (P := P) hes
      simp only [Option.some.injEq, Prod.mk.injEq] at hv
      obtain ⟨rfl, rfl⟩ := hv
      refine Good.quiet H (u := .int .i64 l.length) ?_ rfl
      simp [execOp, ho, resolve, hc, ha', invoke, builtin, Builtin.len_, ht, run_underlying hd, e1, hgo, goInt, hsz]
    · cases hv
  · cases hv
theorem g_buildA (hS : SR N ν s a) (H : HR ν base h w) {t e : TypeId} {n0 n : Nat} {ps : Array (Nat × Operand)} {z : AV} {l : List (Nat × AE)} (ht : P.underlying t = some (.array n0 e)) (hz : zeroOf P t = some z) (hn : sizeT P e = some n)
    (hl : mapO cPart1 ps.toList = some l) (ho : o.op = .build t ps) (hv : aop (.build z.cells (l.map fun (i, x) => (i * n, n, x))) s h = some (v, h')) (hall : z.cells.all AV.one = true) : Good P ν base h w a o v h' := by
  obtain ⟨i, zv, hi, hzv, hcv⟩ := zeroOf_inv hz
  obtain ⟨j, hj, hjn⟩ := sizeT_inv hn
  have rz := cV_ok hcv ν
  have hzc := rz.cells hall
  simp only [aop] at hv
  split at hv
  · rename_i cs hcs
    simp only [Option.some.injEq, Prod.mk.injEq] at hv
    obtain ⟨rfl, rfl⟩ := hv
    obtain ⟨B, hB, hr⟩ := fillB_run (ν := ν) (fun x => some (x * n, n)) ((l.map fun (i, x) => (i * n, n, x)).map fun (o, n, x) => (o, n, x.ev s)) (ps.toList.map fun (i, x) => (i, a.eval x)) z.cells zv.cells cs
      (by simp [← mapO_length hl]) (fun k p hk => by
        rw [List.map_map, List.getElem?_map] at hk
        cases hlk : l[k]? with
        | none => rw [hlk] at hk; cases hk
        | some e =>
          rw [hlk] at hk; cases hk
          have hkl : k < ps.toList.length := by rw [mapO_length hl]; exact (List.getElem?_eq_some_iff.1 hlk).1
          obtain ⟨y, hy, hy'⟩ := (mapO_get hl).2 k _ (List.getElem?_eq_getElem hkl)
          rw [hlk] at hy'; cases hy'
          unfold cPart1 at hy
          split at hy
          · rename_i e' he
            cases hy
            exact ⟨(ps.toList[k].1, a.eval ps.toList[k].2), by rw [List.getElem?_map, List.getElem?_eq_getElem hkl]; rfl, rfl, cE_ok hS he⟩
          · cases hy) hzc hcs
    refine Good.quiet H (u := .agg B) ?_ ⟨B, rfl, hr⟩
    have hB2 : Instr.fill (fun i => some (i * j.size, j.size)) zv.cells (List.map (fun x => (x.fst, a.eval x.snd)) ps.toList) = some B := by
      rw [hjn]; exact hB
    have : (Instr.build t (ps.map fun (i, x) => (i, a.eval x))).run P w = .ok (.agg B) w := by
      simp [Instr.build, zeroValue, typeInfo, hi, hzv, run_underlying ht, sizeOf, hj, hB2]
    simp [execOp, ho, this]
  · cases hv
end
end Go.Bm
