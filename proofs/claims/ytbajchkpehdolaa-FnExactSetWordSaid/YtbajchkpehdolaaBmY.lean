/- Operations that make what is frozen at once. -/
import Derived.Test.YtbajchkpehdolaaBmG
import Derived.Test.YtbajchkpehdolaaBmZ
namespace Go.Bm
set_option linter.all false
open Go Go.RowKit
set_option linter.unusedVariables false
set_option linter.unusedSimpArgs false

/-- As Good, with what is frozen. -/
def GoodF (P : Program) (ν : V) (base : Nat) (h : AH) (w : World) (a : Act) (o : Oper) (v : AV) (h' : AH) : Prop :=
  ∃ ν' w' u, (∀ next Q, next (a.put o.dst u) w' → o.wp P a w next Q) ∧ VR ν' v u ∧ V.le ν ν' ∧ HR ν' base h' w' ∧ HZ ν' h' w' ∧ FrL w.heap.size base ν h w ν' h' w'

section
variable {P : Program} {N : Nat} {ν : V} {base : Nat} {s : S} {h h' : AH} {w w' : World} {a : Act} {o : Oper} {v : AV} {u : Value}

theorem Good.toF (Z : HZ ν h w) (g : Good P ν base h w a o v h') : GoodF P ν base h w a o v h' := by
  obtain ⟨ν', w', u, h1, h2, h3, h4, h5, h6⟩ := g
  exact ⟨ν', w', u, h1, h2, h3, h4, Z.step h5 h6, h5.toL (Nat.le_refl _) h6⟩

/-- What is made is frozen at once. -/
theorem GoodF.freeze (H : HR ν base h w) (Z : HZ ν h w) {v0 : AV} {h1 : AH} (g : Good P ν base h w a o v0 h1) (hle : h.le h1)
    (hv : ∀ (ν' ν2 : V) (w' : World) (u : Value), HR ν' base h1 w' → VR ν' v0 u → V.le ν ν' → (∀ g k v, ν'.z g k = some v → ν2.z g k = some v) → (∀ b l p k, h.next ≤ b → h1.get b = some (.cells true l) → ν' b = some p → k < l.length → ν2.z p.g (p.o + k) = w'.cell? ⟨p.g, p.o + k, none⟩) → VR ν2 v u) :
    GoodF P ν base h w a o v h := by
  obtain ⟨ν', w', u, g1, g2, g3, g4, g5, g6⟩ := g
  obtain ⟨ν2, f1, f2, f3, f4, f5, f6⟩ := Bm.freeze H g4 (Z.step g5 g6) g3 hle (g5.toL (Nat.le_refl _) g6)
  exact ⟨ν2, w', u, g1, hv ν' ν2 w' u g4 g2 g3 f2 f3, f1, f4, f5, f6⟩

theorem GoodF.val (g : GoodF P ν base h w a o v h') {v' : AV} (hv : ∀ (ν' : V) (u : Value), V.le ν ν' → VR ν' v u → VR ν' v' u) : GoodF P ν base h w a o v' h' := by
  obtain ⟨ν', w', u, g1, g2, g3, g4⟩ := g
  exact ⟨ν', w', u, g1, hv ν' u g3 g2, g3, g4⟩

theorem AH.le_new (h : AH) (x : AB) : h.le (h.new x) := ⟨by rw [AH.next_new]; omega, fun b hb => by rw [AH.get_new, if_neg (by omega)]⟩
theorem readO_new (h : AH) (l : List AV) (n : Nat) (hn : l.length = n) : (h.new (.cells true l)).readO h.next 0 n = some l := by
  unfold AH.readO
  rw [AH.get_new, if_pos rfl]
  simp only
  rw [if_pos (by omega), List.drop_zero, List.take_of_length_le (by omega)]

theorem mapO_some {α β : Type} {f g : α → Option β} (hfg : ∀ x y, f x = some y → g x = some y) : ∀ {l : List α} {r : List β}, mapO f l = some r → mapO g l = some r
  | [], r, h => h
  | x :: xs, r, h => by
    simp only [mapO] at h ⊢
    split at h
    · rename_i y ys hy hys
      cases h
      rw [hfg _ _ hy, mapO_some hfg hys]
    · cases h

/-- What is frozen without memory is frozen so in any. -/
theorem nrm_any : ∀ (d : Nat) (v r : AV) (lo : Nat) (h : AH), frzV 0 AH.nil d v = some r → frzV lo h d v = some r := by
  intro d
  induction d with
  | zero => intro v r lo h hf; cases hf
  | succ d ih =>
    intro v r lo h hf
    have ihm : ∀ {l l' : List AV}, mapO (frzV 0 AH.nil d) l = some l' → mapO (frzV lo h d) l = some l' := fun {l l'} => mapO_some (fun x y => ih x y lo h)
    cases v <;> simp only [frzV] at hf ⊢ <;> try exact hf
    case sl b o es n c =>
      exfalso
      unfold AH.readO AH.get AH.nil at hf
      simp at hf
    case ifc t x =>
      split at hf
      · rename_i y hy; rw [ih x y lo h hy]; exact hf
      · cases hf
    all_goals
      split at hf
      · rename_i l' hm; rw [ihm hm]; exact hf
      · cases hf

theorem sl_cap {ν ν2 : V} {b o es n k : Nat} {rows : List (List AV)} (hv : VR ν (.sl b o es n (some k)) u) (hr : VR ν2 (.fs none rows) u) : VR ν2 (.fs (some k) rows) u := by
  obtain ⟨p, A, cap, _, rfl, _, hc, _⟩ := hv
  rcases hr with ⟨e, _⟩ | ⟨A', cap', us, e, h1, h2, h3⟩
  · cases e
  · cases e
    exact .inr ⟨A, cap, us, rfl, h1, fun j hj => by cases hj; exact hc k rfl, h3⟩

theorem frz_cells {ν' ν2 : V} {h1 : AH} {w' : World} {lo : Nat} (H : HR ν' base h1 w') (hzz : ∀ g k v, ν'.z g k = some v → ν2.z g k = some v)
    (hz : ∀ b l p k, lo ≤ b → h1.get b = some (.cells true l) → ν' b = some p → k < l.length → ν2.z p.g (p.o + k) = w'.cell? ⟨p.g, p.o + k, none⟩) :
    ∀ {l l' : List AV}, mapO nrm l = some l' → ((∀ vs, VRs ν' l vs → VRs ν2 l' vs) ∧ (∀ vs, VRs ν' l vs → cloL l' = true))
  | [], l', hm => by simp only [mapO, Option.some.injEq] at hm; subst hm; exact ⟨fun vs h => h, fun vs h => rfl⟩
  | x :: xs, l', hm => by
    simp only [mapO] at hm
    split at hm
    · rename_i y ys hy hys
      cases hm
      obtain ⟨i1, i2⟩ := frz_cells H hzz hz hys
      refine ⟨fun vs hv => ?_, fun vs hv => ?_⟩
      · obtain ⟨u, us, rfl, hu, hus⟩ := hv
        exact ⟨u, us, rfl, (frz_ok H hzz hz DF x y u hu (nrm_any _ _ _ lo h1 hy)).1, i1 us hus⟩
      · obtain ⟨u, us, rfl, hu, hus⟩ := hv
        simp only [cloL, (frz_ok H hzz hz DF x y u hu (nrm_any _ _ _ lo h1 hy)).2, i2 us hus]
        rfl
    · cases hm

theorem mapO_one_ {l l' : List AV} (hm : mapO nrm l = some l') (h1 : l.all AV.one = true) : l'.all AV.one = true := by
  rw [List.all_eq_true]
  intro y hy
  obtain ⟨x, hx, hxy⟩ := mapO_mem hm y hy
  exact frzV_one (List.all_eq_true.1 h1 x hx) hxy

/-- A new row, frozen as it is made. -/
theorem made {ν' ν2 : V} {w' : World} {es n : Nat} {c : Option Nat} {cs l : List AV} (H : HR ν' base (h.new (.cells true cs)) w') (hv : VR ν' (.sl h.next 0 es n c) u) (hlen : cs.length = n * es) (hone : cs.all AV.one = true) (hm : mapO nrm cs = some l)
    (hzz : ∀ g k v, ν'.z g k = some v → ν2.z g k = some v) (hz : ∀ b l p k, h.next ≤ b → (h.new (.cells true cs)).get b = some (.cells true l) → ν' b = some p → k < l.length → ν2.z p.g (p.o + k) = w'.cell? ⟨p.g, p.o + k, none⟩) : VR ν2 (.fs none (chunk es n l)) u := by
  have hr := readO_new h cs (n * es) hlen
  obtain ⟨hrd, _⟩ := AH.readO_read hr
  obtain ⟨p, vs, hp, h1, h2, _⟩ := H.read hrd
  obtain ⟨f1, f2⟩ := frz_cells H hzz hz hm
  exact freeze_row H hv hr (Nat.le_refl _) hz (mapO_get hm).1.symm (mapO_one_ hm hone) (f2 vs h2) f1

theorem g_bsliceF (H : HR ν base h w) (Z : HZ ν h w) {len es : Nat} {zero : List AV} {l : List (Nat × AE)} (raw : ∀ v h', aop (.bslice len es zero l) s h = some (v, h') → Good P ν base h w a o v h')
    (hv : aop (.bsliceF len es zero l) s h = some (v, h')) : GoodF P ν base h w a o v h' := by
  simp only [aop] at hv
  split at hv
  · rename_i cs hcs
    split at hv
    · rename_i hc
      obtain ⟨hlen, hone⟩ := hc
      split at hv
      · rename_i l' hm
        simp only [Option.some.injEq, Prod.mk.injEq] at hv
        obtain ⟨rfl, rfl⟩ := hv
        have hraw := raw (.sl h.next 0 es len (some len)) (h.new (.cells true cs)) (by simp only [aop]; rw [hcs]; simp only; rw [if_pos ⟨hlen, hone⟩])
        exact GoodF.freeze H Z hraw (AH.le_new _ _) fun ν' ν2 w' u H1 hu _ hzz hz => sl_cap hu (made H1 hu hlen hone hm hzz hz)
      · cases hv
    · cases hv
  · cases hv

theorem rep_chunk {z : List AV} : ∀ n, chunk z.length n (rep n z) = List.replicate n z
  | 0 => rfl
  | n + 1 => by
    rw [rep, chunk, List.take_append_of_le_length (Nat.le_refl _), List.take_of_length_le (Nat.le_refl _), List.drop_append_of_le_length (Nat.le_refl _), List.drop_of_length_le (Nat.le_refl _), List.nil_append, rep_chunk n]
    rfl
theorem mapO_append {α β : Type} {f : α → Option β} : ∀ {l m : List α} {r q : List β}, mapO f l = some r → mapO f m = some q → mapO f (l ++ m) = some (r ++ q)
  | [], m, r, q, h1, h2 => by simp only [mapO, Option.some.injEq] at h1; subst h1; exact h2
  | x :: xs, m, r, q, h1, h2 => by
    simp only [mapO] at h1
    split at h1
    · rename_i y ys hy hys
      cases h1
      rw [List.cons_append, mapO, hy, mapO_append hys h2]; rfl
    · cases h1
theorem rep_mapO {f : AV → Option AV} {z z' : List AV} (hm : mapO f z = some z') : ∀ n, mapO f (rep n z) = some (rep n z')
  | 0 => rfl
  | n + 1 => mapO_append hm (rep_mapO hm n)
theorem rep_len (z : List AV) : ∀ n, (rep n z).length = n * z.length
  | 0 => by simp [rep]
  | n + 1 => by rw [rep, List.length_append, rep_len z n, Nat.add_mul]; omega
theorem rep_one {z : List AV} (hz : z.all AV.one = true) : ∀ n, (rep n z).all AV.one = true
  | 0 => rfl
  | n + 1 => by rw [rep, List.all_append, hz, rep_one hz n]; rfl

theorem g_msliceF (H : HR ν base h w) (Z : HZ ν h w) {es bytes : Nat} {zero : List AV} {x y : AE} (raw : ∀ v h', aop (.mslice es bytes zero x y) s h = some (v, h') → Good P ν base h w a o v h')
    (hv : aop (.msliceF es bytes zero x y) s h = some (v, h')) : GoodF P ν base h w a o v h' := by
  simp only [aop] at hv raw
  split at hv
  · rename_i k1 l k2 c hex hey
    rw [hex, hey] at raw
    split at hv
    · rename_i hc
      simp only at raw
      rw [if_pos hc] at raw
      obtain ⟨h0, hlc, hby, hbig, hzl, hone⟩ := hc
      subst hlc
      split at hv
      · rename_i z hm
        simp only [Option.some.injEq, Prod.mk.injEq] at hv
        obtain ⟨rfl, rfl⟩ := hv
        have hraw := raw _ _ rfl
        refine GoodF.freeze H Z hraw (AH.le_new _ _) fun ν' ν2 w' u H1 hu _ hzz hz => sl_cap hu ?_
        have hzl' : z.length = es := by rw [← (mapO_get hm).1, hzl]
        have := made H1 hu (by rw [rep_len, hzl]) (rep_one hone _) (rep_mapO hm _) hzz hz
        rw [← hzl', rep_chunk] at this
        exact this
      · cases hv
    · cases hv
  · cases hv

theorem chunk_single : ∀ (l : List AV), chunk 1 l.length l = l.map fun x => [x]
  | [] => rfl
  | x :: xs => by simp [chunk, chunk_single xs]

theorem g_s2bF (H : HR ν base h w) (Z : HZ ν h w) {x : AE} (raw : ∀ v h', aop (.s2b x) s h = some (v, h') → Good P ν base h w a o v h')
    (hv : aop (.s2bF x) s h = some (v, h')) : GoodF P ν base h w a o v h' := by
  simp only [aop] at hv raw
  split at hv
  · rename_i q hx
    rw [hx] at raw
    simp only [Option.some.injEq, Prod.mk.injEq] at hv
    obtain ⟨rfl, rfl⟩ := hv
    have hraw := raw _ _ rfl
    refine GoodF.freeze H Z hraw (AH.le_new _ _) fun ν' ν2 w' u H1 hu _ hzz hz => ?_
    have hsz : q.toList.length = q.size := by rw [ByteArray.toList_eq]; simp
    have hm : ∀ l : List UInt8, mapO nrm (l.map fun c => AV.int .u8 (c.toNat : Int)) = some (l.map fun c => AV.int .u8 (c.toNat : Int)) := by
      intro l
      induction l with
      | nil => rfl
      | cons c l ih => rw [List.map_cons, mapO, ih]; rfl
    have hone : (q.toList.map fun c => AV.int .u8 (c.toNat : Int)).all AV.one = true := by
      rw [List.all_eq_true]; intro x hx
      obtain ⟨c, _, rfl⟩ := List.mem_map.1 hx; rfl
    have := made H1 hu (by simp [hsz]) hone (hm _) hzz hz
    have e : chunk 1 q.size (q.toList.map fun c => AV.int .u8 (c.toNat : Int)) = q.toList.map fun c => [AV.int .u8 (c.toNat : Int)] := by
      have := chunk_single (q.toList.map fun c => AV.int .u8 (c.toNat : Int))
      rw [List.length_map, hsz, List.map_map] at this
      exact this
    rw [e] at this
    exact this
  · cases hv

theorem chunk_rows {es : Nat} : ∀ {l : List (List AV)}, (∀ r ∈ l, r.length = es) → chunk es l.length l.flatten = l
  | [], _ => rfl
  | r :: l, h => by
    have hr := h r (by simp)
    rw [List.length_cons, List.flatten_cons, chunk, List.take_append_of_le_length (by omega), List.take_of_length_le (by omega), List.drop_append_of_le_length (by omega), List.drop_of_length_le (by omega), List.nil_append, chunk_rows (fun q hq => h q (List.mem_cons_of_mem _ hq))]

/-- A new row of cells that lead to no block, frozen as it is made. -/
theorem made_rows {ν' ν2 : V} {w' : World} {es n : Nat} {c : Option Nat} {rows : List (List AV)} (H : HR ν' base (h.new (.cells true rows.flatten)) w') (hv : VR ν' (.sl h.next 0 es n c) u) (hlen : rows.length = n) (hall : ∀ r ∈ rows, r.length = es ∧ r.all AV.one = true ∧ cloL r = true)
    (hzz : ∀ g k v, ν'.z g k = some v → ν2.z g k = some v) (hz : ∀ b l p k, h.next ≤ b → (h.new (.cells true rows.flatten)).get b = some (.cells true l) → ν' b = some p → k < l.length → ν2.z p.g (p.o + k) = w'.cell? ⟨p.g, p.o + k, none⟩) : VR ν2 (.fs none rows) u := by
  have hfl := flatten_rows (fun r hr => (hall r hr).1)
  have hr := readO_new h rows.flatten (n * es) (by rw [hfl, hlen])
  have hcl : cloL rows.flatten = true := by
    rw [cloL_iff]; intro x hx
    obtain ⟨r, hr, hx⟩ := List.mem_flatten.1 hx
    exact cloL_iff.1 (hall r hr).2.2 x hx
  have hone : rows.flatten.all AV.one = true := by
    rw [List.all_eq_true]; intro x hx
    obtain ⟨r, hr, hx⟩ := List.mem_flatten.1 hx
    exact List.all_eq_true.1 (hall r hr).2.1 x hx
  have := freeze_row H hv hr (Nat.le_refl _) hz rfl hone hcl fun vs hvs => VRs.clo hzz _ _ hcl hvs
  rw [← hlen, chunk_rows (fun r hr => (hall r hr).1)] at this
  exact this

theorem fs_none {ν : V} {c : Option Nat} {l : List (List AV)} (h : VR ν (.fs c l) u) : VR ν (.fs none l) u := by
  rcases h with ⟨e, rfl, _⟩ | ⟨A, cap, us, h1, h2, h3, h4⟩
  · exact .inl ⟨e, rfl, .inl rfl⟩
  · exact .inr ⟨A, cap, us, h1, h2, (fun k hk => nomatch hk), h4⟩
theorem fs_rows {ν : V} {es : Nat} {c : Option Nat} {l : List (List AV)} (h : VR ν (.fs c l) u) (hall : l.all (fun r => r.length == es) = true) : ∀ r ∈ l, r.length = es ∧ r.all AV.one = true ∧ cloL r = true := by
  intro r hr
  rcases h with ⟨_, rfl, _⟩ | ⟨A, cap, us, _, _, _, _, ⟨es', h5⟩, _⟩
  · cases hr
  · exact ⟨by simpa using List.all_eq_true.1 hall r hr, (h5 r hr).2⟩

theorem g_appendF (H : HR ν base h w) (Z : HZ ν h w) {es bytes : Nat} {x y : AE} {ux uy : Value} (rx : VR ν (x.ev s) ux) (ry : VR ν (y.ev s) uy) (raw : ∀ v h', aop (.append es bytes x y) s h = some (v, h') → Good P ν base h w a o v h')
    (hv : aop (.appendF es bytes x y) s h = some (v, h')) : GoodF P ν base h w a o v h' := by
  simp only [aop, appendA] at hv raw
  split at hv
  · rename_i hx hy
    rw [hx, hy] at raw
    simp only [Option.some.injEq, Prod.mk.injEq] at hv
    obtain ⟨rfl, rfl⟩ := hv
    exact ((raw .nils h (by simp [srcA])).toF Z).val fun ν' u _ hu => .inl ⟨hu, rfl, .inl rfl⟩
  · rename_i c l hx hy
    rw [hx, hy] at raw
    rw [hy] at ry
    split at hv
    · rename_i hc
      obtain ⟨h1, h2, hall⟩ := hc
      simp only [Option.some.injEq, Prod.mk.injEq] at hv
      obtain ⟨rfl, rfl⟩ := hv
      have hrows := fs_rows ry hall
      simp only [srcA, hall, if_true] at raw
      by_cases h0 : l.length = 0
      · have : l = [] := List.eq_nil_of_length_eq_zero h0
        subst this
        exact ((raw .nils h (by simp)).toF Z).val fun ν' u _ hu => .inl ⟨hu, rfl, .inl rfl⟩
      · have hone : l.flatten.all AV.one = true := by
          rw [List.all_eq_true]; intro x hx
          obtain ⟨r, hr, hx⟩ := List.mem_flatten.1 hx
          exact List.all_eq_true.1 (hrows r hr).2.1 x hx
        have hraw := raw (.sl h.next 0 es l.length none) (h.new (.cells true l.flatten)) (by rw [if_neg h0, if_pos ⟨h1, h2, hone⟩])
        exact GoodF.freeze H Z hraw (AH.le_new _ _) fun ν' ν2 w' u H1 hu _ hzz hz => made_rows H1 hu rfl hrows hzz hz
    · cases hv
  · rename_i c l hx hy
    rw [hx, hy] at raw
    simp only [Option.some.injEq, Prod.mk.injEq] at hv
    obtain ⟨rfl, rfl⟩ := hv
    exact ((raw (.fs c l) h (by simp [srcA])).toF Z).val fun ν' u _ hu => fs_none hu
  · rename_i c l c' l' hx hy
    rw [hx, hy] at raw
    rw [hy] at ry
    rw [hx] at rx
    split at hv
    · rename_i h0
      have : l' = [] := List.eq_nil_of_length_eq_zero h0
      subst this
      simp only [Option.some.injEq, Prod.mk.injEq] at hv
      obtain ⟨rfl, rfl⟩ := hv
      exact ((raw (.fs c l) h (by simp [srcA])).toF Z).val fun ν' u _ hu => fs_none hu
    · rename_i h0
      split at hv
      · rename_i k
        split at hv
        · rename_i hc
          obtain ⟨hk, h1, h2, hall, hall'⟩ := hc
          simp only [Option.some.injEq, Prod.mk.injEq] at hv
          obtain ⟨rfl, rfl⟩ := hv
          have hrows := fs_rows rx hall
          have hrows' := fs_rows ry hall'
          have hone : l'.flatten.all AV.one = true := by
            rw [List.all_eq_true]; intro x hx
            obtain ⟨r, hr, hx⟩ := List.mem_flatten.1 hx
            exact List.all_eq_true.1 (hrows' r hr).2.1 x hx
          simp only [srcA, hall', if_true] at raw
          have hraw := raw (.sl h.next 0 es (l.length + l'.length) none) (h.new (.cells true (l.flatten ++ l'.flatten))) (by rw [if_neg h0, if_pos ⟨hk, h1, h2, hone, hall⟩])
          rw [← List.flatten_append] at hraw
          exact GoodF.freeze H Z hraw (AH.le_new _ _) fun ν' ν2 w' u H1 hu _ hzz hz => made_rows H1 hu (by simp) (fun r hr => by
            rcases List.mem_append.1 hr with hr | hr
            · exact hrows r hr
            · exact hrows' r hr) hzz hz
        · cases hv
      · cases hv
  · cases hv

end
end Go.Bm
