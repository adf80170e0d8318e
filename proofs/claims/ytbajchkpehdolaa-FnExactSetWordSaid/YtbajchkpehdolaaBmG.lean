/- One operation of the abstract machine's stands for one of the model's (fourth part): append, max, min. -/
import Derived.Test.YtbajchkpehdolaaBmF
import Derived.Deep.AppendSrc
namespace Go.Bm
set_option linter.all false
open Go Go.RowKit
set_option linter.unusedVariables false
set_option linter.unusedSimpArgs false

section
variable {P : Program} {N : Nat} {ν : V} {base : Nat} {s : S} {h h' : AH} {w w' : World} {a : Act} {o : Oper} {v : AV} {u : Value}

/-- Nothing is appended. -/
theorem run_append_none (t tx ty e : TypeId) (i : TypeInfo) (ht : P.underlying t = some (.slice e)) (hi : P.info? e = some i) (A : Option Addr) (n cap : Nat) (hn : n ≤ cap) (x : Value) (hs : Src P i.size tx x 0 [] w) :
    (Builtin.append_ #[t, tx] ty #[.slice A n cap, x]).run P w = .ok (.slice A n cap) w := by
  rcases hs.kind with ⟨e', hk⟩ | hk <;> cases A <;> simp [Builtin.append_, run_underlying ht, run_underlying hk, sizeOf, typeInfo, hi, hs.len, hn, hs.cells, storeCells]

theorem rangeAt_add {g off : Nat} {vs : List Value} (hr : w.rangeAt g off vs) : ∀ j v, vs[j]? = some v → w.cell? ((⟨g, off, none⟩ : Addr).add j) = some v := fun j v hv => by
  rw [Addr.add_mid]; exact hr j v hv

/-- A block is given up, and its memory goes on as another one, longer. -/
theorem HR.inplace (H : HR ν base h w) {b o len : Nat} {l new : List AV} {news : List Value} {p : P3} (hb : h.get b = some (.cells true l)) (hp : ν b = some p) (hlen : o + len ≤ l.length) (hnew : VRs ν new news) (hone : new.all AV.one = true) (hfit : o + len + news.length ≤ p.sz) :
    HR (ν.upd h.next ⟨p.g, p.o + o, p.sz - o⟩) base ((h.upd b none).new (.cells true ((l.drop o).take len ++ new))) (w.setCells p.g (p.o + o + len) news) ∧ V.le ν (ν.upd h.next ⟨p.g, p.o + o, p.sz - o⟩) ∧ Fr base ν h w (ν.upd h.next ⟨p.g, p.o + o, p.sz - o⟩) ((h.upd b none).new (.cells true ((l.drop o).take len ++ new))) (w.setCells p.g (p.o + o + len) news) := by
  have hle := V.le_upd (ν := ν) (b := h.next) ⟨p.g, p.o + o, p.sz - o⟩ H.fresh
  obtain ⟨q, hq, h0, h1, h2, _⟩ := H.blk b _ hb
  rw [hp] at hq; cases hq
  obtain ⟨hbg, hsz, hth⟩ := h2 rfl
  have hbn : b < h.next := H.lt b p hp
  have hnl := hnew.length
  have hthn : w.there p.g (p.o + o + len) news.length := fun j hj => by
    have := hth (o + len + j) (by omega)
    rw [show p.o + o + len + j = p.o + (o + len + j) by omega]; exact this
  have hold : ∀ c x, ((h.upd b none).new (.cells true ((l.drop o).take len ++ new))).get c = some x → c ≠ h.next → c ≠ b ∧ h.get c = some x := by
    intro c x hc hne
    rw [AH.get_new, if_neg (show c ≠ (h.upd b none).next from hne), AH.get_kill] at hc
    split at hc
    · cases hc
    · rename_i e; exact ⟨e, hc⟩
  have hgne : ∀ c x q, h.get c = some x → c ≠ b → ν c = some q → q.g ≠ p.g := by
    intro c x q hc hne hq eg
    obtain ⟨q', hq', hB⟩ := H.blk c x hc
    rw [hq] at hq'; cases hq'
    cases x with
    | map l => exact hne (H.inj c b _ _ q p hc hb rfl rfl hq hp eg)
    | cells own l2 =>
      cases own with
      | true => exact hne (H.inj c b _ _ q p hc hb rfl rfl hq hp eg)
      | false => have := hB.2.2.2 rfl; omega
  refine ⟨⟨?_, ?_, ?_, ?_⟩, hle, below_setCells' hbg _ _ _, fun X hX hs => ⟨fun c x q hc ho hq hXq => ?_, fun g hg => heap_setCells_ne _ _ _ _ (fun eg => hs b _ p hb rfl hp (eg ▸ hg))⟩⟩
  rotate_left 4
  · by_cases e : c = h.next
    · have hqn : q = ⟨p.g, p.o + o, p.sz - o⟩ := by simpa [V.upd, e] using hq.symm
      rw [hqn] at hXq
      exact hs b _ p hb rfl hp hXq
    · obtain ⟨_, hx⟩ := hold c x hc e
      exact hs c x q hx ho (by simpa [V.upd, e] using hq) hXq
  · rw [size_setCells']; exact H.size
  · intro c q hq
    replace hq : (if c = h.next then some (⟨p.g, p.o + o, p.sz - o⟩ : P3) else ν c) = some q := hq
    show c < h.next + 1
    split at hq
    · rename_i e; omega
    · have := H.lt c q hq; omega
  · intro c x hc
    by_cases e : c = h.next
    · subst e
      have hx : x = .cells true ((l.drop o).take len ++ new) := by
        rw [AH.get_new, if_pos (show h.next = (h.upd b none).next from rfl)] at hc
        cases hc; rfl
      subst hx
      have hl1 : ((l.drop o).take len).length = len := by simp; omega
      refine ⟨_, V.upd_same _ _ _, by rw [size_setCells']; exact h0, fun k y hk => ?_, fun _ => ⟨hbg, ?_, ?_⟩, fun e => by cases e⟩
      · by_cases hkl : k < len
        · rw [List.getElem?_append_left (by omega), List.getElem?_take, if_pos hkl, List.getElem?_drop] at hk
          obtain ⟨h1o, v, hv, r⟩ := h1 _ y hk
          refine ⟨h1o, v, ?_, r.mono hle⟩
          rw [World.cell?_setCells_out p.g news (p.o + o + len) w ⟨p.g, p.o + o + k, none⟩ (fun _ _ => by simp only; omega), Nat.add_assoc]
          exact hv
        · rw [List.getElem?_append_right (by omega), hl1] at hk
          obtain ⟨v, hv, r⟩ := hnew.get _ y hk
          refine ⟨List.all_eq_true.1 hone y (List.mem_of_getElem? hk), v, ?_, r.mono hle⟩
          have := World.rangeAt_setCells_same w p.g (p.o + o + len) news hthn (k - len) v hv
          rw [show p.o + o + len + (k - len) = p.o + o + k by omega] at this
          exact this
      · simp only [List.length_append, hl1]; omega
      · refine World.there_setCells (fun j hj => ?_) _ _ _
        have := hth (o + j) (by simp only at hj; omega)
        simp only
        rw [Nat.add_assoc]; exact this
    · obtain ⟨hne, hx⟩ := hold c x hc e
      obtain ⟨q, hq, hB⟩ := H.blk c x hx
      exact ⟨q, hle.f _ _ hq, hB.of_block hle (heap_setCells_ne _ _ _ _ (hgne c x q hx hne hq))⟩
  · intro c c' x x' q q' hc hc' ho ho' hq hq' hg
    by_cases e : c = h.next <;> by_cases e' : c' = h.next
    · rw [e, e']
    · exfalso
      obtain ⟨hne, hx⟩ := hold c' x' hc' e'
      have hq'' : ν c' = some q' := by simpa [V.upd, e'] using hq'
      have hqn : q = ⟨p.g, p.o + o, p.sz - o⟩ := by simpa [V.upd, e] using hq.symm
      exact hgne c' x' q' hx hne hq'' (by rw [← hg, hqn])
    · exfalso
      obtain ⟨hne, hx⟩ := hold c x hc e
      have hq'' : ν c = some q := by simpa [V.upd, e] using hq
      have hqn : q' = ⟨p.g, p.o + o, p.sz - o⟩ := by simpa [V.upd, e'] using hq'.symm
      exact hgne c x q hx hne hq'' (by rw [hg, hqn])
    · obtain ⟨_, hx⟩ := hold c x hc e
      obtain ⟨_, hx'⟩ := hold c' x' hc' e'
      exact H.inj c c' x x' q q' hx hx' ho ho' (by simpa [V.upd, e] using hq) (by simpa [V.upd, e'] using hq') hg

theorem toList3 (x y z : List Value) : (x.toArray ++ y.toArray ++ z.toArray).toList = (x ++ y) ++ z := by simp

/-- An append, of whatever is appended. -/
theorem append_core (hS : SR N ν s a) (H : HR ν base h w) (hZ : HZ ν h w) {c : Call} {x y : Operand} {ex : AE} {vy : AV} {t t2 e : TypeId} {i : TypeInfo} {z : AV} (hc : c.callee = .builtin .append) (ha : c.args.toList = [x, y]) (ht1 : c.argTypes[0]? = some t) (ht2 : c.argTypes[1]? = some t2)
    (ht : P.underlying t = some (.slice e)) (hi : P.info? e = some i) (hz : zeroOf P e = some z) (hsz : 0 < i.size) (hby : 0 < i.bytes) (hzl : z.cells.length = i.size) (hzo : z.cells.all AV.one = true)
    (hx : cE x = some ex) (ho : o.op = .call c) (fy : ∀ m new, srcA h i.size vy = some (m, new) → ∃ news, Src P i.size t2 (a.eval y) m news w ∧ VRs ν new news)
    (hk2 : (∃ e', P.underlying t2 = some (.slice e')) ∨ P.underlying t2 = some .string)
    (hv : appendA i.size i.bytes (ex.ev s) vy h = some (v, h')) : Good P ν base h w a o v h' := by
  obtain ⟨i', zv, hi', hzv, hcv⟩ := zeroOf_inv hz
  rw [hi] at hi'; cases hi'
  have rx := cE_ok hS hx
  have ha' := args_two ha
  -- the model's append asks of the second's type only that it is no number's
  have norm : ∀ (A : Option Addr) (n cap : Nat) (d : Value), (Builtin.append_ c.argTypes o.type #[.slice A n cap, d]).run P w = (Builtin.append_ #[t, t2] o.type #[.slice A n cap, d]).run P w := by
    intro A n cap d
    rcases hk2 with ⟨e', hk2⟩ | hk2 <;> simp [Builtin.append_, ht1, ht2, run_underlying ht, run_underlying hk2]
  have fin : ∀ (A : Option Addr) (n cap : Nat) (ν' : V) (w' : World) (u : Value), a.eval x = .slice A n cap → (Builtin.append_ #[t, t2] o.type #[.slice A n cap, a.eval y]).run P w = .ok u w' → VR ν' v u → V.le ν ν' → HR ν' base h' w' → Fr base ν h w ν' h' w' → ν'.z = ν.z → Good P ν base h w a o v h' := by
    intro A n cap ν' w' u e1 hr h1 h2 h3 h4 h5
    refine Good.of (u := u) ?_ ν' h1 h2 h3 h4 h5
    have := norm A n cap (a.eval y)
    rw [hr] at this
    simp [execOp, ho, resolve, hc, ha', invoke, builtin, e1, this]
  simp only [appendA] at hv
  generalize hY : srcA h i.size vy = Y at hv fy
  have zc := zv.cells.size
  have hzs : zv.cells.size = i.size := by
    have := (cV_ok hcv ν).cells hzo
    rw [← Array.length_toList, ← this.length, hzl]
  have nil0 : ∀ {news : List Value}, Src P i.size t2 (a.eval y) 0 news w → Src P i.size t2 (a.eval y) 0 [] w := fun {news} hs => by
    have : news = [] := List.eq_nil_of_length_eq_zero (by have := hs.newsLen; omega)
    rw [← this]; exact hs
  split at hv
  · -- a nil slice
    rename_i m new hex
    rw [hex] at rx
    have e1 : a.eval x = .slice none 0 0 := rx
    obtain ⟨news, hsrc, hnw⟩ := fy m new rfl
    have hnl := hsrc.newsLen
    split at hv
    · rename_i hm
      subst hm
      simp only [Option.some.injEq, Prod.mk.injEq] at hv
      obtain ⟨rfl, rfl⟩ := hv
      exact fin none 0 0 ν w (.slice none 0 0) e1 (run_append_none t t2 _ e i ht hi none 0 0 (Nat.le_refl _) _ (nil0 hsrc)) rfl (V.le_refl _) H (Fr.refl _ _ _ _) rfl
    · rename_i hm
      split at hv
      · rename_i hcnd
        obtain ⟨hb47, hm47, hone⟩ := hcnd
        simp only [Option.some.injEq, Prod.mk.injEq] at hv
        obtain ⟨rfl, rfl⟩ := hv
        have hr := (by have q := run_append_grow_src (P := P) w t t2 o.type e i zv ht hi hzv none 0 0 [] (run_firstCells_none w.drew i.size 0 0 0) (a.eval y) m news hsrc (by omega) (by omega) (growslice_fits (by omega) (by rw [Nat.zero_add]; omega)); simpa only [List.nil_append, Nat.zero_add] using q)
        have hbig := grownCap_ge w m 0 e
        obtain ⟨hH, hle, hb⟩ := H.drew.newCells hnw hone (Builtin.zeroCells zv.cells (grownCap w m 0 e - m)).toList (news.toArray ++ Builtin.zeroCells zv.cells (grownCap w m 0 e - m)) (by simp) e
        refine fin none 0 0 _ _ _ e1 hr ?_ hle hH ((Fr.drew fun _ _ h => h).trans hb) rfl
        refine ⟨_, _, _, V.upd_same _ _ _, rfl, hbig, (fun c hc => by cases hc), fun _ => ⟨rfl, ?_⟩⟩
        simp only [Array.size_append, size_zeroCells, hzs]
        have : news.toArray.size = m * i.size := by simpa using hnl
        rw [this, ← Nat.add_mul]
        simp only [Nat.zero_add]
        rw [show m + (grownCap w m 0 e - m) = grownCap w m 0 e by omega]
        exact Nat.le_refl _
      · cases hv
  · -- a frozen slice
    rename_i c0 rows m new hex
    rw [hex] at rx
    obtain ⟨news, hsrc, hnw⟩ := fy m new rfl
    have hnl := hsrc.newsLen
    have rx0 := rx
    split at hv
    · rename_i hm
      subst hm
      simp only [Option.some.injEq, Prod.mk.injEq] at hv
      obtain ⟨rfl, rfl⟩ := hv
      rcases rx with ⟨e1, rfl, _⟩ | ⟨A, cap, us, e1, hle, _⟩
      · exact fin none 0 0 ν w (.slice none 0 0) e1 (run_append_none t t2 _ e i ht hi none 0 0 (Nat.le_refl _) _ (nil0 hsrc)) (e1 ▸ rx0) (V.le_refl _) H (Fr.refl _ _ _ _) rfl
      · exact fin (some A) rows.length cap ν w (.slice (some A) rows.length cap) e1 (run_append_none t t2 _ e i ht hi (some A) rows.length cap hle _ (nil0 hsrc)) (e1 ▸ rx0) (V.le_refl _) H (Fr.refl _ _ _ _) rfl
    · rename_i hm
      split at hv
      · rename_i k
        split at hv
        · rename_i hcnd
          obtain ⟨hlt, hb47, hn47, hone, hall⟩ := hcnd
          simp only [Option.some.injEq, Prod.mk.injEq] at hv
          obtain ⟨rfl, rfl⟩ := hv
          rcases rx with ⟨e1, rfl, hc⟩ | ⟨A, cap, us, e1, hle, hcp, h4, ⟨es, h5⟩, h6⟩
          · simp only [List.length_nil, Nat.zero_add, List.flatten_nil, List.nil_append] at *
            have hr := (by have q := run_append_grow_src (P := P) w t t2 o.type e i zv ht hi hzv none 0 0 [] (run_firstCells_none w.drew i.size 0 0 0) (a.eval y) m news hsrc (by omega) (by omega) (growslice_fits (by omega) (by rw [Nat.zero_add]; omega)); simpa only [List.nil_append, Nat.zero_add] using q)
            have hbig := grownCap_ge w m 0 e
            obtain ⟨hH, hle, hb⟩ := H.drew.newCells hnw hone (Builtin.zeroCells zv.cells (grownCap w m 0 e - m)).toList (news.toArray ++ Builtin.zeroCells zv.cells (grownCap w m 0 e - m)) (by simp) e
            refine fin none 0 0 _ _ _ e1 hr ?_ hle hH ((Fr.drew fun _ _ h => h).trans hb) rfl
            refine ⟨_, _, _, V.upd_same _ _ _, rfl, hbig, (fun c hc => by cases hc), fun _ => ⟨rfl, ?_⟩⟩
            simp only [Array.size_append, size_zeroCells, hzs]
            have : news.toArray.size = m * i.size := by simpa using hnl
            rw [this, ← Nat.add_mul]
            simp only [Nat.zero_add]
            rw [show m + (grownCap w m 0 e - m) = grownCap w m 0 e by omega]
            exact Nat.le_refl _
          · have hkc := hcp k rfl
            subst hkc
            have hall' : ∀ r ∈ rows, r.length = i.size := fun r hr => by simpa using List.all_eq_true.1 hall r hr
            have hfl := flatten_rows hall'
            have hlo' : us.length = rows.length * i.size := by rw [← h4.flat.length, hfl]
            have hoo : rows.flatten.all AV.one = true := by
              rw [List.all_eq_true]
              intro x hx
              obtain ⟨r, hr, hx⟩ := List.mem_flatten.1 hx
              exact List.all_eq_true.1 (h5 r hr).2.1 x hx
            have holds : ∀ j v, us[j]? = some v → w.cell? (A.add j) = some v := by
              intro j v hv
              have hne : us ≠ [] := fun e => by rw [e] at hv; simp at hv
              obtain ⟨g, off, rfl, hzz⟩ := h6 hne
              rw [Addr.add_mid]
              exact (hZ.zin _ _ _ (hzz j v hv)).2
            have hall2 : (rows.flatten ++ new).all AV.one = true := by rw [List.all_append, hoo, hone]; rfl
            have hr := run_append_grow_src (P := P) w t t2 o.type e i zv ht hi hzv (some A) rows.length k us (run_firstCells_some w.drew i.size rows.length A rows.length k us hlo' (by simpa using holds)) (a.eval y) m news hsrc hlt (by omega) (growslice_fits hlt (by omega))
            have hbig := grownCap_ge w (rows.length + m) k e
            obtain ⟨hH, hle', hb⟩ := H.drew.newCells (h4.flat.append hnw) hall2 (Builtin.zeroCells zv.cells (grownCap w (rows.length + m) k e - (rows.length + m))).toList ((us ++ news).toArray ++ Builtin.zeroCells zv.cells (grownCap w (rows.length + m) k e - (rows.length + m))) (by simp) e
            refine fin (some A) rows.length k _ _ _ e1 hr ?_ hle' hH ((Fr.drew fun _ _ h => h).trans hb) rfl
            refine ⟨_, _, _, V.upd_same _ _ _, rfl, hbig, (fun c hc => by cases hc), fun _ => ⟨rfl, ?_⟩⟩
            simp only [Array.size_append, size_zeroCells, hzs]
            have e3 : (us ++ news).toArray.size = rows.length * i.size + m * i.size := by simp [hlo', hnl]
            rw [e3, ← Nat.add_mul, ← Nat.add_mul]
            simp only [Nat.zero_add]
            rw [show rows.length + m + (grownCap w (rows.length + m) k e - (rows.length + m)) = grownCap w (rows.length + m) k e by omega]
            exact Nat.le_refl _
        · cases hv
      · cases hv
  · -- a slice
    rename_i b off es n cp m new hex
    rw [hex] at rx
    obtain ⟨p, A, cap, hp, e1, hle, hcp, hA⟩ := rx
    obtain ⟨news, hsrc, hnw⟩ := fy m new rfl
    have hnl := hsrc.newsLen
    split at hv
    · cases hv
    · rename_i hes
      have hes' : es = i.size := Decidable.not_not.1 hes
      subst hes'
      split at hv
      · rename_i hm
        subst hm
        simp only [Option.some.injEq, Prod.mk.injEq] at hv
        obtain ⟨rfl, rfl⟩ := hv
        exact fin (some A) n cap ν w (.slice (some A) n cap) e1 (run_append_none t t2 _ e i ht hi (some A) n cap hle _ (nil0 hsrc)) ⟨p, A, cap, hp, rfl, hle, hcp, hA⟩ (V.le_refl _) H (Fr.refl _ _ _ _) rfl
      · rename_i hm
        split at hv
        · rename_i own l hg
          split at hv
          · rename_i hcnd
            obtain ⟨hlen, hb47, hn47, hone⟩ := hcnd
            -- the old cells
            have hrd : h.read b off (n * i.size) = some ((l.drop off).take (n * i.size)) := by unfold AH.read; rw [hg]; simp only; rw [if_pos hlen]
            obtain ⟨q, olds, hq, hro, hvo, hoo, hlo⟩ := H.read hrd
            rw [hp] at hq; cases hq
            have hlo' : olds.length = n * i.size := by rw [← hvo.length, hlo]
            have holds : ∀ j v, olds[j]? = some v → w.cell? (A.add j) = some v := by
              intro j v hv
              have hj := (List.getElem?_eq_some_iff.1 hv).1
              have hn0 : 0 < n := by
                rcases Nat.eq_zero_or_pos n with h | h
                · subst h; simp at hlo'; rw [hlo'] at hj; simp at hj
                · exact h
              obtain ⟨rfl, _⟩ := hA (by omega)
              exact rangeAt_add hro j v hv
            have hall : ((l.drop off).take (n * i.size) ++ new).all AV.one = true := by rw [List.all_append, hoo, hone]; rfl
            have grow : cap < n + m → ∀ hh : AH, HR ν base hh w → (∀ c x, hh.get c = some x → h.get c = some x) → hh.next = h.next → (hv : v = .sl h.next 0 i.size (n + m) none) → h' = hh.new (.cells true ((l.drop off).take (n * i.size) ++ new)) → Good P ν base h w a o v h' := by
              rintro hlt hh HH hsub hnx rfl rfl
              have hr := run_append_grow_src (P := P) w t t2 o.type e i zv ht hi hzv (some A) n cap olds (run_firstCells_some w.drew i.size n A n cap olds hlo' (by simpa using holds)) (a.eval y) m news hsrc hlt (by omega) (growslice_fits hlt (by omega))
              have hbig := grownCap_ge w (n + m) cap e
              obtain ⟨hH, hle', hb⟩ := HH.drew.newCells (hvo.append hnw) hall (Builtin.zeroCells zv.cells (grownCap w (n + m) cap e - (n + m))).toList ((olds ++ news).toArray ++ Builtin.zeroCells zv.cells (grownCap w (n + m) cap e - (n + m))) (by simp) e
              refine fin (some A) n cap _ _ _ e1 hr ?_ hle' hH ((Fr.drew hsub).trans hb) rfl
              rw [← hnx]
              refine ⟨_, _, _, V.upd_same _ _ _, rfl, hbig, (fun c hc => by cases hc), fun _ => ⟨rfl, ?_⟩⟩
              simp only [Array.size_append, size_zeroCells, hzs]
              have e3 : (olds ++ news).toArray.size = n * i.size + m * i.size := by simp [hlo', hnl]
              rw [e3, ← Nat.add_mul, ← Nat.add_mul]
              simp only [Nat.zero_add]
              rw [show n + m + (grownCap w (n + m) cap e - (n + m)) = grownCap w (n + m) cap e by omega]
              exact Nat.le_refl _
            cases cp with
            | some c0 =>
              have hcc := hcp c0 rfl
              subst hcc
              simp only at hv
              split at hv
              · rename_i hlt
                simp only [Option.some.injEq, Prod.mk.injEq] at hv
                exact grow hlt h H (fun _ _ h => h) rfl hv.1.symm hv.2.symm
              · cases hv
            | none =>
              simp only at hv
              split at hv
              · rename_i hown
                simp only [Option.some.injEq, Prod.mk.injEq] at hv
                by_cases hlt : cap < n + m
                · exact grow hlt (h.upd b none) (H.kill b) (fun c x hc => by rw [AH.get_kill] at hc; split at hc; cases hc; exact hc) rfl hv.1.symm hv.2.symm
                · subst hown
                  obtain ⟨rfl, rfl⟩ := hv
                  obtain ⟨hAe, hcapsz⟩ := hA (by omega)
                  subst hAe
                  obtain ⟨q, hq, _, _, h2, _⟩ := H.blk b _ hg
                  rw [hp] at hq; cases hq
                  obtain ⟨_, _, hth⟩ := h2 rfl
                  have hcap2 : (n + m) * i.size ≤ cap * i.size := Nat.mul_le_mul_right _ (by omega)
                  rw [Nat.add_mul] at hcap2
                  obtain ⟨hH, hle', hb⟩ := H.inplace hg hp hlen hnw hone (by rw [hnl]; omega)
                  have hth2 : ∀ j, j < news.length → (w.cell? ⟨p.g, p.o + off + n * i.size + j, none⟩).isSome = true ∧ w.frozen? ⟨p.g, p.o + off + n * i.size + j, none⟩ = false := fun j hj => by
                    have := hth (off + n * i.size + j) (by omega)
                    rw [show p.o + off + n * i.size + j = p.o + (off + n * i.size + j) by omega]; exact this
                  have hr := run_append_room_src (P := P) w t t2 o.type e i ht hi p.g (p.o + off) n cap (a.eval y) m news hsrc (by omega) (fun j hj => (hth2 j hj).1) (fun j hj => (hth2 j hj).2)
                  refine fin (some ⟨p.g, p.o + off, none⟩) n cap _ _ _ e1 hr ?_ hle' hH hb rfl
                  refine ⟨_, _, _, V.upd_same _ _ _, rfl, by omega, (fun c hc => by cases hc), fun _ => ⟨rfl, ?_⟩⟩
                  simp only [Nat.zero_add]
                  omega
              · cases hv
          · cases hv
        · cases hv
  · cases hv

theorem g_append (hS : SR N ν s a) (H : HR ν base h w) (hZ : HZ ν h w) {c : Call} {x y : Operand} {ex ey : AE} {t t2 e : TypeId} {i : TypeInfo} {z : AV} (hc : c.callee = .builtin .append) (ha : c.args.toList = [x, y]) (ht1 : c.argTypes[0]? = some t) (ht2 : c.argTypes[1]? = some t2)
    (ht : P.underlying t = some (.slice e)) (hu : P.underlying t2 = some (.slice e)) (hi : P.info? e = some i) (hz : zeroOf P e = some z) (hsz : 0 < i.size) (hby : 0 < i.bytes) (hzl : z.cells.length = i.size) (hzo : z.cells.all AV.one = true)
    (hx : cE x = some ex) (hy : cE y = some ey) (ho : o.op = .call c) (hv : aop (.append i.size i.bytes ex ey) s h = some (v, h')) : Good P ν base h w a o v h' := by
  refine append_core hS H hZ hc ha ht1 ht2 ht hi hz hsz hby hzl hzo hx ho (vy := ey.ev s) (fun m new hY => ?_) (.inl ⟨_, hu⟩) hv
  have ry := cE_ok hS hy
  obtain ⟨A, cap, vs, e2, hle, hln, hvs, hone, hnil, hat⟩ := srcA_ok H hZ ry hY
  have hl : vs.length = m * i.size := by rw [← hvs.length, hln]
  refine ⟨vs, ?_, hvs⟩
  rw [e2]
  by_cases hne : vs = []
  · subst hne
    have hm : m = 0 := by
      rcases Nat.eq_zero_or_pos m with h | h
      · exact h
      · have := Nat.mul_pos h hsz
        simp at hl; omega
    subst hm
    cases A with
    | none => exact Src.ofNil w hu cap
    | some A => exact Src.ofSlice w hu A 0 cap [] (by simp) (fun j u hj => by simp at hj) (fun u hu => by cases hu)
  · obtain ⟨g, off, rfl, hr⟩ := hat hne
    exact Src.ofSlice w hu _ m cap vs hl (rangeAt_add hr) (hvs.one hone)
theorem g_appendS (hS : SR N ν s a) (H : HR ν base h w) (hZ : HZ ν h w) {c : Call} {x y : Operand} {ex ey : AE} {t t2 e : TypeId} {i : TypeInfo} {z : AV} (hc : c.callee = .builtin .append) (ha : c.args.toList = [x, y]) (ht1 : c.argTypes[0]? = some t) (ht2 : c.argTypes[1]? = some t2)
    (ht : P.underlying t = some (.slice e)) (hu : P.underlying t2 = some .string) (hi : P.info? e = some i) (hz : zeroOf P e = some z) (hsz : i.size = 1) (hby : i.bytes = 1) (hzl : z.cells.length = 1) (hzo : z.cells.all AV.one = true)
    (hx : cE x = some ex) (hy : cE y = some ey) (ho : o.op = .call c) (hv : aop (.appendS ex ey) s h = some (v, h')) : Good P ν base h w a o v h' := by
  have ry := cE_ok hS hy
  simp only [aop] at hv
  split at hv
  · rename_i str hst
    rw [hst] at ry
    have e1 : a.eval y = .string str := ry
    refine append_core hS H hZ hc ha ht1 ht2 ht hi hz (by omega) (by omega) (by omega) hzo hx ho (vy := .fs none (str.toList.map fun c => [.int .u8 c.toNat])) (fun m new hY => ?_) (.inr hu) (by rw [hsz, hby]; exact hv)
    rw [hsz] at hY
    have hall : (str.toList.map fun c => [AV.int .u8 (c.toNat : Int)]).all (fun r => r.length == 1) = true := by simp
    simp only [srcA, hall, if_true, Option.some.injEq, Prod.mk.injEq] at hY
    obtain ⟨rfl, rfl⟩ := hY
    have hdl : str.toList = str.data.toList := ByteArray.toList_eq str
    have hln : (str.toList.map fun c => [AV.int .u8 (c.toNat : Int)]).length = str.size := by rw [List.length_map, hdl, Array.length_toList]; rfl
    rw [hln, e1, hsz]
    refine ⟨byteCells str, Src.ofString w hu str, ?_⟩
    rw [hdl]
    unfold byteCells
    induction str.data.toList with
    | nil => rfl
    | cons b l ih => exact ⟨_, _, rfl, rfl, ih⟩
  · cases hv

theorem g_mx (hS : SR N ν s a) (H : HR ν base h w) {c : Call} {big : Bool} {x : AE} {ys : List AE} (hc : c.callee = .builtin .max ∧ big = true ∨ c.callee = .builtin .min ∧ big = false) (hl : mapO cE c.args.toList = some (x :: ys)) (ho : o.op = .call c)
    (hv : aop (.mx big x ys) s h = some (v, h')) : Good P ν base h w a o v h' := by
  have rl := mapO_cE_ok hS hl
  simp only [aop] at hv
  split at hv
  · rename_i k n hx
    simp only [Option.map_eq_some_iff, Prod.mk.injEq] at hv
    obtain ⟨r, hr, rfl, rfl⟩ := hv
    simp only [List.map_cons] at rl
    obtain ⟨u0, us, hus, hu0, hrest⟩ := rl
    rw [hx] at hu0
    have e0 : u0 = .int k n := hu0
    subst e0
    have none_ : ∀ (zs : List AE), (zs.foldl (fun (acc : Option Int) y => match acc, y.ev s with
        | some a, .int _ b => some (if big then (if b > a then b else a) else (if b < a then b else a))
        | _, _ => none) none) = none := by
      intro zs
      induction zs with
      | nil => rfl
      | cons z zs ih => rw [List.foldl_cons]; exact ih
    have key : ∀ (zs : List AE) (us : List Value) (n r : Int), VRs ν (zs.map (AE.ev s)) us → (zs.foldl (fun (acc : Option Int) y => match acc, y.ev s with
        | some a, .int _ b => some (if big then (if b > a then b else a) else (if b < a then b else a))
        | _, _ => none) (some n)) = some r → (us.foldlM (if big then Builtin.max2 else Builtin.min2) (.int k n)).run P w = .ok (.int k r) w := by
      intro zs
      induction zs with
      | nil =>
        intro us n r hz hf
        have : us = [] := hz
        subst this
        simp at hf; subst hf
        simp
      | cons z zs ih =>
        intro us n r hz hf
        obtain ⟨q, qs, rfl, hq, hqs⟩ := hz
        rw [List.foldl_cons] at hf
        cases hze : z.ev s <;> rw [hze] at hf <;> simp only at hf <;> try (rw [none_] at hf; cases hf)
        rename_i k' b
        rw [hze] at hq
        have e : q = .int k' b := hq
        subst e
        have := ih qs _ r hqs hf
        rw [List.foldlM_cons]
        cases big
        · simpa [Builtin.min2] using this
        · simpa [Builtin.max2] using this
    have hk := key ys us n r hrest hr
    refine Good.quiet H (u := .int k r) ?_ rfl
    have hargs : (c.args.map a.eval).toList = .int k n :: us := by rw [Array.toList_map, hus]
    rcases hc with ⟨hc, rfl⟩ | ⟨hc, rfl⟩
    · simp only [if_true] at hk
      simp [execOp, ho, resolve, hc, invoke, builtin, Builtin.max_, hus, hk]
    · simp only [Bool.false_eq_true, if_false] at hk
      simp [execOp, ho, resolve, hc, invoke, builtin, Builtin.min_, hus, hk]
  · cases hv

end
end Go.Bm
