/- What the abstract machine tells of code and of calls holds of the model's. -/
import Derived.Test.YtbajchkpehdolaaBmK
import Derived.Test.YtbajchkpehdolaaBmEm
namespace Go.Bm
set_option linter.all false
open Go Go.RowKit
set_option linter.unusedVariables false
set_option linter.unusedSimpArgs false

section
variable {P : Program} {N : Nat} {B : List Nat} {lo : Nat} {ν : V} {base : Nat} {s : S} {h h' : AH} {w w' : World} {a : Act} {o : Oper} {v : AV} {u : Value}

def K.isCall : K → Bool
  | .call .. | .callv .. => true
  | _ => false

theorem mapO_one {e : AE} {l : List Operand} (h : mapO cE l = some [e]) : ∃ x, l = [x] ∧ cE x = some e := by
  obtain ⟨hl, hk⟩ := mapO_get h
  match l, hl with
  | [x], _ =>
    obtain ⟨y, hy, hy'⟩ := hk 0 x rfl
    simp at hy'; subst hy'
    exact ⟨x, rfl, hy⟩

theorem mapO_two {e f : AE} {l : List Operand} (h : mapO cE l = some [e, f]) : ∃ x y, l = [x, y] ∧ cE x = some e ∧ cE y = some f := by
  obtain ⟨hl, hk⟩ := mapO_get h
  match l, hl with
  | [x, y], _ =>
    obtain ⟨p, hp, hp'⟩ := hk 0 x rfl
    obtain ⟨q, hq, hq'⟩ := hk 1 y rfl
    simp at hp' hq'; subst hp'; subst hq'
    exact ⟨x, y, rfl, hp, hq⟩

theorem kind_raw (hS : SR N ν s a) (H : HR ν base h w) (hZ : HZ ν h w) {k : K} (hk : cK P o.op = some k) (hc : k.isCall = false) (hv : aop k s h = some (v, h')) : Good P ν base h w a o v h' := by
  cases hop : o.op <;> rw [hop] at hk <;> simp only [cK] at hk <;> try (cases hk; done)
  case move x => split at hk <;> cases hk; exact g_mov hS H (by assumption) (.inl hop) hv
  case assign x => split at hk <;> cases hk; exact g_mov hS H (by assumption) (.inr hop) hv
  case pick c x y => split at hk <;> cases hk; exact g_pick hS H (by assumption) (by assumption) (by assumption) hop hv
  case alloc t => split at hk <;> cases hk; exact g_alloc H (by assumption) hop hv
  case box t x => split at hk <;> cases hk; exact g_box hS H (by assumption) hop hv
  case build t ps =>
    split at hk <;> try cases hk
    · split at hk <;> try cases hk
      split at hk <;> cases hk
      exact g_build hS H (by assumption) (by assumption) (by assumption) (by assumption) hop hv (by assumption)
    · split at hk <;> try cases hk
      split at hk <;> cases hk
      exact g_buildA hS H (by assumption) (by assumption) (by assumption) (by assumption) hop hv (by assumption)
  case makeMap t r =>
    split at hk <;> cases hk
    · exact g_mkmap H (by assumption) (.inl rfl) hop hv
    · exact g_mkmap H (by assumption) (.inr ⟨_, _, rfl⟩) hop hv
  case lookup t m k' ok =>
    split at hk <;> try cases hk
    split at hk <;> cases hk
    exact g_mget hS H (by assumption) (by assumption) (by assumption) (by assumption) (by assumption) hop hv
  case mapUpdate t m k' x =>
    split at hk <;> try cases hk
    split at hk <;> cases hk
    exact g_mset hS H (by assumption) (by assumption) (by assumption) (by assumption) (by assumption) (.inl hop) hv
  case insert t m k' x =>
    split at hk <;> try cases hk
    split at hk <;> cases hk
    exact g_mset hS H (by assumption) (by assumption) (by assumption) (by assumption) (by assumption) (.inr hop) hv
  case buildSlice t len ps =>
    split at hk <;> try cases hk
    split at hk <;> try cases hk
    split at hk <;> cases hk
    rename_i hcnd
    exact g_bslice hS H (by assumption) (by assumption) (by assumption) (by assumption) hcnd.1 hcnd.2.1 hcnd.2.2.1 hcnd.2.2.2 hop hv
  case load t x =>
    split at hk <;> cases hk
    · exact g_load_agg hS H hZ (by assumption) (by assumption) (by assumption) hop hv
    · rename_i d i e hns hna hd hi he
      refine g_load_one hS H hZ he hd ?_ hop hv
      cases d <;> first | rfl | exact (hns _ rfl).elim | exact (hna _ _ rfl).elim
  case store t x y => split at hk <;> cases hk; exact g_store hS H (by assumption) (by assumption) (by assumption) hop hv
  case nilCheck x => split at hk <;> cases hk; exact g_nchk hS H (by assumption) hop hv
  case binOp op t x y u' =>
    split at hk <;> try cases hk
    rename_i ex ey hx hy
    unfold cBin at hk
    split at hk
    · split at hk <;> try cases hk
      · exact g_bin hS H hx hy hop hv
      · exact g_bin hS H hx hy hop hv
      · exact g_eqb hS H hx hy (.inl ⟨rfl, rfl⟩) (by assumption) hop hv
      · split at hk
        · cases hk
        · rename_i hg
          split at hk <;> cases hk
          exact g_eqs hS H hx hy (.inl ⟨rfl, rfl⟩) (by simpa using hg) (by assumption) (by assumption) hop hv
      · refine g_eqnil (k := 0) hS H hx hy (.inl ⟨rfl, rfl⟩) (by assumption) ?_ hop hv; exact ⟨_, rfl⟩
      · refine g_eqnil (k := 1) hS H hx hy (.inl ⟨rfl, rfl⟩) (by assumption) ?_ hop hv; exact ⟨_, rfl⟩
      · refine g_eqnil (k := 2) hS H hx hy (.inl ⟨rfl, rfl⟩) (by assumption) ?_ hop hv; exact ⟨_, _, rfl⟩
      · refine g_eqnil (k := 3) hS H hx hy (.inl ⟨rfl, rfl⟩) (by assumption) ?_ hop hv; exact ⟨_, _, _, rfl⟩
    · split at hk <;> try cases hk
      · exact g_bin hS H hx hy hop hv
      · exact g_bin hS H hx hy hop hv
      · exact g_eqb hS H hx hy (.inr ⟨rfl, rfl⟩) (by assumption) hop hv
      · split at hk
        · cases hk
        · rename_i hg
          split at hk <;> cases hk
          exact g_eqs hS H hx hy (.inr ⟨rfl, rfl⟩) (by simpa using hg) (by assumption) (by assumption) hop hv
      · refine g_eqnil (k := 0) hS H hx hy (.inr ⟨rfl, rfl⟩) (by assumption) ?_ hop hv; exact ⟨_, rfl⟩
      · refine g_eqnil (k := 1) hS H hx hy (.inr ⟨rfl, rfl⟩) (by assumption) ?_ hop hv; exact ⟨_, rfl⟩
      · refine g_eqnil (k := 2) hS H hx hy (.inr ⟨rfl, rfl⟩) (by assumption) ?_ hop hv; exact ⟨_, _, rfl⟩
      · refine g_eqnil (k := 3) hS H hx hy (.inr ⟨rfl, rfl⟩) (by assumption) ?_ hop hv; exact ⟨_, _, _, rfl⟩
    · cases hk
      exact g_bin hS H hx hy hop hv
  case unOp op t x => split at hk <;> cases hk; exact g_un hS H (by assumption) hop hv
  case convert src dst x =>
    split at hk
    · cases hk; exact g_conv hS H (by assumption) (by assumption) (by assumption) hop hv
    · cases hk; exact g_movs hS H (by assumption) (by assumption) (by assumption) hop hv
    · split at hk <;> cases hk
      exact g_b2s hS H hZ (by assumption) (by assumption) (by assumption) (by assumption) hop hv
    · split at hk <;> cases hk
      exact g_s2b hS H (by assumption) (by assumption) (by assumption) (by assumption) hop hv
    · cases hk
  case makeFunc fn first cap =>
    cases fn <;> simp only at hk <;> try (cases hk; done)
    split at hk <;> try cases hk
    split at hk <;> cases hk
    exact g_mkfn hS H (by assumption) (by assumption) hop hv
  case makeSlice t x y =>
    split at hk <;> try cases hk
    split at hk <;> try cases hk
    split at hk <;> cases hk
    rename_i hcnd
    exact g_mslice hS H (by assumption) (by assumption) (by assumption) (by assumption) (by assumption) hcnd.1 hcnd.2 hop hv
  case slice t x lo hi mx =>
    split at hk <;> try cases hk
    · split at hk <;> try cases hk
      split at hk <;> cases hk
      exact g_slice hS H (by assumption) (by assumption) (by assumption) (by assumption) (by assumption) (by assumption) (by assumption) hop hv
    · rename_i ht hx hl hh hm
      have : mx = none := by cases mx with | none => rfl | some _ => simp only [cEo] at hm; split at hm <;> cases hm
      subst this
      exact g_slstr hS H ht hx hl hh hop hv
  case fieldAddr t x f =>
    split at hk <;> try cases hk
    split at hk <;> try cases hk
    split at hk <;> try cases hk
    split at hk <;> cases hk
    exact g_faddr hS H (by assumption) (by assumption) (by assumption) (by assumption) (by assumption) hop hv
  case indexAddr t x i =>
    split at hk <;> try cases hk
    split at hk <;> cases hk
    exact g_iaddr hS H (by assumption) (by assumption) (by assumption) (by assumption) hop hv
  case index t x i => split at hk <;> cases hk; exact g_index hS H (by assumption) (by assumption) (by assumption) hop hv
  case extract x i => split at hk <;> cases hk; exact g_ext hS H (by assumption) hop hv
  case call c =>
    unfold cCall at hk
    split at hk
    · cases hk; cases hc
    · split at hk <;> cases hk; cases hc
    · rename_i x hcal hargs
      obtain ⟨x', hx', hcx⟩ := mapO_one hargs
      split at hk <;> try cases hk
      split at hk <;> cases hk
      · exact g_len_str hS H hcx hcal hx' (by assumption) (by assumption) hop hv
      · exact g_len_sl hS H hcx hcal hx' (by assumption) (by assumption) hop hv
      · exact g_mlen hS H hcx hcal hx' (by assumption) (by assumption) hop hv
    · rename_i x y hcal hargs
      obtain ⟨x', y', hxy, hcx, hcy⟩ := mapO_two hargs
      split at hk <;> try cases hk
      split at hk <;> try cases hk
      rotate_left
      · split at hk <;> try cases hk
        split at hk <;> cases hk
        rename_i hcnd
        obtain ⟨h1, h2, h3, h4⟩ := hcnd
        exact g_appendS hS H hZ hcal hxy (by assumption) (by assumption) (by assumption) (by assumption) (by assumption) (by assumption) h1 h2 h3 h4 hcx hcy hop hv
      split at hk <;> try cases hk
      split at hk <;> cases hk
      rename_i hcnd
      obtain ⟨rfl, h1, h2, h3, h4⟩ := hcnd
      exact g_append hS H hZ hcal hxy (by assumption) (by assumption) (by assumption) (by assumption) (by assumption) (by assumption) h1 h2 h3 h4 hcx hcy hop hv
    · cases hk; exact g_mx hS H (.inl ⟨by assumption, rfl⟩) (by assumption) hop hv
    · cases hk; exact g_mx hS H (.inr ⟨by assumption, rfl⟩) (by assumption) hop hv
    · cases hk

/-- An empty row: nil, or not; one of these the run tells. -/
theorem amb_sound (hS : SR N ν s a) (H : HR ν base h w) {k : K} (hk : cK P o.op = some k.erase) (ha : aamb k s = true) : ∃ b, Good P ν base h w a o (.bool b) h := by
  cases k <;> try (cases ha; done)
  case eqnil kd neg ex0 ey0 =>
    simp only [K.erase] at hk
    have hkd : kd = 0 := by
      cases kd with
      | zero => rfl
      | succ n => cases ha
    subst hkd
    cases hop : o.op <;> rw [hop] at hk
    case binOp op t x y u' =>
      simp only [cK] at hk
      split at hk <;> try cases hk
      rename_i ex ey hx hy
      unfold cBin at hk
      split at hk
      · split at hk <;> try (cases hk; done)
        · split at hk
          · cases hk
          · split at hk <;> cases hk
        · cases hk
          exact g_eqnil_amb hS H hx hy (.inl ⟨rfl, rfl⟩) (by assumption) hop ha
      · split at hk <;> try (cases hk; done)
        · split at hk
          · cases hk
          · split at hk <;> cases hk
        · cases hk
          exact g_eqnil_amb hS H hx hy (.inr ⟨rfl, rfl⟩) (by assumption) hop ha
      · cases hk
    case call c =>
      simp only [cK, cCall] at hk
      repeat' (split at hk)
      all_goals first | contradiction | (cases hk; done)
    all_goals
      simp only [cK] at hk
      repeat' (split at hk)
      all_goals first | contradiction | (cases hk; done)

theorem cK_raw {op : Op} {k : K} (hk : cK P op = some k) : (∀ a b c d, k ≠ .bsliceF a b c d) ∧ (∀ a b c d e, k ≠ .msliceF a b c d e) ∧ (∀ x, k ≠ .s2bF x) ∧ (∀ a b c d, k ≠ .appendF a b c d) ∧ (∀ m f l, k = .call m f l → m = .raw) ∧ (∀ m f l, k = .callv m f l → m = .raw) := by
  have fin : (match k with | .bsliceF .. | .msliceF .. | .s2bF _ | .appendF .. => False | .call m _ _ | .callv m _ _ => m = .raw | _ => True) := by
    cases op
    case call c =>
      simp only [cK, cCall] at hk
      repeat' (split at hk)
      all_goals first | contradiction | (cases hk; first | trivial | rfl)
    all_goals
      simp only [cK, cBin] at hk
      repeat' (split at hk)
      all_goals first | contradiction | (cases hk; done) | (cases hk; trivial)
  refine ⟨?_, ?_, ?_, ?_, ?_, ?_⟩ <;> (intros; try intro e) <;> (first | (subst_vars; exact fin) | skip)

theorem kind_sound (hS : SR N ν s a) (H : HR ν base h w) (hZ : HZ ν h w) {k : K} (hk : cK P o.op = some k.erase) (hc : k.isCall = false) (hv : aop k s h = some (v, h')) : GoodF P ν base h w a o v h' := by
  cases k
  case bsliceF => exact g_bsliceF H hZ (fun v h' hv => kind_raw hS H hZ hk rfl hv) hv
  case msliceF => exact g_msliceF H hZ (fun v h' hv => kind_raw hS H hZ hk rfl hv) hv
  case s2bF => exact g_s2bF H hZ (fun v h' hv => kind_raw hS H hZ hk rfl hv) hv
  case appendF es bytes x y =>
    have hxy : ∃ X Y, cE X = some x ∧ cE Y = some y := by
      simp only [K.erase] at hk
      cases hop : o.op <;> rw [hop] at hk
      case call c =>
        simp only [cK, cCall] at hk
        repeat' (split at hk)
        all_goals first
          | contradiction
          | (cases hk; done)
          | (cases hk
             rename_i hargs _ _ _ _ _ _ _ _ _ _ _ _
             skip)
        all_goals (obtain ⟨X, Y, _, h1, h2⟩ := mapO_two (by assumption); exact ⟨X, Y, h1, h2⟩)
      all_goals
        exfalso
        simp only [cK, cBin] at hk
        repeat' (split at hk)
        all_goals first | contradiction | (cases hk; done)
    obtain ⟨X, Y, hX, hY⟩ := hxy
    exact g_appendF H hZ (cE_ok hS hX) (cE_ok hS hY) (fun v h' hv => kind_raw hS H hZ hk rfl hv) hv
  case call => cases hc
  case callv => cases hc
  all_goals exact (kind_raw hS H hZ hk rfl hv).toF hZ

/-! ### calls -/
def GoodFn (P : Program) (f : FuncId) : Prop := ∃ fn, P.funcs[f]? = some fn ∧ fn.name ≠ "runtime.NumGoroutine" ∧ fn.body.isSome = true

/-- What a call is to do, in the model. -/
def CC (P : Program) (base : Nat) : AQ := fun f args h R => GoodFn P f ∧ ∀ ν w vs, HR ν base h w → HZ ν h w → VRs ν args vs →
  Calls P f vs.toArray w fun e w' => ∃ u v h' ν', e = .returned u ∧ V.le ν ν' ∧ HR ν' base h' w' ∧ HZ ν' h' w' ∧ VR ν' v u ∧ FrL w.heap.size base ν h w ν' h' w' ∧ R v h'

theorem CC.mono_ : (CC P base).Mono := by
  rintro f args h R R' hR ⟨hg, hc⟩
  refine ⟨hg, fun ν w vs H Z hvs => (hc ν w vs H Z hvs).mono ?_⟩
  rintro e w' ⟨u, v, h', ν', he, hν, hH, hZ, hv, hb, hr⟩
  exact ⟨u, v, h', ν', he, hν, hH, hZ, hv, hb, hR _ _ hr⟩

theorem run_callFunc {f : FuncId} (hf : GoodFn P f) (args : Array Value) : (callFunc f args).run P w = .ok (.enter f args) w := by
  obtain ⟨fn, h1, h2, h3⟩ := hf
  have h3' : ¬ (fn.body = none) := by intro e; rw [e] at h3; cases h3
  simp [callFunc, h1, h2, h3']

theorem cK_call {op : Op} {k : K} (hk : cK P op = some k) (hc : k.isCall = true) : ∃ c, op = .call c ∧ cCall P c = some k := by
  cases op
  case call c => exact ⟨c, rfl, hk⟩
  all_goals
    exfalso
    simp only [cK, cBin] at hk
    revert hc
    repeat' (split at hk)
    all_goals first | contradiction | (cases hk; done) | (cases hk; intro h; cases h)

theorem frzs_ok {ν2 : V} (H : HR ν base h w) {lo : Nat} (hzz : ∀ g k v, ν.z g k = some v → ν2.z g k = some v)
    (hz : ∀ b l p k, lo ≤ b → h.get b = some (.cells true l) → ν b = some p → k < l.length → ν2.z p.g (p.o + k) = w.cell? ⟨p.g, p.o + k, none⟩) (d : Nat) : ∀ (l l' : List AV) (vs : List Value), mapO (frzV lo h d) l = some l' → VRs ν l vs → VRs ν2 l' vs
  | [], l', vs, hm, hv => by simp only [mapO, Option.some.injEq] at hm; subst hm; exact hv
  | x :: xs, l', vs, hm, hv => by
    simp only [mapO] at hm
    split at hm
    · rename_i y ys hy hys
      cases hm
      obtain ⟨u, us, rfl, hu, hus⟩ := hv
      exact ⟨u, us, rfl, (frz_ok H hzz hz d x y u hu hy).1, frzs_ok H hzz hz d xs ys us hys hus⟩
    · cases hm

theorem call_wp {C : AQ} (hC : ∀ f args h R, C f args h R → CC P base f args h R) {m : CM} {f : FuncId} {args : List AV} {us : Array Value} {Q : S → AH → Prop} {K : Act → World → Prop} {QC : Exit → Act → World → Prop}
    (hrun : GoodFn P f → (execOp a.eval o).run P w = .ok (.enter f us) w) (hus : VRs ν args us.toList) (H : HR ν base h w) (Z : HZ ν h w) (hw : acallM C m f args h fun v h' => Q (s.put o.dst v) h')
    (hK : ∀ v u h' ν' w', Q (s.put o.dst v) h' → V.le ν ν' → VR ν' v u → HR ν' base h' w' → HZ ν' h' w' → FrL w.heap.size base ν h w ν' h' w' → K (a.put o.dst u) w') : o.wp P a w K QC := by
  cases m with
  | raw =>
    obtain ⟨hg, hcc⟩ := hC _ _ _ _ hw
    unfold Oper.wp
    rw [hrun hg]
    have := hcc ν w us.toList H Z hus
    rw [Array.toArray_toList] at this
    refine this.mono ?_
    rintro e w' ⟨u, v, h', ν', rfl, hν, hH, hZ, hv, hb, hQ⟩
    exact hK v u h' ν' w' hQ hν hv hH hZ hb
  | frz =>
    obtain ⟨hg, hcc⟩ := hC _ _ _ _ hw
    unfold Oper.wp
    rw [hrun hg]
    have := hcc ν w us.toList H Z hus
    rw [Array.toArray_toList] at this
    refine this.mono ?_
    rintro e w' ⟨u, v, h', ν', rfl, hν, hH, hZ, hv, hb, hle, r, hr, hQ⟩
    obtain ⟨ν2, f1, f2, f3, f4, f5, f6⟩ := freeze H hH hZ hν hle hb
    exact hK r u h ν2 w' hQ f1 (frz_ok hH f2 f3 DF v r u hv hr).1 f4 f5 f6
  | bor =>
    obtain ⟨args', ha, hw⟩ := hw
    obtain ⟨hg, hcc⟩ := hC _ _ _ _ hw
    unfold Oper.wp
    rw [hrun hg]
    obtain ⟨ν1, b0, b1, b2, b3, b4⟩ := borrow H Z
    have := hcc ν1 w us.toList b3 b4 (frzs_ok H b1.z b2 DF args args' us.toList ha hus)
    rw [Array.toArray_toList] at this
    refine this.mono ?_
    rintro e w' ⟨u, v, h', ν', rfl, hν, hH, hZ, hv, hb, hs, hQ⟩
    obtain ⟨g1, g2, g3⟩ := give_back H Z hb
    exact hK v u h ν w' hQ (V.le_refl _) (VR.scal v u hs hv) g1 g2 g3
  | own =>
    obtain ⟨args', ha, hw⟩ := hw
    obtain ⟨hg, hcc⟩ := hC _ _ _ _ hw
    unfold Oper.wp
    rw [hrun hg]
    obtain ⟨ν1, b0, b1, b2, b3, b4⟩ := borrow H Z
    have := hcc ν1 w us.toList b3 b4 (frzs_ok H b1.z b2 DF args args' us.toList ha hus)
    rw [Array.toArray_toList] at this
    refine this.mono ?_
    rintro e w' ⟨u, v, h', ν', rfl, hν, hH, hZ, hv, hb, hs, hn, hQ⟩
    obtain ⟨g0, g1, g2, g3⟩ := give_more H Z b0 b1.z hν hH hZ hn hb
    exact hK v u _ ⟨ν'.f, ν.z⟩ w' hQ g0 (VR.rawz (ν := ν') (ν' := ⟨ν'.f, ν.z⟩) (fun _ _ h => h) v u hs hv) g1 g2 g3

theorem step_sound {C : AQ} (hC : ∀ f args h R, C f args h R → CC P base f args h R) {k : K} (hk : cK P o.op = some k.erase) (hd : ∀ t, o.dst = some t → t < N ∧ t ∉ B) {g : Option (Nat × Bool)} {Q : S → AH → Prop} {K' : Act → World → Prop} {QC : Exit → Act → World → Prop}
    (st : St N B lo base ν s h a w) (hq : astep C ⟨o.dst, g, k⟩ Q s h)
    (hK : ∀ s' h' ν' a' w', Q s' h' → V.le ν ν' → St N B lo base ν' s' h' a' w' → FrL lo base ν h w ν' h' w' → (∃ u, a' = a.put o.dst u) → K' a' w') : o.wp P a w K' QC := by
  have hS := st.sr
  have H := st.hr
  have Z := st.hz
  by_cases hcall : k.isCall = true
  · cases k <;> try (cases hcall; done)
    case call m f args =>
      obtain ⟨c, hop, hcc⟩ := cK_call hk rfl
      simp only [K.erase] at hcc
      unfold cCall at hcc
      split at hcc
      · rename_i f args hcal hargs
        cases hcc
        refine call_wp hC (us := c.args.map a.eval) (fun hg => ?_) (by simpa using mapO_cE_ok hS hargs) H Z hq (fun v u h' ν' w' hQ hν hv hH hZ hb => hK _ _ ν' _ w' hQ hν (st.plain hν hH hZ hb hv hd) (hb.mono st.los) ⟨_, rfl⟩)
        simp [execOp, hop, resolve, hcal, Act.eval, Deferred.ofValue, invoke, run_callFunc hg]
      · split at hcc <;> cases hcc
      · split at hcc <;> try cases hcc
        split at hcc <;> cases hcc
      · repeat' (split at hcc)
        all_goals first | contradiction | (cases hcc; done)
      · cases hcc
      · cases hcc
      · cases hcc
    case callv m e args =>
      obtain ⟨c, hop, hcc⟩ := cK_call hk rfl
      simp only [K.erase] at hcc
      unfold cCall at hcc
      split at hcc
      · cases hcc
      · rename_i x args' hnf hcal hargs
        split at hcc <;> cases hcc
        rename_i e he
        have hx := cE_ok hS he
        simp only [astep] at hq
        split at hq
        · rename_i f cap hef
          rw [hef] at hx
          obtain ⟨vs, e1, hvs⟩ := hx
          refine call_wp hC (us := c.args.map a.eval ++ vs) (fun hg => ?_) (by simpa using (mapO_cE_ok hS hargs).append hvs) H Z hq (fun v u h' ν' w' hQ hν hv hH hZ hb => hK _ _ ν' _ w' hQ hν (st.plain hν hH hZ hb hv hd) (hb.mono st.los) ⟨_, rfl⟩)
          simp [execOp, hop, resolve, hcal, e1, Deferred.ofValue, invoke, run_callFunc hg]
        · exact hq.elim
      · split at hcc <;> try cases hcc
        split at hcc <;> cases hcc
      · repeat' (split at hcc)
        all_goals first | contradiction | (cases hcc; done)
      · cases hcc
      · cases hcc
      · cases hcc
  · have hc : k.isCall = false := by simpa using hcall
    have hq' : (∃ v h', aop k s h = some (v, h') ∧ Q (s.put o.dst v) h') ∨ (aamb k s = true ∧ ∀ b : Bool, Q (s.put o.dst (.bool b)) h) := by
      cases k <;> first
        | (cases hc; done)
        | (simp only [astep] at hq
           split at hq
           · exact .inl ⟨_, _, by assumption, hq⟩
           · exact .inr hq)
    rcases hq' with ⟨v, h', hv, hQ⟩ | ⟨ha, hQ⟩
    · obtain ⟨ν', w', u, hwp, hvu, hν, hH, hZ, hb⟩ := kind_sound hS H Z hk hc hv
      exact hwp _ _ (hK _ _ ν' _ w' hQ hν (st.plain hν hH hZ hb hvu hd) (hb.mono st.los) ⟨_, rfl⟩)
    · obtain ⟨b, g⟩ := amb_sound hS H hk ha
      obtain ⟨ν', w', u, hwp, hvu, hν, hH, hZ, hb⟩ := g.toF Z
      exact hwp _ _ (hK _ _ ν' _ w' (hQ b) hν (st.plain hν hH hZ hb hvu hd) (hb.mono st.los) ⟨_, rfl⟩)

theorem astep_plain {C : AQ} {y : AOp} (hy : y.k.isCall = false) (ha : aamb y.k s = false) {Q : S → AH → Prop} : astep C y Q s h ↔ ∃ v h', aop y.k s h = some (v, h') ∧ Q (s.put y.dst v) h' := by
  have e : astep C y Q s h ↔ (match aop y.k s h with | some (v, h') => Q (s.put y.dst v) h' | none => False) := by
    unfold astep
    split
    · rename_i hk; rw [hk] at hy; cases hy
    · rename_i hk; rw [hk] at hy; cases hy
    · show (match aop y.k s h with | some (v, h') => Q (s.put y.dst v) h' | none => aamb y.k s = true ∧ ∀ b : Bool, Q (s.put y.dst (.bool b)) h) ↔ _
      rw [ha]
      cases aop y.k s h with
      | none => simp
      | some p => exact Iff.rfl
  rw [e]
  cases aop y.k s h with
  | none => simp
  | some p =>
    obtain ⟨v, h'⟩ := p
    exact ⟨fun hq => ⟨v, h', rfl, hq⟩, fun ⟨v2, h2, e2, hq⟩ => by cases e2; exact hq⟩

/-! ### guards, and local boxes -/
theorem wanted_cases (hS : SR N ν s a) {ops : Array Oper} {g : Option (Nat × Bool)} (hg : guardOf ops o = some g) {X Y : Prop} {y : AOp} (hyg : y.guard = g) (hq : aguard y X Y s) :
    (Region.wanted o (yielded ops a.tmps) = true ∧ X ∧ ∀ t want, g = some (t, want) → a.tmps.getD t undef = .bool want) ∨
    (Region.wanted o (yielded ops a.tmps) = false ∧ Y ∧ ∃ t want, g = some (t, want) ∧ a.tmps.getD t undef ≠ .bool want) := by
  unfold aguard at hq
  rw [hyg] at hq
  clear hyg
  unfold guardOf at hg
  split at hg
  · rename_i hg0
    cases hg
    exact .inl ⟨by simp [Region.wanted, hg0], hq, fun t want e => by cases e⟩
  · rename_i j want hg0
    split at hg
    · rename_i q hq0
      split at hg
      · rename_i t ht
        split at hg
        · rename_i htl
          cases hg
          have hval := hS.val t htl
          have hyl : ∀ b, a.tmps.getD t undef = .bool b → yielded ops a.tmps j = some b := by
            intro b hb
            have : a.tmps[t]? = some (.bool b) := by
              rw [Array.getD_eq_getD_getElem?] at hb
              cases ha : a.tmps[t]? with
              | none => rw [ha] at hb; simp [undef] at hb
              | some v => rw [ha] at hb; simp at hb; rw [hb]
            simp [yielded, hq0, ht, this]
          have hyn : ∀ vs, a.tmps.getD t undef = .tuple vs → yielded ops a.tmps j = none := by
            intro vs hb
            rw [Array.getD_eq_getD_getElem?] at hb
            cases ha : a.tmps[t]? with
            | none => simp [yielded, hq0, ht, ha]
            | some v => rw [ha] at hb; simp at hb; subst hb; simp [yielded, hq0, ht, ha]
          simp only at hq
          split at hq
          · rename_i b hb
            rw [hb] at hval
            have hv : a.tmps.getD t undef = .bool b := hval
            have hyb := hyl b hv
            by_cases hbw : b = want
            · exact .inl ⟨by simp [Region.wanted, hg0, hyb, hbw], hq.1 hbw, fun t' want' e => by cases e; rw [hv, hbw]⟩
            · exact .inr ⟨by simp [Region.wanted, hg0, hyb]; exact hbw, hq.2 (by cases b <;> cases want <;> simp_all), t, want, rfl, by rw [hv]; intro e; cases e; exact hbw rfl⟩
          · rename_i hb
            rw [hb] at hval
            obtain ⟨vs, hv, _⟩ := hval
            exact .inr ⟨by simp [Region.wanted, hg0, hyn vs hv], hq, t, want, rfl, by rw [hv]; intro e; cases e⟩
          · exact hq.elim
        · cases hg
      · cases hg
    · cases hg

theorem cOp_inv {ops : Array Oper} {y : AOp} (hy : cOp P N ops o = some y) : ∃ k g, y = ⟨o.dst, g, k⟩ ∧ cK P o.op = some k ∧ guardOf ops o = some g ∧ ∀ t, o.dst = some t → t < N := by
  unfold cOp at hy
  split at hy
  · rename_i k hk hd hg
    cases hy
    exact ⟨k, none, rfl, hk, by simp [guardOf, hg], fun t ht => by rw [ht] at hd; simpa using hd⟩
  · rename_i k j want hk hd hg
    split at hy
    · rename_i q hq0
      split at hy
      · rename_i t ht
        split at hy
        · rename_i htl
          cases hy
          exact ⟨k, some (t, want), rfl, hk, by simp [guardOf, hg, hq0, ht, htl], fun t ht => by rw [ht] at hd; simpa using hd⟩
        · cases hy
      · cases hy
    · cases hy
  · cases hy

def Ent.fact (e : Ent) (a : Act) : Prop := ∀ G o, a.tmps.getD e.t undef = .pointer (some ⟨G, o, none⟩) → (∀ tg want, e.g = some (tg, want) → a.tmps.getD tg undef = .bool want) → a.tmps.getD e.u undef = .pointer (some ⟨G, o + e.off, none⟩)

theorem Ent.fact_put {e : Ent} (he : e.fact a) {d : Option Nat} (hd : ∀ t, d = some t → t ∉ e.slots) (u : Value) : e.fact (a.put d u) := by
  cases d with
  | none => exact he
  | some d =>
    have hn := hd d rfl
    have h1 : e.u ≠ d := fun q => hn (by simp [Ent.slots, q])
    have h2 : e.t ≠ d := fun q => hn (by simp [Ent.slots, q])
    intro G o hG hg
    rw [getD_put h2] at hG
    rw [getD_put h1]
    refine he G o hG fun tg want hgw => ?_
    have h3 : tg ≠ d := fun q => hn (by simp [Ent.slots, hgw, q])
    rw [← getD_put (u := u) h3]
    exact hg tg want hgw

theorem root_ok {E : List Ent} {bf : Nat → Nat → Bool} {i : Nat} {done : Nat → Prop} (hJ : ∀ e, e ∈ E → done e.j → e.fact a) (hbf : ∀ j, bf j i = true → done j) {g : Option (Nat × Bool)} (hg : ∀ t want, g = some (t, want) → a.tmps.getD t undef = .bool want)
    {x : Operand} {t off : Nat} (hr : rootL B E bf i g x = some (t, off)) : t ∈ B ∧ ∀ G l, At s a t G l → a.eval x = .pointer (some ⟨G, off, none⟩) := by
  unfold rootL at hr
  split at hr
  · rename_i u
    split at hr
    · rename_i hu
      cases hr
      exact ⟨by simpa using hu, fun G l hat => hat.2⟩
    · split at hr
      · rename_i e hf
        cases hr
        have hp := List.find?_some hf
        have hm := List.mem_of_find?_eq_some hf
        simp only [Bool.and_eq_true, Bool.or_eq_true, beq_iff_eq] at hp
        obtain ⟨⟨⟨h1, h2⟩, h3⟩, h4⟩ := hp
        refine ⟨by simpa using h4, fun G l hat => ?_⟩
        have := hJ e hm (hbf _ h2) G 0 hat.2 (fun tg want hgw => by
          rcases h3 with h3 | h3
          · rw [hgw] at h3; cases h3
          · exact hg tg want (h3 ▸ hgw))
        rw [h1, Nat.zero_add] at this
        exact this
      · cases hr
  · cases hr

theorem wp_value {r : Value} (hr : (execOp a.eval o).run P w = .ok (.value r) w') {K' : Act → World → Prop} {QC : Exit → Act → World → Prop} (hn : K' (a.put o.dst r) w') : o.wp P a w K' QC := by
  unfold Oper.wp; rw [hr]; exact hn
theorem wp_skip_ (hr : (execOp a.eval o).run P w = .ok .skip w') {K' : Act → World → Prop} {QC : Exit → Act → World → Prop} (hn : K' (a.put o.dst undef) w') : o.wp P a w K' QC := by
  unfold Oper.wp; rw [hr]; exact hn

theorem cL_guard {E : List Ent} {bf : Nat → Nat → Bool} {ops : Array Oper} {i : Nat} {k : LK} (hk : cL P N B E bf ops o i = some k) : ∃ g, guardOf ops o = some g ∧ (match k with
    | .plain y => cOp P N ops o = some y ∧ ∀ d, o.dst = some d → d ∉ B
    | .box t e => g = none ∧ t ∈ B ∧ o.dst = some t ∧ ((∃ ty x, o.op = .box ty x ∧ cE x = some e) ∨ (∃ ty z, o.op = .alloc ty ∧ zeroOf P ty = some z ∧ e = .c z))
    | .addr t u off g' => g' = g ∧ o.dst = some u ∧ u < N ∧ u ∉ B ∧ ∃ ty x f fs fd n off', o.op = .fieldAddr ty x f ∧ rootL B E bf i g x = some (t, off') ∧ P.underlying ty = some (.struct fs) ∧ fs[f]? = some fd ∧ sizeT P fd.type = some n ∧ n ≠ 0 ∧ off = off' + fd.offset
    | .load agg n t off g' => g' = g ∧ (∀ d, o.dst = some d → d < N ∧ d ∉ B) ∧ ∃ ty x q, o.op = .load ty x ∧ rootL B E bf i g x = some (t, off) ∧ P.info? ty = some q ∧ ((∃ fs, P.underlying ty = some (.struct fs) ∧ agg = true ∧ n = q.size) ∨ (∃ d, P.underlying ty = some d ∧ d.isRow = false ∧ agg = false ∧ n = 1))
    | .store n t off e => g = none ∧ o.dst = none ∧ ∃ ty x y q, o.op = .store ty x y ∧ rootL B E bf i g x = some (t, off) ∧ P.info? ty = some q ∧ n = q.size ∧ cE y = some e) := by
  have plain : ∀ {k : LK}, (if freeDst B o = true then match cOp P N ops o with
    | some k => some (LK.plain k)
    | none => none
    else none) = some k → ∃ y, k = .plain y ∧ cOp P N ops o = some y ∧ ∀ d, o.dst = some d → d ∉ B := by
    intro k hk
    split at hk
    · rename_i hc
      split at hk
      · rename_i y hy; cases hk; exact ⟨y, rfl, hy, fun d hd => by simpa [freeDst, hd] using hc⟩
      · cases hk
    · cases hk
  unfold cL at hk
  simp only at hk
  split at hk
  · cases hk
  · rename_i g hg
    refine ⟨g, hg, ?_⟩
    split at hk
    · rename_i ty x hop
      split at hk
      · rename_i t e hd he
        split at hk
        · rename_i hc
          cases hk
          simp only [Bool.and_eq_true, decide_eq_true_eq] at hc
          exact ⟨hc.2, by simpa using hc.1, hd, .inl ⟨ty, x, hop, he⟩⟩
        · obtain ⟨y, rfl, hy⟩ := plain hk; exact hy
      · obtain ⟨y, rfl, hy⟩ := plain hk; exact hy
    · rename_i ty hop
      split at hk
      · rename_i t z hd hz
        split at hk
        · rename_i hc
          cases hk
          simp only [Bool.and_eq_true, decide_eq_true_eq] at hc
          exact ⟨hc.2, by simpa using hc.1, hd, .inr ⟨ty, z, hop, hz, rfl⟩⟩
        · obtain ⟨y, rfl, hy⟩ := plain hk; exact hy
      · obtain ⟨y, rfl, hy⟩ := plain hk; exact hy
    · rename_i ty x f hop
      split at hk
      · rename_i t off hr
        split at hk
        · rename_i fs u hu hd
          split at hk
          · rename_i fd hf
            split at hk
            · rename_i n hn
              split at hk
              · rename_i hc
                cases hk
                exact ⟨rfl, hd, hc.2.1, by simpa using hc.2.2, ty, x, f, fs, fd, n, off, hop, hr, hu, hf, hn, hc.1, rfl⟩
              · cases hk
            · cases hk
          · cases hk
        · cases hk
      · obtain ⟨y, rfl, hy⟩ := plain hk; exact hy
    · rename_i ty x hop
      split at hk
      · rename_i t off hr
        split at hk
        · rename_i hc
          have hc' : ∀ d, o.dst = some d → d < N ∧ d ∉ B := fun d hd => by simpa [goodDst, hd] using hc
          split at hk
          · rename_i fs q hu hq
            cases hk
            exact ⟨rfl, hc', ty, x, q, hop, hr, hq, .inl ⟨fs, hu, rfl, rfl⟩⟩
          · cases hk
          · rename_i d q hns hna hu hq
            cases hk
            refine ⟨rfl, hc', ty, x, q, hop, hr, hq, .inr ⟨d, hu, ?_, rfl, rfl⟩⟩
            cases d <;> first | rfl | exact (hns _ _ rfl rfl).elim | exact (hna _ _ rfl).elim | exact (hns _ rfl).elim | exact (hna _ _ _ rfl).elim
          · cases hk
        · cases hk
      · obtain ⟨y, rfl, hy⟩ := plain hk; exact hy
    · rename_i ty x y hop
      split at hk
      · rename_i t off hr
        split at hk
        · rename_i q e hq he
          split at hk
          · rename_i hc
            cases hk
            exact ⟨hc.1, hc.2, ty, x, y, q, hop, hr, hq, rfl, he⟩
          · cases hk
        · cases hk
      · obtain ⟨y, rfl, hy⟩ := plain hk; exact hy
    · obtain ⟨y, rfl, hy⟩ := plain hk; exact hy

theorem cOpL_inv {E : List Ent} {bf : Nat → Nat → Bool} {ops : Array Oper} {i : Nat} {y : AOp} (hy : cOpL P N B E bf ops (o, i) = some y) :
    ∃ k, cL P N B E bf ops o i = some k ∧ y = k.aop o.dst ∧ ((∃ t u off g, k = .addr t u off g ∧ E.filter (fun e => e.j == i) = [⟨i, u, t, off, g⟩]) ∨ ((∀ t u off g, k ≠ .addr t u off g) ∧ ∀ e, e ∈ E → e.j ≠ i)) := by
  unfold cOpL at hy
  split at hy
  · rename_i t u off g hk
    split at hy
    · rename_i hf; cases hy; exact ⟨_, hk, rfl, .inl ⟨t, u, off, g, rfl, hf⟩⟩
    · cases hy
  · rename_i k hn hk
    split at hy
    · rename_i hf
      cases hy
      refine ⟨k, hk, rfl, .inr ⟨fun t u off g e => hn t u off g e, fun e he => ?_⟩⟩
      rw [List.all_eq_true] at hf
      simpa using hf e he
    · cases hy
  · cases hy

def K.isL : K → Bool
  | .lbox _ | .laddr _ | .lload .. | .lstore .. => true
  | _ => false
theorem erase_l {y : AOp} {d : Option Nat} {g : Option (Nat × Bool)} {k : K} (hy : y.erase = ⟨d, g, k⟩) (hk : k.isL = true) : y = ⟨d, g, k⟩ := by
  obtain ⟨d', g', k'⟩ := y
  simp only [AOp.erase, AOp.mk.injEq] at hy
  obtain ⟨rfl, rfl, rfl⟩ := hy
  cases k' <;> first | rfl | cases hk

theorem lop_sound {C : AQ} (hC : ∀ f args h R, C f args h R → CC P base f args h R) {ops : Array Oper} {QC : Exit → Act → World → Prop} {E : List Ent} {bf : Nat → Nat → Bool} {i : Nat} {done : Nat → Prop} {y : AOp} {Q : S → AH → Prop} {K' : Act → World → Prop}
    (hy : cOpL P N B E bf ops (o, i) = some y.erase) (st : St N B lo base ν s h a w) (hJ : ∀ e, e ∈ E → done e.j → e.fact a) (hbf : ∀ j, bf j i = true → done j) (hnd : ∀ e, e ∈ E → done e.j → e.j ≠ i ∧ ∀ d, o.dst = some d → d ∉ e.slots)
    (hq : aguard y (astep C y Q s h) (Q (s.put y.dst (.tup [])) h) s)
    (rest : ∀ s' h' ν' a' w', Q s' h' → V.le ν ν' → St N B lo base ν' s' h' a' w' → FrL lo base ν h w ν' h' w' → (∀ e, e ∈ E → done e.j ∨ e.j = i → e.fact a') → K' a' w') :
    if Region.wanted o (yielded ops a.tmps) then o.wp P a w K' QC ∨ (o.asks P a w ∧ LetsOut QC) else K' (a.put o.dst undef) w := by
  obtain ⟨k, hk, hye, hE⟩ := cOpL_inv hy
  obtain ⟨g, hg, hkk⟩ := cL_guard hk
  have keep : ∀ u e, e ∈ E → done e.j → e.fact (a.put o.dst u) := fun u e he hd => Ent.fact_put (hJ e he hd) (hnd e he hd).2 u
  have skip : (∀ t, o.dst = some t → t < N ∧ t ∉ B) → St N B lo base ν (s.put o.dst (.tup [])) h (a.put o.dst undef) w := fun hd => st.plain (v := .tup []) (u := undef) (V.le_refl _) st.hr st.hz (FrL.refl _ _ _ _ _) ⟨#[], rfl, rfl⟩ hd
  cases k with
  | plain y =>
    have hE2 : ∀ e, e ∈ E → e.j ≠ i := by
      rcases hE with ⟨t, u, off, g, e, _⟩ | hE
      · cases e
      · exact hE.2
    clear hE
    obtain ⟨hy1, hy2⟩ := hkk
    obtain ⟨k, g', rfl, hcK, hg', hdN⟩ := cOp_inv hy1
    obtain ⟨d1, g1, k⟩ := y
    simp only [AOp.erase, LK.aop, AOp.mk.injEq] at hye
    obtain ⟨rfl, rfl, rfl⟩ := hye
    have hd : ∀ t, o.dst = some t → t < N ∧ t ∉ B := fun t ht => ⟨hdN t ht, hy2 t ht⟩
    rcases wanted_cases st.sr hg' (y := ⟨o.dst, g1, k⟩) rfl hq with ⟨hw, hx, _⟩ | ⟨hw, hx, _⟩
    · rw [hw, if_pos rfl]
      refine .inl (step_sound hC hcK hd st (g := g1) hx fun s' h' ν' a' w' hQ hν hst hfr ⟨u, hu⟩ => rest s' h' ν' a' w' hQ hν hst hfr fun e he hdone => ?_)
      rcases hdone with hdone | hdone
      · rw [hu]; exact keep u e he hdone
      · exact (hE2 e he hdone).elim
    · rw [hw, if_neg (by simp)]
      refine rest _ _ ν _ w hx (V.le_refl _) (skip hd) (FrL.refl _ _ _ _ _) fun e he hdone => ?_
      rcases hdone with hdone | hdone
      · exact keep undef e he hdone
      · exact (hE2 e he hdone).elim
  | box t e =>
    obtain rfl : y = ⟨some (LB + t), none, .lbox e⟩ := erase_l hye rfl
    have hE2 : ∀ e, e ∈ E → e.j ≠ i := by
      rcases hE with ⟨t, u, off, g, e, _⟩ | hE
      · cases e
      · exact hE.2
    clear hE
    obtain ⟨rfl, ht, hdst, hop⟩ := hkk
    rcases wanted_cases st.sr hg (y := ⟨some (LB + t), none, .lbox e⟩) rfl hq with ⟨hw, hx0, _⟩ | ⟨hw, hx, t', want', e', _⟩
    · rw [hw, if_pos rfl]
      obtain ⟨v, h', hv, hx⟩ := (astep_plain (y := ⟨some (LB + t), none, .lbox e⟩) rfl rfl).1 hx0
      · simp only [aop] at hv
        split at hv
        · rename_i hall
          cases hv
          have fin : ∀ (cs : Array Value) (T : TypeId), VRs ν (e.ev s).cells cs.toList → (execOp a.eval o).run P w = .ok (.value (.pointer (some ⟨w.heap.size, 0, none⟩))) (w.alloc (.cells cs T)) → o.wp P a w K' QC := by
            intro cs T hcs hrun
            obtain ⟨hst, hfr⟩ := st.box ht hcs hall cs rfl T
            refine wp_value hrun (rest _ _ ν _ _ hx (V.le_refl _) ?_ hfr fun e' he' hdone => ?_)
            · rw [hdst]; exact hst
            · rcases hdone with hdone | hdone
              · exact keep _ e' he' hdone
              · exact (hE2 e' he' hdone).elim
          rcases hop with ⟨ty, x, hop, hx'⟩ | ⟨ty, z, hop, hz, rfl⟩
          · refine .inl (fin (a.eval x).cells ty ((cE_ok st.sr hx').cells hall) ?_)
            simp [execOp, hop, Instr.box, run_newVar]
          · obtain ⟨i', zv, hi, hzv, hcv⟩ := zeroOf_inv hz
            refine .inl (fin zv.cells ty ((cV_ok hcv ν).cells hall) ?_)
            simp [execOp, hop, Instr.alloc, zeroValue, typeInfo, hi, hzv, run_newVar]
        · cases hv
    · cases e'
  | addr t u off g0 =>
    obtain rfl : y = ⟨some u, g0, .laddr (LB + t)⟩ := erase_l hye rfl
    obtain ⟨rfl, hdst, huN, huB, ty, x, f, fs, fd, n, off', hop, hroot, hty, hf, hn, hn0, rfl⟩ := hkk
    have hE : E.filter (fun e => e.j == i) = [⟨i, u, t, off' + fd.offset, g0⟩] := by
      rcases hE with ⟨t2, u2, off2, g2, e, hE⟩ | hE
      · cases e; exact hE
      · exact (hE.1 _ _ _ _ rfl).elim
    have hEi : ∀ e, e ∈ E → e.j = i → e = ⟨i, u, t, off' + fd.offset, g0⟩ := fun e he hj => by
      have : e ∈ E.filter (fun e => e.j == i) := List.mem_filter.2 ⟨he, by simp [hj]⟩
      rw [hE] at this
      simpa using this
    have hd : ∀ t, o.dst = some t → t < N ∧ t ∉ B := fun t ht => by rw [hdst] at ht; cases ht; exact ⟨huN, huB⟩
    rcases wanted_cases st.sr hg (y := ⟨some u, g0, .laddr (LB + t)⟩) rfl hq with ⟨hw, hx0, hgw⟩ | ⟨hw, hx, tg, want, hg0, hgn⟩
    · rw [hw, if_pos rfl]
      obtain ⟨v, h', hv, hx⟩ := (astep_plain (y := ⟨some u, g0, .laddr (LB + t)⟩) rfl rfl).1 hx0
      · simp only [aop] at hv
        split at hv
        · rename_i l hl
          cases hv
          obtain ⟨htB, hev⟩ := root_ok hJ hbf hgw hroot
          obtain ⟨G, hat⟩ := st.bx.at_ htB hl
          have hxe := hev G l hat
          obtain ⟨q, hi, hin⟩ := sizeT_inv hn
          have hin0 : ¬ q.size = 0 := by omega
          have hrun : (execOp a.eval o).run P w = .ok (.value (.pointer (some ⟨G, off' + fd.offset, none⟩))) w := by
            simp [execOp, hop, hxe, Instr.fieldAt, run_underlying hty, hf, Instr.sureAddr, fieldPlace, sizeOf, typeInfo, hi, hin0, Addr.add_mid]
          refine .inl (wp_value hrun (rest _ _ ν _ _ hx (V.le_refl _) ?_ (FrL.refl _ _ _ _ _) fun e he hdone => ?_))
          · have := st.plain (v := .any) (u := .pointer (some ⟨G, off' + fd.offset, none⟩)) (V.le_refl _) st.hr st.hz (FrL.refl _ _ _ _ _) trivial hd
            rw [hdst] at this ⊢
            exact this
          · rcases hdone with hdone | hdone
            · exact keep _ e he hdone
            · have := hEi e he hdone
              subst this
              intro G' o' hG _
              have hne : t ≠ u := fun e => huB (e ▸ htB)
              rw [hdst, getD_put hne, hat.2] at hG
              cases hG
              rw [hdst, getD_put_same (by rw [st.sr.size]; exact huN), Nat.zero_add]
        · cases hv
    · rw [hw, if_neg (by simp)]
      refine rest _ _ ν _ w hx (V.le_refl _) ?_ (FrL.refl _ _ _ _ _) fun e he hdone => ?_
      · have := skip hd
        rw [hdst] at this ⊢
        exact this
      · rcases hdone with hdone | hdone
        · exact keep undef e he hdone
        · have := hEi e he hdone
          subst this
          intro G' o' hG hgh
          exfalso
          have h1 := hgh tg want hg0
          by_cases e1 : tg = u
          · rw [e1, hdst, getD_put_same (by rw [st.sr.size]; exact huN)] at h1
            cases h1
          · rw [hdst, getD_put e1] at h1
            exact hgn h1
  | load agg n t off g0 =>
    obtain rfl : y = ⟨o.dst, g0, .lload agg n (LB + t) off⟩ := erase_l hye rfl
    have hE2 : ∀ e, e ∈ E → e.j ≠ i := by
      rcases hE with ⟨t, u, off, g, e, _⟩ | hE
      · cases e
      · exact hE.2
    clear hE
    obtain ⟨rfl, hd, ty, x, q, hop, hroot, hq0, hkind⟩ := hkk
    rcases wanted_cases st.sr hg (y := ⟨o.dst, g0, .lload agg n (LB + t) off⟩) rfl hq with ⟨hw, hx0, hgw⟩ | ⟨hw, hx, _⟩
    · rw [hw, if_pos rfl]
      obtain ⟨v, h', hv, hx⟩ := (astep_plain (y := ⟨o.dst, g0, .lload agg n (LB + t) off⟩) rfl rfl).1 hx0
      · simp only [aop] at hv
        split at hv
        · rename_i l hl
          obtain ⟨htB, hev⟩ := root_ok hJ hbf hgw hroot
          obtain ⟨G, hat⟩ := st.bx.at_ htB hl
          have hxe := hev G l hat
          obtain ⟨b1, b2, b3, b4⟩ := st.bx.box htB hat
          have fin : ∀ r, h' = h → VR ν v r → (execOp a.eval o).run P w = .ok (.value r) w → o.wp P a w K' QC := by
            rintro r rfl hvr hrun
            refine wp_value hrun (rest _ _ ν _ _ hx (V.le_refl _) (st.plain (V.le_refl _) st.hr st.hz (FrL.refl _ _ _ _ _) hvr hd) (FrL.refl _ _ _ _ _) fun e he hdone => ?_)
            rcases hdone with hdone | hdone
            · exact keep _ e he hdone
            · exact (hE2 e he hdone).elim
          rcases hkind with ⟨fs, hty, rfl, rfl⟩ | ⟨dd, hty, hrow, rfl, rfl⟩
          · simp only [if_true] at hv
            split at hv
            · rename_i hfit
              cases hv
              have hsome : ∀ k, k < q.size → ∃ x, l[off + k]? = some x := fun k hk => ⟨l[off + k]'(by omega), List.getElem?_eq_getElem (by omega)⟩
              have hr : w.rangeAt G off ((List.range q.size).map fun k => (w.cell? ⟨G, off + k, Option.none⟩).getD undef) := by
                intro j v hv
                by_cases hj : j < q.size
                · simp [hj] at hv
                  obtain ⟨x, hx⟩ := hsome j hj
                  obtain ⟨_, u, hu, _⟩ := b3 _ x hx
                  rw [hu] at hv
                  simp at hv
                  subst hv
                  exact hu
                · simp [hj] at hv
              have hvs : VRs ν ((l.drop off).take q.size) ((List.range q.size).map fun k => (w.cell? ⟨G, off + k, Option.none⟩).getD undef) := by
                refine VRs.of (by simp; omega) fun k x hx => ?_
                rw [List.getElem?_take] at hx
                split at hx
                · rename_i hk
                  rw [List.getElem?_drop] at hx
                  obtain ⟨_, u, hu, r⟩ := b3 _ x hx
                  exact ⟨u, by simp [hk, hu], r⟩
                · cases hx
              refine .inl (fin (.agg ((List.range q.size).map fun k => (w.cell? ⟨G, off + k, Option.none⟩).getD undef).toArray) rfl ⟨_, rfl, by simpa using hvs⟩ ?_)
              have := run_loadAt_mid (P := P) w G off ty _ _ hr hty rfl (by simp [hq0])
              simp [execOp, hop, hxe, this]
            · cases hv
          · simp only [Bool.false_eq_true, if_false] at hv
            split at hv
            · rename_i x0 hx0
              cases hv
              obtain ⟨_, r, hr, hvr⟩ := b3 _ _ hx0
              refine .inl (fin r rfl hvr ?_)
              have hagg : (isAgg ty).run P w = .ok false w := by
                unfold isAgg
                rw [Sem.run_bind, run_underlying hty w]
                cases dd <;> simp_all [TypeDesc.isRow]
              simp [execOp, hop, hxe, Instr.loadAt, Instr.sureAddr, loadVar, hagg, hr]
            · cases hv
        · cases hv
    · rw [hw, if_neg (by simp)]
      refine rest _ _ ν _ w hx (V.le_refl _) (skip hd) (FrL.refl _ _ _ _ _) fun e he hdone => ?_
      rcases hdone with hdone | hdone
      · exact keep undef e he hdone
      · exact (hE2 e he hdone).elim
  | store n t off e =>
    obtain rfl : y = ⟨some (LB + t), none, .lstore n (LB + t) off e⟩ := erase_l hye rfl
    have hE2 : ∀ e, e ∈ E → e.j ≠ i := by
      rcases hE with ⟨t, u, off, g, e, _⟩ | hE
      · cases e
      · exact hE.2
    clear hE
    obtain ⟨rfl, hdst, ty, x, y, q, hop, hroot, hq0, rfl, hey⟩ := hkk
    rcases wanted_cases st.sr hg (y := ⟨some (LB + t), none, .lstore q.size (LB + t) off e⟩) rfl hq with ⟨hw, hx0, hgw⟩ | ⟨hw, hx, t', want', e', _⟩
    · rw [hw, if_pos rfl]
      obtain ⟨v, h', hv, hx⟩ := (astep_plain (y := ⟨some (LB + t), none, .lstore q.size (LB + t) off e⟩) rfl rfl).1 hx0
      · simp only [aop] at hv
        split at hv
        · rename_i l hl
          split at hv
          · rename_i hc
            cases hv
            obtain ⟨hlen, hfit, hall⟩ := hc
            obtain ⟨htB, hev⟩ := root_ok hJ hbf hgw hroot
            obtain ⟨G, hat⟩ := st.bx.at_ htB hl
            have hxe := hev G l hat
            have hcs := (cE_ok st.sr hey).cells hall
            obtain ⟨hth, hst, hfr⟩ := st.store htB hat hcs hall (by rw [hlen]; exact hfit)
            refine .inl (wp_skip_ (w' := w.setCells G off (a.eval y).cells.toList) ?_ (rest _ _ ν _ _ hx (V.le_refl _) ?_ hfr fun e he hdone => ?_))
            · have hst := run_storeCells_cells (P := P) G off (a.eval y).cells.toList 0 w (fun j hj => by simpa using (hth j (by simpa using hj)).1) (fun j hj => by simpa using (hth j (by simpa using hj)).2) (hcs.one hall)
              have hsz : (a.eval y).cells.size = q.size := by rw [← hlen, hcs.length]; simp
              simp only [Nat.add_zero] at hst
              simp [execOp, hop, hxe, Instr.storeAt, Instr.sureAddr, storeVar, sizeOf, typeInfo, hq0, hsz, hst]
            · rw [hdst]; exact hst
            · rcases hdone with hdone | hdone
              · exact keep undef e he hdone
              · exact (hE2 e he hdone).elim
          · cases hv
        · cases hv
    · cases e'

theorem entsOk_get {bf : Nat → Nat → Bool} {E : List Ent} {l : List (Oper × Nat)} (h : entsOk bf E l = true) {e : Ent} (he : e ∈ E) {o : Oper} {i : Nat} (hm : (o, i) ∈ l) : i = e.j ∨ bf i e.j = true ∨ ∀ d, o.dst = some d → d ∉ e.slots := by
  unfold entsOk at h
  rw [List.all_eq_true] at h
  have := h e he
  rw [List.all_eq_true] at this
  have := this _ hm
  simp only [Bool.or_eq_true, beq_iff_eq] at this
  rcases this with (h1 | h2) | h3
  · exact .inl h1
  · exact .inr (.inl h2)
  · refine .inr (.inr fun d hd => ?_)
    rw [hd] at h3
    simpa using h3

theorem ops_sound {C : AQ} (hC : ∀ f args h R, C f args h R → CC P base f args h R) {ops : Array Oper} {QC : Exit → Act → World → Prop} {E : List Ent} (hE : entsOk (fun i j => decide (i < j)) E ops.toList.zipIdx = true) : ∀ (l : List Oper) (k : Nat) (r : List AOp) (Q : S → AH → Prop) (ν : V) (s : S) (h : AH) (a : Act) (w : World),
    mapO (cOpL P N B E (fun i j => decide (i < j)) ops) (l.zipIdx k) = some (r.map AOp.erase) → (∀ p, p ∈ l.zipIdx k → p ∈ ops.toList.zipIdx) → (∀ e, e ∈ E → e.j < k → e.fact a) →
    aops C r Q s h → St N B lo base ν s h a w → (∀ s' h' ν' a' w', Q s' h' → V.le ν ν' → St N B lo base ν' s' h' a' w' → FrL lo base ν h w ν' h' w' → QC .normal a' w') → wpList P ops QC l a w
  | [], k, r, Q, ν, s, h, a, w, hm, _, _, hq, st, hQ => by
    simp only [List.zipIdx_nil, mapO, Option.some.injEq] at hm
    have : r = [] := List.map_eq_nil_iff.1 hm.symm
    subst this
    exact hQ s h ν a w hq (V.le_refl _) st (FrL.refl _ _ _ _ _)
  | o :: l, k, r, Q, ν, s, h, a, w, hm, hsub, hJ, hq, st, hQ => by
    rw [List.zipIdx_cons] at hm
    simp only [mapO] at hm
    split at hm
    · rename_i y ys hy hys
      cases r with
      | nil => cases hm
      | cons y' ys' =>
      simp only [List.map_cons, Option.some.injEq, List.cons.injEq] at hm
      obtain ⟨rfl, rfl⟩ := hm
      have hq' : aguard y' (astep C y' (aops C ys' Q) s h) (aops C ys' Q (s.put y'.dst (.tup [])) h) s := hq
      have := lop_sound (QC := QC) (K' := wpList P ops QC l) (done := fun j => j < k) hC hy st hJ (fun j hj => by simpa using hj) (fun e he hd => ⟨by omega, by
          rcases entsOk_get hE he (hsub (o, k) (by simp)) with h1 | h1 | h1
          · omega
          · simp at h1; omega
          · exact h1⟩) hq' (fun s' h' ν' a' w' hQ' hν st' hf hJ' =>
        ops_sound hC hE l (k + 1) ys' Q ν' s' h' a' w' hys (fun p hp => hsub p (by rw [List.zipIdx_cons]; exact List.mem_cons_of_mem _ hp)) (fun e he hj => hJ' e he (by omega)) hQ' st' (fun s2 h2 ν2 a2 w2 hQ2 hν2 st2 hf2 => hQ s2 h2 ν2 a2 w2 hQ2 (V.le_trans hν hν2) st2 (hf.trans hf2)))
      unfold wpList
      exact this
    · cases hm

/-! ### regions that draw their order -/
def ancF (acc : List (List Nat)) (o : Oper) : List Nat := dd [] (o.after.toList.flatMap fun e => if Region.binds .any e then e.on :: acc.getD e.on [] else [])
theorem ancs_eq (l : List Oper) : ancs l = l.foldl (fun acc o => acc ++ [ancF acc o]) [] := rfl
theorem ancs_snoc (l : List Oper) (o : Oper) : ancs (l ++ [o]) = ancs l ++ [ancF (ancs l) o] := by
  rw [ancs_eq, ancs_eq, List.foldl_append]; rfl
theorem ancs_snocs (l : List Oper) : ∀ m : List Oper, (ancs l).length = l.length ∧ ∃ r, ancs (l ++ m) = ancs l ++ r := by
  have len : ∀ k (l : List Oper), l.length = k → (ancs l).length = l.length := by
    intro k
    induction k with
    | zero => intro l hl; have : l = [] := List.length_eq_zero_iff.1 hl; subst this; rfl
    | succ k ih =>
      intro l hl
      rcases List.eq_nil_or_concat l with e | ⟨l', o, e⟩
      · subst e; cases hl
      · rw [e] at hl ⊢
        simp at hl
        rw [List.concat_eq_append, ancs_snoc]
        simp [ih l' hl]
  intro m
  refine ⟨len _ l rfl, ?_⟩
  induction m generalizing l with
  | nil => exact ⟨[], by simp⟩
  | cons o m ih =>
    obtain ⟨r, hr⟩ := ih (l ++ [o])
    exact ⟨ancF (ancs l) o :: r, by rw [show l ++ o :: m = (l ++ [o]) ++ m by simp, hr, ancs_snoc]; simp⟩
theorem ancs_at {l : List Oper} {i : Nat} {o : Oper} (hi : l[i]? = some o) (hb : ∀ e ∈ o.after.toList, Region.binds .any e = true → e.on < i) {k : Nat} (hk : k ∈ (ancs l).getD i []) :
    ∃ e ∈ o.after.toList, Region.binds .any e = true ∧ (k = e.on ∨ k ∈ (ancs l).getD e.on []) := by
  have hil : i < l.length := (List.getElem?_eq_some_iff.1 hi).1
  have hsp : l = l.take i ++ (o :: l.drop (i + 1)) := by
    rw [← (List.getElem?_eq_some_iff.1 hi).2, ← List.drop_eq_getElem_cons hil, List.take_append_drop]
  obtain ⟨hl1, _⟩ := ancs_snocs (l.take i) []
  have hl1' : (ancs (l.take i)).length = i := by rw [hl1, List.length_take]; omega
  obtain ⟨_, r, hr⟩ := ancs_snocs (l.take i ++ [o]) (l.drop (i + 1))
  have e1 : ancs l = ancs (l.take i) ++ (ancF (ancs (l.take i)) o :: r) := by
    rw [show ancs l = ancs ((l.take i ++ [o]) ++ l.drop (i + 1)) by congr 1; simpa using hsp, hr, ancs_snoc]; simp
  have e2 : (ancs l).getD i [] = ancF (ancs (l.take i)) o := by
    rw [e1, List.getD_eq_getElem?_getD, List.getElem?_append_right (by omega), hl1']; simp
  have e3 : ∀ j, j < i → (ancs l).getD j [] = (ancs (l.take i)).getD j [] := by
    intro j hj
    rw [e1, List.getD_eq_getElem?_getD, List.getD_eq_getElem?_getD, List.getElem?_append_left (by omega)]
  rw [e2] at hk
  unfold ancF at hk
  obtain ⟨e, he, hke⟩ := List.mem_flatMap.1 (mem_dd0 hk)
  split at hke
  · rename_i hbe
    refine ⟨e, he, hbe, ?_⟩
    rw [e3 e.on (hb e he hbe)]
    simpa using hke
  · cases hke

/-- The operations that the abstract machine has listed are those that the model has. -/
structure Drawn (ops : Array Oper) (listed : Array Bool) (L : List Nat) : Prop where
  size : listed.size = ops.size
  lt : ∀ i ∈ L, i < ops.size
  nodup : L.Nodup
  iff : ∀ i, i < ops.size → (listed.getD i true = true ↔ i ∈ L)
  closed : ∀ i, i < ops.size → i ∈ L → ∀ k ∈ (ancs ops.toList).getD i [], k < ops.size ∧ k ∈ L

theorem afterOf_mem {ops : Array Oper} {i : Nat} {o : Oper} (ho : ops[i]? = some o) {j : Nat} : j ∈ (afterOf ops).getD i [] ↔ ∃ e ∈ o.after.toList, Region.binds .any e = true ∧ e.on = j := by
  unfold afterOf
  rw [List.getD_eq_getElem?_getD, List.getElem?_map, Array.getElem?_toList, ho]
  simp only [Option.map_some, Option.getD_some, List.mem_map, List.mem_filter]
  constructor
  · rintro ⟨e, ⟨he, hb⟩, rfl⟩; exact ⟨e, he, hb, rfl⟩
  · rintro ⟨e, he, hb, rfl⟩; exact ⟨e, ⟨he, hb⟩, rfl⟩

theorem draws_sound {C : AQ} (hC : ∀ f args h R, C f args h R → CC P base f args h R) {ops : Array Oper} {QC : Exit → Act → World → Prop} {Q : S → AH → Prop} {E : List Ent} {L0 : List AOp}
    (hE : entsOk (fun i j => ((ancs ops.toList).getD j []).contains i) E ops.toList.zipIdx = true)
    (hb : ∀ i o, ops[i]? = some o → ∀ e ∈ o.after.toList, Region.binds .any e = true → e.on < i)
    (hlen : L0.length = ops.size) (hops : ∀ i o y, ops[i]? = some o → L0[i]? = some y → cOpL P N B E (fun i j => ((ancs ops.toList).getD j []).contains i) ops (o, i) = some y.erase) :
    ∀ (fuel : Nat) (listed : Array Bool) (L : List Nat) (ν : V) (s : S) (h : AH) (a : Act) (w : World), L.length + fuel = ops.size → Drawn ops listed L → (∀ e, e ∈ E → e.j < ops.size ∧ e.j ∈ L → e.fact a) →
    aany C L0 (afterOf ops) fuel L Q s h → St N B lo base ν s h a w → (∀ s' h' ν' a' w', Q s' h' → V.le ν ν' → St N B lo base ν' s' h' a' w' → FrL lo base ν h w ν' h' w' → QC .normal a' w') → wpAny P .any ops QC fuel listed a w := by
  intro fuel
  induction fuel with
  | zero =>
    intro listed L ν s h a w hL D hJ hq st hQ
    refine ⟨?_, hQ s h ν a w hq (V.le_refl _) st (FrL.refl _ _ _ _ _)⟩
    unfold Region.ready
    rw [List.filter_eq_nil_iff]
    intro i hi
    have hi' := List.mem_range.1 hi
    have hm : i ∈ L := by
      refine Classical.byContradiction fun hno => ?_
      have := nodup_le (A := i :: L) (B := List.range ops.size) (List.nodup_cons.2 ⟨hno, D.nodup⟩) (fun j hj => by
        rcases List.mem_cons.1 hj with rfl | hj
        · exact hi
        · exact List.mem_range.2 (D.lt j hj))
      simp at this
      omega
    have := (D.iff i hi').2 hm
    simp [this]
  | succ fuel ih =>
    intro listed L ν s h a w hL D hJ hq st hQ
    refine ⟨fun hr => ?_, fun i hi => ?_⟩
    · -- the least that is not listed is ready
      exfalso
      have ex : ∃ i, (i < ops.size ∧ i ∉ L) ∧ ∀ j, j < i → j ∈ L := by
        have hne : ∃ i, i < ops.size ∧ i ∉ L := by
          apply Classical.byContradiction
          intro hno
          have hsub : List.range ops.size ⊆ L := fun j hj => Classical.byContradiction fun hj' => hno ⟨j, List.mem_range.1 hj, hj'⟩
          have := nodup_le List.nodup_range hsub
          simp at this
          omega
        have : ∀ n, (∃ i, i ≤ n ∧ i < ops.size ∧ i ∉ L) → ∃ i, (i < ops.size ∧ i ∉ L) ∧ ∀ j, j < i → j ∈ L := by
          intro n
          induction n with
          | zero => rintro ⟨i, hi, hm⟩; exact ⟨i, hm, fun j hj => by omega⟩
          | succ n ihn =>
            rintro ⟨i, hi, hm⟩
            by_cases he : ∃ i, i ≤ n ∧ i < ops.size ∧ i ∉ L
            · exact ihn he
            · exact ⟨i, hm, fun j hj => Classical.byContradiction fun hjm => he ⟨j, by omega, by omega, hjm⟩⟩
        obtain ⟨i, hi⟩ := hne
        exact this i ⟨i, Nat.le_refl _, hi⟩
      obtain ⟨i, ⟨hil, him⟩, hmin⟩ := ex
      have hf : listed.getD i true = false := by
        cases hli : listed.getD i true with
        | false => rfl
        | true => exact (him ((D.iff i hil).1 hli)).elim
      have : i ∈ Region.ready .any ops listed := by
        unfold Region.ready
        rw [List.mem_filter]
        refine ⟨List.mem_range.2 hil, ?_⟩
        rw [hf, Array.getElem?_eq_getElem hil]
        simp only [Bool.not_false, Option.map_some, Option.getD_some, Bool.true_and]
        rw [Array.all_eq_true']
        intro e he
        by_cases hbe : Region.binds .any e = true
        · have hlt := hb i ops[i] (Array.getElem?_eq_getElem hil) e (by simpa using he) hbe
          have h1 : listed.getD e.on true = true := (D.iff e.on (by omega)).2 (hmin e.on hlt)
          have hs : e.on < listed.size := by rw [D.size]; omega
          rw [Array.getD_eq_getD_getElem?, Array.getElem?_eq_getElem hs] at h1 ⊢
          simp at h1 ⊢
          exact .inr h1
        · simp [hbe]
      rw [hr] at this
      cases this
    · unfold Region.ready at hi
      rw [List.mem_filter] at hi
      obtain ⟨hir, hi⟩ := hi
      have hil : i < ops.size := List.mem_range.1 hir
      simp only [Bool.and_eq_true, Bool.not_eq_true'] at hi
      obtain ⟨hnl, hall⟩ := hi
      have hoi := Array.getElem?_eq_getElem hil
      rw [hoi] at hall
      simp only [Option.map_some, Option.getD_some, Array.all_eq_true'] at hall
      have hiL : i ∉ L := fun hm => by have := (D.iff i hil).2 hm; rw [hnl] at this; cases this
      have hin : ∀ e ∈ ops[i].after.toList, Region.binds .any e = true → e.on ∈ L := by
        intro e he hbe
        have hlt := hb i _ hoi e he hbe
        have := hall e (by simpa using he)
        rw [hbe] at this
        refine (D.iff e.on (by omega)).1 ?_
        have hs : e.on < listed.size := by rw [D.size]; omega
        rw [Array.getD_eq_getD_getElem?, Array.getElem?_eq_getElem hs] at this ⊢
        simpa using this
      have ancl : ∀ k ∈ (ancs ops.toList).getD i [], k < ops.size ∧ k ∈ L := by
        intro k hk
        obtain ⟨e, he, hbe, hke⟩ := ancs_at (l := ops.toList) (i := i) (o := ops[i]) (by simpa using hoi) (hb i _ hoi) hk
        have hlt := hb i _ hoi e he hbe
        have hle := hin e he hbe
        rcases hke with e1 | hke
        · subst e1; exact ⟨by omega, hle⟩
        · exact D.closed e.on (by omega) hle k hke
      have hiy : i < L0.length := by omega
      have hy := List.getElem?_eq_getElem hiy
      have hq2 : aone C L0[i] (aany C L0 (afterOf ops) fuel (i :: L) Q) s h := by
        refine hq i _ ?_ hy
        unfold readyA
        simp only [Bool.and_eq_true, decide_eq_true_eq, Bool.not_eq_true', List.all_eq_true]
        refine ⟨⟨hiy, by simpa using hiL⟩, fun j hj => ?_⟩
        obtain ⟨e, he, hbe, rfl⟩ := (afterOf_mem hoi).1 hj
        simpa using hin e he hbe
      have D' : Drawn ops (listed.setIfInBounds i true) (i :: L) := by
        have get : ∀ j, (listed.setIfInBounds i true).getD j true = if j = i then true else listed.getD j true := by
          intro j
          rw [Array.getD_eq_getD_getElem?, Array.getD_eq_getD_getElem?]
          by_cases e : j = i
          · subst e; rw [if_pos rfl, Array.getElem?_setIfInBounds_self]; split <;> rfl
          · rw [if_neg e, Array.getElem?_setIfInBounds_ne (fun q => e q.symm)]
        refine ⟨by simp [D.size], fun j hj => ?_, List.nodup_cons.2 ⟨hiL, D.nodup⟩, fun j hj => ?_, fun j hj hl k hk => ?_⟩
        · rcases List.mem_cons.1 hj with rfl | hj
          · exact hil
          · exact D.lt j hj
        · rw [get]
          by_cases e : j = i
          · subst e; simp
          · rw [if_neg e, D.iff j hj]; simp [e]
        · rcases List.mem_cons.1 hl with rfl | hl
          · exact ⟨(ancl k hk).1, List.mem_cons_of_mem _ (ancl k hk).2⟩
          · exact ⟨(D.closed j hj hl k hk).1, List.mem_cons_of_mem _ (D.closed j hj hl k hk).2⟩
      have := lop_sound (QC := QC) (K' := wpAny P .any ops QC fuel (listed.setIfInBounds i true)) (done := fun j => j < ops.size ∧ j ∈ L) hC (hops i _ _ hoi hy) st hJ
        (fun j hj => ancl j (by simpa using hj))
        (fun e he hd => ⟨fun ej => hiL (ej ▸ hd.2), by
          rcases entsOk_get hE he (o := ops[i]) (i := i) (by rw [List.mem_zipIdx_iff_getElem?]; simpa using hoi) with h1 | h1 | h1
          · exact (hiL (h1 ▸ hd.2)).elim
          · exact (hiL (D.closed e.j hd.1 hd.2 i (by simpa using h1)).2).elim
          · exact h1⟩) hq2
        (fun s' h' ν' a' w' hq' hν st' hf hJ' => ih _ (i :: L) ν' s' h' a' w' (by simp; omega) D'
          (fun e he hd => hJ' e he (by rcases List.mem_cons.1 hd.2 with h1 | h1; exact .inr h1; exact .inl ⟨hd.1, h1⟩)) hq' st'
          (fun s2 h2 ν2 a2 w2 hQ2 hν2 st2 hf2 => hQ s2 h2 ν2 a2 w2 hQ2 (V.le_trans hν hν2) st2 (hf.trans hf2)))
      unfold wpOp
      rw [hoi]
      exact this

theorem draw_sound {C : AQ} (hC : ∀ f args h R, C f args h R → CC P base f args h R) {id : Nat} {ops : Array Oper} {QC : Exit → Act → World → Prop} {Q : S → AH → Prop} {L : List AOp} (hc : cD P N B ops = some (L.map AOp.erase))
    (hq : aany C L (afterOf ops) L.length [] Q s h) (st : St N B lo base ν s h a w) (hQ : ∀ s' h' ν' a' w', Q s' h' → V.le ν ν' → St N B lo base ν' s' h' a' w' → FrL lo base ν h w ν' h' w' → QC .normal a' w') : (Code.region id ops true).wp P QC a w := by
  unfold cD at hc
  simp only at hc
  split at hc
  · rename_i l hl
    split at hc
    · rename_i hcnd
      cases hc
      obtain ⟨hmix, hents, hbind⟩ := hcnd
      obtain ⟨hll, hlg⟩ := mapO_get hl
      have hlen : L.length = ops.size := by
        simp only [List.length_zipIdx, List.length_map] at hll
        rw [← hll]; simp
      have hb : ∀ i o, ops[i]? = some o → ∀ e ∈ o.after.toList, Region.binds .any e = true → e.on < i := by
        intro i o ho e he hbe
        rw [List.all_eq_true] at hbind
        have hm : (o, i) ∈ ops.toList.zipIdx := by
          rw [List.mem_zipIdx_iff_getElem?]; simpa using ho
        have := hbind (o, i) hm
        simp only [Array.all_eq_true'] at this
        have := this e (by simpa using he)
        rw [hbe] at this
        simpa using this
      refine wp_region_any hmix ?_
      have hdr : Fr base ν h w ν h w.drew := Fr.drew fun _ _ h => h
      have hdrL := hdr.toL (Nat.le_refl _) rfl
      have st' : St N B lo base ν s h a { w with drawn := w.drawn + 1 } := by
        have := st.plain (v := .tup []) (u := undef) (d := none) (V.le_refl _) st.hr.drew (st.hz.step hdr rfl) hdrL ⟨#[], rfl, rfl⟩ (fun t ht => by cases ht)
        exact this
      rw [hlen] at hq
      refine draws_sound hC hents hb hlen (fun i o y ho hy => ?_) ops.size _ [] ν s h a _ (by simp) ⟨by simp, fun i hi => (by cases hi), List.nodup_nil, fun i hi => ?_, fun i hi hl => (by cases hl)⟩ (fun e he hd => (by cases hd.2)) hq st' (fun s' h' ν' a' w' hQ' hν st2 hf2 => hQ s' h' ν' a' w' hQ' hν st2 ((hdrL.mono st.los).trans hf2))
      · have hz : ops.toList.zipIdx[i]? = some (o, i) := by rw [List.getElem?_zipIdx, Array.getElem?_toList, ho]; simp
        obtain ⟨y', hy', hy2⟩ := hlg i _ hz
        rw [List.getElem?_map, hy] at hy2
        cases hy2
        exact hy'
      · simp [Array.getD_eq_getD_getElem?, hi]
    · cases hc
  · cases hc

/-! ### code -/
def xe : AX → Exit
  | .normal => .normal
  | .exit id => .exit id
  | .ret => .ret

theorem erase_F {L : List (Nat × Bool × AOp)} {a : List (List Nat)} {c : AC} (h : AC.erase (.regF L a) = c) : (flowOk L a = true ∧ c = .regA (((List.range L.length).map (opAt L)).map AOp.erase) a) ∨ c = .regF L a := by
  simp only [AC.erase] at h
  cases e : flowOk L a with
  | true => rw [e] at h; subst h; refine .inl ⟨rfl, ?_⟩; simp only [cond_true, List.map_map]; rfl
  | false => rw [e] at h; subst h; exact .inr rfl
theorem erase_skip {c : AC} (h : c.erase = .skip) : c = .skip := by
  cases c <;> first | rfl | (cases h; done) | (rcases erase_F h with ⟨_, h⟩ | h <;> cases h)
theorem erase_ret {c : AC} (h : c.erase = .ret) : c = .ret := by
  cases c <;> first | rfl | (cases h; done) | (rcases erase_F h with ⟨_, h⟩ | h <;> cases h)
theorem erase_exit {c : AC} {i : Nat} (h : c.erase = .exit i) : c = .exit i := by
  cases c <;> first | exact h | (cases h; done) | (rcases erase_F h with ⟨_, h⟩ | h <;> cases h)
theorem erase_reg {c : AC} {l : List AOp} (h : c.erase = .reg l) : ∃ l', c = .reg l' ∧ l = l'.map AOp.erase := by
  cases c <;> first | (cases h; exact ⟨_, rfl, rfl⟩) | (cases h; done) | (rcases erase_F h with ⟨_, h⟩ | h <;> cases h)
theorem erase_regA {c : AC} {l : List AOp} {a : List (List Nat)} (h : c.erase = .regA l a) : (∃ l', c = .regA l' a ∧ l = l'.map AOp.erase) ∨ ∃ L, c = .regF L a ∧ flowOk L a = true ∧ l = ((List.range L.length).map (opAt L)).map AOp.erase := by
  cases c
  case regF L a' =>
    rcases erase_F h with ⟨h1, h2⟩ | h1
    · cases h2; exact .inr ⟨L, rfl, h1, rfl⟩
    · cases h1
  all_goals first | (cases h; exact .inl ⟨_, rfl, rfl⟩) | cases h
theorem erase_seq {c x y : AC} (h : c.erase = .seq x y) : ∃ x' y', c = .seq x' y' ∧ x = x'.erase ∧ y = y'.erase := by
  cases c <;> first | (cases h; exact ⟨_, _, rfl, rfl, rfl⟩) | (cases h; done) | (rcases erase_F h with ⟨_, h⟩ | h <;> cases h)
theorem erase_cond {c x y : AC} {e : AE} (h : c.erase = .cond e x y) : ∃ x' y', c = .cond e x' y' ∧ x = x'.erase ∧ y = y'.erase := by
  cases c <;> first | (cases h; exact ⟨_, _, rfl, rfl, rfl⟩) | (cases h; done) | (rcases erase_F h with ⟨_, h⟩ | h <;> cases h)
theorem erase_block {c x : AC} {i : Nat} (h : c.erase = .block i x) : ∃ x', c = .block i x' ∧ x = x'.erase := by
  cases c <;> first | (cases h; exact ⟨_, rfl, rfl⟩) | (cases h; done) | (rcases erase_F h with ⟨_, h⟩ | h <;> cases h)
theorem erase_loop {c x : AC} (h : c.erase = .loop x) : ∃ x', c = .loop x' ∧ x = x'.erase := by
  cases c <;> first | (cases h; exact ⟨_, rfl, rfl⟩) | (cases h; done) | (rcases erase_F h with ⟨_, h⟩ | h <;> cases h)

theorem code_sound {C : AQ} (hM : C.Mono) (hC : ∀ f args h R, C f args h R → CC P base f args h R) : ∀ (code : Code) (c : AC), cC P N B code = some c.erase → ∀ (Q : AX → S → AH → Prop) (QC : Exit → Act → World → Prop) (ν : V) (s : S) (h : AH) (a : Act) (w : World),
    awp C c Q s h → St N B lo base ν s h a w → (∀ e s' h' ν' a' w', Q e s' h' → V.le ν ν' → St N B lo base ν' s' h' a' w' → FrL lo base ν h w ν' h' w' → QC (xe e) a' w') → code.wp P QC a w := by
  intro code
  induction code with
  | skip =>
    intro c hc Q QC ν s h a w hq st hQ
    simp only [cC, Option.some.injEq] at hc
    obtain rfl := erase_skip hc.symm
    exact wp_skip (hQ .normal s h ν a w hq (V.le_refl _) st (FrL.refl _ _ _ _ _))
  | region id ops draw =>
    intro c hc Q QC ν s h a w hq st hQ
    cases draw with
    | true =>
      simp only [cC] at hc
      split at hc
      · rename_i l hl
        simp only [Option.some.injEq] at hc
        rcases erase_regA hc.symm with ⟨L, rfl, rfl⟩ | ⟨L, rfl, hok, rfl⟩
        · exact hq.elim
        · exact draw_sound hC hl (flow_any hM hok hq) st (fun s' h' ν' a' w' => hQ .normal s' h' ν' a' w')
      · cases hc
    | false =>
      simp only [cC] at hc
      split at hc
      · rename_i l hl
        simp only [Option.some.injEq] at hc
        obtain ⟨l, rfl, rfl⟩ := erase_reg hc.symm
        unfold cS at hl
        simp only at hl
        split at hl
        · rename_i hE
          exact wp_region_list (ops_sound hC hE ops.toList 0 l (Q .normal) ν s h a w hl (fun p hp => hp) (fun e he hj => absurd hj (Nat.not_lt_zero _)) hq st (fun s' h' ν' a' w' => hQ .normal s' h' ν' a' w'))
        · cases hl
      · cases hc
  | seq x y ihx ihy =>
    intro c hc Q QC ν s h a w hq st hQ
    simp only [cC] at hc
    split at hc
    · rename_i cx cy hx hy
      simp only [Option.some.injEq] at hc
      obtain ⟨cx, cy, rfl, rfl, rfl⟩ := erase_seq hc.symm
      refine wp_seq (ihx cx hx (AX.then (awp C cy Q) Q) _ ν s h a w hq st ?_)
      intro e s' h' ν' a' w' he hν st' hb
      cases e with
      | normal => exact ihy cy hy Q QC ν' s' h' a' w' he st' (fun e s2 h2 ν2 a2 w2 hQ2 hν2 st2 hb2 => hQ e s2 h2 ν2 a2 w2 hQ2 (V.le_trans hν hν2) st2 (hb.trans hb2))
      | exit id => exact hQ (.exit id) s' h' ν' a' w' he hν st' hb
      | ret => exact hQ .ret s' h' ν' a' w' he hν st' hb
    · cases hc
  | cond x y z ihy ihz =>
    intro c hc Q QC ν s h a w hq st hQ
    simp only [cC] at hc
    split at hc
    · rename_i ex cy cz hx hy hz
      simp only [Option.some.injEq] at hc
      obtain ⟨cy, cz, rfl, rfl, rfl⟩ := erase_cond hc.symm
      have rx := cE_ok st.sr hx
      simp only [awp] at hq
      split at hq
      · rename_i b hb
        rw [hb] at rx
        have e1 : a.eval x = .bool b := rx
        cases b with
        | true => exact wp_cond_true e1 (ihy cy hy Q QC ν s h a w (hq.1 rfl) st hQ)
        | false => exact wp_cond_false e1 (ihz cz hz Q QC ν s h a w (hq.2 rfl) st hQ)
      · exact hq.elim
    · cases hc
  | block id x ih =>
    intro c hc Q QC ν s h a w hq st hQ
    simp only [cC] at hc
    split at hc
    · rename_i cx hx
      simp only [Option.some.injEq] at hc
      obtain ⟨cx, rfl, rfl⟩ := erase_block hc.symm
      refine wp_block (ih cx hx (AX.inBlock id Q) _ ν s h a w hq st ?_)
      intro e s' h' ν' a' w' he hν st' hb
      cases e with
      | normal => exact hQ .normal s' h' ν' a' w' he hν st' hb
      | ret => exact hQ .ret s' h' ν' a' w' he hν st' hb
      | exit i =>
        show Exit.inBlock id QC (.exit i) a' w'
        simp only [Exit.inBlock]
        simp only [AX.inBlock] at he
        by_cases e : i = id
        · rw [if_pos e] at he ⊢; exact hQ .normal s' h' ν' a' w' he hν st' hb
        · rw [if_neg e] at he ⊢; exact hQ (.exit i) s' h' ν' a' w' he hν st' hb
    · cases hc
  | loop x ih =>
    intro c hc Q QC ν s h a w hq st hQ
    simp only [cC] at hc
    split at hc
    · rename_i cx hx
      simp only [Option.some.injEq] at hc
      obtain ⟨cx, rfl, rfl⟩ := erase_loop hc.symm
      obtain ⟨n, hn⟩ := hq
      refine wp_loop_rounds n ?_
      have key : ∀ n (ν2 : V) s2 h2 a2 w2, rounds (awp C cx) Q n s2 h2 → V.le ν ν2 → St N B lo base ν2 s2 h2 a2 w2 → FrL lo base ν h w ν2 h2 w2 → Code.rounds P x QC n a2 w2 := by
        intro n
        induction n with
        | zero => intro ν2 s2 h2 a2 w2 hr _ _ _; exact hr.elim
        | succ n ihn =>
          intro ν2 s2 h2 a2 w2 hr hν2 st2 hb2
          refine ih cx hx (AX.then (rounds (awp C cx) Q n) Q) _ ν2 s2 h2 a2 w2 hr st2 ?_
          intro e s' h' ν' a' w' he hν st' hb
          cases e with
          | normal => exact ihn ν' s' h' a' w' he (V.le_trans hν2 hν) st' (hb2.trans hb)
          | exit id => exact hQ (.exit id) s' h' ν' a' w' he (V.le_trans hν2 hν) st' (hb2.trans hb)
          | ret => exact hQ .ret s' h' ν' a' w' he (V.le_trans hν2 hν) st' (hb2.trans hb)
      exact key n ν s h a w hn (V.le_refl _) st (FrL.refl _ _ _ _ _)
    · cases hc
  | exit id =>
    intro c hc Q QC ν s h a w hq st hQ
    simp only [cC, Option.some.injEq] at hc
    obtain rfl := erase_exit hc.symm
    exact wp_exit (hQ (.exit id) s h ν a w hq (V.le_refl _) st (FrL.refl _ _ _ _ _))
  | ret =>
    intro c hc Q QC ν s h a w hq st hQ
    simp only [cC, Option.some.injEq] at hc
    obtain rfl := erase_ret hc.symm
    exact wp_ret (hQ .ret s h ν a w hq (V.le_refl _) st (FrL.refl _ _ _ _ _))
  | _ => intro c hc; simp [cC] at hc


/-! ### results, bodies -/
def resOne (tm : Array Value) (r : ResultVar) : Sem Value :=
  match r with
  | .tmp t => pure (tm.getD t undef)
  | .cell x t => do loadVar t (← asAddr (tm.getD x undef))

theorem results_eq (fn : Func) (tm : Array Value) : results fn tm = (do let vs ← fn.results.mapM (resOne tm); pure (if h : vs.size = 1 then vs[0] else .tuple vs)) := by
  have e : resOne tm = fun r => (match r with | .tmp t => pure (tm.getD t undef) | .cell x t => do loadVar t (← asAddr (tm.getD x undef)) : Sem Value) := by
    funext r; cases r <;> rfl
  rw [e]
  rfl

theorem res_sound (st : St N B lo base ν s h a w) {r : ResultVar} {q : AR} (hq : cR P B r = some q) {v : AV} (hv : ares s h q = some v) :
    ∃ u, (resOne a.tmps r).run P w = .ok u w ∧ VR ν v u := by
  have H := st.hr
  have hS := st.sr
  unfold resOne
  cases r with
  | tmp t =>
    simp only [cR] at hq
    split at hq
    · rename_i htl
      cases hq
      simp only [ares, Option.some.injEq] at hv; subst hv
      exact ⟨_, by simp, hS.val t htl⟩
    · cases hq
  | cell x t =>
    simp only [cR] at hq
    split at hq
    · cases hq
    rename_i hxl
    have hxl : x < LB := Decidable.not_not.1 hxl
    have hval := hS.val x hxl
    split at hq
    · rename_i fs i ht hi
      split at hq
      · rename_i hxB
        cases hq
        have hxB : x ∈ B := by simpa using hxB
        simp only [ares] at hv
        split at hv
        · rename_i l hl
          split at hv
          · rename_i hln
            simp only [if_true, Option.some.injEq] at hv; subst hv
            obtain ⟨G, hat⟩ := st.bx.at_ hxB hl
            obtain ⟨b1, b2, b3, b4⟩ := st.bx.box hxB hat
            have hr : w.rangeAt G 0 ((List.range l.length).map fun k => (w.cell? ⟨G, k, Option.none⟩).getD undef) := by
              intro j v hv
              by_cases hj : j < l.length
              · simp [hj] at hv
                obtain ⟨_, u, hu, _⟩ := b3 _ _ (List.getElem?_eq_getElem hj)
                rw [hu] at hv
                simp at hv
                subst hv
                rw [Nat.zero_add]; exact hu
              · simp [hj] at hv
            have hvs : VRs ν l ((List.range l.length).map fun k => (w.cell? ⟨G, k, Option.none⟩).getD undef) := by
              refine VRs.of (by simp) fun k x hx => ?_
              have hk := (List.getElem?_eq_some_iff.1 hx).1
              obtain ⟨_, u, hu, r⟩ := b3 _ x hx
              exact ⟨u, by simp [hk, hu], r⟩
            have := run_loadVar_mid (P := P) w G 0 t _ _ hr ht rfl (by simp [hi, hln])
            have e1 : a.tmps.getD x undef = .pointer (some ⟨G, 0, none⟩) := hat.2
            exact ⟨.agg ((List.range l.length).map fun k => (w.cell? ⟨G, k, Option.none⟩).getD undef).toArray, by simp only [e1, asAddr, Sem.run_bind, Sem.run_pure, Result.andThen_ok, this], _, rfl, by simpa using hvs⟩
          · cases hv
        · cases hv
      · cases hq
        simp only [ares] at hv
        split at hv
        · rename_i b off hb
          rw [hb] at hval
          obtain ⟨p, hp, hpx⟩ := hval
          split at hv
          · rename_i l hl
            simp only [if_true, Option.some.injEq] at hv; subst hv
            obtain ⟨q, vs, hq, hr, hvs, _, hln⟩ := H.read hl
            rw [hp] at hq; cases hq
            have := run_loadVar_mid (P := P) w p.g (p.o + off) t vs _ hr ht rfl (by simp [hi, ← hvs.length, hln])
            exact ⟨.agg vs.toArray, by simp [hpx, asAddr, this], vs.toArray, rfl, by simpa using hvs⟩
          · cases hv
        · cases hv
    · cases hq
    · rename_i d i hns hna ht hi
      have hd : d.isRow = false := by cases d <;> first | rfl | exact (hns _ rfl).elim | exact (hna _ _ rfl).elim
      have hagg : (isAgg t).run P w = .ok false w := by
        unfold isAgg
        rw [Sem.run_bind, run_underlying ht w]
        cases d <;> simp_all [TypeDesc.isRow]
      split at hq
      · rename_i hxB
        cases hq
        have hxB : x ∈ B := by simpa using hxB
        simp only [ares] at hv
        split at hv
        · rename_i l hl
          split at hv
          · rename_i hln
            simp only [Bool.false_eq_true, if_false] at hv
            split at hv
            · rename_i y
              simp only [Option.some.injEq] at hv; subst hv
              obtain ⟨G, hat⟩ := st.bx.at_ hxB hl
              obtain ⟨b1, b2, b3, b4⟩ := st.bx.box hxB hat
              obtain ⟨_, u, hc, hu⟩ := b3 0 y rfl
              have e1 : a.tmps.getD x undef = .pointer (some ⟨G, 0, none⟩) := hat.2
              exact ⟨u, by simp [e1, asAddr, loadVar, hagg, hc], hu⟩
            · cases hv
          · cases hv
        · cases hv
      · cases hq
        simp only [ares] at hv
        split at hv
        · rename_i b off hb
          rw [hb] at hval
          obtain ⟨p, hp, hpx⟩ := hval
          split at hv
          · rename_i l hl
            simp only [Bool.false_eq_true, if_false] at hv
            split at hv
            · rename_i y
              simp only [Option.some.injEq] at hv; subst hv
              obtain ⟨q, vs, hq, hr, hvs, _, hln⟩ := H.read hl
              rw [hp] at hq; cases hq
              obtain ⟨u, us, rfl, hu, _⟩ := hvs
              have hc := hr 0 u rfl
              simp only [Nat.add_zero] at hc
              exact ⟨u, by simp [hpx, asAddr, loadVar, hagg, hc], hu⟩
            · cases hv
          · cases hv
        · cases hv
    · cases hq

theorem ress_sound (st : St N B lo base ν s h a w) : ∀ (rs : List ResultVar) (qs : List AR), mapO (cR P B) rs = some qs → ∀ vs, aress s h qs = some vs →
    ∃ us, (rs.mapM (resOne a.tmps)).run P w = .ok us w ∧ VRs ν vs us
  | [], qs, hm, vs, hv => by
    simp only [mapO, Option.some.injEq] at hm; subst hm
    simp only [aress, Option.some.injEq] at hv; subst hv
    exact ⟨[], by simp, rfl⟩
  | r :: rs, qs, hm, vs, hv => by
    simp only [mapO] at hm
    split at hm
    · rename_i q qs' hq hqs
      cases hm
      simp only [aress] at hv
      split at hv
      · rename_i v vs' hv1 hv2
        cases hv
        obtain ⟨u, hu, ru⟩ := res_sound st hq hv1
        obtain ⟨us, hus, rus⟩ := ress_sound st rs qs' hqs vs' hv2
        refine ⟨u :: us, ?_, u, us, rfl, ru, rus⟩
        rw [List.mapM_cons, Sem.run_bind, hu, Result.andThen_ok, Sem.run_bind, hus, Result.andThen_ok]
        rfl
      · cases hv
    · cases hm

theorem result_sound (st : St N B lo base ν s h a w) {fn : Func} {qs : List AR} (hm : mapO (cR P B) fn.results.toList = some qs) {v : AV} (hv : aresult s h qs = some v) : ∃ u, (results fn a.tmps).run P w = .ok u w ∧ VR ν v u := by
  unfold aresult at hv
  split at hv
  · rename_i v1 h1
    cases hv
    obtain ⟨us, hus, rus⟩ := ress_sound st _ qs hm _ h1
    obtain ⟨u, us', rfl, ru, e⟩ := rus
    have e : us' = [] := e
    subst e
    refine ⟨u, ?_, ru⟩
    rw [results_eq, Array.mapM_eq_mapM_toList]
    simp [hus, Result.andThen]
  · rename_i vs hne h1
    cases hv
    obtain ⟨us, hus, rus⟩ := ress_sound st _ qs hm _ h1
    refine ⟨.tuple us.toArray, ?_, us.toArray, rfl, by simpa using rus⟩
    rw [results_eq, Array.mapM_eq_mapM_toList]
    have hl : us.length ≠ 1 := by
      intro e
      rw [← rus.length] at e
      match vs, e with
      | [v], _ => exact hne v rfl
    simp [hus, hl, Result.andThen]
  · cases hv

theorem init_sound {args : List AV} {vs : List Value} {nt np : Nat} (hv : VRs ν args vs) (hn : args.length = np) (hnt : np ≤ nt) (H : HR ν base h w) (Z : HZ ν h w) (hl : nt ≤ LB) (hB : ∀ t, t ∈ B → np ≤ t ∧ t < nt) : St nt B w.heap.size base ν (S.init B args) h { tmps := vs.toArray ++ Array.replicate (nt - vs.toArray.size) undef, defers := [] } w := by
  have hlen := hv.length
  have hsr : SR nt ν (S.init B args) { tmps := vs.toArray ++ Array.replicate (nt - vs.toArray.size) undef, defers := [] } := by
    refine ⟨by simp; omega, rfl, fun t _ => ?_⟩
    simp only [S.init, Array.getD_eq_getD_getElem?]
    by_cases ht : t < vs.length
    · obtain ⟨u, hu, r⟩ := hv.get t args[t] (List.getElem?_eq_getElem (by omega))
      rw [List.getElem?_eq_getElem (show t < args.length by omega), Array.getElem?_append_left (by simpa using ht)]
      simp only [List.getElem?_toArray, hu, Option.getD_some]
      exact r
    · rw [List.getElem?_eq_none (by omega)]
      simp only
      split
      · trivial
      · refine ⟨#[], ?_, rfl⟩
        rw [Array.getElem?_append_right (by simp; omega)]
        cases e : (Array.replicate (nt - vs.toArray.size) undef)[t - vs.toArray.size]? with
        | none => rfl
        | some x =>
          have := Array.getElem?_eq_some_iff.1 e
          obtain ⟨_, hx⟩ := this
          simp at hx
          rw [← hx]; rfl
  have hnone : ∀ t, t ∈ B → S.init B args (LB + t) = .tup [] := fun t ht => by
    obtain ⟨h1, h2⟩ := hB t ht
    simp only [S.init]
    rw [List.getElem?_eq_none (by omega)]
    simp only
    rw [if_neg]
    intro hc
    have := (hB _ (by simpa using hc)).2
    omega
  have hno : ∀ t, t ∈ B → ∀ a G l, ¬ At (S.init B args) a t G l := fun t ht a G l hat => by
    have := hat.1
    rw [hnone t ht] at this
    cases this
  refine ⟨hsr, H, Z, ⟨fun t ht => ?_, fun t ht => .inl (hnone t ht), fun t ht G l hat => (hno t ht _ G l hat).elim, fun t ht t' _ G l l' hat => (hno t ht _ G l hat).elim, fun t ht G l hat => (hno t ht _ G l hat).elim⟩, H.size, Nat.le_refl _, hl, fun t ht => (hB t ht).2⟩
  have := hB t ht
  simp only [S.init]
  rw [List.getElem?_eq_none (by omega)]
  simp only
  rw [if_pos (by simpa using ht)]

theorem body_sound {C : AQ} (hM : C.Mono) (hC : ∀ f args h R, C f args h R → CC P base f args h R) {f : FuncId} {fn : Func} {af : AFunc} (hf : P.funcs[f]? = some fn) (haf : cF P B fn = some af.erase) {args : List AV} {h : AH} {R : AV → AH → Prop} (hb : abody C af args h R) : CC P base f args h R := by
  unfold cF at haf
  split at haf
  · rename_i c hc
    split at haf
    · rename_i body rs hbody hrs
      split at haf
      · rename_i hcnd
        obtain ⟨boxes, np, results, body'⟩ := af
        simp only [AFunc.erase, Option.some.injEq, AFunc.mk.injEq] at haf
        obtain ⟨rfl, rfl, rfl, rfl⟩ := haf
        obtain ⟨hnp, hw⟩ := hb
        obtain ⟨c1, c3, c4, c5⟩ := hcnd
        refine ⟨⟨fn, hf, c3, by rw [hc]; rfl⟩, fun ν w vs H Z hvs => ?_⟩
        refine calls_of_wp hf hc ?_
        refine code_sound hM hC c body' hbody _ _ ν (S.init B args) h _ w hw (init_sound hvs hnp c1 H Z c4 (fun t ht => by
          rw [List.all_eq_true] at c5
          simpa using c5 t ht)) ?_
        intro e s' h' ν' a' w' he hν st' hb'
        have fin : (match aresult s' h' rs with | some v => R v h' | none => False) → ∃ u, (Go.results fn a'.tmps).run P w' = .ok u w' ∧ ∃ u' v h' ν', Ending.returned u = .returned u' ∧ V.le ν ν' ∧ HR ν' base h' w' ∧ HZ ν' h' w' ∧ VR ν' v u' ∧ FrL w.heap.size base ν h w ν' h' w' ∧ R v h' := by
          intro hm
          split at hm
          · rename_i v hv
            obtain ⟨u, hu, ru⟩ := result_sound st' hrs hv
            exact ⟨u, hu, u, v, h', ν', rfl, hν, st'.hr, st'.hz, ru, hb', hm⟩
          · exact hm.elim
        cases e with
        | exit id => exact he.elim
        | normal => obtain ⟨u, hu, hx⟩ := fin he; exact ⟨st'.sr.defers, u, hu, hx⟩
        | ret => obtain ⟨u, hu, hx⟩ := fin he; exact ⟨st'.sr.defers, u, hu, hx⟩
      · cases haf
    · cases haf
  · cases haf

/-- WHAT THE ABSTRACT MACHINE TELLS OF A CALL HOLDS OF THE MODEL's. -/
theorem calls_sound {ap : FuncId → Option AFunc} {E : AQ} (hE : ∀ f args h R, E f args h R → CC P base f args h R) (hap : ∀ f af, ap f = some af → ∃ fn B, P.funcs[f]? = some fn ∧ cF P B fn = some af.erase) {f : FuncId} {args : List AV} {h : AH} {R : AV → AH → Prop}
    (hc : ACalls ap E f args h R) : CC P base f args h R :=
  hc (CC P base) hE fun f args h R af hf hb => by
    obtain ⟨fn, B, h1, h2⟩ := hap f af hf
    exact body_sound CC.mono_ (fun _ _ _ _ h => h) h1 h2 hb

end
end Go.Bm
