/- A library for contracts over the abstract machine: rows of data in memory, what operations tell of them, rules for running code. -/
import Derived.Test.YtbajchkpehdolaaBmH
namespace Go.Bm
set_option linter.all false
open Go Go.RowKit
set_option linter.unusedVariables false
set_option linter.unusedSimpArgs false

/-! ### slots -/
theorem S.upd_get (s : S) (d : Nat) (v : AV) (k : Nat) : (s.upd d v) k = if k = d then v else s k := (rfl)
theorem S.put_some (s : S) (d : Nat) (v : AV) : s.put (some d) v = s.upd d v := (rfl)
theorem S.put_none (s : S) (v : AV) : s.put none v = s := (rfl)

def tick {α : Type} (v : α) : α := v
theorem tick_eq {α : Type} (v : α) : tick v = v := (rfl)
/-! ### the sequel of code -/
theorem aops_nil (C : AQ) (Q : S → AH → Prop) (s : S) (h : AH) : aops C [] Q s h = Q s h := (rfl)
theorem aops_cons (C : AQ) (d : Option Nat) (k : K) (r : List AOp) (Q : S → AH → Prop) (s : S) (h : AH) : aops C (⟨d, none, k⟩ :: r) Q s h = astep C ⟨d, none, k⟩ (aops C r Q) s h := (rfl)
def guardR (v : AV) (want : Bool) (X Y : Prop) : Prop := match v with
  | .bool b => (b = want → X) ∧ (b = !want → Y)
  | .tup [] => Y
  | _ => False
@[congr] theorem guardR_congr {v v' : AV} {w : Bool} {X Y : Prop} (e : tick v = v') : guardR v w X Y = guardR v' w X Y := by rw [← e]; rfl
theorem guardR_true (b : Bool) (X Y : Prop) : guardR (.bool b) true X Y = ((b = true → X) ∧ (b = false → Y)) := (rfl)
theorem guardR_false (b : Bool) (X Y : Prop) : guardR (.bool b) false X Y = ((b = false → X) ∧ (b = true → Y)) := (rfl)
theorem guardR_tup (w : Bool) (X Y : Prop) : guardR (.tup []) w X Y = Y := (rfl)
theorem aops_guard (C : AQ) (d : Option Nat) (t : Nat) (w : Bool) (k : K) (r : List AOp) (Q : S → AH → Prop) (s : S) (h : AH) :
    aops C (⟨d, some (t, w), k⟩ :: r) Q s h = guardR (s t) w (astep C ⟨d, some (t, w), k⟩ (aops C r Q) s h) (aops C r Q (s.put d (.tup [])) h) := by
  simp only [aops, guardR]
  generalize s t = v
  cases v <;> first | rfl | (rename_i l; cases l <;> rfl)
/-- What follows an operation that may fail. -/
def thenA (x : Option (AV × AH)) (Q : AV → AH → Prop) : Prop := match x with
  | some (v, h) => Q v h
  | none => False
@[congr] theorem thenA_congr {x x' : Option (AV × AH)} {Q : AV → AH → Prop} (e : tick x = x') : thenA x Q = thenA x' Q := by rw [← e]; rfl
@[congr] theorem acalls_congr {ap : FuncId → Option AFunc} {E : AQ} {f : FuncId} {a a' : List AV} {h h' : AH} {R : AV → AH → Prop} (ea : tick a = a') (eh : h = h') : ACalls ap E f a h R = ACalls ap E f a' h' R := by rw [← ea, eh]; rfl
theorem thenA_some (v : AV) (h : AH) (Q : AV → AH → Prop) : thenA (some (v, h)) Q = Q v h := (rfl)

@[congr] theorem acallM_congr {C : AQ} {m : CM} {f : FuncId} {a a' : List AV} {h h' : AH} {R : AV → AH → Prop} (ea : tick a = a') (eh : h = h') : acallM C m f a h R = acallM C m f a' h' R := by rw [← ea, eh]; rfl
def callvA (C : AQ) (m : CM) (f : AV) (args : List AV) (h : AH) (Q : AV → AH → Prop) : Prop := match f with
  | .fn f cap => acallM C m f (args ++ cap) h Q
  | _ => False
@[congr] theorem callvA_congr {C : AQ} {m : CM} {f f' : AV} {a a' : List AV} {h h' : AH} {Q : AV → AH → Prop} (ef : tick f = f') (ea : a = a') (eh : h = h') : callvA C m f a h Q = callvA C m f' a' h' Q := by rw [← ef, ea, eh]; rfl
theorem callvA_fn (C : AQ) (m : CM) (f : FuncId) (cap args : List AV) (h : AH) (Q : AV → AH → Prop) : callvA C m (.fn f cap) args h Q = acallM C m f (args ++ cap) h Q := (rfl)
theorem acallM_raw (C : AQ) (f : FuncId) (args : List AV) (h : AH) (Q : AV → AH → Prop) : acallM C .raw f args h Q = C f args h Q := (rfl)
@[congr] theorem softC_congr {X X' : (AV → AH → Prop) → Prop} {h h' : AH} {Q : AV → Prop} (e : ∀ R, tick (X R) = X' R) (eh : h = h') : softC X h Q = softC X' h' Q := by
  have : X = X' := funext fun R => e R
  rw [this, eh]
theorem softC_is (v : AV) (h : AH) (Q : AV → Prop) : softC (fun R => R v h) h Q = Q v := by
  apply propext
  constructor
  · rintro ⟨u, h1, h2⟩
    have := h1 (fun w _ => w = u) rfl
    rw [this]; exact h2
  · exact fun hq => ⟨v, fun R hR => hR, hq⟩
theorem softC_no (h : AH) (Q : AV → Prop) : softC (fun _ => False) h Q = False := by
  apply propext
  constructor
  · rintro ⟨u, h1, h2⟩
    exact h1 (fun _ _ => True) trivial
  · exact False.elim

theorem astep_call (C : AQ) (d : Option Nat) (g : Option (Nat × Bool)) (m : CM) (f : FuncId) (args : List AE) (Q : S → AH → Prop) (s : S) (h : AH) : astep C ⟨d, g, .call m f args⟩ Q s h = acallM C m f (args.map (AE.ev s)) h (fun v h' => Q (s.put d v) h') := (rfl)
theorem astep_callv (C : AQ) (d : Option Nat) (g : Option (Nat × Bool)) (m : CM) (f : AE) (args : List AE) (Q : S → AH → Prop) (s : S) (h : AH) : astep C ⟨d, g, .callv m f args⟩ Q s h = callvA C m (f.ev s) (args.map (AE.ev s)) h (fun v h' => Q (s.put d v) h') := by
  simp only [astep, callvA]; cases f.ev s <;> rfl
theorem fstep_call (C : AQ) (d : Option Nat) (g : Option (Nat × Bool)) (m : CM) (f : FuncId) (args : List AE) (Q : S → AH → Prop) (s : S) (h : AH) : fstep C ⟨d, g, .call m f args⟩ Q s h = softC (fun R => acallM C m f (args.map (AE.ev s)) h R) h (fun v => Q (s.put d v) h) := (rfl)
theorem fstep_callv (C : AQ) (d : Option Nat) (g : Option (Nat × Bool)) (m : CM) (f : AE) (args : List AE) (Q : S → AH → Prop) (s : S) (h : AH) : fstep C ⟨d, g, .callv m f args⟩ Q s h = softC (fun R => callvA C m (f.ev s) (args.map (AE.ev s)) h R) h (fun v => Q (s.put d v) h) := by
  simp only [fstep, callvA]
  cases f.ev s <;> first | rfl | exact (softC_no h _).symm
/-- What follows an operation that may fail, and is to leave the memory as it is. -/
def thenX (x : Option (AV × AH)) (h : AH) (Q : AV → Prop) : Prop := match x with
  | some (v, h') => h' = h ∧ Q v
  | none => False
@[congr] theorem thenX_congr {x x' : Option (AV × AH)} {h : AH} {Q : AV → Prop} (e : tick x = x') : thenX x h Q = thenX x' h Q := by rw [← e]; rfl
theorem thenX_some (v : AV) (h : AH) (Q : AV → Prop) : thenX (some (v, h)) h Q = Q v := by simp [thenX]
def K.isOpF : K → Bool
  | .call .. => false
  | .callv .. => false
  | _ => true
def K.isOp : K → Bool
  | .call .. => false
  | .callv .. => false
  | .eqnil .. => false
  | _ => true
theorem astep_op (C : AQ) (d : Option Nat) (g : Option (Nat × Bool)) (k : K) (Q : S → AH → Prop) (s : S) (h : AH) (hk : k.isOp = true) :
    astep C ⟨d, g, k⟩ Q s h = thenA (aop k s h) (fun v h' => Q (s.put d v) h') := by
  have ha : aamb k s = false := by cases k <;> first | rfl | (simp [K.isOp] at hk; done)
  have e : astep C ⟨d, g, k⟩ Q s h = (match aop k s h with | some (v, h') => Q (s.put d v) h' | none => aamb k s = true ∧ ∀ b : Bool, Q (s.put d (.bool b)) h) := by cases k <;> first | rfl | (simp [K.isOp] at hk; done)
  rw [e, ha]
  cases aop k s h with
  | none => simp [thenA]
  | some p => rfl
theorem fstep_op (C : AQ) (d : Option Nat) (g : Option (Nat × Bool)) (k : K) (Q : S → AH → Prop) (s : S) (h : AH) (hk : k.isOpF = true) :
    fstep C ⟨d, g, k⟩ Q s h = thenX (aop k s h) h (fun v => Q (s.put d v) h) := by
  cases k <;> first | (simp [K.isOpF] at hk; done) | (simp only [fstep, thenX]; done) | (simp only [fstep, thenX]; split <;> first | rfl | (rename_i e; rw [e]))

theorem fflow_nil (C : AQ) (Q : S → AH → Prop) (s : S) (h : AH) : fflow C [] Q s h = Q s h := (rfl)
theorem fflow_soft (C : AQ) (i : Nat) (d : Option Nat) (k : K) (r : List (Nat × Bool × AOp)) (Q : S → AH → Prop) (s : S) (h : AH) : fflow C ((i, false, ⟨d, none, k⟩) :: r) Q s h = fstep C ⟨d, none, k⟩ (fflow C r Q) s h := (rfl)
theorem fflow_hard (C : AQ) (i : Nat) (d : Option Nat) (k : K) (r : List (Nat × Bool × AOp)) (Q : S → AH → Prop) (s : S) (h : AH) : fflow C ((i, true, ⟨d, none, k⟩) :: r) Q s h = astep C ⟨d, none, k⟩ (fflow C r Q) s h := (rfl)
theorem fflow_gsoft (C : AQ) (i : Nat) (d : Option Nat) (t : Nat) (w : Bool) (k : K) (r : List (Nat × Bool × AOp)) (Q : S → AH → Prop) (s : S) (h : AH) :
    fflow C ((i, false, ⟨d, some (t, w), k⟩) :: r) Q s h = guardR (s t) w (fstep C ⟨d, some (t, w), k⟩ (fflow C r Q) s h) (fflow C r Q (s.put d (.tup [])) h) := by
  simp only [fflow, guardR, aguard]
  generalize s t = v
  cases v <;> first | rfl | (rename_i l; cases l <;> rfl)
theorem fflow_ghard (C : AQ) (i : Nat) (d : Option Nat) (t : Nat) (w : Bool) (k : K) (r : List (Nat × Bool × AOp)) (Q : S → AH → Prop) (s : S) (h : AH) :
    fflow C ((i, true, ⟨d, some (t, w), k⟩) :: r) Q s h = guardR (s t) w (astep C ⟨d, some (t, w), k⟩ (fflow C r Q) s h) (fflow C r Q (s.put d (.tup [])) h) := by
  simp only [fflow, guardR, aguard]
  generalize s t = v
  cases v <;> first | rfl | (rename_i l; cases l <;> rfl)
theorem awp_regF (C : AQ) (L : List (Nat × Bool × AOp)) (a : List (List Nat)) (Q : AX → S → AH → Prop) (s : S) (h : AH) : awp C (.regF L a) Q s h = fflow C L (Q .normal) s h := (rfl)
theorem awp_skip (C : AQ) (Q : AX → S → AH → Prop) (s : S) (h : AH) : awp C .skip Q s h = Q .normal s h := (rfl)
theorem awp_reg (C : AQ) (l : List AOp) (Q : AX → S → AH → Prop) (s : S) (h : AH) : awp C (.reg l) Q s h = aops C l (Q .normal) s h := (rfl)
theorem awp_seq (C : AQ) (a b : AC) (Q : AX → S → AH → Prop) (s : S) (h : AH) : awp C (.seq a b) Q s h = awp C a (AX.then (awp C b Q) Q) s h := (rfl)
def condR (v : AV) (X Y : Prop) : Prop := match v with
  | .bool c => (c = true → X) ∧ (c = false → Y)
  | _ => False
theorem awp_cond (C : AQ) (x : AE) (a b : AC) (Q : AX → S → AH → Prop) (s : S) (h : AH) : awp C (.cond x a b) Q s h = condR (x.ev s) (awp C a Q s h) (awp C b Q s h) := by
  simp only [awp, condR]; cases x.ev s <;> rfl
@[congr] theorem condR_congr {v v' : AV} {X Y : Prop} (e : tick v = v') : condR v X Y = condR v' X Y := by rw [← e]; rfl
theorem condR_tt (X Y : Prop) : condR (.bool true) X Y = X := by simp [condR]
theorem condR_ff (X Y : Prop) : condR (.bool false) X Y = Y := by simp [condR]
theorem guardR_tt (w : Bool) (X Y : Prop) : guardR (.bool true) w X Y = if w then X else Y := by cases w <;> simp [guardR]
theorem guardR_ff (w : Bool) (X Y : Prop) : guardR (.bool false) w X Y = if w then Y else X := by cases w <;> simp [guardR]
theorem condR_bool (b : Bool) (X Y : Prop) : condR (.bool b) X Y = ((b = true → X) ∧ (b = false → Y)) := (rfl)
theorem awp_block (C : AQ) (id : Nat) (c : AC) (Q : AX → S → AH → Prop) (s : S) (h : AH) : awp C (.block id c) Q s h = awp C c (AX.inBlock id Q) s h := (rfl)
theorem awp_exit (C : AQ) (id : Nat) (Q : AX → S → AH → Prop) (s : S) (h : AH) : awp C (.exit id) Q s h = Q (.exit id) s h := (rfl)
theorem awp_ret (C : AQ) (Q : AX → S → AH → Prop) (s : S) (h : AH) : awp C .ret Q s h = Q .ret s h := (rfl)
theorem then_normal (n : S → AH → Prop) (Q : AX → S → AH → Prop) : AX.then n Q .normal = n := (rfl)
theorem then_exit (n : S → AH → Prop) (Q : AX → S → AH → Prop) (i : Nat) : AX.then n Q (.exit i) = Q (.exit i) := (rfl)
theorem then_ret (n : S → AH → Prop) (Q : AX → S → AH → Prop) : AX.then n Q .ret = Q .ret := (rfl)
theorem inBlock_normal (i : Nat) (Q : AX → S → AH → Prop) : AX.inBlock i Q .normal = Q .normal := (rfl)
theorem inBlock_ret (i : Nat) (Q : AX → S → AH → Prop) : AX.inBlock i Q .ret = Q .ret := (rfl)
theorem inBlock_exit (i j : Nat) (Q : AX → S → AH → Prop) : AX.inBlock i Q (.exit j) = if j = i then Q .normal else Q (.exit j) := (rfl)

/-! ### operations on values -/
theorem beq_dec (a b : Int) : (a == b) = decide (a = b) := by by_cases h : a = b <;> simp [h]
theorem str_eq (a b : ByteArray) : (a.toList == b.toList) = decide (a = b) := by
  by_cases h : a = b
  · simp [h]
  · have : a.toList ≠ b.toList := fun e => h (by
      rw [ByteArray.toList_eq, ByteArray.toList_eq] at e
      exact ByteArray.ext (by simpa using e))
    simp [h, this]
theorem binInt_add (k : IntKind) (a b : Int) : binInt .add k a b = some (.int k (k.wrap (a + b))) := (rfl)
theorem binInt_sub (k : IntKind) (a b : Int) : binInt .sub k a b = some (.int k (k.wrap (a - b))) := (rfl)
theorem binInt_mul (k : IntKind) (a b : Int) : binInt .mul k a b = some (.int k (k.wrap (a * b))) := (rfl)
theorem binInt_quo (k : IntKind) (a b : Int) (hb : b ≠ 0) : binInt .quo k a b = some (.int k (k.wrap (a.tdiv b))) := if_neg hb
theorem binInt_rem (k : IntKind) (a b : Int) (hb : b ≠ 0) : binInt .rem k a b = some (.int k (a.tmod b)) := if_neg hb
theorem binInt_eql (k : IntKind) (a b : Int) : binInt .eql k a b = some (.bool (decide (a = b))) := by simp only [binInt, beq_dec]
theorem binInt_neq (k : IntKind) (a b : Int) : binInt .neq k a b = some (.bool (!decide (a = b))) := by simp only [binInt, bne, beq_dec]
theorem binInt_lss (k : IntKind) (a b : Int) : binInt .lss k a b = some (.bool (decide (a < b))) := (rfl)
theorem binInt_leq (k : IntKind) (a b : Int) : binInt .leq k a b = some (.bool (decide (a ≤ b))) := (rfl)
theorem binInt_gtr (k : IntKind) (a b : Int) : binInt .gtr k a b = some (.bool (decide (b < a))) := (rfl)
theorem binInt_geq (k : IntKind) (a b : Int) : binInt .geq k a b = some (.bool (decide (b ≤ a))) := (rfl)
theorem binStr_eql (a b : ByteArray) : binStr .eql a b = some (.bool (decide (a = b))) := by simp only [binStr, str_eq]
theorem binStr_neq (a b : ByteArray) : binStr .neq a b = some (.bool (!decide (a = b))) := by simp only [binStr, str_eq]
theorem eqCell_bool (a b : Bool) : eqCell 0 (.bool a) (.bool b) = some (a == b) := (rfl)
theorem eqCell_int (k : IntKind) (a b : Int) : eqCell 1 (.int k a) (.int k b) = some (decide (a = b)) := by simp [eqCell, beq_dec]
theorem eqCell_str (a b : ByteArray) : eqCell 2 (.str a) (.str b) = some (decide (a = b)) := by simp [eqCell, str_eq]
theorem pickv_bool (c p q : Bool) : pickv c (.bool p) (.bool q) = .bool (bif c then p else q) := (rfl)
theorem pickv_true (a b : AV) : pickv true a b = a := by cases a <;> cases b <;> rfl
theorem pickv_false (a b : AV) : pickv false a b = b := by cases a <;> cases b <;> rfl

theorem bin_int (op : BinOp) (k : IntKind) (a b : Int) : bin op (.int k a) (.int k b) = binInt op k a b := by simp [bin]
theorem bin_str (op : BinOp) (a b : ByteArray) : bin op (.str a) (.str b) = binStr op a b := by simp [bin]
def opt1 (x : Option AV) (h : AH) : Option (AV × AH) := match x with | some v => some (v, h) | none => none
theorem opt1_some (v : AV) (h : AH) : opt1 (some v) h = some (v, h) := (rfl)
theorem aop_bin (op : BinOp) (x y : AE) (s : S) (h : AH) : aop (.bin op x y) s h = opt1 (bin op (x.ev s) (y.ev s)) h := by simp only [aop, opt1]; cases bin op (x.ev s) (y.ev s) <;> rfl
theorem aop_un (op : UnOp) (x : AE) (s : S) (h : AH) : aop (.un op x) s h = opt1 (un op (x.ev s)) h := by simp only [aop, opt1]; cases un op (x.ev s) <;> rfl
theorem aop_mov (x : AE) (s : S) (h : AH) : aop (.mov x) s h = some (x.ev s, h) := (rfl)
def pickA (c a b : AV) (h : AH) : Option (AV × AH) := match c with | .bool c => some (pickv c a b, h) | _ => none
theorem aop_pick (c a b : AE) (s : S) (h : AH) : aop (.pick c a b) s h = pickA (c.ev s) (a.ev s) (b.ev s) h := by simp only [aop, pickA]; cases c.ev s <;> rfl
def lenA (st : Bool) (v : AV) (h : AH) : Option (AV × AH) := match st, v with
  | true, .str t => some (.int .i64 t.size, h)
  | false, .nils => some (.int .i64 0, h)
  | false, .sl _ _ _ n _ => some (.int .i64 n, h)
  | false, .fs _ l => some (.int .i64 l.length, h)
  | _, _ => none
theorem aop_len (st : Bool) (x : AE) (s : S) (h : AH) : aop (.len st x) s h = lenA st (x.ev s) h := by simp only [aop, lenA]; cases st <;> cases x.ev s <;> rfl
theorem lenA_str (t : ByteArray) (h : AH) : lenA true (.str t) h = some (.int .i64 t.size, h) := (rfl)
theorem lenA_nils (h : AH) : lenA false .nils h = some (.int .i64 0, h) := (rfl)
theorem lenA_fs (c : Option Nat) (l : List (List AV)) (h : AH) : lenA false (.fs c l) h = some (.int .i64 l.length, h) := (rfl)
theorem lenA_sl (b o es n : Nat) (c : Option Nat) (h : AH) : lenA false (.sl b o es n c) h = some (.int .i64 n, h) := (rfl)
def convA (k : IntKind) (v : AV) (h : AH) : Option (AV × AH) := match v with | .int _ n => some (.int k (k.wrap n), h) | _ => none
theorem aop_conv (k : IntKind) (x : AE) (s : S) (h : AH) : aop (.conv k x) s h = convA k (x.ev s) h := by simp only [aop, convA]; cases x.ev s <;> rfl
theorem convA_int (k k' : IntKind) (n : Int) (h : AH) : convA k (.int k' n) h = some (.int k (k.wrap n), h) := (rfl)
def laddrA (v : AV) (h : AH) : Option (AV × AH) := match v with | .agg _ => some (.any, h) | _ => none
theorem aop_laddr (t : Nat) (s : S) (h : AH) : aop (.laddr t) s h = laddrA (s t) h := by simp only [aop, laddrA]; cases s t <;> rfl
theorem laddrA_agg (l : List AV) (h : AH) : laddrA (.agg l) h = some (.any, h) := (rfl)
def lloadA (agg : Bool) (n off : Nat) (v : AV) (h : AH) : Option (AV × AH) := match v with
  | .agg l => if agg then (if off + n ≤ l.length then some (.agg ((l.drop off).take n), h) else none) else match l[off]? with
    | some x => some (x, h)
    | none => none
  | _ => none
theorem aop_lload (agg : Bool) (n t off : Nat) (s : S) (h : AH) : aop (.lload agg n t off) s h = lloadA agg n off (s t) h := by simp only [aop, lloadA]; cases s t <;> rfl
def lstoreA (n off : Nat) (v x : AV) (h : AH) : Option (AV × AH) := match v with
  | .agg l => if x.cells.length = n ∧ off + n ≤ l.length ∧ x.cells.all AV.one = true then some (.agg (setAll l off x.cells), h) else none
  | _ => none
theorem aop_lstore (n t off : Nat) (x : AE) (s : S) (h : AH) : aop (.lstore n t off x) s h = lstoreA n off (s t) (x.ev s) h := by simp only [aop, lstoreA]; cases s t <;> rfl
def lboxA (v : AV) (h : AH) : Option (AV × AH) := if v.cells.all AV.one then some (.agg v.cells, h) else none
theorem aop_lbox (x : AE) (s : S) (h : AH) : aop (.lbox x) s h = lboxA (x.ev s) h := by simp only [aop, lboxA]
def eqsA (neg : Bool) (ks : List Nat) (x y : AV) (h : AH) : Option (AV × AH) := match x, y with
  | .agg l, .agg m => match eqCells ks l m with
    | some b => some (.bool (bif neg then !b else b), h)
    | none => none
  | _, _ => none
theorem aop_eqs (neg : Bool) (ks : List Nat) (x y : AE) (s : S) (h : AH) : aop (.eqs neg ks x y) s h = eqsA neg ks (x.ev s) (y.ev s) h := by simp only [aop, eqsA]; cases x.ev s <;> cases y.ev s <;> rfl
def iaddrA (es : Nat) (v i : AV) (h : AH) : Option (AV × AH) := match v, i with
  | .sl b o e n _, .int _ i => if e = es ∧ 0 ≤ i ∧ i < n then some (.ptr b (o + i.toNat * es), h) else none
  | .fs _ l, .int _ i => if 0 ≤ i then match l[i.toNat]? with
    | some r => if r.length = es ∧ 0 < es then some (.fp r 0, h) else none
    | none => none
    else none
  | _, _ => none
theorem aop_iaddr (es : Nat) (x i : AE) (s : S) (h : AH) : aop (.iaddr es x i) s h = iaddrA es (x.ev s) (i.ev s) h := by simp only [aop, iaddrA]; cases x.ev s <;> cases i.ev s <;> rfl
def faddrA (off : Nat) (v : AV) (h : AH) : Option (AV × AH) := match v with | .ptr b o => some (.ptr b (o + off), h) | .fp c o => some (.fp c (o + off), h) | _ => none
theorem aop_faddr (off : Nat) (x : AE) (s : S) (h : AH) : aop (.faddr off x) s h = faddrA off (x.ev s) h := by simp only [aop, faddrA]; cases x.ev s <;> rfl
def loadA (agg : Bool) (n : Nat) (v : AV) (h : AH) : Option (AV × AH) := match rdA h v n with
  | some l => if agg then some (.agg l, h) else match l with
    | [x] => some (x, h)
    | _ => none
  | none => none
theorem aop_load (agg : Bool) (n : Nat) (a : AE) (s : S) (h : AH) : aop (.load agg n a) s h = loadA agg n (a.ev s) h := (rfl)
def storeA (n : Nat) (a x : AV) (h : AH) : Option (AV × AH) := match a with
  | .ptr b o => if x.cells.length = n then match h.write b o x.cells with
    | some h' => some (.tup [], h')
    | none => none
    else none
  | _ => none
theorem aop_store (n : Nat) (a x : AE) (s : S) (h : AH) : aop (.store n a x) s h = storeA n (a.ev s) (x.ev s) h := by simp only [aop, storeA]; cases a.ev s <;> rfl
def sliceA (es : Nat) (v : AV) (lo hi mx : Option AV) (h : AH) : Option (AV × AH) := match v with
  | .nils => match bound hi 0 0, bound lo 0 0, mx with
    | some 0, some 0, none => some (.nils, h)
    | _, _, _ => none
  | .sl b o e n cp =>
    if e ≠ es then none else
    match (match mx with | none => some cp | some m => (bound (some m) 0 n).map some) with
    | none => none
    | some m => match bound hi n (m.getD n) with
      | none => none
      | some j => if n < j then none else match bound lo 0 j with
        | none => none
        | some i => some (.sl b (o + i * es) es (j - i) (m.map (· - i)), h)
  | .fs c l =>
    match (match mx with | none => some c | some m => (bound (some m) 0 l.length).map some) with
    | none => none
    | some m => match bound hi l.length (m.getD l.length) with
      | none => none
      | some j => if l.length < j then none else match bound lo 0 j with
        | none => none
        | some i => if l.all (fun r => r.length == es) = true then some (.fs (m.map (· - i)) ((l.drop i).take (j - i)), h) else none
  | _ => none
theorem aop_slice (es : Nat) (x : AE) (lo hi mx : Option AE) (s : S) (h : AH) : aop (.slice es x lo hi mx) s h = sliceA es (x.ev s) (lo.map (AE.ev s)) (hi.map (AE.ev s)) (mx.map (AE.ev s)) h := by
  simp only [aop, sliceA]
  cases x.ev s with
  | nils => cases mx <;> simp only [Option.map] <;> generalize bound _ 0 0 = a <;> generalize bound _ 0 0 = b <;> first | rfl | (rcases a with _ | _ | _ <;> rcases b with _ | _ | _ <;> rfl)
  | sl b o e n cp => cases mx <;> rfl
  | fs c l => cases mx <;> rfl
  | _ => rfl
theorem aop_append (es bytes : Nat) (x y : AE) (s : S) (h : AH) : aop (.append es bytes x y) s h = appendA es bytes (x.ev s) (y.ev s) h := (rfl)
def appendSA (v y : AV) (h : AH) : Option (AV × AH) := match y with
  | .str t => appendA 1 1 v (.fs none (t.toList.map fun c => [.int .u8 c.toNat])) h
  | _ => none
theorem aop_appendS (x y : AE) (s : S) (h : AH) : aop (.appendS x y) s h = appendSA (x.ev s) (y.ev s) h := by simp only [aop, appendSA]; cases y.ev s <;> rfl
theorem appendSA_str (v : AV) (t : ByteArray) (h : AH) : appendSA v (.str t) h = appendA 1 1 v (.fs none (t.toList.map fun c => [.int .u8 c.toNat])) h := (rfl)
def appendFA (es bytes : Nat) (v y : AV) (h : AH) : Option (AV × AH) :=
  match v, y with
    | .nils, .nils => some (.fs none [], h)
    | .nils, .fs _ l => if l.length * bytes ≤ 2 ^ 47 ∧ l.length ≤ 2 ^ 47 ∧ l.all (fun r => r.length == es) = true then some (.fs none l, h) else none
    | .fs _ l, .nils => some (.fs none l, h)
    | .fs c l, .fs _ l' => if l'.length = 0 then some (.fs none l, h) else match c with
      | some k => if k < l.length + l'.length ∧ (l.length + l'.length) * bytes ≤ 2 ^ 47 ∧ l.length + l'.length ≤ 2 ^ 47 ∧ l.all (fun r => r.length == es) = true ∧ l'.all (fun r => r.length == es) = true then some (.fs none (l ++ l'), h) else none
      | none => none
    | _, _ => none
theorem aop_appendF (es bytes : Nat) (x y : AE) (s : S) (h : AH) : aop (.appendF es bytes x y) s h = appendFA es bytes (x.ev s) (y.ev s) h := by
  simp only [aop, appendFA]
  generalize x.ev s = a
  generalize y.ev s = b
  cases a <;> cases b <;> rfl
def mxA (big : Bool) (v : AV) (ys : List AV) (h : AH) : Option (AV × AH) := match v with
  | .int k a => (ys.foldl (fun (acc : Option Int) y => match acc, y with
      | some a, .int _ b => some (if big then (if b > a then b else a) else (if b < a then b else a))
      | _, _ => none) (some a)).map fun n => (.int k n, h)
  | _ => none
theorem aop_mx (big : Bool) (x : AE) (ys : List AE) (s : S) (h : AH) : aop (.mx big x ys) s h = mxA big (x.ev s) (ys.map (AE.ev s)) h := by
  simp only [aop, mxA, List.foldl_map]; cases x.ev s <;> rfl
def extA (i : Nat) (v : AV) (h : AH) : Option (AV × AH) := match v with | .tup l => opt1 l[i]? h | _ => none
theorem aop_ext (x : AE) (i : Nat) (s : S) (h : AH) : aop (.ext x i) s h = extA i (x.ev s) h := by simp only [aop, extA, opt1]; cases x.ev s <;> rfl
def movsA (v : AV) (h : AH) : Option (AV × AH) := match v with | .str t => some (.str t, h) | _ => none
theorem aop_movs (x : AE) (s : S) (h : AH) : aop (.movs x) s h = movsA (x.ev s) h := by simp only [aop, movsA]; cases x.ev s <;> rfl
def eqbA (neg : Bool) (x y : AV) (h : AH) : Option (AV × AH) := match x, y with
  | .bool a, .bool b => some (.bool (bif neg then !(a == b) else a == b), h)
  | _, _ => none
theorem aop_eqb (neg : Bool) (x y : AE) (s : S) (h : AH) : aop (.eqb neg x y) s h = eqbA neg (x.ev s) (y.ev s) h := by simp only [aop, eqbA]; cases x.ev s <;> cases y.ev s <;> rfl
def eqnilA (kd : Nat) (neg : Bool) (x y : AV) (h : AH) : Option (AV × AH) := match isNil kd x, isNil kd y with
  | some a, some b => if a || b then some (.bool (bif neg then !(a && b) else a && b), h) else none
  | _, _ => none
theorem aop_eqnil (kd : Nat) (neg : Bool) (x y : AE) (s : S) (h : AH) : aop (.eqnil kd neg x y) s h = eqnilA kd neg (x.ev s) (y.ev s) h := by simp only [aop, eqnilA]; cases isNil kd (x.ev s) <;> cases isNil kd (y.ev s) <;> rfl
/-- Is it nil?  An empty row may be. -/
def eqAmb : Nat → AV → AV → Bool
  | 0, .fs _ [], .nils => true
  | _, _, _ => false
def eqnilR (kd : Nat) (neg : Bool) (x y : AV) (h : AH) (Q : AV → AH → Prop) : Prop := match eqnilA kd neg x y h with
  | some (v, h') => Q v h'
  | none => eqAmb kd x y = true ∧ ∀ b : Bool, Q (.bool b) h
@[congr] theorem eqnilR_congr {kd : Nat} {neg : Bool} {x x' y y' : AV} {h h' : AH} {Q : AV → AH → Prop} (ex : tick x = x') (ey : y = y') (eh : h = h') : eqnilR kd neg x y h Q = eqnilR kd neg x' y' h' Q := by rw [← ex, ey, eh]; rfl
theorem eqAmb_eq (kd : Nat) (neg : Bool) (x y : AE) (s : S) : aamb (.eqnil kd neg x y) s = eqAmb kd (x.ev s) (y.ev s) := by
  cases kd with
  | zero =>
    unfold aamb eqAmb
    simp only
    generalize x.ev s = a
    generalize y.ev s = b
    split <;> split <;> first | rfl | simp_all
  | succ n => rfl
theorem astep_eqnil (C : AQ) (d : Option Nat) (g : Option (Nat × Bool)) (kd : Nat) (neg : Bool) (x y : AE) (Q : S → AH → Prop) (s : S) (h : AH) : astep C ⟨d, g, (.eqnil kd neg x y)⟩ Q s h = eqnilR kd neg (x.ev s) (y.ev s) h (fun v h' => Q (s.put d v) h') := by
  unfold eqnilR
  rw [← aop_eqnil, ← eqAmb_eq kd neg]
  rfl
theorem eqnilR_ok {kd : Nat} {neg : Bool} {x y : AV} {h : AH} {Q : AV → AH → Prop} (p q : Bool) (hp : isNil kd x = some p) (hq : isNil kd y = some q) (hpq : (p || q) = true) : eqnilR kd neg x y h Q = Q (.bool (bif neg then !(p && q) else p && q)) h := by
  unfold eqnilR eqnilA
  rw [hp, hq]
  simp only [hpq, if_true]
theorem eqnilR_nils (neg : Bool) (h : AH) (Q : AV → AH → Prop) : eqnilR 0 neg .nils .nils h Q = Q (.bool (!neg)) h := by rw [eqnilR_ok true true rfl rfl rfl]; cases neg <;> rfl
theorem eqnilR_sl (neg : Bool) (b o e n : Nat) (c : Option Nat) (h : AH) (Q : AV → AH → Prop) : eqnilR 0 neg (.sl b o e n c) .nils h Q = Q (.bool neg) h := by rw [eqnilR_ok false true rfl rfl rfl]; cases neg <;> rfl
theorem eqnilR_fs (neg : Bool) (c : Option Nat) (r : List AV) (l : List (List AV)) (h : AH) (Q : AV → AH → Prop) : eqnilR 0 neg (.fs c (r :: l)) .nils h Q = Q (.bool neg) h := by rw [eqnilR_ok false true rfl rfl rfl]; cases neg <;> rfl
theorem eqnilR_amb (neg : Bool) (c : Option Nat) (h : AH) (Q : AV → AH → Prop) : eqnilR 0 neg (.fs c []) .nils h Q = ∀ b : Bool, Q (.bool b) h := by unfold eqnilR; simp [eqnilA, isNil, eqAmb]
theorem eqnilR_nilp (neg : Bool) (h : AH) (Q : AV → AH → Prop) : eqnilR 1 neg .nilp .nilp h Q = Q (.bool (!neg)) h := by rw [eqnilR_ok true true rfl rfl rfl]; cases neg <;> rfl
theorem eqnilR_ptr (neg : Bool) (b o : Nat) (h : AH) (Q : AV → AH → Prop) : eqnilR 1 neg (.ptr b o) .nilp h Q = Q (.bool neg) h := by rw [eqnilR_ok false true rfl rfl rfl]; cases neg <;> rfl
theorem eqnilR_fp (neg : Bool) (c : List AV) (o : Nat) (h : AH) (Q : AV → AH → Prop) : eqnilR 1 neg (.fp c o) .nilp h Q = Q (.bool neg) h := by rw [eqnilR_ok false true rfl rfl rfl]; cases neg <;> rfl
theorem eqnilR_nilm (neg : Bool) (h : AH) (Q : AV → AH → Prop) : eqnilR 2 neg .nilm .nilm h Q = Q (.bool (!neg)) h := by rw [eqnilR_ok true true rfl rfl rfl]; cases neg <;> rfl
theorem eqnilR_nilf (neg : Bool) (h : AH) (Q : AV → AH → Prop) : eqnilR 3 neg .nilf .nilf h Q = Q (.bool (!neg)) h := by rw [eqnilR_ok true true rfl rfl rfl]; cases neg <;> rfl
theorem eqnilR_fn (neg : Bool) (f : FuncId) (c : List AV) (h : AH) (Q : AV → AH → Prop) : eqnilR 3 neg (.fn f c) .nilf h Q = Q (.bool neg) h := by rw [eqnilR_ok false true rfl rfl rfl]; cases neg <;> rfl
def buildA (zero : List AV) (ps : List (Nat × Nat × AV)) (h : AH) : Option (AV × AH) := match fillB zero ps with | some cs => some (.agg cs, h) | none => none
theorem aop_build (zero : List AV) (parts : List (Nat × Nat × AE)) (s : S) (h : AH) : aop (.build zero parts) s h = buildA zero (parts.map fun (o, n, x) => (o, n, x.ev s)) h := by simp only [aop, buildA]; generalize fillB zero _ = a; cases a <;> rfl
def bsliceA (len es : Nat) (zero : List AV) (ps : List (Nat × AV)) (h : AH) : Option (AV × AH) := match fillA es (rep len zero) ps with
  | some cs => if cs.length = len * es ∧ cs.all AV.one = true then some (.sl h.next 0 es len (some len), h.new (.cells true cs)) else none
  | none => none
theorem aop_bslice (len es : Nat) (zero : List AV) (parts : List (Nat × AE)) (s : S) (h : AH) : aop (.bslice len es zero parts) s h = bsliceA len es zero (parts.map fun (i, x) => (i, x.ev s)) h := by simp only [aop, bsliceA]; generalize fillA es (rep len zero) _ = a; cases a <;> rfl
def msliceA (es bytes : Nat) (zero : List AV) (l c : AV) (h : AH) : Option (AV × AH) := match l, c with
  | .int _ l, .int _ c => if 0 ≤ l ∧ l = c ∧ bytes * l ≤ 2 ^ 47 ∧ l ≤ 2 ^ 47 ∧ zero.length = es ∧ zero.all AV.one = true then some (.sl h.next 0 es l.toNat (some l.toNat), h.new (.cells true (rep l.toNat zero))) else none
  | _, _ => none
theorem aop_mslice (es bytes : Nat) (zero : List AV) (l c : AE) (s : S) (h : AH) : aop (.mslice es bytes zero l c) s h = msliceA es bytes zero (l.ev s) (c.ev s) h := by simp only [aop, msliceA]; cases l.ev s <;> cases c.ev s <;> rfl
def b2sA (v : AV) (h : AH) : Option (AV × AH) := match srcA h 1 v with
  | some (_, l) => match bytesA l with
    | some bs => some (.str ⟨bs.toArray⟩, h)
    | none => none
  | none => none
theorem aop_b2s (x : AE) (s : S) (h : AH) : aop (.b2s x) s h = b2sA (x.ev s) h := (rfl)
def bsliceFA (len es : Nat) (zero : List AV) (ps : List (Nat × AV)) (h : AH) : Option (AV × AH) := match fillA es (rep len zero) ps with
  | some cs => if cs.length = len * es ∧ cs.all AV.one = true then match mapO nrm cs with
    | some l => some (.fs (some len) (chunk es len l), h)
    | none => none
    else none
  | none => none
theorem aop_bsliceF (len es : Nat) (zero : List AV) (parts : List (Nat × AE)) (s : S) (h : AH) : aop (.bsliceF len es zero parts) s h = bsliceFA len es zero (parts.map fun (i, x) => (i, x.ev s)) h := by simp only [aop, bsliceFA]; generalize fillA es (rep len zero) _ = a; cases a <;> rfl
def msliceFA (es bytes : Nat) (zero : List AV) (l c : AV) (h : AH) : Option (AV × AH) := match l, c with
  | .int _ l, .int _ c => if 0 ≤ l ∧ l = c ∧ bytes * l ≤ 2 ^ 47 ∧ l ≤ 2 ^ 47 ∧ zero.length = es ∧ zero.all AV.one = true then match mapO nrm zero with
    | some z => some (.fs (some l.toNat) (List.replicate l.toNat z), h)
    | none => none
    else none
  | _, _ => none
theorem aop_msliceF (es bytes : Nat) (zero : List AV) (l c : AE) (s : S) (h : AH) : aop (.msliceF es bytes zero l c) s h = msliceFA es bytes zero (l.ev s) (c.ev s) h := by simp only [aop, msliceFA]; cases l.ev s <;> cases c.ev s <;> rfl
def s2bFA (v : AV) (h : AH) : Option (AV × AH) := match v with
  | .str t => some (.fs none (t.toList.map fun c => [.int .u8 c.toNat]), h)
  | _ => none
theorem aop_s2bF (x : AE) (s : S) (h : AH) : aop (.s2bF x) s h = s2bFA (x.ev s) h := by simp only [aop, s2bFA]; cases x.ev s <;> rfl
def indexA (v i : AV) (h : AH) : Option (AV × AH) := match v, i with
  | .str t, .int _ i => if 0 ≤ i ∧ i < t.size then some (.int .u8 ((t.toList.getD i.toNat 0).toNat : Int), h) else none
  | _, _ => none
theorem aop_index (x i : AE) (s : S) (h : AH) : aop (.index x i) s h = indexA (x.ev s) (i.ev s) h := by simp only [aop, indexA]; cases x.ev s <;> cases i.ev s <;> rfl
def slstrA (v : AV) (lo hi : Option AV) (h : AH) : Option (AV × AH) := match v with
  | .str t => match bound hi t.size t.size with
    | none => none
    | some j => match bound lo 0 j with
      | none => none
      | some i => some (.str (t.extract i j), h)
  | _ => none
theorem aop_slstr (x : AE) (lo hi : Option AE) (s : S) (h : AH) : aop (.slstr x lo hi) s h = slstrA (x.ev s) (lo.map (AE.ev s)) (hi.map (AE.ev s)) h := by simp only [aop, slstrA]; cases x.ev s <;> rfl
theorem aop_mkfn (f : FuncId) (cap : List AE) (s : S) (h : AH) : aop (.mkfn f cap) s h = some (.fn f (cap.map (AE.ev s)), h) := (rfl)
def nchkA (v : AV) (h : AH) : Option (AV × AH) := match v with | .ptr b o => some (.ptr b o, h) | .fp c o => some (.fp c o, h) | _ => none
theorem aop_nchk (x : AE) (s : S) (h : AH) : aop (.nchk x) s h = nchkA (x.ev s) h := by simp only [aop, nchkA]; cases x.ev s <;> rfl
def boxA (v : AV) (h : AH) : Option (AV × AH) := if v.cells.all AV.one then some (.ptr h.next 0, h.new (.cells true v.cells)) else none
theorem aop_box (x : AE) (s : S) (h : AH) : aop (.box x) s h = boxA (x.ev s) h := by simp only [aop, boxA]
theorem aop_alloc (z : AV) (s : S) (h : AH) : aop (.alloc z) s h = boxA z h := by simp only [aop, boxA]
def s2bA (v : AV) (h : AH) : Option (AV × AH) := match v with
  | .str t => some (.sl h.next 0 1 t.size none, h.new (.cells true (t.toList.map fun c => .int .u8 c.toNat)))
  | _ => none
theorem aop_s2b (x : AE) (s : S) (h : AH) : aop (.s2b x) s h = s2bA (x.ev s) h := by simp only [aop, s2bA]; cases x.ev s <;> rfl
theorem aop_mkmap (s : S) (h : AH) : aop .mkmap s h = some (.mp h.next, h.new (.map [])) := (rfl)
def mgetA (kt : KT) (ok : Bool) (z m k : AV) (h : AH) : Option (AV × AH) := if k.hasKT kt then match m with
    | .nilm => some (if ok then .tup [z, .bool false] else z, h)
    | .mp b => match h.get b with
      | some (.map l) => match findA k l 0 with
        | some (some (_, v)) => some (if ok then .tup [v, .bool true] else v, h)
        | some none => some (if ok then .tup [z, .bool false] else z, h)
        | none => none
      | _ => none
    | _ => none
    else none
theorem aop_mget (kt : KT) (ok : Bool) (z : AV) (m k : AE) (s : S) (h : AH) : aop (.mget kt ok z m k) s h = mgetA kt ok z (m.ev s) (k.ev s) h := (rfl)
def msetA (kt : KT) (m k x : AV) (h : AH) : Option (AV × AH) := if k.hasKT kt && x.clo then match m with
    | .mp b => match h.get b with
      | some (.map l) => match findA k l 0 with
        | some (some (i, _)) => some (.tup [], h.upd b (some (.map (l.set i (k, x)))))
        | some none => some (.tup [], h.upd b (some (.map (l ++ [(k, x)]))))
        | none => none
      | _ => none
    | _ => none
    else none
theorem aop_mset (kt : KT) (m k x : AE) (s : S) (h : AH) : aop (.mset kt m k x) s h = msetA kt (m.ev s) (k.ev s) (x.ev s) h := (rfl)
def mlenA (x : AV) (h : AH) : Option (AV × AH) := match x with
    | .nilm => some (.int .i64 0, h)
    | .mp b => match h.get b with
      | some (.map l) => some (.int .i64 l.length, h)
      | _ => none
    | _ => none
theorem aop_mlen (x : AE) (s : S) (h : AH) : aop (.mlen x) s h = mlenA (x.ev s) h := (rfl)


theorem astep_bin (C : AQ) (d : Option Nat) (g : Option (Nat × Bool)) (op : BinOp) (x y : AE) (Q : S → AH → Prop) (s : S) (h : AH) : astep C ⟨d, g, (.bin op x y)⟩ Q s h = thenA (opt1 (bin op (x.ev s) (y.ev s)) h) (fun v h' => Q (s.put d v) h') := (astep_op C d g _ Q s h rfl).trans (congrArg (fun y => thenA y _) (aop_bin ..))
theorem fstep_bin (C : AQ) (d : Option Nat) (g : Option (Nat × Bool)) (op : BinOp) (x y : AE) (Q : S → AH → Prop) (s : S) (h : AH) : fstep C ⟨d, g, (.bin op x y)⟩ Q s h = thenX (opt1 (bin op (x.ev s) (y.ev s)) h) h (fun v => Q (s.put d v) h) := (fstep_op C d g _ Q s h rfl).trans (congrArg (fun y => thenX y h _) (aop_bin ..))
theorem astep_un (C : AQ) (d : Option Nat) (g : Option (Nat × Bool)) (op : UnOp) (x : AE) (Q : S → AH → Prop) (s : S) (h : AH) : astep C ⟨d, g, (.un op x)⟩ Q s h = thenA (opt1 (un op (x.ev s)) h) (fun v h' => Q (s.put d v) h') := (astep_op C d g _ Q s h rfl).trans (congrArg (fun y => thenA y _) (aop_un ..))
theorem fstep_un (C : AQ) (d : Option Nat) (g : Option (Nat × Bool)) (op : UnOp) (x : AE) (Q : S → AH → Prop) (s : S) (h : AH) : fstep C ⟨d, g, (.un op x)⟩ Q s h = thenX (opt1 (un op (x.ev s)) h) h (fun v => Q (s.put d v) h) := (fstep_op C d g _ Q s h rfl).trans (congrArg (fun y => thenX y h _) (aop_un ..))
theorem astep_mov (C : AQ) (d : Option Nat) (g : Option (Nat × Bool)) (x : AE) (Q : S → AH → Prop) (s : S) (h : AH) : astep C ⟨d, g, (.mov x)⟩ Q s h = thenA (some (x.ev s, h)) (fun v h' => Q (s.put d v) h') := (astep_op C d g _ Q s h rfl).trans (congrArg (fun y => thenA y _) (aop_mov ..))
theorem fstep_mov (C : AQ) (d : Option Nat) (g : Option (Nat × Bool)) (x : AE) (Q : S → AH → Prop) (s : S) (h : AH) : fstep C ⟨d, g, (.mov x)⟩ Q s h = thenX (some (x.ev s, h)) h (fun v => Q (s.put d v) h) := (fstep_op C d g _ Q s h rfl).trans (congrArg (fun y => thenX y h _) (aop_mov ..))
theorem astep_pick (C : AQ) (d : Option Nat) (g : Option (Nat × Bool)) (c a b : AE) (Q : S → AH → Prop) (s : S) (h : AH) : astep C ⟨d, g, (.pick c a b)⟩ Q s h = thenA (pickA (c.ev s) (a.ev s) (b.ev s) h) (fun v h' => Q (s.put d v) h') := (astep_op C d g _ Q s h rfl).trans (congrArg (fun y => thenA y _) (aop_pick ..))
theorem fstep_pick (C : AQ) (d : Option Nat) (g : Option (Nat × Bool)) (c a b : AE) (Q : S → AH → Prop) (s : S) (h : AH) : fstep C ⟨d, g, (.pick c a b)⟩ Q s h = thenX (pickA (c.ev s) (a.ev s) (b.ev s) h) h (fun v => Q (s.put d v) h) := (fstep_op C d g _ Q s h rfl).trans (congrArg (fun y => thenX y h _) (aop_pick ..))
theorem astep_len (C : AQ) (d : Option Nat) (g : Option (Nat × Bool)) (st : Bool) (x : AE) (Q : S → AH → Prop) (s : S) (h : AH) : astep C ⟨d, g, (.len st x)⟩ Q s h = thenA (lenA st (x.ev s) h) (fun v h' => Q (s.put d v) h') := (astep_op C d g _ Q s h rfl).trans (congrArg (fun y => thenA y _) (aop_len ..))
theorem fstep_len (C : AQ) (d : Option Nat) (g : Option (Nat × Bool)) (st : Bool) (x : AE) (Q : S → AH → Prop) (s : S) (h : AH) : fstep C ⟨d, g, (.len st x)⟩ Q s h = thenX (lenA st (x.ev s) h) h (fun v => Q (s.put d v) h) := (fstep_op C d g _ Q s h rfl).trans (congrArg (fun y => thenX y h _) (aop_len ..))
theorem astep_conv (C : AQ) (d : Option Nat) (g : Option (Nat × Bool)) (k : IntKind) (x : AE) (Q : S → AH → Prop) (s : S) (h : AH) : astep C ⟨d, g, (.conv k x)⟩ Q s h = thenA (convA k (x.ev s) h) (fun v h' => Q (s.put d v) h') := (astep_op C d g _ Q s h rfl).trans (congrArg (fun y => thenA y _) (aop_conv ..))
theorem fstep_conv (C : AQ) (d : Option Nat) (g : Option (Nat × Bool)) (k : IntKind) (x : AE) (Q : S → AH → Prop) (s : S) (h : AH) : fstep C ⟨d, g, (.conv k x)⟩ Q s h = thenX (convA k (x.ev s) h) h (fun v => Q (s.put d v) h) := (fstep_op C d g _ Q s h rfl).trans (congrArg (fun y => thenX y h _) (aop_conv ..))
theorem astep_laddr (C : AQ) (d : Option Nat) (g : Option (Nat × Bool)) (t : Nat) (Q : S → AH → Prop) (s : S) (h : AH) : astep C ⟨d, g, (.laddr t)⟩ Q s h = thenA (laddrA (s t) h) (fun v h' => Q (s.put d v) h') := (astep_op C d g _ Q s h rfl).trans (congrArg (fun y => thenA y _) (aop_laddr ..))
theorem fstep_laddr (C : AQ) (d : Option Nat) (g : Option (Nat × Bool)) (t : Nat) (Q : S → AH → Prop) (s : S) (h : AH) : fstep C ⟨d, g, (.laddr t)⟩ Q s h = thenX (laddrA (s t) h) h (fun v => Q (s.put d v) h) := (fstep_op C d g _ Q s h rfl).trans (congrArg (fun y => thenX y h _) (aop_laddr ..))
theorem astep_lload (C : AQ) (d : Option Nat) (g : Option (Nat × Bool)) (agg : Bool) (n t off : Nat) (Q : S → AH → Prop) (s : S) (h : AH) : astep C ⟨d, g, (.lload agg n t off)⟩ Q s h = thenA (lloadA agg n off (s t) h) (fun v h' => Q (s.put d v) h') := (astep_op C d g _ Q s h rfl).trans (congrArg (fun y => thenA y _) (aop_lload ..))
theorem fstep_lload (C : AQ) (d : Option Nat) (g : Option (Nat × Bool)) (agg : Bool) (n t off : Nat) (Q : S → AH → Prop) (s : S) (h : AH) : fstep C ⟨d, g, (.lload agg n t off)⟩ Q s h = thenX (lloadA agg n off (s t) h) h (fun v => Q (s.put d v) h) := (fstep_op C d g _ Q s h rfl).trans (congrArg (fun y => thenX y h _) (aop_lload ..))
theorem astep_lstore (C : AQ) (d : Option Nat) (g : Option (Nat × Bool)) (n t off : Nat) (x : AE) (Q : S → AH → Prop) (s : S) (h : AH) : astep C ⟨d, g, (.lstore n t off x)⟩ Q s h = thenA (lstoreA n off (s t) (x.ev s) h) (fun v h' => Q (s.put d v) h') := (astep_op C d g _ Q s h rfl).trans (congrArg (fun y => thenA y _) (aop_lstore ..))
theorem fstep_lstore (C : AQ) (d : Option Nat) (g : Option (Nat × Bool)) (n t off : Nat) (x : AE) (Q : S → AH → Prop) (s : S) (h : AH) : fstep C ⟨d, g, (.lstore n t off x)⟩ Q s h = thenX (lstoreA n off (s t) (x.ev s) h) h (fun v => Q (s.put d v) h) := (fstep_op C d g _ Q s h rfl).trans (congrArg (fun y => thenX y h _) (aop_lstore ..))
theorem astep_lbox (C : AQ) (d : Option Nat) (g : Option (Nat × Bool)) (x : AE) (Q : S → AH → Prop) (s : S) (h : AH) : astep C ⟨d, g, (.lbox x)⟩ Q s h = thenA (lboxA (x.ev s) h) (fun v h' => Q (s.put d v) h') := (astep_op C d g _ Q s h rfl).trans (congrArg (fun y => thenA y _) (aop_lbox ..))
theorem fstep_lbox (C : AQ) (d : Option Nat) (g : Option (Nat × Bool)) (x : AE) (Q : S → AH → Prop) (s : S) (h : AH) : fstep C ⟨d, g, (.lbox x)⟩ Q s h = thenX (lboxA (x.ev s) h) h (fun v => Q (s.put d v) h) := (fstep_op C d g _ Q s h rfl).trans (congrArg (fun y => thenX y h _) (aop_lbox ..))
theorem astep_eqs (C : AQ) (d : Option Nat) (g : Option (Nat × Bool)) (neg : Bool) (ks : List Nat) (x y : AE) (Q : S → AH → Prop) (s : S) (h : AH) : astep C ⟨d, g, (.eqs neg ks x y)⟩ Q s h = thenA (eqsA neg ks (x.ev s) (y.ev s) h) (fun v h' => Q (s.put d v) h') := (astep_op C d g _ Q s h rfl).trans (congrArg (fun y => thenA y _) (aop_eqs ..))
theorem fstep_eqs (C : AQ) (d : Option Nat) (g : Option (Nat × Bool)) (neg : Bool) (ks : List Nat) (x y : AE) (Q : S → AH → Prop) (s : S) (h : AH) : fstep C ⟨d, g, (.eqs neg ks x y)⟩ Q s h = thenX (eqsA neg ks (x.ev s) (y.ev s) h) h (fun v => Q (s.put d v) h) := (fstep_op C d g _ Q s h rfl).trans (congrArg (fun y => thenX y h _) (aop_eqs ..))
theorem astep_iaddr (C : AQ) (d : Option Nat) (g : Option (Nat × Bool)) (es : Nat) (x i : AE) (Q : S → AH → Prop) (s : S) (h : AH) : astep C ⟨d, g, (.iaddr es x i)⟩ Q s h = thenA (iaddrA es (x.ev s) (i.ev s) h) (fun v h' => Q (s.put d v) h') := (astep_op C d g _ Q s h rfl).trans (congrArg (fun y => thenA y _) (aop_iaddr ..))
theorem fstep_iaddr (C : AQ) (d : Option Nat) (g : Option (Nat × Bool)) (es : Nat) (x i : AE) (Q : S → AH → Prop) (s : S) (h : AH) : fstep C ⟨d, g, (.iaddr es x i)⟩ Q s h = thenX (iaddrA es (x.ev s) (i.ev s) h) h (fun v => Q (s.put d v) h) := (fstep_op C d g _ Q s h rfl).trans (congrArg (fun y => thenX y h _) (aop_iaddr ..))
theorem astep_faddr (C : AQ) (d : Option Nat) (g : Option (Nat × Bool)) (off : Nat) (x : AE) (Q : S → AH → Prop) (s : S) (h : AH) : astep C ⟨d, g, (.faddr off x)⟩ Q s h = thenA (faddrA off (x.ev s) h) (fun v h' => Q (s.put d v) h') := (astep_op C d g _ Q s h rfl).trans (congrArg (fun y => thenA y _) (aop_faddr ..))
theorem fstep_faddr (C : AQ) (d : Option Nat) (g : Option (Nat × Bool)) (off : Nat) (x : AE) (Q : S → AH → Prop) (s : S) (h : AH) : fstep C ⟨d, g, (.faddr off x)⟩ Q s h = thenX (faddrA off (x.ev s) h) h (fun v => Q (s.put d v) h) := (fstep_op C d g _ Q s h rfl).trans (congrArg (fun y => thenX y h _) (aop_faddr ..))
theorem astep_load (C : AQ) (d : Option Nat) (g : Option (Nat × Bool)) (agg : Bool) (n : Nat) (a : AE) (Q : S → AH → Prop) (s : S) (h : AH) : astep C ⟨d, g, (.load agg n a)⟩ Q s h = thenA (loadA agg n (a.ev s) h) (fun v h' => Q (s.put d v) h') := (astep_op C d g _ Q s h rfl).trans (congrArg (fun y => thenA y _) (aop_load ..))
theorem fstep_load (C : AQ) (d : Option Nat) (g : Option (Nat × Bool)) (agg : Bool) (n : Nat) (a : AE) (Q : S → AH → Prop) (s : S) (h : AH) : fstep C ⟨d, g, (.load agg n a)⟩ Q s h = thenX (loadA agg n (a.ev s) h) h (fun v => Q (s.put d v) h) := (fstep_op C d g _ Q s h rfl).trans (congrArg (fun y => thenX y h _) (aop_load ..))
theorem astep_store (C : AQ) (d : Option Nat) (g : Option (Nat × Bool)) (n : Nat) (a x : AE) (Q : S → AH → Prop) (s : S) (h : AH) : astep C ⟨d, g, (.store n a x)⟩ Q s h = thenA (storeA n (a.ev s) (x.ev s) h) (fun v h' => Q (s.put d v) h') := (astep_op C d g _ Q s h rfl).trans (congrArg (fun y => thenA y _) (aop_store ..))
theorem fstep_store (C : AQ) (d : Option Nat) (g : Option (Nat × Bool)) (n : Nat) (a x : AE) (Q : S → AH → Prop) (s : S) (h : AH) : fstep C ⟨d, g, (.store n a x)⟩ Q s h = thenX (storeA n (a.ev s) (x.ev s) h) h (fun v => Q (s.put d v) h) := (fstep_op C d g _ Q s h rfl).trans (congrArg (fun y => thenX y h _) (aop_store ..))
theorem astep_slice (C : AQ) (d : Option Nat) (g : Option (Nat × Bool)) (es : Nat) (x : AE) (lo hi mx : Option AE) (Q : S → AH → Prop) (s : S) (h : AH) : astep C ⟨d, g, (.slice es x lo hi mx)⟩ Q s h = thenA (sliceA es (x.ev s) (lo.map (AE.ev s)) (hi.map (AE.ev s)) (mx.map (AE.ev s)) h) (fun v h' => Q (s.put d v) h') := (astep_op C d g _ Q s h rfl).trans (congrArg (fun y => thenA y _) (aop_slice ..))
theorem fstep_slice (C : AQ) (d : Option Nat) (g : Option (Nat × Bool)) (es : Nat) (x : AE) (lo hi mx : Option AE) (Q : S → AH → Prop) (s : S) (h : AH) : fstep C ⟨d, g, (.slice es x lo hi mx)⟩ Q s h = thenX (sliceA es (x.ev s) (lo.map (AE.ev s)) (hi.map (AE.ev s)) (mx.map (AE.ev s)) h) h (fun v => Q (s.put d v) h) := (fstep_op C d g _ Q s h rfl).trans (congrArg (fun y => thenX y h _) (aop_slice ..))
theorem astep_append (C : AQ) (d : Option Nat) (g : Option (Nat × Bool)) (es bytes : Nat) (x y : AE) (Q : S → AH → Prop) (s : S) (h : AH) : astep C ⟨d, g, (.append es bytes x y)⟩ Q s h = thenA (appendA es bytes (x.ev s) (y.ev s) h) (fun v h' => Q (s.put d v) h') := (astep_op C d g _ Q s h rfl).trans (congrArg (fun y => thenA y _) (aop_append ..))
theorem fstep_append (C : AQ) (d : Option Nat) (g : Option (Nat × Bool)) (es bytes : Nat) (x y : AE) (Q : S → AH → Prop) (s : S) (h : AH) : fstep C ⟨d, g, (.append es bytes x y)⟩ Q s h = thenX (appendA es bytes (x.ev s) (y.ev s) h) h (fun v => Q (s.put d v) h) := (fstep_op C d g _ Q s h rfl).trans (congrArg (fun y => thenX y h _) (aop_append ..))
theorem astep_appendF (C : AQ) (d : Option Nat) (g : Option (Nat × Bool)) (es bytes : Nat) (x y : AE) (Q : S → AH → Prop) (s : S) (h : AH) : astep C ⟨d, g, (.appendF es bytes x y)⟩ Q s h = thenA (appendFA es bytes (x.ev s) (y.ev s) h) (fun v h' => Q (s.put d v) h') := (astep_op C d g _ Q s h rfl).trans (congrArg (fun y => thenA y _) (aop_appendF ..))
theorem fstep_appendF (C : AQ) (d : Option Nat) (g : Option (Nat × Bool)) (es bytes : Nat) (x y : AE) (Q : S → AH → Prop) (s : S) (h : AH) : fstep C ⟨d, g, (.appendF es bytes x y)⟩ Q s h = thenX (appendFA es bytes (x.ev s) (y.ev s) h) h (fun v => Q (s.put d v) h) := (fstep_op C d g _ Q s h rfl).trans (congrArg (fun y => thenX y h _) (aop_appendF ..))
theorem astep_mx (C : AQ) (d : Option Nat) (g : Option (Nat × Bool)) (big : Bool) (x : AE) (ys : List AE) (Q : S → AH → Prop) (s : S) (h : AH) : astep C ⟨d, g, (.mx big x ys)⟩ Q s h = thenA (mxA big (x.ev s) (ys.map (AE.ev s)) h) (fun v h' => Q (s.put d v) h') := (astep_op C d g _ Q s h rfl).trans (congrArg (fun y => thenA y _) (aop_mx ..))
theorem fstep_mx (C : AQ) (d : Option Nat) (g : Option (Nat × Bool)) (big : Bool) (x : AE) (ys : List AE) (Q : S → AH → Prop) (s : S) (h : AH) : fstep C ⟨d, g, (.mx big x ys)⟩ Q s h = thenX (mxA big (x.ev s) (ys.map (AE.ev s)) h) h (fun v => Q (s.put d v) h) := (fstep_op C d g _ Q s h rfl).trans (congrArg (fun y => thenX y h _) (aop_mx ..))
theorem astep_ext (C : AQ) (d : Option Nat) (g : Option (Nat × Bool)) (x : AE) (i : Nat) (Q : S → AH → Prop) (s : S) (h : AH) : astep C ⟨d, g, (.ext x i)⟩ Q s h = thenA (extA i (x.ev s) h) (fun v h' => Q (s.put d v) h') := (astep_op C d g _ Q s h rfl).trans (congrArg (fun y => thenA y _) (aop_ext ..))
theorem fstep_ext (C : AQ) (d : Option Nat) (g : Option (Nat × Bool)) (x : AE) (i : Nat) (Q : S → AH → Prop) (s : S) (h : AH) : fstep C ⟨d, g, (.ext x i)⟩ Q s h = thenX (extA i (x.ev s) h) h (fun v => Q (s.put d v) h) := (fstep_op C d g _ Q s h rfl).trans (congrArg (fun y => thenX y h _) (aop_ext ..))
theorem astep_movs (C : AQ) (d : Option Nat) (g : Option (Nat × Bool)) (x : AE) (Q : S → AH → Prop) (s : S) (h : AH) : astep C ⟨d, g, (.movs x)⟩ Q s h = thenA (movsA (x.ev s) h) (fun v h' => Q (s.put d v) h') := (astep_op C d g _ Q s h rfl).trans (congrArg (fun y => thenA y _) (aop_movs ..))
theorem fstep_movs (C : AQ) (d : Option Nat) (g : Option (Nat × Bool)) (x : AE) (Q : S → AH → Prop) (s : S) (h : AH) : fstep C ⟨d, g, (.movs x)⟩ Q s h = thenX (movsA (x.ev s) h) h (fun v => Q (s.put d v) h) := (fstep_op C d g _ Q s h rfl).trans (congrArg (fun y => thenX y h _) (aop_movs ..))
theorem astep_eqb (C : AQ) (d : Option Nat) (g : Option (Nat × Bool)) (neg : Bool) (x y : AE) (Q : S → AH → Prop) (s : S) (h : AH) : astep C ⟨d, g, (.eqb neg x y)⟩ Q s h = thenA (eqbA neg (x.ev s) (y.ev s) h) (fun v h' => Q (s.put d v) h') := (astep_op C d g _ Q s h rfl).trans (congrArg (fun y => thenA y _) (aop_eqb ..))
theorem fstep_eqb (C : AQ) (d : Option Nat) (g : Option (Nat × Bool)) (neg : Bool) (x y : AE) (Q : S → AH → Prop) (s : S) (h : AH) : fstep C ⟨d, g, (.eqb neg x y)⟩ Q s h = thenX (eqbA neg (x.ev s) (y.ev s) h) h (fun v => Q (s.put d v) h) := (fstep_op C d g _ Q s h rfl).trans (congrArg (fun y => thenX y h _) (aop_eqb ..))
theorem fstep_eqnil (C : AQ) (d : Option Nat) (g : Option (Nat × Bool)) (kd : Nat) (neg : Bool) (x y : AE) (Q : S → AH → Prop) (s : S) (h : AH) : fstep C ⟨d, g, (.eqnil kd neg x y)⟩ Q s h = thenX (eqnilA kd neg (x.ev s) (y.ev s) h) h (fun v => Q (s.put d v) h) := (fstep_op C d g _ Q s h rfl).trans (congrArg (fun y => thenX y h _) (aop_eqnil ..))
theorem astep_build (C : AQ) (d : Option Nat) (g : Option (Nat × Bool)) (zero : List AV) (parts : List (Nat × Nat × AE)) (Q : S → AH → Prop) (s : S) (h : AH) : astep C ⟨d, g, (.build zero parts)⟩ Q s h = thenA (buildA zero (parts.map fun (o, n, x) => (o, n, x.ev s)) h) (fun v h' => Q (s.put d v) h') := (astep_op C d g _ Q s h rfl).trans (congrArg (fun y => thenA y _) (aop_build ..))
theorem fstep_build (C : AQ) (d : Option Nat) (g : Option (Nat × Bool)) (zero : List AV) (parts : List (Nat × Nat × AE)) (Q : S → AH → Prop) (s : S) (h : AH) : fstep C ⟨d, g, (.build zero parts)⟩ Q s h = thenX (buildA zero (parts.map fun (o, n, x) => (o, n, x.ev s)) h) h (fun v => Q (s.put d v) h) := (fstep_op C d g _ Q s h rfl).trans (congrArg (fun y => thenX y h _) (aop_build ..))
theorem astep_bslice (C : AQ) (d : Option Nat) (g : Option (Nat × Bool)) (len es : Nat) (zero : List AV) (parts : List (Nat × AE)) (Q : S → AH → Prop) (s : S) (h : AH) : astep C ⟨d, g, (.bslice len es zero parts)⟩ Q s h = thenA (bsliceA len es zero (parts.map fun (i, x) => (i, x.ev s)) h) (fun v h' => Q (s.put d v) h') := (astep_op C d g _ Q s h rfl).trans (congrArg (fun y => thenA y _) (aop_bslice ..))
theorem fstep_bslice (C : AQ) (d : Option Nat) (g : Option (Nat × Bool)) (len es : Nat) (zero : List AV) (parts : List (Nat × AE)) (Q : S → AH → Prop) (s : S) (h : AH) : fstep C ⟨d, g, (.bslice len es zero parts)⟩ Q s h = thenX (bsliceA len es zero (parts.map fun (i, x) => (i, x.ev s)) h) h (fun v => Q (s.put d v) h) := (fstep_op C d g _ Q s h rfl).trans (congrArg (fun y => thenX y h _) (aop_bslice ..))
theorem astep_bsliceF (C : AQ) (d : Option Nat) (g : Option (Nat × Bool)) (len es : Nat) (zero : List AV) (parts : List (Nat × AE)) (Q : S → AH → Prop) (s : S) (h : AH) : astep C ⟨d, g, (.bsliceF len es zero parts)⟩ Q s h = thenA (bsliceFA len es zero (parts.map fun (i, x) => (i, x.ev s)) h) (fun v h' => Q (s.put d v) h') := (astep_op C d g _ Q s h rfl).trans (congrArg (fun y => thenA y _) (aop_bsliceF ..))
theorem fstep_bsliceF (C : AQ) (d : Option Nat) (g : Option (Nat × Bool)) (len es : Nat) (zero : List AV) (parts : List (Nat × AE)) (Q : S → AH → Prop) (s : S) (h : AH) : fstep C ⟨d, g, (.bsliceF len es zero parts)⟩ Q s h = thenX (bsliceFA len es zero (parts.map fun (i, x) => (i, x.ev s)) h) h (fun v => Q (s.put d v) h) := (fstep_op C d g _ Q s h rfl).trans (congrArg (fun y => thenX y h _) (aop_bsliceF ..))
theorem astep_mslice (C : AQ) (d : Option Nat) (g : Option (Nat × Bool)) (es bytes : Nat) (zero : List AV) (l c : AE) (Q : S → AH → Prop) (s : S) (h : AH) : astep C ⟨d, g, (.mslice es bytes zero l c)⟩ Q s h = thenA (msliceA es bytes zero (l.ev s) (c.ev s) h) (fun v h' => Q (s.put d v) h') := (astep_op C d g _ Q s h rfl).trans (congrArg (fun y => thenA y _) (aop_mslice ..))
theorem fstep_mslice (C : AQ) (d : Option Nat) (g : Option (Nat × Bool)) (es bytes : Nat) (zero : List AV) (l c : AE) (Q : S → AH → Prop) (s : S) (h : AH) : fstep C ⟨d, g, (.mslice es bytes zero l c)⟩ Q s h = thenX (msliceA es bytes zero (l.ev s) (c.ev s) h) h (fun v => Q (s.put d v) h) := (fstep_op C d g _ Q s h rfl).trans (congrArg (fun y => thenX y h _) (aop_mslice ..))
theorem astep_msliceF (C : AQ) (d : Option Nat) (g : Option (Nat × Bool)) (es bytes : Nat) (zero : List AV) (l c : AE) (Q : S → AH → Prop) (s : S) (h : AH) : astep C ⟨d, g, (.msliceF es bytes zero l c)⟩ Q s h = thenA (msliceFA es bytes zero (l.ev s) (c.ev s) h) (fun v h' => Q (s.put d v) h') := (astep_op C d g _ Q s h rfl).trans (congrArg (fun y => thenA y _) (aop_msliceF ..))
theorem fstep_msliceF (C : AQ) (d : Option Nat) (g : Option (Nat × Bool)) (es bytes : Nat) (zero : List AV) (l c : AE) (Q : S → AH → Prop) (s : S) (h : AH) : fstep C ⟨d, g, (.msliceF es bytes zero l c)⟩ Q s h = thenX (msliceFA es bytes zero (l.ev s) (c.ev s) h) h (fun v => Q (s.put d v) h) := (fstep_op C d g _ Q s h rfl).trans (congrArg (fun y => thenX y h _) (aop_msliceF ..))
theorem astep_b2s (C : AQ) (d : Option Nat) (g : Option (Nat × Bool)) (x : AE) (Q : S → AH → Prop) (s : S) (h : AH) : astep C ⟨d, g, (.b2s x)⟩ Q s h = thenA (b2sA (x.ev s) h) (fun v h' => Q (s.put d v) h') := (astep_op C d g _ Q s h rfl).trans (congrArg (fun y => thenA y _) (aop_b2s ..))
theorem fstep_b2s (C : AQ) (d : Option Nat) (g : Option (Nat × Bool)) (x : AE) (Q : S → AH → Prop) (s : S) (h : AH) : fstep C ⟨d, g, (.b2s x)⟩ Q s h = thenX (b2sA (x.ev s) h) h (fun v => Q (s.put d v) h) := (fstep_op C d g _ Q s h rfl).trans (congrArg (fun y => thenX y h _) (aop_b2s ..))
theorem astep_index (C : AQ) (d : Option Nat) (g : Option (Nat × Bool)) (x i : AE) (Q : S → AH → Prop) (s : S) (h : AH) : astep C ⟨d, g, (.index x i)⟩ Q s h = thenA (indexA (x.ev s) (i.ev s) h) (fun v h' => Q (s.put d v) h') := (astep_op C d g _ Q s h rfl).trans (congrArg (fun y => thenA y _) (aop_index ..))
theorem fstep_index (C : AQ) (d : Option Nat) (g : Option (Nat × Bool)) (x i : AE) (Q : S → AH → Prop) (s : S) (h : AH) : fstep C ⟨d, g, (.index x i)⟩ Q s h = thenX (indexA (x.ev s) (i.ev s) h) h (fun v => Q (s.put d v) h) := (fstep_op C d g _ Q s h rfl).trans (congrArg (fun y => thenX y h _) (aop_index ..))
theorem astep_slstr (C : AQ) (d : Option Nat) (g : Option (Nat × Bool)) (x : AE) (lo hi : Option AE) (Q : S → AH → Prop) (s : S) (h : AH) : astep C ⟨d, g, (.slstr x lo hi)⟩ Q s h = thenA (slstrA (x.ev s) (lo.map (AE.ev s)) (hi.map (AE.ev s)) h) (fun v h' => Q (s.put d v) h') := (astep_op C d g _ Q s h rfl).trans (congrArg (fun y => thenA y _) (aop_slstr ..))
theorem fstep_slstr (C : AQ) (d : Option Nat) (g : Option (Nat × Bool)) (x : AE) (lo hi : Option AE) (Q : S → AH → Prop) (s : S) (h : AH) : fstep C ⟨d, g, (.slstr x lo hi)⟩ Q s h = thenX (slstrA (x.ev s) (lo.map (AE.ev s)) (hi.map (AE.ev s)) h) h (fun v => Q (s.put d v) h) := (fstep_op C d g _ Q s h rfl).trans (congrArg (fun y => thenX y h _) (aop_slstr ..))
theorem astep_mkfn (C : AQ) (d : Option Nat) (g : Option (Nat × Bool)) (f : FuncId) (cap : List AE) (Q : S → AH → Prop) (s : S) (h : AH) : astep C ⟨d, g, (.mkfn f cap)⟩ Q s h = thenA (some (.fn f (cap.map (AE.ev s)), h)) (fun v h' => Q (s.put d v) h') := (astep_op C d g _ Q s h rfl).trans (congrArg (fun y => thenA y _) (aop_mkfn ..))
theorem fstep_mkfn (C : AQ) (d : Option Nat) (g : Option (Nat × Bool)) (f : FuncId) (cap : List AE) (Q : S → AH → Prop) (s : S) (h : AH) : fstep C ⟨d, g, (.mkfn f cap)⟩ Q s h = thenX (some (.fn f (cap.map (AE.ev s)), h)) h (fun v => Q (s.put d v) h) := (fstep_op C d g _ Q s h rfl).trans (congrArg (fun y => thenX y h _) (aop_mkfn ..))
theorem astep_nchk (C : AQ) (d : Option Nat) (g : Option (Nat × Bool)) (x : AE) (Q : S → AH → Prop) (s : S) (h : AH) : astep C ⟨d, g, (.nchk x)⟩ Q s h = thenA (nchkA (x.ev s) h) (fun v h' => Q (s.put d v) h') := (astep_op C d g _ Q s h rfl).trans (congrArg (fun y => thenA y _) (aop_nchk ..))
theorem fstep_nchk (C : AQ) (d : Option Nat) (g : Option (Nat × Bool)) (x : AE) (Q : S → AH → Prop) (s : S) (h : AH) : fstep C ⟨d, g, (.nchk x)⟩ Q s h = thenX (nchkA (x.ev s) h) h (fun v => Q (s.put d v) h) := (fstep_op C d g _ Q s h rfl).trans (congrArg (fun y => thenX y h _) (aop_nchk ..))
theorem astep_box (C : AQ) (d : Option Nat) (g : Option (Nat × Bool)) (x : AE) (Q : S → AH → Prop) (s : S) (h : AH) : astep C ⟨d, g, (.box x)⟩ Q s h = thenA (boxA (x.ev s) h) (fun v h' => Q (s.put d v) h') := (astep_op C d g _ Q s h rfl).trans (congrArg (fun y => thenA y _) (aop_box ..))
theorem fstep_box (C : AQ) (d : Option Nat) (g : Option (Nat × Bool)) (x : AE) (Q : S → AH → Prop) (s : S) (h : AH) : fstep C ⟨d, g, (.box x)⟩ Q s h = thenX (boxA (x.ev s) h) h (fun v => Q (s.put d v) h) := (fstep_op C d g _ Q s h rfl).trans (congrArg (fun y => thenX y h _) (aop_box ..))
theorem astep_alloc (C : AQ) (d : Option Nat) (g : Option (Nat × Bool)) (z : AV) (Q : S → AH → Prop) (s : S) (h : AH) : astep C ⟨d, g, (.alloc z)⟩ Q s h = thenA (boxA z h) (fun v h' => Q (s.put d v) h') := (astep_op C d g _ Q s h rfl).trans (congrArg (fun y => thenA y _) (aop_alloc ..))
theorem fstep_alloc (C : AQ) (d : Option Nat) (g : Option (Nat × Bool)) (z : AV) (Q : S → AH → Prop) (s : S) (h : AH) : fstep C ⟨d, g, (.alloc z)⟩ Q s h = thenX (boxA z h) h (fun v => Q (s.put d v) h) := (fstep_op C d g _ Q s h rfl).trans (congrArg (fun y => thenX y h _) (aop_alloc ..))
theorem astep_s2b (C : AQ) (d : Option Nat) (g : Option (Nat × Bool)) (x : AE) (Q : S → AH → Prop) (s : S) (h : AH) : astep C ⟨d, g, (.s2b x)⟩ Q s h = thenA (s2bA (x.ev s) h) (fun v h' => Q (s.put d v) h') := (astep_op C d g _ Q s h rfl).trans (congrArg (fun y => thenA y _) (aop_s2b ..))
theorem fstep_s2b (C : AQ) (d : Option Nat) (g : Option (Nat × Bool)) (x : AE) (Q : S → AH → Prop) (s : S) (h : AH) : fstep C ⟨d, g, (.s2b x)⟩ Q s h = thenX (s2bA (x.ev s) h) h (fun v => Q (s.put d v) h) := (fstep_op C d g _ Q s h rfl).trans (congrArg (fun y => thenX y h _) (aop_s2b ..))
theorem astep_s2bF (C : AQ) (d : Option Nat) (g : Option (Nat × Bool)) (x : AE) (Q : S → AH → Prop) (s : S) (h : AH) : astep C ⟨d, g, (.s2bF x)⟩ Q s h = thenA (s2bFA (x.ev s) h) (fun v h' => Q (s.put d v) h') := (astep_op C d g _ Q s h rfl).trans (congrArg (fun y => thenA y _) (aop_s2bF ..))
theorem fstep_s2bF (C : AQ) (d : Option Nat) (g : Option (Nat × Bool)) (x : AE) (Q : S → AH → Prop) (s : S) (h : AH) : fstep C ⟨d, g, (.s2bF x)⟩ Q s h = thenX (s2bFA (x.ev s) h) h (fun v => Q (s.put d v) h) := (fstep_op C d g _ Q s h rfl).trans (congrArg (fun y => thenX y h _) (aop_s2bF ..))
theorem astep_appendS (C : AQ) (d : Option Nat) (g : Option (Nat × Bool)) (x y : AE) (Q : S → AH → Prop) (s : S) (h : AH) : astep C ⟨d, g, (.appendS x y)⟩ Q s h = thenA (appendSA (x.ev s) (y.ev s) h) (fun v h' => Q (s.put d v) h') := (astep_op C d g _ Q s h rfl).trans (congrArg (fun y => thenA y _) (aop_appendS ..))
theorem fstep_appendS (C : AQ) (d : Option Nat) (g : Option (Nat × Bool)) (x y : AE) (Q : S → AH → Prop) (s : S) (h : AH) : fstep C ⟨d, g, (.appendS x y)⟩ Q s h = thenX (appendSA (x.ev s) (y.ev s) h) h (fun v => Q (s.put d v) h) := (fstep_op C d g _ Q s h rfl).trans (congrArg (fun y => thenX y h _) (aop_appendS ..))
theorem astep_mkmap (C : AQ) (d : Option Nat) (g : Option (Nat × Bool))  (Q : S → AH → Prop) (s : S) (h : AH) : astep C ⟨d, g, (.mkmap )⟩ Q s h = thenA (some (.mp h.next, h.new (.map []))) (fun v h' => Q (s.put d v) h') := (astep_op C d g _ Q s h rfl).trans (congrArg (fun y => thenA y _) (aop_mkmap ..))
theorem fstep_mkmap (C : AQ) (d : Option Nat) (g : Option (Nat × Bool))  (Q : S → AH → Prop) (s : S) (h : AH) : fstep C ⟨d, g, (.mkmap )⟩ Q s h = thenX (some (.mp h.next, h.new (.map []))) h (fun v => Q (s.put d v) h) := (fstep_op C d g _ Q s h rfl).trans (congrArg (fun y => thenX y h _) (aop_mkmap ..))
theorem astep_mget (C : AQ) (d : Option Nat) (g : Option (Nat × Bool)) (kt : KT) (ok : Bool) (zero : AV) (m k : AE) (Q : S → AH → Prop) (s : S) (h : AH) : astep C ⟨d, g, (.mget kt ok zero m k)⟩ Q s h = thenA (mgetA kt ok zero (m.ev s) (k.ev s) h) (fun v h' => Q (s.put d v) h') := (astep_op C d g _ Q s h rfl).trans (congrArg (fun y => thenA y _) (aop_mget ..))
theorem fstep_mget (C : AQ) (d : Option Nat) (g : Option (Nat × Bool)) (kt : KT) (ok : Bool) (zero : AV) (m k : AE) (Q : S → AH → Prop) (s : S) (h : AH) : fstep C ⟨d, g, (.mget kt ok zero m k)⟩ Q s h = thenX (mgetA kt ok zero (m.ev s) (k.ev s) h) h (fun v => Q (s.put d v) h) := (fstep_op C d g _ Q s h rfl).trans (congrArg (fun y => thenX y h _) (aop_mget ..))
theorem astep_mset (C : AQ) (d : Option Nat) (g : Option (Nat × Bool)) (kt : KT) (m k x : AE) (Q : S → AH → Prop) (s : S) (h : AH) : astep C ⟨d, g, (.mset kt m k x)⟩ Q s h = thenA (msetA kt (m.ev s) (k.ev s) (x.ev s) h) (fun v h' => Q (s.put d v) h') := (astep_op C d g _ Q s h rfl).trans (congrArg (fun y => thenA y _) (aop_mset ..))
theorem fstep_mset (C : AQ) (d : Option Nat) (g : Option (Nat × Bool)) (kt : KT) (m k x : AE) (Q : S → AH → Prop) (s : S) (h : AH) : fstep C ⟨d, g, (.mset kt m k x)⟩ Q s h = thenX (msetA kt (m.ev s) (k.ev s) (x.ev s) h) h (fun v => Q (s.put d v) h) := (fstep_op C d g _ Q s h rfl).trans (congrArg (fun y => thenX y h _) (aop_mset ..))
theorem astep_mlen (C : AQ) (d : Option Nat) (g : Option (Nat × Bool)) (x : AE) (Q : S → AH → Prop) (s : S) (h : AH) : astep C ⟨d, g, (.mlen x)⟩ Q s h = thenA (mlenA (x.ev s) h) (fun v h' => Q (s.put d v) h') := (astep_op C d g _ Q s h rfl).trans (congrArg (fun y => thenA y _) (aop_mlen ..))
theorem fstep_mlen (C : AQ) (d : Option Nat) (g : Option (Nat × Bool)) (x : AE) (Q : S → AH → Prop) (s : S) (h : AH) : fstep C ⟨d, g, (.mlen x)⟩ Q s h = thenX (mlenA (x.ev s) h) h (fun v => Q (s.put d v) h) := (fstep_op C d g _ Q s h rfl).trans (congrArg (fun y => thenX y h _) (aop_mlen ..))
def endR (rs : List AR) (R : AV → AH → Prop) : AX → S → AH → Prop := fun e s h' => match e with
      | .exit _ => False
      | _ => match aresult s h' rs with
        | some v => R v h'
        | none => False
theorem abody_eq (C : AQ) (bx : List Nat) (np : Nat) (rs : List AR) (c : AC) (args : List AV) (h : AH) (R : AV → AH → Prop) :
    abody C ⟨bx, np, rs, c⟩ args h R = (args.length = np ∧ awp C c (endR rs R) (S.init bx args) h) := (rfl)
theorem endR_normal (rs : List AR) (R : AV → AH → Prop) (s : S) (h : AH) : endR rs R .normal s h = (match aresult s h rs with | some v => R v h | none => False) := (rfl)
theorem endR_ret (rs : List AR) (R : AV → AH → Prop) (s : S) (h : AH) : endR rs R .ret s h = (match aresult s h rs with | some v => R v h | none => False) := (rfl)
theorem init_cons (bx : List Nat) (args : List AV) (k : Nat) : S.init bx args k = match args[k]? with | some v => v | none => if bx.contains k then .any else .tup [] := (rfl)
theorem ev_t (s : S) (n : Nat) : (AE.t n).ev s = s n := (rfl)
theorem ev_c (s : S) (v : AV) : (AE.c v).ev s = v := (rfl)

end Go.Bm
