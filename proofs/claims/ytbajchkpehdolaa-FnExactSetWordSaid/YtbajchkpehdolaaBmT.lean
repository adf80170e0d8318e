/- Helpers of the laws over slices: one proof for each shape. -/
import Derived.Test.YtbajchkpehdolaaBmM
namespace Go.Bm
set_option linter.all false
open Go Go.RowKit
set_option linter.unusedVariables false
set_option linter.unusedSimpArgs false

section
variable {ap : FuncId → Option AFunc}
theorem ca_mono {ap : FuncId → Option AFunc} : (ACalls ap noE).Mono := acalls_mono noE_mono
/-- A body that answers one thing tells what a call of it is. -/
theorem call_pure {f : FuncId} {af : AFunc} (hf : ap f = some af) {args : List AV} {h : AH} {v : AV} {R : AV → AH → Prop} (hb : abody (ACalls ap noE) af args h (fun v' h' => v' = v ∧ h' = h)) : ACalls ap noE f args h R ↔ R v h := acalls_det (acall noE_mono hf hb)
/-- And of one whose answer is frozen. -/
theorem call_frz {f : FuncId} {af : AFunc} (hf : ap f = some af) {args : List AV} {h : AH} {v : AV} {R : AV → AH → Prop} (hb : abody (ACalls ap noE) af args h (fun v' h' => h.le h' ∧ frzV h.next h' DF v' = some v)) : acallM (ACalls ap noE) .frz f args h R ↔ R v h :=
  acallM_det (m := .frz) (show acallM (ACalls ap noE) .frz f args h (fun v' h' => v' = v ∧ h' = h) from acall noE_mono hf (abody_mono ca_mono (fun v' h' ⟨a, b⟩ => ⟨a, v, b, rfl, rfl⟩) hb))
end

/-! ### sizes -/
/-- What is left of a budget; -1 where it is not enough. -/
def szr (left : Int) (w : Nat) : Int := if (w : Int) ≤ left then left - w else -1
theorem szr_neg {left : Int} {w : Nat} : szr left w < 0 ↔ left < w := by unfold szr; split <;> omega
theorem szr_nonneg {left : Int} {w : Nat} (h : (w : Int) ≤ left) : szr left w = left - w := if_pos h
theorem szr_lt {left : Int} {w : Nat} (h : left < w) : szr left w = -1 := if_neg (by omega)
theorem szr_szr {left : Int} {w u : Nat} (h : (w : Int) ≤ left) : szr (szr left w) u = szr left (w + u) := by unfold szr; split <;> split <;> omega
def WS {α : Type} (W : α → Nat) (xs : List α) : Nat := xs.length + (xs.map W).sum
theorem WS_nil {α : Type} (W : α → Nat) : WS W [] = 0 := rfl
theorem WS_cons {α : Type} (W : α → Nat) (x : α) (xs : List α) : WS W (x :: xs) = 1 + W x + WS W xs := by simp [WS]; omega
theorem WS_append {α : Type} (W : α → Nat) (xs ys : List α) : WS W (xs ++ ys) = WS W xs + WS W ys := by simp [WS]; omega
theorem WS_len {α : Type} (W : α → Nat) (xs : List α) : xs.length ≤ WS W xs := by simp [WS]
theorem WS_mem {α : Type} (W : α → Nat) : ∀ {xs : List α} {x : α}, x ∈ xs → W x ≤ WS W xs
  | y :: ys, x, h => by
    rw [WS_cons]
    rcases List.mem_cons.1 h with rfl | h
    · omega
    · have := WS_mem W h; omega
theorem nth_mem {α : Type} [Inhabited α] {xs : List α} {i : Nat} (h : i < xs.length) : nth xs i ∈ xs := by rw [nth_eq h]; exact List.getElem_mem h
theorem WS_nth {α : Type} [Inhabited α] (W : α → Nat) {xs : List α} {i : Nat} (h : i < xs.length) : W (nth xs i) ≤ WS W xs := WS_mem W (nth_mem h)

/-- An element as it is loaded: whole (a struct), or its one cell. -/
def elv (g : Bool) (l : List AV) : AV := if g then .agg l else l.getD 0 .any
def elW (g : Bool) (es : Nat) : Prop := g = true ∨ es = 1
theorem elv_load {α : Type} {es : Nat} {enc : α → List AV} (E : EncOk es enc) {g : Bool} (hg : elW g es) (x : α) (h : AH) : loadA g es (.fp (enc x) 0) h = some (elv g (enc x), h) := by
  cases g with
  | true => exact E.load x h
  | false =>
    have e1 : es = 1 := by rcases hg with h | h; · cases h
                           · exact h
    subst e1
    have hl := E.len x
    match enc x, hl with
    | [y], _ => rfl
theorem elv_cells {g : Bool} {es : Nat} {l : List AV} (hg : elW g es) (hl : l.length = es) (h1 : l.all AV.one = true) : (elv g l).cells = l := by
  cases g with
  | true => rfl
  | false =>
    have e1 : es = 1 := by rcases hg with h | h; · cases h
                           · exact h
    subst e1
    match l, hl with
    | [x], _ =>
      have : x.one = true := by simpa using h1
      show x.cells = [x]
      cases x <;> first | rfl | cases this

/-! ### are two slices the same? -/
def tplEq (es : Nat) (g : Bool) (f : FuncId) : AFunc := ⟨[], 2, [(.tmp 4)], (.seq (.reg [⟨(some 4), none, (.mov (.c (.bool false)))⟩]) (.seq (.seq (.reg [⟨(some 6), none, (.mov (.t 0))⟩, ⟨(some 7), none, (.len false (.t 6))⟩, ⟨(some 8), none, (.mov (.t 1))⟩, ⟨(some 9), none, (.len false (.t 8))⟩, ⟨(some 10), none, (.bin .neq (.t 7) (.t 9))⟩]) (.cond (.t 10) (.seq (.reg [⟨(some 4), none, (.mov (.c (.bool false)))⟩]) .ret) .skip)) (.seq (.seq (.reg [⟨(some 5), none, (.mov (.c (.int .i64 0)))⟩]) (.block 0 (.loop (.seq (.seq (.reg [⟨(some 11), none, (.mov (.t 5))⟩, ⟨(some 12), none, (.mov (.t 0))⟩, ⟨(some 13), none, (.len false (.t 12))⟩, ⟨(some 14), none, (.bin .lss (.t 11) (.t 13))⟩]) (.cond (.t 14) .skip (.exit 0))) (.seq (.block 1 (.seq (.regF [(0, (false, ⟨(some 17), none, (.mov (.t 0))⟩)), (1, (false, ⟨(some 18), none, (.mov (.t 5))⟩)), (2, (false, ⟨(some 19), none, (.iaddr es (.t 17) (.t 18))⟩)), (3, (false, ⟨(some 20), none, (.load g es (.t 19))⟩)), (4, (false, ⟨(some 21), none, (.mov (.t 1))⟩)), (5, (false, ⟨(some 22), none, (.mov (.t 5))⟩)), (6, (false, ⟨(some 23), none, (.iaddr es (.t 21) (.t 22))⟩)), (7, (false, ⟨(some 24), none, (.load g es (.t 23))⟩)), (8, (false, ⟨(some 25), none, (.call .raw f [(.t 20), (.t 24)])⟩)), (9, (false, ⟨(some 26), none, (.un .not (.t 25))⟩))] [[], [], [0, 1], [2], [], [], [4, 5], [6], [3, 7], [8]]) (.cond (.t 26) (.seq (.reg [⟨(some 4), none, (.mov (.c (.bool false)))⟩]) .ret) .skip))) (.reg [⟨(some 15), none, (.mov (.t 5))⟩, ⟨(some 16), none, (.bin .add (.t 15) (.c (.int .i64 1)))⟩, ⟨(some 5), none, (.mov (.t 16))⟩])))))) (.seq (.reg [⟨(some 4), none, (.mov (.c (.bool true)))⟩]) .ret))))⟩

theorem tplEq_ok {α : Type} [Inhabited α] [DecidableEq α] {es : Nat} {enc : α → List AV} (E : EncOk es enc) (hes : 0 < es) {ap : FuncId → Option AFunc} {f : FuncId} {g : Bool} (hg : elW g es) {xs ys : List α} (hb : xs.length ≤ 67108864) (h : AH)
    (hf : ∀ i, i < xs.length → i < ys.length → ∀ R, ACalls ap noE f [elv g (enc (nth xs i)), elv g (enc (nth ys i))] h R ↔ R (.bool (decide (nth xs i = nth ys i))) h) (c d : Option Nat) :
    abody (ACalls ap noE) (tplEq es g f) [.fs c (xs.map enc), .fs d (ys.map enc)] h (fun v' h' => v' = .bool (decide (xs = ys)) ∧ h' = h) := by
  simp [tplEq]
  by_cases hl2 : xs.length = ys.length
  case neg =>
    have : xs ≠ ys := fun e => hl2 (by rw [e])
    have hl' : ¬ (xs.length : Int) = ys.length := by omega
    simp [hl2, hl', this]
  simp [hl2]
  refine awp_loop2 ca_mono (fun n s h' => h' = h ∧ ∃ i : Nat, n = xs.length - i ∧ i ≤ xs.length ∧ (s 0 = .fs c (xs.map enc) ∧ s 1 = .fs d (ys.map enc) ∧ s 5 = .int .i64 i) ∧ xs.take i = ys.take i) ?_ (n := xs.length) ⟨rfl, 0, by simp⟩
  rintro n s h' ⟨rfl, i, rfl, hi, ⟨h0, h1, h5⟩, ht⟩ K2 hK hE hQ
  simp [h0, h1, h5]
  by_cases hlt : i < xs.length
  · have a1 := fun c k => E.iaddr hes c xs k (i : Int) h' (by omega) (by omega)
    have a2 := fun c k => E.iaddr hes c ys k (i : Int) h' (by omega) (by omega)
    have hfi := hf i hlt (by omega)
    simp [hlt, h0, h1, h5, a1, a2, elv_load E hg, hfi]
    by_cases e : nth xs i = nth ys i
    · have hw : IntKind.wrap .i64 ((i : Int) + 1) = (i : Int) + 1 := wrap_i64 (by omega) (by omega)
      simp [e, h0, h1, h5, hw]
      refine hK (xs.length - (i + 1)) _ _ (by omega) ⟨rfl, i + 1, rfl, by omega, by simp [h0, h1], ?_⟩
      rw [take_succ hlt, take_succ (by omega), ht, e]
    · simp [e, hQ]
      intro he; rw [he] at e; exact e rfl
  · obtain rfl : i = xs.length := by omega
    have : xs = ys := by rw [List.take_length, hl2, List.take_length] at ht; exact ht
    simp [hE, this]

def tplEqI : AFunc := ⟨[], 2, [(.tmp 4)], (.seq (.reg [⟨(some 4), none, (.mov (.c (.bool false)))⟩]) (.seq (.seq (.reg [⟨(some 6), none, (.mov (.t 0))⟩, ⟨(some 7), none, (.len false (.t 6))⟩, ⟨(some 8), none, (.mov (.t 1))⟩, ⟨(some 9), none, (.len false (.t 8))⟩, ⟨(some 10), none, (.bin .neq (.t 7) (.t 9))⟩]) (.cond (.t 10) (.seq (.reg [⟨(some 4), none, (.mov (.c (.bool false)))⟩]) .ret) .skip)) (.seq (.seq (.reg [⟨(some 5), none, (.mov (.c (.int .i64 0)))⟩]) (.block 0 (.loop (.seq (.seq (.reg [⟨(some 11), none, (.mov (.t 5))⟩, ⟨(some 12), none, (.mov (.t 0))⟩, ⟨(some 13), none, (.len false (.t 12))⟩, ⟨(some 14), none, (.bin .lss (.t 11) (.t 13))⟩]) (.cond (.t 14) .skip (.exit 0))) (.seq (.block 1 (.seq (.regF [(0, (false, ⟨(some 17), none, (.mov (.t 0))⟩)), (1, (false, ⟨(some 18), none, (.mov (.t 5))⟩)), (2, (false, ⟨(some 19), none, (.iaddr 1 (.t 17) (.t 18))⟩)), (3, (false, ⟨(some 20), none, (.load false 1 (.t 19))⟩)), (4, (false, ⟨(some 21), none, (.mov (.t 1))⟩)), (5, (false, ⟨(some 22), none, (.mov (.t 5))⟩)), (6, (false, ⟨(some 23), none, (.iaddr 1 (.t 21) (.t 22))⟩)), (7, (false, ⟨(some 24), none, (.load false 1 (.t 23))⟩)), (8, (false, ⟨(some 25), none, (.bin .neq (.t 20) (.t 24))⟩))] [[], [], [0, 1], [2], [], [], [4, 5], [6], [3, 7]]) (.cond (.t 25) (.seq (.reg [⟨(some 4), none, (.mov (.c (.bool false)))⟩]) .ret) .skip))) (.reg [⟨(some 15), none, (.mov (.t 5))⟩, ⟨(some 16), none, (.bin .add (.t 15) (.c (.int .i64 1)))⟩, ⟨(some 5), none, (.mov (.t 16))⟩])))))) (.seq (.reg [⟨(some 4), none, (.mov (.c (.bool true)))⟩]) .ret))))⟩

theorem tplEqI_ok {ap : FuncId → Option AFunc} {k : IntKind} {xs ys : List Int} (hb : xs.length ≤ 67108864) (h : AH) (c d : Option Nat) :
    abody (ACalls ap noE) tplEqI [.fs c (xs.map fun n => [.int k n]), .fs d (ys.map fun n => [.int k n])] h (fun v' h' => v' = .bool (decide (xs = ys)) ∧ h' = h) := by
  have E : EncOk 1 (fun n : Int => [AV.int k n]) := ⟨fun _ => rfl, fun _ => rfl⟩
  have hg : elW false 1 := .inr rfl
  simp [tplEqI]
  by_cases hl2 : xs.length = ys.length
  case neg =>
    have : xs ≠ ys := fun e => hl2 (by rw [e])
    have hl' : ¬ (xs.length : Int) = ys.length := by omega
    simp [hl2, hl', this]
  simp [hl2]
  refine awp_loop2 ca_mono (fun n s h' => h' = h ∧ ∃ i : Nat, n = xs.length - i ∧ i ≤ xs.length ∧ (s 0 = .fs c (xs.map fun n => [.int k n]) ∧ s 1 = .fs d (ys.map fun n => [.int k n]) ∧ s 5 = .int .i64 i) ∧ xs.take i = ys.take i) ?_ (n := xs.length) ⟨rfl, 0, by simp⟩
  rintro n s h' ⟨rfl, i, rfl, hi, ⟨h0, h1, h5⟩, ht⟩ K2 hK hE hQ
  simp [h0, h1, h5]
  by_cases hlt : i < xs.length
  · have a1 := fun c k => E.iaddr (by omega) c xs k (i : Int) h' (by omega) (by omega)
    have a2 := fun c k => E.iaddr (by omega) c ys k (i : Int) h' (by omega) (by omega)
    have l1 := fun x => elv_load E hg x h'
    simp [elv] at l1
    simp [hlt, h0, h1, h5, a1, a2, l1]
    by_cases e : nth xs i = nth ys i
    · have hw : IntKind.wrap .i64 ((i : Int) + 1) = (i : Int) + 1 := wrap_i64 (by omega) (by omega)
      simp [e, h0, h1, h5, hw]
      refine hK (xs.length - (i + 1)) _ _ (by omega) ⟨rfl, i + 1, rfl, by omega, by simp [h0, h1], ?_⟩
      rw [take_succ hlt, take_succ (by omega), ht, e]
    · simp [e, hQ]
      intro he; rw [he] at e; exact e rfl
  · obtain rfl : i = xs.length := by omega
    have : xs = ys := by rw [List.take_length, hl2, List.take_length] at ht; exact ht
    simp [hE, this]

/-! ### a copy -/
/-- A row of raw cells. -/
def encR (es : Nat) (l : List AV) : List AV := if l.length = es ∧ l.all AV.one = true then l else List.replicate es .nils
theorem encR_ok (es : Nat) : EncOk es (encR es) := ⟨fun l => by unfold encR; split <;> simp_all, fun l => by
  unfold encR
  split
  · rename_i h; exact h.2
  · simp [AV.one]⟩
theorem encR_eq {es : Nat} {l : List AV} (h1 : l.length = es) (h2 : l.all AV.one = true) : encR es l = l := if_pos ⟨h1, h2⟩
/-- Raw rows that are data. -/
theorem Own.data {α : Type} {es : Nat} {enc : α → List AV} (E : EncOk es enc) {h0 h : AH} {v : AV} {xs : List α} (H : Own h0 es (encR es) h v (xs.map enc)) : Own h0 es enc h v xs := by
  have e : (xs.map enc).flatMap (encR es) = xs.flatMap enc := by
    rw [List.flatMap_map]
    exact congrArg (fun f => xs.flatMap f) (funext fun x => encR_eq (E.len x) (E.one x))
  refine ⟨E, H.le, ?_⟩
  rcases H.at_ with ⟨h1, h2⟩ | ⟨b, c, h1, h2, h3, h4⟩
  · exact .inl ⟨List.map_eq_nil_iff.1 h1, h2⟩
  · exact .inr ⟨b, c, by rw [h1, List.length_map], by rw [h2, e], by simpa using h3, h4⟩

def tplTo (es bytes : Nat) (zero : List AV) (g : Bool) (m : CM) (f : FuncId) : AFunc := ⟨[], 1, [(.tmp 2)], (.seq (.reg [⟨(some 2), none, (.mov (.c .nils))⟩]) (.seq (.reg [⟨(some 5), none, (.mov (.t 0))⟩, ⟨(some 6), none, (.len false (.t 5))⟩, ⟨(some 7), none, (.mslice es bytes zero (.t 6) (.t 6))⟩, ⟨(some 3), none, (.mov (.t 7))⟩]) (.seq (.seq (.reg [⟨(some 4), none, (.mov (.c (.int .i64 0)))⟩]) (.block 0 (.loop (.seq (.seq (.reg [⟨(some 8), none, (.mov (.t 4))⟩, ⟨(some 9), none, (.mov (.t 0))⟩, ⟨(some 10), none, (.len false (.t 9))⟩, ⟨(some 11), none, (.bin .lss (.t 8) (.t 10))⟩]) (.cond (.t 11) .skip (.exit 0))) (.seq (.block 1 (.reg [⟨(some 14), none, (.mov (.t 3))⟩, ⟨(some 15), none, (.mov (.t 4))⟩, ⟨(some 16), none, (.mov (.t 0))⟩, ⟨(some 17), none, (.mov (.t 4))⟩, ⟨(some 18), none, (.iaddr es (.t 16) (.t 17))⟩, ⟨(some 19), none, (.load g es (.t 18))⟩, ⟨(some 20), none, (.call m f [(.t 19)])⟩, ⟨(some 21), none, (.iaddr es (.t 14) (.t 15))⟩, ⟨none, none, (.store es (.t 21) (.t 20))⟩])) (.reg [⟨(some 12), none, (.mov (.t 4))⟩, ⟨(some 13), none, (.bin .add (.t 12) (.c (.int .i64 1)))⟩, ⟨(some 4), none, (.mov (.t 13))⟩])))))) (.seq (.reg [⟨(some 22), none, (.mov (.t 3))⟩, ⟨(some 2), none, (.mov (.t 22))⟩]) .ret))))⟩

theorem tplTo_ok {α : Type} [Inhabited α] {es : Nat} {enc : α → List AV} (E : EncF es enc) (hes : 0 < es) {ap : FuncId → Option AFunc} {m : CM} {f : FuncId} {bytes : Nat} {zero : List AV} {g : Bool} (hg : elW g es) (hz : zero.length = es) (hz1 : zero.all AV.one = true)
    {xs : List α} (hb : xs.length ≤ 1048576) (hby : bytes ≤ 1048576) (h : AH) (c : Option Nat)
    (hf : ∀ i, i < xs.length → ∀ (h1 : AH) R, acallM (ACalls ap noE) m f [elv g (enc (nth xs i))] h1 R ↔ R (elv g (enc (nth xs i))) h1) :
    abody (ACalls ap noE) (tplTo es bytes zero g m f) [.fs c (xs.map enc)] h (fun v' h' => h.le h' ∧ frzV h.next h' DF v' = some (.fs none (xs.map enc))) := by
  have hbl : bytes * xs.length ≤ 1048576 * 1048576 := Nat.mul_le_mul hby hb
  have hms := mslice_eq es bytes zero .i64 .i64 xs.length h hz hz1 (by omega) (by omega)
  have hencz : encR es zero = zero := encR_eq hz hz1
  simp [tplTo, hms]
  have hN := Own.make (h := h) (h0 := h) (es := es) (enc := encR es) (z := zero) (zero := zero) (encR_ok _) (AH.le_refl h) hencz.symm xs.length
  revert hN
  generalize h.new _ = h1
  generalize AV.sl h.next 0 es xs.length (some xs.length) = u
  intro hN
  refine awp_loop2 ca_mono (fun n s h' => ∃ (i : Nat) (zs : List (List AV)), n = xs.length - i ∧ i ≤ xs.length ∧ (s 0 = .fs c (xs.map enc) ∧ s 3 = u ∧ s 4 = .int .i64 i) ∧ Own h es (encR es) h' u zs ∧ zs.length = xs.length ∧ zs.take i = (xs.take i).map enc) ?_ (n := xs.length) ⟨0, _, by simp, by simp, by simp, hN, by simp, by simp⟩
  rintro n s h' ⟨i, zs, rfl, hi, ⟨s0, s3, s4⟩, hN', hzl, ht⟩ K2 hK hE hQ
  simp [s0, s3, s4]
  by_cases hlt : i < xs.length
  · have a1 := fun c k => E.iaddr hes c xs k (i : Int) h' (by omega) (by omega)
    have hiz : i < zs.length := by omega
    have a2 : iaddrA es u (.int .i64 (i : Int)) h' = some (elt es u i 0, h') := by
      have := hN'.iaddr h' .i64 (i : Int) (by omega) (by omega); simpa using this
    have hcl := elv_cells hg (E.len (nth xs i)) (E.one (nth xs i))
    have hst := hN'.store i (enc (nth xs i)) 0 es (elv g (enc (nth xs i))) hiz (by rw [hcl, E.len]) (by omega) (by rw [hcl]; exact E.one _) (by
      rw [hcl, encR_eq (E.len _) (E.one _)]
      exact setAll_whole _ _ (by rw [E.len, (encR_ok es).len]))
    have hw1 : IntKind.wrap .i64 ((i : Int) + 1) = (i : Int) + 1 := wrap_i64 (by omega) (by omega)
    have hfi := hf i hlt h'
    simp [hlt, s0, s3, s4, a1, a2, elv_load E.toEncOk hg, hfi, hst, hw1]
    refine hK (xs.length - (i + 1)) _ _ (by omega) ⟨i + 1, zs.set i (enc (nth xs i)), rfl, by omega, ⟨by simp [s0], by simp [s3], by simp⟩, hN'.setR (by omega) (by simp), by simp [hzl], ?_⟩
    rw [take_set hiz, take_succ hlt, ht, List.map_append]; rfl
  · obtain rfl : i = xs.length := by omega
    simp [hE, s3]
    have hzx : zs = xs.map enc := by rw [← hzl, List.take_length] at ht; rw [hzl, List.take_length] at ht; exact ht
    subst hzx
    exact ⟨hN'.le, (Own.data E.toEncOk hN').frz E 18⟩

def tplToI (bytes : Nat) (z : AV) : AFunc := ⟨[], 1, [(.tmp 2)], (.seq (.reg [⟨(some 2), none, (.mov (.c .nils))⟩]) (.seq (.reg [⟨(some 5), none, (.mov (.t 0))⟩, ⟨(some 6), none, (.len false (.t 5))⟩, ⟨(some 7), none, (.mslice 1 bytes [z] (.t 6) (.t 6))⟩, ⟨(some 3), none, (.mov (.t 7))⟩]) (.seq (.seq (.reg [⟨(some 4), none, (.mov (.c (.int .i64 0)))⟩]) (.block 0 (.loop (.seq (.seq (.reg [⟨(some 8), none, (.mov (.t 4))⟩, ⟨(some 9), none, (.mov (.t 0))⟩, ⟨(some 10), none, (.len false (.t 9))⟩, ⟨(some 11), none, (.bin .lss (.t 8) (.t 10))⟩]) (.cond (.t 11) .skip (.exit 0))) (.seq (.block 1 (.reg [⟨(some 14), none, (.mov (.t 3))⟩, ⟨(some 15), none, (.mov (.t 4))⟩, ⟨(some 16), none, (.mov (.t 0))⟩, ⟨(some 17), none, (.mov (.t 4))⟩, ⟨(some 18), none, (.iaddr 1 (.t 16) (.t 17))⟩, ⟨(some 19), none, (.load false 1 (.t 18))⟩, ⟨(some 20), none, (.iaddr 1 (.t 14) (.t 15))⟩, ⟨none, none, (.store 1 (.t 20) (.t 19))⟩])) (.reg [⟨(some 12), none, (.mov (.t 4))⟩, ⟨(some 13), none, (.bin .add (.t 12) (.c (.int .i64 1)))⟩, ⟨(some 4), none, (.mov (.t 13))⟩])))))) (.seq (.reg [⟨(some 21), none, (.mov (.t 3))⟩, ⟨(some 2), none, (.mov (.t 21))⟩]) .ret))))⟩

theorem tplToI_ok {α : Type} [Inhabited α] {enc : α → List AV} (E : EncF 1 enc) {ap : FuncId → Option AFunc} {bytes : Nat} {z : AV} (hz1 : z.one = true)
    {xs : List α} (hb : xs.length ≤ 1048576) (hby : bytes ≤ 1048576) (h : AH) (c : Option Nat) :
    abody (ACalls ap noE) (tplToI bytes z) [.fs c (xs.map enc)] h (fun v' h' => h.le h' ∧ frzV h.next h' DF v' = some (.fs none (xs.map enc))) := by
  have hg : elW false 1 := .inr rfl
  have hbl : bytes * xs.length ≤ 1048576 * 1048576 := Nat.mul_le_mul hby hb
  have hz2 : [z].all AV.one = true := by rw [List.all_cons, hz1]; rfl
  have hms := mslice_eq 1 bytes [z] .i64 .i64 xs.length h rfl hz2 (by omega) (by omega)
  have hencz : encR 1 [z] = [z] := encR_eq rfl hz2
  simp [tplToI, hms]
  have hN := Own.make (h := h) (h0 := h) (es := 1) (enc := encR 1) (z := [z]) (zero := [z]) (encR_ok _) (AH.le_refl h) hencz.symm xs.length
  revert hN
  generalize h.new _ = h1
  generalize AV.sl h.next 0 1 xs.length (some xs.length) = u
  intro hN
  refine awp_loop2 ca_mono (fun n s h' => ∃ (i : Nat) (zs : List (List AV)), n = xs.length - i ∧ i ≤ xs.length ∧ (s 0 = .fs c (xs.map enc) ∧ s 3 = u ∧ s 4 = .int .i64 i) ∧ Own h 1 (encR 1) h' u zs ∧ zs.length = xs.length ∧ zs.take i = (xs.take i).map enc) ?_ (n := xs.length) ⟨0, _, by simp, by simp, by simp, hN, by simp, by simp⟩
  rintro n s h' ⟨i, zs, rfl, hi, ⟨s0, s3, s4⟩, hN', hzl, ht⟩ K2 hK hE hQ
  simp [s0, s3, s4]
  by_cases hlt : i < xs.length
  · have a1 := fun c k => E.iaddr (by omega) c xs k (i : Int) h' (by omega) (by omega)
    have hiz : i < zs.length := by omega
    have a2 : iaddrA 1 u (.int .i64 (i : Int)) h' = some (elt 1 u i 0, h') := by
      have := hN'.iaddr h' .i64 (i : Int) (by omega) (by omega); simpa using this
    have hcl := elv_cells hg (E.len (nth xs i)) (E.one (nth xs i))
    have hst := hN'.store i (enc (nth xs i)) 0 1 (elv false (enc (nth xs i))) hiz (by rw [hcl, E.len]) (by omega) (by rw [hcl]; exact E.one _) (by
      rw [hcl, encR_eq (E.len _) (E.one _)]
      exact setAll_whole _ _ (by rw [E.len, (encR_ok 1).len]))
    have hw1 : IntKind.wrap .i64 ((i : Int) + 1) = (i : Int) + 1 := wrap_i64 (by omega) (by omega)
    simp [hlt, s0, s3, s4, a1, a2, elv_load E.toEncOk hg, hst, hw1]
    refine hK (xs.length - (i + 1)) _ _ (by omega) ⟨i + 1, zs.set i (enc (nth xs i)), rfl, by omega, ⟨by simp [s0], by simp [s3], by simp⟩, hN'.setR (by omega) (by simp), by simp [hzl], ?_⟩
    rw [take_set hiz, take_succ hlt, ht, List.map_append]; rfl
  · obtain rfl : i = xs.length := by omega
    simp [hE, s3]
    have hzx : zs = xs.map enc := by rw [← hzl, List.take_length] at ht; rw [hzl, List.take_length] at ht; exact ht
    subst hzx
    exact ⟨hN'.le, (Own.data E.toEncOk hN').frz E 18⟩

/-! ### how much room the elements take -/
def tplSz (es : Nat) (g : Bool) (f : FuncId) : AFunc := ⟨[], 2, [(.tmp 4)], (.seq (.reg [⟨(some 4), none, (.mov (.c (.int .i64 0)))⟩]) (.seq (.reg [⟨(some 6), none, (.mov (.t 1))⟩, ⟨(some 7), none, (.mov (.t 0))⟩, ⟨(some 8), none, (.len false (.t 7))⟩, ⟨(some 9), none, (.bin .sub (.t 6) (.t 8))⟩, ⟨(some 1), none, (.mov (.t 9))⟩]) (.seq (.seq (.reg [⟨(some 10), none, (.mov (.t 1))⟩, ⟨(some 11), none, (.bin .lss (.t 10) (.c (.int .i64 0)))⟩]) (.cond (.t 11) (.seq (.reg [⟨(some 4), none, (.mov (.c (.int .i64 (-1))))⟩]) .ret) .skip)) (.seq (.seq (.reg [⟨(some 5), none, (.mov (.c (.int .i64 0)))⟩]) (.block 0 (.loop (.seq (.seq (.reg [⟨(some 12), none, (.mov (.t 5))⟩, ⟨(some 13), none, (.mov (.t 0))⟩, ⟨(some 14), none, (.len false (.t 13))⟩, ⟨(some 15), none, (.bin .lss (.t 12) (.t 14))⟩]) (.cond (.t 15) .skip (.exit 0))) (.seq (.block 1 (.seq (.reg [⟨(some 18), none, (.mov (.t 0))⟩, ⟨(some 19), none, (.mov (.t 5))⟩, ⟨(some 20), none, (.iaddr es (.t 18) (.t 19))⟩, ⟨(some 21), none, (.load g es (.t 20))⟩, ⟨(some 22), none, (.mov (.t 1))⟩, ⟨(some 23), none, (.call .raw f [(.t 21), (.t 22)])⟩, ⟨(some 1), none, (.mov (.t 23))⟩]) (.seq (.reg [⟨(some 24), none, (.mov (.t 1))⟩, ⟨(some 25), none, (.bin .lss (.t 24) (.c (.int .i64 0)))⟩]) (.cond (.t 25) (.seq (.reg [⟨(some 4), none, (.mov (.c (.int .i64 (-1))))⟩]) .ret) .skip)))) (.reg [⟨(some 16), none, (.mov (.t 5))⟩, ⟨(some 17), none, (.bin .add (.t 16) (.c (.int .i64 1)))⟩, ⟨(some 5), none, (.mov (.t 17))⟩])))))) (.seq (.reg [⟨(some 26), none, (.mov (.t 1))⟩, ⟨(some 4), none, (.mov (.t 26))⟩]) .ret)))))⟩

theorem tplSz_ok {α : Type} [Inhabited α] {es : Nat} {enc : α → List AV} (E : EncOk es enc) (hes : 0 < es) {ap : FuncId → Option AFunc} {f : FuncId} {g : Bool} (hg : elW g es) {xs : List α} (hxl : xs.length ≤ 9223372036854775807) (W : α → Nat) {left : Int} (h0 : 0 ≤ left) (h1 : left ≤ 1048576) (h : AH) (c : Option Nat)
    (hf : ∀ i, i < xs.length → ∀ (l : Int) (R : AV → AH → Prop), 0 ≤ l → l ≤ 1048576 → (ACalls ap noE f [elv g (enc (nth xs i)), .int .i64 l] h R ↔ R (.int .i64 (szr l (W (nth xs i)))) h)) :
    abody (ACalls ap noE) (tplSz es g f) [.fs c (xs.map enc), .int .i64 left] h (fun v' h' => v' = .int .i64 (szr left (WS W xs)) ∧ h' = h) := by
  have hw0 : IntKind.wrap .i64 (left - (xs.length : Int)) = left - xs.length := wrap_i64 (by omega) (by omega)
  simp [tplSz, hw0]
  have hWl := WS_len W xs
  by_cases e : left - (xs.length : Int) < 0
  · have : szr left (WS W xs) = -1 := szr_lt (by omega)
    simp [e, this]
  simp [e]
  refine awp_loop2 ca_mono (fun n s h' => h' = h ∧ ∃ (i : Nat) (r : Int), n = xs.length - i ∧ i ≤ xs.length ∧ (s 0 = .fs c (xs.map enc) ∧ s 1 = .int .i64 r ∧ s 5 = .int .i64 i) ∧ 0 ≤ r ∧ r = left - xs.length - (((xs.take i).map W).sum : Nat)) ?_ (n := xs.length) ⟨rfl, 0, left - xs.length, by simp, by simp, ?_, by omega, by simp⟩
  rotate_left
  · simp
  rintro n s h' ⟨rfl, i, r, rfl, hi, ⟨s0, s1, s5⟩, hr, hs⟩ K2 hK hE hQ
  simp [s0, s1, s5]
  have hsum : ((xs.map W).sum) = ((xs.take i).map W).sum + ((xs.drop i).map W).sum := by
    rw [← List.sum_append, ← List.map_append, List.take_append_drop]
  by_cases hlt : i < xs.length
  · have a1 := fun c k => E.iaddr hes c xs k (i : Int) h' (by omega) (by omega)
    have hfi := fun R => hf i hlt r R hr (by omega)
    simp [hlt, s0, s1, s5, a1, elv_load E hg, hfi]
    rw [drop_eq hlt, List.map_cons, List.sum_cons] at hsum
    by_cases e2 : szr r (W (nth xs i)) < 0
    · have e3 := szr_neg.1 e2
      have : szr left (WS W xs) = -1 := szr_lt (by unfold WS; omega)
      simp [e2, hQ, this]
    · have e3 : (W (nth xs i) : Int) ≤ r := by have := mt szr_neg.2 e2; omega
      have hw1 : IntKind.wrap .i64 ((i : Int) + 1) = (i : Int) + 1 := wrap_i64 (by omega) (by omega)
      simp [e2, s0, s5, hw1]
      refine hK (xs.length - (i + 1)) _ _ (by omega) ⟨rfl, i + 1, szr r (W (nth xs i)), rfl, by omega, ⟨by simp [s0], by simp, by simp⟩, by omega, ?_⟩
      rw [szr_nonneg e3, take_succ hlt, List.map_append, List.sum_append]
      simp only [List.map_cons, List.map_nil, List.sum_cons, List.sum_nil]
      omega
  · obtain rfl : i = xs.length := by omega
    rw [List.take_length] at hs
    have : szr left (WS W xs) = r := by unfold WS; rw [szr_nonneg (by omega)]; omega
    simp [hE, s1, this]

def tplSzI : AFunc := ⟨[], 2, [(.tmp 4)], (.seq (.reg [⟨(some 4), none, (.mov (.c (.int .i64 0)))⟩]) (.seq (.reg [⟨(some 5), none, (.mov (.t 1))⟩, ⟨(some 6), none, (.mov (.t 0))⟩, ⟨(some 7), none, (.len false (.t 6))⟩, ⟨(some 8), none, (.bin .sub (.t 5) (.t 7))⟩, ⟨(some 1), none, (.mov (.t 8))⟩]) (.seq (.seq (.reg [⟨(some 9), none, (.mov (.t 1))⟩, ⟨(some 10), none, (.bin .lss (.t 9) (.c (.int .i64 0)))⟩]) (.cond (.t 10) (.seq (.reg [⟨(some 4), none, (.mov (.c (.int .i64 (-1))))⟩]) .ret) .skip)) (.seq (.reg [⟨(some 11), none, (.mov (.t 1))⟩, ⟨(some 4), none, (.mov (.t 11))⟩]) .ret))))⟩

theorem tplSzI_ok {ap : FuncId → Option AFunc} {rows : List (List AV)} (hxl : rows.length ≤ 9223372036854775807) {left : Int} (h0 : 0 ≤ left) (h1 : left ≤ 1048576) (h : AH) (c : Option Nat) :
    abody (ACalls ap noE) tplSzI [.fs c rows, .int .i64 left] h (fun v' h' => v' = .int .i64 (szr left rows.length) ∧ h' = h) := by
  have hw0 : IntKind.wrap .i64 (left - (rows.length : Int)) = left - rows.length := wrap_i64 (by omega) (by omega)
  simp [tplSzI, hw0]
  by_cases e : left - (rows.length : Int) < 0
  · have : szr left rows.length = -1 := szr_lt (by omega)
    simp [e, this]
  · have : szr left rows.length = left - rows.length := szr_nonneg (by omega)
    simp [e, this]
end Go.Bm
