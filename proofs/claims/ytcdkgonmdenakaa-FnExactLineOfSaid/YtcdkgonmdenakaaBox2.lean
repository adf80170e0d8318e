/- Lists of nodes: how deep they nest, where their items begin. -/
import Derived.Test.YtcdkgonmdenakaaBox1
namespace Go.Proofs.Ytcdkgonmdenakaa
open Go Go.Bm Go.Proofs
set_option linter.all false

theorem ok_flat {x : Node} (h : okB x = true) (hd : deepB x.kind = false) : x.kids = 0 := by
  simp only [okB, Bool.and_eq_true, decide_eq_true_eq] at h
  simp only [deepB, decide_eq_false_iff_not, not_or] at hd
  have e := h.1.1.1.1.2.2
  rw [← e]
  unfold used
  simp only [hd]
  repeat' split
  all_goals first | rfl | (exfalso; simp_all; done)

/-- How deep boxes and notes nest: the deepest place, from d on; m is what was met before. -/
def nestU (xs : List Node) (d m : Int) : Option Int :=
  match xs with
  | [] => some m
  | x :: r =>
    if okB x = true ∧ 0 ≤ x.kids ∧ x.kids ≤ r.length then
      if deepB x.kind = true then (nestU (r.take x.kids.toNat) (d + 1) (max m d)).bind fun m' => nestU (r.drop x.kids.toNat) d m'
      else nestU r d m
    else none
termination_by xs.length
decreasing_by all_goals simp <;> omega

theorem nestU_nil (d m : Int) : nestU [] d m = some m := by rw [nestU]
theorem nestU_cons (x : Node) (r : List Node) (d m : Int) : nestU (x :: r) d m = if okB x = true ∧ 0 ≤ x.kids ∧ x.kids ≤ r.length then
      if deepB x.kind = true then (nestU (r.take x.kids.toNat) (d + 1) (max m d)).bind fun m' => nestU (r.drop x.kids.toNat) d m'
      else nestU r d m
    else none := by rw [nestU]

theorem nestU_le : ∀ (n : Nat) (xs : List Node) (d m r : Int), xs.length ≤ n → nestU xs d m = some r → m ≤ r
  | n, [], d, m, r, _, h => by rw [nestU_nil] at h; cases h; omega
  | 0, x :: xs, d, m, r, hl, h => by simp at hl
  | n + 1, x :: xs, d, m, r, hl, h => by
    simp only [List.length_cons] at hl
    rw [nestU_cons] at h
    split at h
    · split at h
      · rw [Option.bind_eq_some_iff] at h
        obtain ⟨m', h1, h2⟩ := h
        have a := nestU_le n _ _ _ _ (by simp; omega) h1
        have b := nestU_le n _ _ _ _ (by simp; omega) h2
        omega
      · exact nestU_le n _ _ _ _ (by omega) h
    · cases h

theorem nestU_max : ∀ (n : Nat) (xs : List Node) (d m k : Int), xs.length ≤ n → nestU xs d (max m k) = (nestU xs d m).map (max k)
  | n, [], d, m, k, _ => by rw [nestU_nil, nestU_nil]; simp; omega
  | 0, x :: xs, d, m, k, hl => by simp at hl
  | n + 1, x :: xs, d, m, k, hl => by
    simp only [List.length_cons] at hl
    rw [nestU_cons, nestU_cons]
    split
    · split
      · rw [show max (max m k) d = max (max m d) k by omega, nestU_max n _ _ _ _ (by simp; omega)]
        cases nestU (List.take x.kids.toNat xs) (d + 1) (max m d) with
        | none => rfl
        | some q =>
          simp only [Option.map_some, Option.bind_some]
          rw [show max k q = max q k by omega, nestU_max n _ _ _ _ (by simp; omega)]
      · exact nestU_max n _ _ _ _ (by omega)
    · rfl

/-- From nothing met. -/
theorem nestU_from (xs : List Node) (d m : Int) (hm : -1 ≤ m) : nestU xs d m = (nestU xs d (-1)).map (max m) := by
  have := nestU_max xs.length xs d (-1) m (Nat.le_refl _)
  rwa [show max (-1) m = m by omega] at this

/-- What the program's own search answers. -/
def nres (o : Option Int) : AV := match o with
  | some r => if r ≤ 40 then .tup [.int .i64 r, .bool true] else .tup [.int .i64 0, .bool false]
  | none => .tup [.int .i64 0, .bool false]

/-- The same, with a stack of places at which boxes end. -/
def runE (xs : List Node) : Nat → List Nat → Int → Option Int
  | i, [], m => nestU (xs.drop i) 0 m
  | i, e :: E, m => (nestU ((xs.drop i).take (e - i)) (E.length + 1) m).bind fun m' => runE xs e E m'
def chainE (n : Nat) : Nat → List Nat → Prop
  | i, [] => i ≤ n
  | i, e :: E => i ≤ e ∧ chainE n e E
def limE (n : Nat) : List Nat → Nat
  | [] => n
  | e :: _ => e

theorem chainE_le {n : Nat} : ∀ {E : List Nat} {i : Nat}, chainE n i E → i ≤ n
  | [], i, h => h
  | e :: E, i, h => Nat.le_trans h.1 (chainE_le h.2)
theorem runE_pop (xs : List Node) (i : Nat) (E : List Nat) (m : Int) : runE xs i (i :: E) m = runE xs i E m := by
  simp [runE, nestU_nil]
theorem runE_step (xs : List Node) (i : Nat) (E : List Nat) (m : Int) (hc : chainE xs.length i E) (hi : i < limE xs.length E) :
    runE xs i E m = if okB (nth xs i) = true ∧ 0 ≤ (nth xs i).kids ∧ (nth xs i).kids ≤ ((limE xs.length E - i - 1 : Nat) : Int) then
      if deepB (nth xs i).kind = true then runE xs (i + 1) ((i + 1 + (nth xs i).kids.toNat) :: E) (max m E.length) else runE xs (i + 1) E m
    else none := by
  cases E with
  | nil =>
    have hi : i < xs.length := hi
    have hl : (xs.drop (i + 1)).length = xs.length - i - 1 := by simp; omega
    show nestU (xs.drop i) 0 m = _
    rw [drop_eq hi, nestU_cons, hl]
    by_cases hok : okB (nth xs i) = true ∧ 0 ≤ (nth xs i).kids ∧ (nth xs i).kids ≤ ((xs.length - i - 1 : Nat) : Int)
    · rw [if_pos hok]
      refine Eq.trans ?_ (if_pos (show okB (nth xs i) = true ∧ 0 ≤ (nth xs i).kids ∧ (nth xs i).kids ≤ ((limE xs.length [] - i - 1 : Nat) : Int) from hok)).symm
      by_cases hdp : deepB (nth xs i).kind = true
      · rw [if_pos hdp, if_pos hdp]
        show _ = (nestU ((xs.drop (i + 1)).take (i + 1 + (nth xs i).kids.toNat - (i + 1))) (([] : List Nat).length + 1) _).bind fun m' => nestU (xs.drop (i + 1 + (nth xs i).kids.toNat)) 0 m'
        rw [List.drop_drop, show i + 1 + (nth xs i).kids.toNat - (i + 1) = (nth xs i).kids.toNat by omega]
        rfl
      · rw [if_neg hdp, if_neg hdp]; rfl
    · rw [if_neg hok]
      exact (if_neg (show ¬ (okB (nth xs i) = true ∧ 0 ≤ (nth xs i).kids ∧ (nth xs i).kids ≤ ((limE xs.length [] - i - 1 : Nat) : Int)) from hok)).symm
  | cons e E =>
    have hi : i < e := hi
    have hen := chainE_le hc.2
    have hi' : i < xs.length := by omega
    have hl : ((xs.drop (i + 1)).take (e - i - 1)).length = e - i - 1 := by simp; omega
    have hseg : (xs.drop i).take (e - i) = nth xs i :: (xs.drop (i + 1)).take (e - i - 1) := by
      obtain ⟨k, hk⟩ : ∃ k, e - i = k + 1 := ⟨e - i - 1, by omega⟩
      rw [drop_eq hi', hk, List.take_succ_cons, Nat.add_sub_cancel]
    show (nestU ((xs.drop i).take (e - i)) (E.length + 1) m).bind (fun m' => runE xs e E m') = _
    rw [hseg, nestU_cons, hl]
    by_cases hok : okB (nth xs i) = true ∧ 0 ≤ (nth xs i).kids ∧ (nth xs i).kids ≤ ((e - i - 1 : Nat) : Int)
    · rw [if_pos hok]
      refine Eq.trans ?_ (if_pos (show okB (nth xs i) = true ∧ 0 ≤ (nth xs i).kids ∧ (nth xs i).kids ≤ ((limE xs.length (e :: E) - i - 1 : Nat) : Int) from hok)).symm
      obtain ⟨_, hk0, hk1⟩ := hok
      by_cases hdp : deepB (nth xs i).kind = true
      · rw [if_pos hdp, if_pos hdp]
        show _ = (nestU ((xs.drop (i + 1)).take (i + 1 + (nth xs i).kids.toNat - (i + 1))) (((e :: E).length : Nat) + 1) _).bind fun m' => (nestU ((xs.drop (i + 1 + (nth xs i).kids.toNat)).take (e - (i + 1 + (nth xs i).kids.toNat))) (E.length + 1) m').bind fun m' => runE xs e E m'
        rw [show i + 1 + (nth xs i).kids.toNat - (i + 1) = (nth xs i).kids.toNat by omega, List.take_take, Nat.min_eq_left (by omega), List.drop_take, List.drop_drop, Option.bind_assoc]
        rw [show e - i - 1 - (nth xs i).kids.toNat = e - (i + 1 + (nth xs i).kids.toNat) by omega]
        rfl
      · rw [if_neg hdp, if_neg hdp]
        show _ = (nestU ((xs.drop (i + 1)).take (e - (i + 1))) (E.length + 1) m).bind fun m' => runE xs e E m'
        rw [show e - (i + 1) = e - i - 1 by omega]
    · rw [if_neg hok]
      exact (if_neg (show ¬ (okB (nth xs i) = true ∧ 0 ≤ (nth xs i).kids ∧ (nth xs i).kids ≤ ((limE xs.length (e :: E) - i - 1 : Nat) : Int)) from hok)).symm

/-- Where the items begin, from place i on. -/
def starts (xs : List Node) (i : Nat) : List Nat := if i < xs.length then i :: starts xs (i + 1 + (nth xs i).kids.toNat) else []
termination_by xs.length - i
theorem starts_lt {xs : List Node} {i : Nat} (h : i < xs.length) : starts xs i = i :: starts xs (i + 1 + (nth xs i).kids.toNat) := by rw [starts, if_pos h]
theorem starts_end (xs : List Node) : starts xs xs.length = [] := by rw [starts, if_neg (by omega)]

/-- From i on items lie one behind the other. -/
inductive OkF (xs : List Node) : Nat → Prop
  | fin : OkF xs xs.length
  | item (i : Nat) : i < xs.length → 0 ≤ (nth xs i).kids → i + 1 + (nth xs i).kids.toNat ≤ xs.length → OkF xs (i + 1 + (nth xs i).kids.toNat) → OkF xs i

theorem OkF.le {xs : List Node} {i : Nat} (h : OkF xs i) : i ≤ xs.length := by cases h <;> omega
theorem OkF.next {xs : List Node} {i : Nat} (h : OkF xs i) (hi : i < xs.length) : 0 ≤ (nth xs i).kids ∧ i + 1 + (nth xs i).kids.toNat ≤ xs.length ∧ OkF xs (i + 1 + (nth xs i).kids.toNat) := by
  cases h with
  | fin => omega
  | item _ _ a b c => exact ⟨a, b, c⟩

theorem OkF_of_nest (xs : List Node) : ∀ (n i : Nat) (d m r : Int), xs.length - i ≤ n → i ≤ xs.length → nestU (xs.drop i) d m = some r → OkF xs i := by
  intro n
  induction n with
  | zero =>
    intro i d m r hn hi _
    obtain rfl : i = xs.length := by omega
    exact .fin
  | succ n ih =>
    intro i d m r hn hi h
    by_cases hlt : i < xs.length
    · have hl : (xs.drop (i + 1)).length = xs.length - i - 1 := by simp; omega
      rw [drop_eq hlt, nestU_cons, hl] at h
      split at h
      · rename_i hok
        obtain ⟨hok, hk0, hk1⟩ := hok
        refine .item i hlt hk0 (by omega) ?_
        split at h
        · rw [Option.bind_eq_some_iff] at h
          obtain ⟨m', _, h2⟩ := h
          rw [List.drop_drop] at h2
          exact ih _ _ _ _ (by omega) (by omega) h2
        · rename_i hdp
          have hz := ok_flat hok (by simpa using hdp)
          rw [hz]
          exact ih _ _ _ _ (by simp; omega) (by simp; omega) h
      · cases h
    · obtain rfl : i = xs.length := by omega
      exact .fin

/-- Is it a list? -/
def listB (xs : List Node) : Bool := decide (xs.length ≤ 20000) && (match nestU xs 0 (-1) with
  | some r => decide (r ≤ 40)
  | none => false)
theorem listB_ok {xs : List Node} (h : listB xs = true) : xs.length ≤ 20000 ∧ OkF xs 0 := by
  simp only [listB, Bool.and_eq_true, decide_eq_true_eq] at h
  refine ⟨h.1, ?_⟩
  have h2 := h.2
  split at h2
  · rename_i r hr
    exact OkF_of_nest xs xs.length 0 0 (-1) r (by omega) (by omega) (by simpa using hr)
  · cases h2
/-- Is it one box alone? -/
def oneB (xs : List Node) : Bool := listB xs && decide (0 < xs.length) && boxB (nth xs 0).kind && decide ((nth xs 0).kids = (xs.length : Int) - 1)
theorem oneB_ok {xs : List Node} (h : oneB xs = true) : xs.length ≤ 20000 ∧ 0 < xs.length ∧ OkF (xs.drop 1) 0 := by
  simp only [oneB, Bool.and_eq_true, decide_eq_true_eq] at h
  obtain ⟨⟨⟨hl, h0⟩, hb⟩, hk⟩ := h
  have h20 := (listB_ok hl).1
  refine ⟨h20, h0, ?_⟩
  simp only [listB, Bool.and_eq_true, decide_eq_true_eq] at hl
  have h2 := hl.2
  split at h2
  · rename_i r hr
    have hd := drop_eq h0
    rw [List.drop_zero] at hd
    rw [hd, nestU_cons] at hr
    split at hr
    · rename_i hok
      have hdp : deepB (nth xs 0).kind = true := by
        simp only [boxB, decide_eq_true_eq] at hb
        simp only [deepB, decide_eq_true_eq]; omega
      rw [if_pos hdp, Option.bind_eq_some_iff] at hr
      obtain ⟨m', h1, _⟩ := hr
      have hl1 : (xs.drop 1).length = xs.length - 1 := by simp
      rw [List.take_of_length_le (by rw [hl1]; omega)] at h1
      exact OkF_of_nest (xs.drop 1) (xs.length - 1) 0 _ _ m' (by rw [hl1]; omega) (by omega) (by simpa using h1)
    · cases hr
  · cases h2

/-- A glue along has no width left. -/
def gl (x : Node) : Node := if x.kind = 3 then { x with width := 0 } else x
/-- From i on, each item's glue without its width. -/
def fixL (xs : List Node) (i : Nat) : List Node := if i < xs.length then gl (nth xs i) :: (xs.drop (i + 1)).take (nth xs i).kids.toNat ++ fixL xs (i + 1 + (nth xs i).kids.toNat) else []
termination_by xs.length - i
theorem fixL_lt {xs : List Node} {i : Nat} (h : i < xs.length) : fixL xs i = gl (nth xs i) :: (xs.drop (i + 1)).take (nth xs i).kids.toNat ++ fixL xs (i + 1 + (nth xs i).kids.toNat) := by rw [fixL, if_pos h]
theorem fixL_end (xs : List Node) : fixL xs xs.length = [] := by rw [fixL, if_neg (by omega)]
theorem fixL_len (xs : List Node) {i : Nat} (h : OkF xs i) : (fixL xs i).length = xs.length - i := by
  induction h with
  | fin => rw [fixL_end]; simp
  | item i hi hk hn _ ih =>
    rw [fixL_lt hi]
    simp [ih]
    omega
end Go.Proofs.Ytcdkgonmdenakaa
