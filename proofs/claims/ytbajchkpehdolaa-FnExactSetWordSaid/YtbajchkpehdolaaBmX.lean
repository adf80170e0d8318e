/- A tree of one's own, as it is marked: element by element, cell by cell. -/
import Derived.Test.YtbajchkpehdolaaBmW
namespace Go.Bm
set_option linter.all false
open Go Go.RowKit
set_option linter.unusedVariables false
set_option linter.unusedSimpArgs false
set_option linter.unusedSectionVars false

section
variable {α : Type} [Inhabited α] {h : AH} {d es : Nat} {enc : α → List AV} {y : AV} {xs : List α} {i : Nat} {cells : List AV} {F : List Nat}
theorem Tw.row (E : EncOk es enc) (hes : 0 < es) (H : Tw h (d + 1) (.fs none (xs.map enc)) y F) (hx : 0 < xs.length) : ∃ b l F' c, y = .sl b 0 es xs.length c ∧ h.get b = some (.cells true l) ∧ l.all AV.one = true ∧ TwL (Tw h d) (xs.flatMap enc) l F' ∧ F = b :: F' := by
  obtain ⟨_, H⟩ := H
  rcases H with ⟨_, e, _⟩ | ⟨b, es', l, F', c', e1, e2, e3, eo, H, e4⟩
  · rw [List.map_eq_nil_iff] at e; subst e; simp at hx
  · have : es' = es := by
      have h1 := e2 (enc (nth xs 0)) (List.mem_map.2 ⟨nth xs 0, nth_mem hx, rfl⟩)
      rw [E.len] at h1; exact h1.symm
    subst this
    rw [List.length_map] at e1
    rw [flatten_map] at H
    exact ⟨b, l, F', c', e1, e3, eo, H, e4⟩
theorem Tw.lenA (H : Tw h (d + 1) (.fs none (xs.map enc)) y F) (h2 : AH) : lenA false y h2 = some (.int .i64 xs.length, h2) := by
  obtain ⟨_, H⟩ := H
  rcases H with ⟨e0, e, _⟩ | ⟨b, es', l, F', c', e1, _⟩
  · have : xs = [] := List.map_eq_nil_iff.1 e
    subst this
    rcases e0 with rfl | rfl <;> rfl
  · rw [e1, List.length_map]; rfl
theorem Tw.iaddrA (E : EncOk es enc) (hes : 0 < es) (H : Tw h (d + 1) (.fs none (xs.map enc)) y F) (h2 : AH) (k : IntKind) (j : Int) (j0 : 0 ≤ j) (j1 : j < xs.length) : iaddrA es y (.int k j) h2 = some (elt es y j.toNat 0, h2) := by
  obtain ⟨b, l, F', c, rfl, _⟩ := Tw.row E hes H (by omega)
  simp [Bm.iaddrA, elt, sb, j0, j1]

/-- The element at i stands open. -/
structure Arr (h : AH) (d es : Nat) (enc : α → List AV) (y : AV) (xs : List α) (i : Nat) (cells : List AV) (F : List Nat) : Prop where
  ok : EncOk es enc
  hi : i < xs.length
  cl : cells.length = es
  nd : F.Nodup
  at_ : ∃ b c l1 l2 l3 F1 F2 F3, y = .sl b 0 es xs.length c ∧ h.get b = some (.cells true (l1 ++ l2 ++ l3)) ∧ (l1 ++ l2 ++ l3).all AV.one = true ∧ l1.length = i * es ∧ l2.length = es ∧ TwL (Tw h d) ((xs.take i).flatMap enc) l1 F1 ∧ TwL (Tw h d) cells l2 F2 ∧ TwL (Tw h d) ((xs.drop (i + 1)).flatMap enc) l3 F3 ∧ F = b :: (F1 ++ F2 ++ F3)
theorem Arr.open_ (E : EncOk es enc) (hes : 0 < es) (H : Tw h (d + 1) (.fs none (xs.map enc)) y F) (nd : F.Nodup) (hi : i < xs.length) : Arr h d es enc y xs i (enc (nth xs i)) F := by
  obtain ⟨b, l, F', c, e1, e2, eo, H, e3⟩ := Tw.row E hes H (by omega)
  have e : xs.flatMap enc = (xs.take i).flatMap enc ++ (enc (nth xs i) ++ (xs.drop (i + 1)).flatMap enc) := by
    conv => lhs; rw [← List.take_append_drop i xs, drop_eq hi]
    rw [List.flatMap_append, List.flatMap_cons]
  rw [e] at H
  obtain ⟨l1, l', F1, F', a1, a2, H1, H⟩ := H.split
  obtain ⟨l2, l3, F2, F3, b1, b2, H2, H3⟩ := H.split
  subst a1; subst a2; subst b1; subst b2
  have n1 := H1.length
  rw [E.flen, List.length_take, Nat.min_eq_left (Nat.le_of_lt hi)] at n1
  have n2 := H2.length
  rw [E.len] at n2
  exact ⟨E, hi, E.len _, nd, b, c, l1, l2, l3, F1, F2, F3, e1, by rw [e2, List.append_assoc], by rw [List.append_assoc]; exact eo, n1, n2, H1, H2, H3, by rw [e3, List.append_assoc]⟩
theorem Arr.close {x' : α} (H : Arr h d es enc y xs i (enc x') F) : Tw h (d + 1) (.fs none ((xs.set i x').map enc)) y F := by
  obtain ⟨E, hi, cl, nd, b, c, l1, l2, l3, F1, F2, F3, e1, e2, eo, n1, n2, H1, H2, H3, e3⟩ := H
  refine ⟨rfl, .inr ⟨b, es, _, _, c, by rw [e1]; simp, fun r hr => ?_, e2, eo, ?_, e3⟩⟩
  · obtain ⟨x, _, rfl⟩ := List.mem_map.1 hr; exact E.len x
  · rw [flatten_map, List.set_eq_take_append_cons_drop, if_pos hi, List.flatMap_append, List.flatMap_cons, ← List.append_assoc]
    exact (H1.append H2).append H3
theorem TwL.at_ {T : AV → AV → List Nat → Prop} : ∀ {xs ys : List AV} {F : List Nat} {k : Nat} {x : AV}, TwL T xs ys F → xs[k]? = some x → ∃ y G, ys[k]? = some y ∧ T x y G ∧ (∀ b ∈ G, b ∈ F) ∧ (F.Nodup → G.Nodup) ∧ ∀ (T' : AV → AV → List Nat → Prop) (x' : AV), T' x' y G → (∀ u v Q, (∀ b ∈ Q, b ∈ F ∧ (F.Nodup → b ∉ G)) → T u v Q → T' u v Q) → F.Nodup → TwL T' (xs.set k x') ys F
  | [], _, _, k, x, _, e => by simp at e
  | z :: xs, _, _, 0, x, ⟨y, ys', F1, F2, e1, e2, h1, h2⟩, e => by
    simp at e
    subst e; subst e1; subst e2
    refine ⟨y, F1, rfl, h1, fun b hb => List.mem_append_left _ hb, fun n => (List.nodup_append.1 n).1, fun T' x' ht hk nd => ?_⟩
    refine ⟨y, ys', F1, F2, rfl, rfl, ht, h2.mono fun u v Q hQ => hk u v Q fun b hb => ⟨List.mem_append_right _ (hQ b hb), fun _ hb1 => (List.nodup_append.1 nd).2.2 b hb1 b (hQ b hb) rfl⟩⟩
  | z :: xs, _, _, k + 1, x, ⟨y, ys', F1, F2, e1, e2, h1, h2⟩, e => by
    subst e1; subst e2
    obtain ⟨w, G, g1, g2, g3, g4, g5⟩ := TwL.at_ (k := k) h2 (by simpa using e)
    refine ⟨w, G, by simpa using g1, g2, fun b hb => List.mem_append_right _ (g3 b hb), fun n => g4 (List.nodup_append.1 n).2.1, fun T' x' ht hk nd => ?_⟩
    have nd' := List.nodup_append.1 nd
    refine ⟨y, ys', F1, F2, rfl, rfl, hk _ _ _ (fun b hb => ⟨List.mem_append_left _ hb, fun _ hb1 => nd'.2.2 b hb b (g3 b hb1) rfl⟩) h1, g5 T' x' ht (fun u v Q hQ => hk u v Q fun b hb => ⟨List.mem_append_right _ (hQ b hb).1, fun _ => (hQ b hb).2 nd'.2.1⟩) nd'.2.1⟩
theorem rd1 {b off : Nat} {l1 l2 l3 : List AV} (e2 : h.get b = some (.cells true (l1 ++ l2 ++ l3))) (n1 : l1.length = i * es) (n2 : l2.length = es) (hoff : off < es) : loadA false 1 (.ptr b (i * es + off)) h = some (l2.getD off .any, h) := by
  have hrd : h.read b (i * es + off) 1 = some ((l2.drop off).take 1) := by
    unfold AH.read
    rw [e2]
    simp only
    rw [if_pos (by simp only [List.length_append]; omega), List.append_assoc, ← n1, List.drop_append, List.drop_of_length_le (by omega), List.nil_append, show l1.length + off - l1.length = off by omega, List.drop_append_of_le_length (by omega), List.take_append_of_le_length (by rw [List.length_drop]; omega)]
  have ho : off < l2.length := by omega
  have e : (l2.drop off).take 1 = [l2[off]] := by rw [List.drop_eq_getElem_cons ho, List.take_succ_cons, List.take_zero]
  simp only [loadA, rdA, hrd, e]
  simp [ho]
/-- A cell that holds a tree: read, turned in its own blocks. -/
theorem Arr.sub (H : Arr h d es enc y xs i cells F) {off : Nat} {x : AV} (hx : cells[off]? = some x) :
    ∃ z G, loadA false 1 (elt es y i off) h = some (z, h) ∧ Tw h d x z G ∧ G.Nodup ∧ (∀ b ∈ G, b ∈ F) ∧ ∀ h' x', Tw h' d x' z G → (∀ b, b ∉ G → h'.get b = h.get b) → Arr h' d es enc y xs i (cells.set off x') F := by
  have hoff : off < es := by rw [← H.cl]; exact (List.getElem?_eq_some_iff.1 hx).1
  obtain ⟨E, hi, cl, nd, b, c, l1, l2, l3, F1, F2, F3, rfl, e2, eo, n1, n2, H1, H2, H3, e3⟩ := H
  have hl := rd1 e2 n1 n2 hoff
  obtain ⟨z, G, g1, g2, g3, g4, g5⟩ := H2.at_ hx
  have hGF : ∀ k ∈ G, k ∈ F := fun k hk => by rw [e3]; simp [g3 k hk]
  have nd' := nd
  rw [e3] at nd'
  obtain ⟨hb, nd2⟩ := List.nodup_cons.1 nd'
  obtain ⟨nd12, nd3, dj3⟩ := List.nodup_append.1 nd2
  obtain ⟨nd1, ndG, dj1⟩ := List.nodup_append.1 nd12
  refine ⟨z, G, by show loadA false 1 (.ptr b (i * es + off)) h = _; rw [hl]; simp [g1], g2, g4 ndG, hGF, fun h' x' ht hk => ⟨E, hi, by rw [List.length_set]; exact cl, nd, b, c, l1, l2, l3, F1, F2, F3, rfl, ?_, eo, n1, n2, ?_, ?_, ?_, e3⟩⟩
  · rw [hk b fun hbG => hb (by simp [g3 b hbG])]; exact e2
  · exact H1.frame fun k hk1 => hk k fun hkG => dj1 k hk1 k (g3 k hkG) rfl
  · exact g5 _ x' ht (fun u v Q hQ t => Tw.frame d (fun k hk1 => hk k ((hQ k hk1).2 ndG)) t) ndG
  · exact H3.frame fun k hk1 => hk k fun hkG => dj3 k (by simp [g3 k hkG]) k hk1 rfl
theorem TwL.setB {T : AV → AV → List Nat → Prop} {x x' : AV} (ht : ∀ z G, T x z G → G = []) (hx : T x' x' []) : ∀ {xs ys : List AV} {F : List Nat} {k : Nat}, TwL T xs ys F → xs[k]? = some x → TwL T (xs.set k x') (ys.set k x') F
  | [], _, _, k, _, e => by simp at e
  | z :: xs, _, _, 0, ⟨y, ys', F1, F2, e1, e2, h1, h2⟩, e => by
    simp at e
    subst e; subst e1; subst e2
    have := ht _ _ h1
    subst this
    exact ⟨x', ys', [], F2, rfl, rfl, hx, h2⟩
  | z :: xs, _, _, k + 1, ⟨y, ys', F1, F2, e1, e2, h1, h2⟩, e => by
    subst e1; subst e2
    exact ⟨y, ys'.set k x', F1, F2, rfl, rfl, h1, TwL.setB ht hx h2 (by simpa using e)⟩
theorem set_mid {β : Type} (l1 l2 l3 : List β) (k : Nat) (v : β) (hk : k < l2.length) : (l1 ++ l2 ++ l3).set (l1.length + k) v = l1 ++ l2.set k v ++ l3 := by
  rw [List.append_assoc, List.append_assoc, List.set_append_right _ _ (by omega), show l1.length + k - l1.length = k by omega, List.set_append_left _ _ hk]
/-- A cell that holds no tree is stored. -/
theorem Arr.store (H : Arr h (d + 1) es enc y xs i cells F) {off : Nat} {x0 x : AV} (hx0 : cells[off]? = some x0) (h0 : x0.scal = true) (hx0' : x0.one = true) (hx : x.scal = true) (hx1 : x.one = true) :
    ∃ h', storeA 1 (elt es y i off) x h = some (.tup [], h') ∧ Arr h' (d + 1) es enc y xs i (cells.set off x) F ∧ h'.next = h.next ∧ ∀ b, b ∉ F → h'.get b = h.get b := by
  have hoff : off < es := by rw [← H.cl]; exact (List.getElem?_eq_some_iff.1 hx0).1
  obtain ⟨E, hi, cl, nd, b, c, l1, l2, l3, F1, F2, F3, rfl, e2, eo, n1, n2, H1, H2, H3, e3⟩ := H
  have hc : x.cells = [x] := by cases x <;> first | rfl | cases hx1
  have hb := AH.get_lt e2
  have nd' := nd
  rw [e3] at nd'
  obtain ⟨hbn, nd2⟩ := List.nodup_cons.1 nd'
  obtain ⟨nd12, nd3, dj3⟩ := List.nodup_append.1 nd2
  obtain ⟨nd1, ndG, dj1⟩ := List.nodup_append.1 nd12
  have hset : setAll (l1 ++ l2 ++ l3) (i * es + off) [x] = l1 ++ l2.set off x ++ l3 := by
    show ((l1 ++ l2 ++ l3).set (i * es + off) x) = _
    rw [← n1, set_mid _ _ _ _ _ (by omega)]
  have keep : ∀ k, k ≠ b → (h.upd b (some (.cells true (l1 ++ l2.set off x ++ l3)))).get k = h.get k := fun k hk => by rw [AH.get_upd hb, if_neg hk]
  have tone : ∀ z G, Tw h (d + 1) x0 z G → G = [] := fun z G t => by
    cases x0 <;> simp only [Tw] at t <;> first | exact t.2 | cases h0 | cases hx0'
  have tx : ∀ h', Tw h' (d + 1) x x [] := fun h' => by
    cases x <;> first | exact ⟨rfl, rfl⟩ | cases hx | cases hx1
  have fr1 : ∀ k ∈ F1, k ≠ b := fun k hk e => hbn (by rw [← e]; simp [hk])
  have fr2 : ∀ k ∈ F2, k ≠ b := fun k hk e => hbn (by rw [← e]; simp [hk])
  have fr3 : ∀ k ∈ F3, k ≠ b := fun k hk e => hbn (by rw [← e]; simp [hk])
  refine ⟨_, ?_, ⟨E, hi, by rw [List.length_set]; exact cl, nd, b, c, l1, l2.set off x, l3, F1, F2, F3, rfl, by rw [AH.get_upd hb, if_pos rfl], ?_, n1, by rw [List.length_set]; exact n2, H1.frame fun k hk => keep k (fr1 k hk), ?_, H3.frame fun k hk => keep k (fr3 k hk), e3⟩, rfl, fun k hk => keep k fun e => hk (by rw [e3, e]; simp)⟩
  · simp only [storeA, elt, sb, hc, AH.write, e2, List.length_singleton, if_true]
    rw [if_pos (by simp only [Bool.and_eq_true, decide_eq_true_eq]; exact ⟨by simp only [List.length_append]; omega, by rw [List.all_cons, hx1]; rfl⟩), hset]
  · rw [List.all_append, List.all_append, Bool.and_eq_true, Bool.and_eq_true] at eo ⊢
    refine ⟨⟨eo.1.1, ?_⟩, eo.2⟩
    rw [List.all_eq_true]
    intro z hz
    rcases List.mem_or_eq_of_mem_set hz with hz | rfl
    · exact List.all_eq_true.1 eo.1.2 z hz
    · exact hx1
  · exact TwL.setB (fun z G t => by
      cases x0 <;> simp only [Tw] at t <;> first | exact t.2 | cases h0 | cases hx0') (tx _) (H2.frame fun k hk => keep k (fr2 k hk)) hx0
end
/-! ### the marks' numbers -/
def ctL {α : Type} (ct : α → Nat) (xs : List α) : Nat := (xs.map ct).sum
def mkL {α : Type} (mk : Int → α → α) (ct : α → Nat) : Int → List α → List α
  | _, [] => []
  | n, x :: xs => mk n x :: mkL mk ct (n + (ct x : Nat)) xs
section
variable {α : Type} [Inhabited α] (mk : Int → α → α) (ct : α → Nat)
theorem ctL_cons (x : α) (xs : List α) : ctL ct (x :: xs) = ct x + ctL ct xs := by simp [ctL]
theorem ctL_append (xs ys : List α) : ctL ct (xs ++ ys) = ctL ct xs + ctL ct ys := by simp [ctL]
theorem ctL_take {xs : List α} {i : Nat} (hi : i < xs.length) : ctL ct (xs.take (i + 1)) = ctL ct (xs.take i) + ct (nth xs i) := by rw [take_succ hi, ctL_append]; simp [ctL]
theorem ctL_le {xs : List α} {i : Nat} (hi : i < xs.length) : ctL ct (xs.take i) + ct (nth xs i) ≤ ctL ct xs := by
  have : xs = xs.take (i + 1) ++ xs.drop (i + 1) := (List.take_append_drop _ _).symm
  rw [← ctL_take ct hi]
  conv => rhs; rw [this]
  rw [ctL_append]; omega
theorem mkL_len : ∀ (n : Int) (xs : List α), (mkL mk ct n xs).length = xs.length
  | _, [] => rfl
  | n, x :: xs => by rw [mkL, List.length_cons, List.length_cons, mkL_len]
theorem mkL_append : ∀ (n : Int) (xs ys : List α), mkL mk ct n (xs ++ ys) = mkL mk ct n xs ++ mkL mk ct (n + (ctL ct xs : Nat)) ys
  | n, [], ys => by simp [mkL, ctL]
  | n, x :: xs, ys => by
    rw [List.cons_append, mkL, mkL, mkL_append, ctL_cons, List.cons_append]
    congr 3; omega
theorem mkL_take {xs : List α} (n : Int) {i : Nat} (hi : i < xs.length) : mkL mk ct n (xs.take (i + 1)) = mkL mk ct n (xs.take i) ++ [mk (n + (ctL ct (xs.take i) : Nat)) (nth xs i)] := by
  rw [take_succ hi, mkL_append]; rfl
theorem mkL_nth {xs : List α} (n : Int) {i : Nat} (hi : i < xs.length) : nth (mkL mk ct n xs) i = mk (n + (ctL ct (xs.take i) : Nat)) (nth xs i) := by
  have e : xs = xs.take (i + 1) ++ xs.drop (i + 1) := (List.take_append_drop _ _).symm
  have e2 : mkL mk ct n xs = mkL mk ct n (xs.take i) ++ (mk (n + (ctL ct (xs.take i) : Nat)) (nth xs i) :: mkL mk ct (n + (ctL ct (xs.take (i + 1)) : Nat)) (xs.drop (i + 1))) := by
    conv => lhs; rw [e]
    rw [mkL_append, mkL_take mk ct n hi, List.append_assoc]; rfl
  have hl : (mkL mk ct n (xs.take i)).length = i := by rw [mkL_len, List.length_take]; omega
  rw [nth_eq (by rw [mkL_len]; exact hi)]
  simp only [e2]
  rw [List.getElem_append_right (by omega)]
  simp [hl]
/-- As far as it is marked. -/
def mkU (n : Int) (xs : List α) (i : Nat) : List α := mkL mk ct n (xs.take i) ++ xs.drop i
theorem mkU_len (n : Int) (xs : List α) (i : Nat) : (mkU mk ct n xs i).length = xs.length := by
  unfold mkU; rw [List.length_append, mkL_len, List.length_take, List.length_drop]; omega
theorem mkU_zero (n : Int) (xs : List α) : mkU mk ct n xs 0 = xs := by simp [mkU, mkL]
theorem mkU_all (n : Int) (xs : List α) : mkU mk ct n xs xs.length = mkL mk ct n xs := by simp [mkU]
theorem mkU_nth (n : Int) {xs : List α} {i : Nat} (hi : i < xs.length) : nth (mkU mk ct n xs i) i = nth xs i := by
  have hl : (mkL mk ct n (xs.take i)).length = i := by rw [mkL_len, List.length_take]; omega
  rw [nth_eq (by rw [mkU_len]; exact hi)]
  simp only [mkU]
  rw [List.getElem_append_right (by omega)]
  simp only [hl, Nat.sub_self, drop_eq hi, List.getElem_cons_zero]
theorem mkU_succ (n : Int) {xs : List α} {i : Nat} (hi : i < xs.length) : (mkU mk ct n xs i).set i (mk (n + (ctL ct (xs.take i) : Nat)) (nth xs i)) = mkU mk ct n xs (i + 1) := by
  have hl : (mkL mk ct n (xs.take i)).length = i := by rw [mkL_len, List.length_take]; omega
  simp only [mkU]
  rw [mkL_take mk ct n hi, drop_eq hi, List.set_append_right _ _ (by omega), hl, Nat.sub_self, List.set_cons_zero, List.append_assoc]; rfl
end
end Go.Bm
