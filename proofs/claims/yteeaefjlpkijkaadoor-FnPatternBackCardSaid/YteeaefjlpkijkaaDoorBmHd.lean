/- strings.Trim at the two sets of letters that the program names: the machine's own code stands for it. -/
import Derived.Test.YteeaefjlpkijkaaDoorBmHc
import Derived.Shelf.Strings.SlTrimAscii
namespace Go.Bm
set_option linter.all false
open Go Go.RowKit
set_option linter.unusedVariables false
set_option linter.unusedSimpArgs false

def dotS : ByteArray := ⟨#[46]⟩
def azS : ByteArray := ⟨#[97, 98, 99, 100, 101, 102, 103, 104, 105, 106, 107, 108, 109, 110, 111, 112, 113, 114, 115, 116, 117, 118, 119, 120, 121, 122]⟩
/-- From the front, then from the back, as long as the bytes are from t6 to t7. -/
def trimTail : AC :=
  .seq (.block 0 (.loop (.seq (.reg [⟨some 11, none, .bin .lss (.t 9) (.t 10)⟩]) (.seq (.cond (.t 11) .skip (.exit 0))
    (.seq (.reg [⟨some 12, none, .index (.t 0) (.t 9)⟩, ⟨some 13, none, .bin .leq (.t 6) (.t 12)⟩, ⟨some 14, none, .bin .leq (.t 12) (.t 7)⟩]) (.seq (.cond (.t 13) .skip (.exit 0)) (.seq (.cond (.t 14) .skip (.exit 0)) (.reg [⟨some 15, none, .bin .add (.t 9) (.c (.int .i64 1))⟩, ⟨some 9, none, .mov (.t 15)⟩]))))))))
  (.seq (.block 1 (.loop (.seq (.reg [⟨some 11, none, .bin .lss (.t 9) (.t 10)⟩]) (.seq (.cond (.t 11) .skip (.exit 1))
    (.seq (.reg [⟨some 15, none, .bin .sub (.t 10) (.c (.int .i64 1))⟩, ⟨some 12, none, .index (.t 0) (.t 15)⟩, ⟨some 13, none, .bin .leq (.t 6) (.t 12)⟩, ⟨some 14, none, .bin .leq (.t 12) (.t 7)⟩]) (.seq (.cond (.t 13) .skip (.exit 1)) (.seq (.cond (.t 14) .skip (.exit 1)) (.reg [⟨some 10, none, .mov (.t 15)⟩]))))))))
  (.seq (.reg [⟨some 2, none, .slstr (.t 0) (some (.t 9)) (some (.t 10))⟩]) .ret))
def trimAF : AFunc := ⟨[], 2, [(.tmp 2)],
  .seq (.reg [⟨some 3, none, .len true (.t 0)⟩, ⟨some 4, none, .len true (.t 1)⟩, ⟨some 5, none, .bin .eql (.t 1) (.c (.str dotS))⟩, ⟨some 16, none, .bin .leq (.t 3) (.c (.int .i64 4611686018427387904))⟩])
  (.seq (.cond (.t 16) .skip (.exit 9))
  (.seq (.cond (.t 5) (.reg [⟨some 6, none, .mov (.c (.int .u8 46))⟩, ⟨some 7, none, .mov (.c (.int .u8 46))⟩])
    (.seq (.reg [⟨some 8, none, .bin .eql (.t 1) (.c (.str azS))⟩]) (.cond (.t 8) (.reg [⟨some 6, none, .mov (.c (.int .u8 97))⟩, ⟨some 7, none, .mov (.c (.int .u8 122))⟩]) (.exit 9))))
  (.seq (.reg [⟨some 9, none, .mov (.c (.int .i64 0))⟩, ⟨some 10, none, .mov (.t 3)⟩]) trimTail)))⟩

def C0 : AQ := fun _ _ _ _ => False
theorem C0_mono : C0.Mono := fun _ _ _ _ _ _ x => x
theorem C0_strict : C0.Strict := fun _ _ _ _ x => x.elim
def inR (lo hi : Nat) (b : UInt8) : Prop := lo ≤ b.toNat ∧ b.toNat ≤ hi
def byt (s : ByteArray) (i : Nat) : UInt8 := s.toList.getD i 0
theorem trimTail_run {C : AQ} (hC : C.Mono) (s : ByteArray) (lo hi : Nat) (hs : s.size ≤ 4611686018427387904) (h : AH) (st : S) (s0 : st 0 = .str s) (s6 : st 6 = .int .u8 (lo : Int)) (s7 : st 7 = .int .u8 (hi : Int)) (s9 : st 9 = .int .i64 0) (s10 : st 10 = .int .i64 s.size) (R : AV → AH → Prop)
    (hR : ∀ i j, i ≤ j → j ≤ s.size → (∀ k, k < i → inR lo hi (byt s k)) → (∀ k, j ≤ k → k < s.size → inR lo hi (byt s k)) → (i < j → ¬ inR lo hi (byt s i) ∧ ¬ inR lo hi (byt s (j - 1))) → R (.str (s.extract i j)) h) :
    awp C trimTail (endR [.tmp 2] R) st h := by
  have ix : ∀ (i : Nat) (h2 : AH), i < s.size → indexA (.str s) (.int .i64 (i : Int)) h2 = some (.int .u8 ((byt s i).toNat : Int), h2) := fun i h2 hi => by
    simp only [indexA]
    rw [if_pos ⟨by omega, by omega⟩]
    rfl
  simp [trimTail]
  refine awp_loop2 hC (fun n st h' => h' = h ∧ ∃ i : Nat, n = s.size - i ∧ i ≤ s.size ∧ (st 0 = .str s ∧ st 6 = .int .u8 (lo : Int) ∧ st 7 = .int .u8 (hi : Int) ∧ st 9 = .int .i64 i ∧ st 10 = .int .i64 s.size) ∧ ∀ k, k < i → inR lo hi (byt s k)) ?_ (n := s.size) ⟨rfl, 0, by simp, by simp, ⟨s0, s6, s7, by simpa using s9, s10⟩, fun k hk => absurd hk (by omega)⟩
  clear s0 s6 s7 s9 s10 st
  rintro n st h' ⟨rfl, i, rfl, hi', ⟨s0, s6, s7, s9, s10⟩, hin⟩ K hK hE hQ
  -- the second loop
  have second : (i < s.size → ¬ inR lo hi (byt s i)) → ∀ st2 : S, st2 0 = .str s → st2 6 = .int .u8 (lo : Int) → st2 7 = .int .u8 (hi : Int) → st2 9 = .int .i64 i → st2 10 = .int .i64 s.size → K (.exit 0) st2 h' := by
    intro hni st2 t0 t6 t7 t9 t10
    simp [hE]
    refine awp_loop2 hC (fun n st h2 => h2 = h' ∧ ∃ j : Nat, n = j - i ∧ i ≤ j ∧ j ≤ s.size ∧ (st 0 = .str s ∧ st 6 = .int .u8 (lo : Int) ∧ st 7 = .int .u8 (hi : Int) ∧ st 9 = .int .i64 i ∧ st 10 = .int .i64 j) ∧ ∀ k, j ≤ k → k < s.size → inR lo hi (byt s k)) ?_ (n := s.size - i) ⟨rfl, s.size, rfl, hi', Nat.le_refl _, ⟨t0, t6, t7, t9, t10⟩, fun k h1 h2 => absurd h1 (by omega)⟩
    clear t0 t6 t7 t9 t10 st2 hK hE hQ K
    rintro n st h2 ⟨rfl, j, rfl, hij, hjs, ⟨t0, t6, t7, t9, t10⟩, hout⟩ K hK hE hQ
    have fin : (i < j → ¬ inR lo hi (byt s i) ∧ ¬ inR lo hi (byt s (j - 1))) → ∀ st2 : S, st2 0 = .str s → st2 9 = .int .i64 i → st2 10 = .int .i64 j → K (.exit 1) st2 h2 := by
      intro hx st2 u0 u9 u10
      have hsl : slstrA (.str s) (some (.int .i64 (i : Int))) (some (.int .i64 (j : Int))) h2 = some (.str (s.extract i j), h2) := by
        simp only [slstrA, bound]
        rw [if_pos ⟨by omega, by omega⟩]
        simp only [Int.toNat_natCast]
        rw [if_pos ⟨by omega, by omega⟩]
      simp [hE, u0, u9, u10, hsl]
      exact hR i j hij hjs hin hout hx
    simp [t9, t10]
    by_cases hlt : i < j
    · have hw : IntKind.wrap .i64 ((j : Int) - 1) = ((j - 1 : Nat) : Int) := by rw [wrap_i64 (by omega) (by omega)]; omega
      have ij := ix (j - 1) h2 (by omega)
      simp [hlt, t0, t6, t7, t9, t10, hw, ij]
      by_cases c1 : lo ≤ (byt s (j - 1)).toNat
      · simp [c1]
        by_cases c2 : (byt s (j - 1)).toNat ≤ hi
        · simp [c2]
          exact hK (j - 1 - i) _ _ (by omega) ⟨rfl, j - 1, rfl, by omega, by omega, ⟨by simp [t0], by simp [t6], by simp [t7], by simp [t9], by simp⟩, fun k h1 h2 => by
            by_cases e : k = j - 1
            · rw [e]; exact ⟨c1, c2⟩
            · exact hout k (by omega) h2⟩
        · simp [c2]
          exact fin (fun _ => ⟨hni (by omega), fun x => c2 x.2⟩) _ (by simp [t0]) (by simp [t9]) (by simp [t10])
      · simp [c1]
        exact fin (fun _ => ⟨hni (by omega), fun x => c1 x.1⟩) _ (by simp [t0]) (by simp [t9]) (by simp [t10])
    · simp [hlt]
      exact fin (fun x => absurd x hlt) _ (by simp [t0]) (by simp [t9]) (by simp [t10])
  simp [s9, s10]
  by_cases hlt : i < s.size
  · have hw : IntKind.wrap .i64 ((i : Int) + 1) = (i : Int) + 1 := wrap_i64 (by omega) (by omega)
    have ij := ix i h' hlt
    simp [hlt, s0, s6, s7, s9, s10, hw, ij]
    by_cases c1 : lo ≤ (byt s i).toNat
    · simp [c1]
      by_cases c2 : (byt s i).toNat ≤ hi
      · simp [c2, hw, s9]
        exact hK (s.size - (i + 1)) _ _ (by omega) ⟨rfl, i + 1, rfl, by omega, ⟨by simp [s0], by simp [s6], by simp [s7], by simp, by simp [s10]⟩, fun k hk => by
          by_cases e : k = i
          · rw [e]; exact ⟨c1, c2⟩
          · exact hin k (by omega)⟩
      · simp [c2]
        exact second (fun _ x => c2 x.2) _ (by simp [s0]) (by simp [s6]) (by simp [s7]) (by simp [s9]) (by simp [s10])
    · simp [c1]
      exact second (fun _ x => c1 x.1) _ (by simp [s0]) (by simp [s6]) (by simp [s7]) (by simp [s9]) (by simp [s10])
  · simp [hlt]
    exact second (fun x => absurd x hlt) _ (by simp [s0]) (by simp [s6]) (by simp [s7]) (by simp [s9]) (by simp [s10])
/-- The two sets. -/
def setOf (cs : ByteArray) (lo hi : Nat) : Prop := cs = dotS ∧ lo = 46 ∧ hi = 46 ∨ cs = azS ∧ lo = 97 ∧ hi = 122
theorem trimAF_run {C : AQ} (hC : C.Mono) (s cs : ByteArray) (lo hi : Nat) (hcs : setOf cs lo hi) (hs : s.size ≤ 4611686018427387904) (h : AH) (R : AV → AH → Prop)
    (hR : ∀ i j, i ≤ j → j ≤ s.size → (∀ k, k < i → inR lo hi (byt s k)) → (∀ k, j ≤ k → k < s.size → inR lo hi (byt s k)) → (i < j → ¬ inR lo hi (byt s i) ∧ ¬ inR lo hi (byt s (j - 1))) → R (.str (s.extract i j)) h) : abody C trimAF [.str s, .str cs] h R := by
  have hs' : (s.size : Int) ≤ 4611686018427387904 := by omega
  rcases hcs with ⟨rfl, rfl, rfl⟩ | ⟨rfl, rfl, rfl⟩
  · simp [trimAF, hs']
    exact trimTail_run hC s 46 46 hs h _ (by simp) (by simp) (by simp) (by simp) (by simp) R hR
  · simp [trimAF, hs', show azS ≠ dotS by decide]
    exact trimTail_run hC s 97 122 hs h _ (by simp) (by simp) (by simp) (by simp) (by simp) R hR
theorem trimAF_inv (C : AQ) (args : List AV) (h : AH) (R : AV → AH → Prop) (H : abody C trimAF args h R) : ∃ s cs lo hi, args = [.str s, .str cs] ∧ setOf cs lo hi ∧ s.size ≤ 4611686018427387904 := by
  obtain ⟨hl, H⟩ := H
  match args, hl with
  | [x, y], _ =>
    have hx : ∃ a, x = .str a := by
      cases x <;> first | exact ⟨_, rfl⟩ | (simp [trimAF, lenA, thenA] at H)
    obtain ⟨a, rfl⟩ := hx
    have hy : ∃ b, y = .str b := by
      cases y <;> first | exact ⟨_, rfl⟩ | (simp [trimAF, lenA, thenA] at H)
    obtain ⟨b, rfl⟩ := hy
    by_cases hs : a.size ≤ 4611686018427387904
    · by_cases e1 : b = dotS
      · exact ⟨a, b, 46, 46, rfl, .inl ⟨e1, rfl, rfl⟩, hs⟩
      · by_cases e2 : b = azS
        · exact ⟨a, b, 97, 122, rfl, .inr ⟨e2, rfl, rfl⟩, hs⟩
        · have hs' : (a.size : Int) ≤ 4611686018427387904 := by omega
          simp [trimAF, hs', e1, e2] at H
    · have hs' : ¬ (a.size : Int) ≤ 4611686018427387904 := by omega
      simp [trimAF, hs'] at H
theorem extract_toList (s : ByteArray) (i j : Nat) : (s.extract i j).data.toList = (s.data.toList.take j).drop i := by
  rw [ByteArray.data_extract, Array.toList_extract]
  simp [List.extract_eq_drop_take, List.drop_take]
theorem byt_some (s : ByteArray) {k : Nat} {b : UInt8} (h : s.data.toList[k]? = some b) : byt s k = b ∧ k < s.size := by
  have h1 := (List.getElem?_eq_some_iff.1 h)
  obtain ⟨hk, e⟩ := h1
  refine ⟨?_, by rw [Lib.size_eq]; exact hk⟩
  unfold byt
  rw [Lib.toList_data, List.getD_eq_getElem?_getD, h]; rfl
theorem trimS_ij (s cs : ByteArray) (lo hi : Nat) (hset : ∀ b : UInt8, cs.data.toList.contains b = true ↔ inR lo hi b) (i j : Nat) (hij : i ≤ j) (hj : j ≤ s.size) (h1 : ∀ k, k < i → inR lo hi (byt s k)) (h2 : ∀ k, j ≤ k → k < s.size → inR lo hi (byt s k)) (h3 : i < j → ¬ inR lo hi (byt s i) ∧ ¬ inR lo hi (byt s (j - 1))) :
    Lib.trimS s.data.toList cs.data.toList = (s.extract i j).data.toList := by
  have hno : ∀ b, ¬ inR lo hi b → cs.data.toList.contains b = false := fun b hb => by
    cases h : cs.data.toList.contains b with
    | false => rfl
    | true => exact absurd ((hset b).1 h) hb
  have hl : s.data.toList.length = s.size := (Lib.size_eq s).symm
  rw [extract_toList]
  unfold Lib.trimS
  by_cases hlt : i < j
  · obtain ⟨n1, n2⟩ := h3 hlt
    rw [Lib.trimRightS_take s.data.toList cs.data.toList j (by omega) (fun k b hk hb => by obtain ⟨e, hk2⟩ := byt_some s hb; rw [← e]; exact (hset _).2 (h2 k hk hk2)) (fun b _ hb => by obtain ⟨e, _⟩ := byt_some s hb; rw [← e]; exact hno _ n2)]
    refine Lib.trimLeftS_drop _ _ i (by rw [List.length_take]; omega) (fun k b hk hb => ?_) (fun b hb => ?_)
    · rw [List.getElem?_take, if_pos (by omega)] at hb
      obtain ⟨e, _⟩ := byt_some s hb; rw [← e]; exact (hset _).2 (h1 k hk)
    · rw [List.getElem?_take, if_pos hlt] at hb
      obtain ⟨e, _⟩ := byt_some s hb; rw [← e]; exact hno _ n1
  · obtain rfl : i = j := by omega
    rw [Lib.trimRightS_take s.data.toList cs.data.toList 0 (by omega) (fun k b _ hb => by
      obtain ⟨e, hk2⟩ := byt_some s hb
      rw [← e]
      by_cases hk : k < i
      · exact (hset _).2 (h1 k hk)
      · exact (hset _).2 (h2 k (by omega) hk2)) (fun b h0 _ => absurd h0 (by omega))]
    rw [List.take_zero, List.drop_of_length_le (by rw [List.length_take]; omega)]
    rfl
theorem set_dot (b : UInt8) : dotS.data.toList.contains b = true ↔ inR 46 46 b := by
  show ([46] : List UInt8).contains b = true ↔ _
  rw [List.contains_iff_mem]
  simp only [List.mem_cons, List.not_mem_nil, or_false, inR, ← UInt8.toNat_inj]
  have : (46 : UInt8).toNat = 46 := rfl
  omega
theorem set_az (b : UInt8) : azS.data.toList.contains b = true ↔ inR 97 122 b := by
  show ([97, 98, 99, 100, 101, 102, 103, 104, 105, 106, 107, 108, 109, 110, 111, 112, 113, 114, 115, 116, 117, 118, 119, 120, 121, 122] : List UInt8).contains b = true ↔ _
  rw [List.contains_iff_mem]
  simp only [List.mem_cons, List.not_mem_nil, or_false, inR, ← UInt8.toNat_inj]
  simp only [UInt8.reduceToNat]
  omega
theorem set_mem {cs : ByteArray} {lo hi : Nat} (hset : setOf cs lo hi) (b : UInt8) : cs.data.toList.contains b = true ↔ inR lo hi b := by
  rcases hset with ⟨rfl, rfl, rfl⟩ | ⟨rfl, rfl, rfl⟩
  · exact set_dot b
  · exact set_az b
def trimV (s cs : ByteArray) : ByteArray := ⟨(Lib.trimS s.data.toList cs.data.toList).toArray⟩
theorem trimV_ij {s cs : ByteArray} {lo hi : Nat} (hcs : setOf cs lo hi) (hs : s.size ≤ 4611686018427387904) : ∃ i j, trimV s cs = s.extract i j ∧ i ≤ j ∧ j ≤ s.size ∧ (∀ k, k < i → inR lo hi (byt s k)) ∧ (∀ k, j ≤ k → k < s.size → inR lo hi (byt s k)) ∧ (i < j → ¬ inR lo hi (byt s i)) := by
  have a0 := trimAF_run C0_mono s cs lo hi hcs hs AH.nil (fun v _ => ∃ i j, trimV s cs = s.extract i j ∧ i ≤ j ∧ j ≤ s.size ∧ (∀ k, k < i → inR lo hi (byt s k)) ∧ (∀ k, j ≤ k → k < s.size → inR lo hi (byt s k)) ∧ (i < j → ¬ inR lo hi (byt s i))) fun i j h1 h2 h3 h4 h5 => ⟨i, j, by
    unfold trimV
    rw [trimS_ij s cs lo hi (set_mem hcs) i j h1 h2 h3 h4 h5], h1, h2, h3, h4, fun h => (h5 h).1⟩
  obtain ⟨e, s', h', x⟩ := awp_strict C0_strict _ a0.2
  cases e with
  | exit i => exact x.elim
  | normal | ret =>
    all_goals
      simp only at x
      split at x
      · exact x
      · exact x.elim
theorem trimV_nil {s cs : ByteArray} {lo hi : Nat} (hcs : setOf cs lo hi) (hs : s.size ≤ 4611686018427387904) : trimV s cs = ⟨#[]⟩ ↔ ∀ k, k < s.size → inR lo hi (byt s k) := by
  obtain ⟨i, j, e, h1, h2, h3, h4, h5⟩ := trimV_ij hcs hs
  have hz : (s.extract i j).size = j - i := by rw [ByteArray.size_extract]; omega
  constructor
  · intro h k hk
    rw [h] at e
    have : (⟨#[]⟩ : ByteArray).size = 0 := rfl
    rw [← e, this] at hz
    by_cases hki : k < i
    · exact h3 k hki
    · exact h4 k (by omega) hk
  · intro h
    have hn : ¬ i < j := fun hlt => h5 hlt (h i (by omega))
    rw [e]
    have h0 : (s.extract i j).size = 0 := by omega
    generalize s.extract i j = x at h0
    obtain ⟨⟨l⟩⟩ := x
    have hl : l = [] := List.eq_nil_of_length_eq_zero h0
    rw [hl]
theorem trim_iff {ap : FuncId → Option AFunc} {f : FuncId} (hf : ap f = some trimAF) {s cs : ByteArray} {lo hi : Nat} (hcs : setOf cs lo hi) (hs : s.size ≤ 4611686018427387904) (h : AH) (R : AV → AH → Prop) : ACalls ap noE f [.str s, .str cs] h R ↔ R (.str (trimV s cs)) h := by
  refine acalls_det ?_
  refine (acall_iff hf).2 ?_
  exact trimAF_run ca_mono s cs lo hi hcs hs h _ fun i j h1 h2 h3 h4 h5 => ⟨by
    unfold trimV
    rw [trimS_ij s cs lo hi (set_mem hcs) i j h1 h2 h3 h4 h5], rfl⟩
section
variable {P : Program} {base : Nat}
/-- A call that leaves what was there as it was. -/
theorem below_cc {ν : V} {h : AH} {w w' : World} (H : HR ν base h w) (Z : HZ ν h w) (B : Below w.heap.size w w') : HR ν base h w' ∧ HZ ν h w' ∧ FrL w.heap.size base ν h w ν h w' := by
  have hb : Below base w w' := ⟨B.os, B.tape, B.output, B.size, fun k hk => B.block k (Nat.lt_of_lt_of_le hk H.size)⟩
  refine ⟨H.frame B.size fun b x p hb hp => B.block _ (H.there hb hp).1, Z.step (base := base) ⟨hb, fun X hX hs => ⟨hs, fun g hg => B.block g (hX g hg)⟩⟩ rfl, ⟨hb, fun X hX hs => ⟨hs, fun g hg => B.block g (hX g hg)⟩, fun _ _ _ h _ => h⟩⟩
theorem trim_cc {f : FuncId} (hg : GoodFn P f) (hc : ∀ (s cs : ByteArray) (w : World), s.size ≤ 9223372036854775807 → (∀ (j : Nat) b, cs.data.toList[j]? = some b → b.toNat < 128) → cs.size < 4294967281 → Calls P f #[.string s, .string cs] w fun e w' => e = .returned (.string ⟨(Lib.trimS s.data.toList cs.data.toList).toArray⟩) ∧ Below w.heap.size w w') (args : List AV) (h : AH) (R : AV → AH → Prop)
    (H : abody (CC P base) trimAF args h R) : CC P base f args h R := by
  obtain ⟨s, cs, lo, hi, rfl, hset, hs⟩ := trimAF_inv _ _ _ _ H
  have hmem := set_mem hset
  have hsz : cs.size < 4294967281 := by rcases hset with ⟨rfl, _⟩ | ⟨rfl, _⟩ <;> decide
  have key : R (.str ⟨(Lib.trimS s.data.toList cs.data.toList).toArray⟩) h := by
    have a0 := trimAF_run C0_mono s cs lo hi hset hs h (fun v h' => v = .str ⟨(Lib.trimS s.data.toList cs.data.toList).toArray⟩ ∧ h' = h) fun i j h1 h2 h3 h4 h5 => ⟨by
      rw [trimS_ij s cs lo hi hmem i j h1 h2 h3 h4 h5], rfl⟩
    have a1 := abody_conj (C := CC P base) (A := C0) C0_mono (fun _ _ _ _ _ _ x => x) C0_strict H a0
    obtain ⟨e, s', h', x⟩ := awp_strict C0_strict _ a1.2
    cases e with
    | exit i => exact x.elim
    | normal | ret =>
      all_goals
        simp only at x
        split at x
        · obtain ⟨x1, rfl, rfl⟩ := x; exact x1
        · exact x.elim
  refine ⟨hg, fun ν w vs hh hz hv => ?_⟩
  obtain ⟨u, us, rfl, hu, u2, us2, rfl, hu2, rfl⟩ := hv
  simp only [VR] at hu hu2
  subst hu; subst hu2
  refine (hc s cs w (by omega) (fun j b hb => ?_) hsz).mono ?_
  · have : cs.data.toList.contains b = true := List.contains_iff_mem.2 (List.mem_of_getElem? hb)
    have := (hmem b).1 this
    rcases hset with ⟨_, rfl, rfl⟩ | ⟨_, rfl, rfl⟩ <;> (unfold inR at this; omega)
  · rintro e w' ⟨rfl, hB⟩
    obtain ⟨b1, b2, b3⟩ := below_cc hh hz hB
    exact ⟨_, .str ⟨(Lib.trimS s.data.toList cs.data.toList).toArray⟩, h, ν, rfl, V.le_refl ν, b1, b2, by simp only [VR], b3, key⟩
end
end Go.Bm
