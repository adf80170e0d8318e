/- The text of a mark. -/
import Derived.Test.YtbajchkpehdolaaBmX
namespace Go.Bm
set_option linter.all false
open Go Go.RowKit
set_option linter.unusedVariables false
set_option linter.unusedSimpArgs false

def tplMT : AFunc := ⟨[], 1, [(.tmp 2)], (.seq (.reg [⟨(some 2), none, (.mov (.c (.str ⟨#[]⟩)))⟩]) (.seq (.seq (.reg [⟨(some 4), none, (.mov (.t 0))⟩, ⟨(some 5), none, (.bin .leq (.t 4) (.c (.int .i64 0)))⟩]) (.cond (.t 5) (.seq (.reg [⟨(some 2), none, (.mov (.c (.str ⟨#[109, 48]⟩)))⟩]) .ret) .skip)) (.seq (.reg [⟨(some 3), none, (.mov (.c (.str ⟨#[]⟩)))⟩]) (.seq (.block 0 (.loop (.seq (.seq (.reg [⟨(some 6), none, (.mov (.t 0))⟩, ⟨(some 7), none, (.bin .gtr (.t 6) (.c (.int .i64 0)))⟩]) (.cond (.t 7) .skip (.exit 0))) (.block 1 (.seq (.reg [⟨(some 8), none, (.mov (.t 0))⟩, ⟨(some 9), none, (.bin .rem (.t 8) (.c (.int .i64 10)))⟩, ⟨(some 10), none, (.bin .add (.c (.int .i64 48)) (.t 9))⟩, ⟨(some 11), none, (.conv .u8 (.t 10))⟩, ⟨(some 12), none, (.bsliceF 1 1 [(.int .u8 0)] [(0, (.t 11))])⟩, ⟨(some 13), none, (.b2s (.t 12))⟩, ⟨(some 14), none, (.mov (.t 3))⟩, ⟨(some 15), none, (.bin .add (.t 13) (.t 14))⟩, ⟨(some 3), none, (.mov (.t 15))⟩]) (.reg [⟨(some 16), none, (.mov (.t 0))⟩, ⟨(some 17), none, (.bin .quo (.t 16) (.c (.int .i64 10)))⟩, ⟨(some 0), none, (.mov (.t 17))⟩])))))) (.seq (.reg [⟨(some 18), none, (.mov (.t 3))⟩, ⟨(some 19), none, (.bin .add (.c (.str ⟨#[109]⟩)) (.t 18))⟩, ⟨(some 2), none, (.mov (.t 19))⟩]) .ret)))))⟩
def dig (n : Nat) : ByteArray := ⟨#[UInt8.ofNat (48 + n)]⟩
def mtx (n : Nat) (acc : ByteArray) : ByteArray := if h : n = 0 then acc else mtx (n / 10) (dig (n % 10) ++ acc)
termination_by n
decreasing_by omega
/-- The text that the mark n is. -/
def mtext (n : Int) : ByteArray := if n ≤ 0 then ⟨#[109, 48]⟩ else ⟨#[109]⟩ ++ mtx n.toNat ⟨#[]⟩
theorem mtx_size : ∀ (n : Nat) (acc : ByteArray), (mtx n acc).size ≤ acc.size + n := by
  intro n
  induction n using Nat.strongRecOn with
  | _ n ih =>
    intro acc
    unfold mtx
    split
    · omega
    · have := ih (n / 10) (by omega) (dig (n % 10) ++ acc)
      rw [ByteArray.size_append] at this
      have h1 : (dig (n % 10)).size = 1 := rfl
      omega
theorem tplMT_ok {ap : FuncId → Option AFunc} (n : Int) (hn : n ≤ 1152921504606846976) (h : AH) : abody (ACalls ap noE) tplMT [.int .i64 n] h (fun v' h' => v' = .str (mtext n) ∧ h' = h) := by
  simp [tplMT]
  by_cases h0 : n ≤ 0
  · simp [h0, mtext]
  simp [h0]
  obtain ⟨m, rfl⟩ : ∃ m : Nat, n = m := ⟨n.toNat, by omega⟩
  refine awp_loop2 ca_mono (fun k s h' => h' = h ∧ ∃ acc : ByteArray, (s 0 = .int .i64 (k : Nat) ∧ s 3 = .str acc) ∧ acc.size + k ≤ m ∧ mtx k acc = mtx m ⟨#[]⟩) ?_ (n := m) ⟨rfl, ⟨#[]⟩, by simp, Nat.le_of_eq (Nat.zero_add m), rfl⟩
  rintro k s h' ⟨rfl, acc, ⟨s0, s3⟩, hsz, hm⟩ K2 hK hE hQ
  simp [s0, s3]
  by_cases hk : k = 0
  · subst hk
    rw [mtx] at hm
    simp at hm
    have hs := binStr_add ⟨#[109]⟩ acc (by have : (⟨#[109]⟩ : ByteArray).size = 1 := rfl; omega)
    rw [hm] at hs
    simp [hE, s3, hm, hs, mtext, h0]
    omega
  · have hkp : 0 < k := by omega
    have e10 : (k : Int).tmod 10 = ((k % 10 : Nat) : Int) := tmod_nat k 10
    have q10 : (k : Int).tdiv 10 = ((k / 10 : Nat) : Int) := tdiv_nat k 10
    have hc : ((48 + k % 10 : Nat) : Int) = 48 + (k : Int) % 10 := by omega
    have w1 : IntKind.wrap .i64 (48 + (k : Int) % 10) = 48 + (k : Int) % 10 := wrap_i64 (by omega) (by omega)
    have w2 : IntKind.wrap .u8 (48 + (k : Int) % 10) = 48 + (k : Int) % 10 := wrap_u8 (by omega) (by omega)
    have hcq : ((k / 10 : Nat) : Int) = (k : Int) / 10 := by omega
    have wq : IntKind.wrap .i64 ((k / 10 : Nat) : Int) = ((k / 10 : Nat) : Int) := wrap_i64 (by omega) (by omega)
    have hb1 : bsliceFA 1 1 [.int .u8 0] [(0, .int .u8 ((48 + k % 10 : Nat) : Int))] h' = some (.fs (some 1) [[.int .u8 ((48 + k % 10 : Nat) : Int)]], h') := bsliceF1 1 _ (.int .u8 _) h' rfl rfl rfl rfl
    have hb2 : b2sA (.fs (some 1) [[.int .u8 ((48 + k % 10 : Nat) : Int)]]) h' = some (.str (dig (k % 10)), h') := by
      have hu : (UInt8.ofNat (48 + k % 10)).toNat = 48 + k % 10 := by rw [UInt8.toNat_ofNat']; omega
      have hu2 : ((48 + k % 10 : Nat) : Int).toNat = 48 + k % 10 := by omega
      have hby : bytesA [.int .u8 ((48 + k % 10 : Nat) : Int)] = some [UInt8.ofNat (48 + k % 10)] := by
        unfold bytesA
        rw [hu2, if_pos (by rw [hu])]
        rfl
      show (match bytesA [.int .u8 ((48 + k % 10 : Nat) : Int)] with | some bs => some (AV.str ⟨bs.toArray⟩, h') | none => none) = _
      rw [hby]; rfl
    have hs := binStr_add (dig (k % 10)) acc (by have : (dig (k % 10)).size = 1 := rfl; omega)
    rw [hc] at hb1 hb2
    rw [hcq] at wq
    simp [hkp, s0, s3, e10, q10, w1, w2, wq, hb1, hb2, hs]
    have hm2 : mtx (k / 10) (dig (k % 10) ++ acc) = mtx m ⟨#[]⟩ := by
      rw [← hm]
      conv => rhs; rw [mtx]
      simp [hk]
    have h1 : (dig (k % 10)).size = 1 := rfl
    exact hK (k / 10) _ _ (by omega) ⟨rfl, dig (k % 10) ++ acc, by simp, by rw [ByteArray.size_append]; omega, hm2⟩

/-! ### odds and ends -/
theorem flatNewL (h : AH) (d : Nat) {xs : List AV} (t : TwL (Tw h d) xs xs []) : NewL h h d xs xs [] := ⟨AH.le_refl h, t, List.nodup_nil, fun b hb => by cases hb⟩
theorem NewL.append {h h1 h2 : AH} {d : Nat} {xs ys xs' ys' : List AV} {F G : List Nat} (H : NewL h h1 d xs ys F) (K : NewL h1 h2 d xs' ys' G) : NewL h h2 d (xs ++ xs') (ys ++ ys') (F ++ G) :=
  ⟨AH.le_trans H.le K.le, (H.grow K.le).tw.append K.tw, nodup_app H.nd K.nd H.lt K.new, fun b hb => by
    rcases List.mem_append.1 hb with hb | hb
    · exact H.new b hb
    · exact Nat.le_trans H.le.1 (K.new b hb)⟩
theorem New.cells1 {h h' : AH} {d : Nat} {rows : List (List AV)} {y : AV} {F : List Nat} (N : New h h' d (.fs none rows) y F) : y.cells = [y] := by
  have : y.one = true := Tw.one d (x := .fs none rows) rfl N.tw
  cases y <;> first | rfl | cases this
theorem one_int (k : IntKind) (n : Int) : (AV.int k n).one = true := rfl
theorem one_str (t : ByteArray) : (AV.str t).one = true := rfl
theorem one_bool (b : Bool) : (AV.bool b).one = true := rfl
theorem one_nils : AV.nils.one = true := rfl
theorem one_fs (c : Option Nat) (l : List (List AV)) : (AV.fs c l).one = true := rfl
theorem one_sl (b o e n : Nat) (c : Option Nat) : (AV.sl b o e n c).one = true := rfl
theorem cells_agg (l : List AV) : (AV.agg l).cells = l := rfl
theorem cells_int (k : IntKind) (n : Int) : (AV.int k n).cells = [.int k n] := rfl
theorem cells_str (t : ByteArray) : (AV.str t).cells = [.str t] := rfl
theorem cells_bool (b : Bool) : (AV.bool b).cells = [.bool b] := rfl
theorem cells_fs (c : Option Nat) (l : List (List AV)) : (AV.fs c l).cells = [.fs c l] := rfl
theorem cells_one {x : AV} (h : x.one = true) : x.cells = [x] := by cases x <;> first | rfl | cases h
theorem New.one1 {h h' : AH} {d : Nat} {rows : List (List AV)} {y : AV} {F : List Nat} (N : New h h' d (.fs none rows) y F) : y.one = true := Tw.one d (x := .fs none rows) rfl N.tw
theorem NewL.ones {h h' : AH} {d : Nat} {xs ys : List AV} {F : List Nat} (N : NewL h h' d xs ys F) (hx : xs.all AV.one = true) : ys.all AV.one = true := TwL.one hx N.tw
def scOne (x : AV) : Bool := x.scal && x.one
theorem Tw.sc {h : AH} {d : Nat} {x : AV} (hx : scOne x = true) : Tw h (d + 1) x x [] := by
  cases x <;> first | exact ⟨rfl, rfl⟩ | cases hx | (simp [scOne, AV.one] at hx)
theorem TwL.flat {h : AH} {d : Nat} : ∀ xs : List AV, xs.all scOne = true → TwL (Tw h (d + 1)) xs xs []
  | [], _ => ⟨rfl, rfl⟩
  | x :: xs, hx => by
    rw [List.all_cons, Bool.and_eq_true] at hx
    exact ⟨x, xs, [], [], rfl, rfl, Tw.sc hx.1, TwL.flat xs hx.2⟩
theorem encI_flat (k : IntKind) : Flat (encI k) := fun _ _ _ => TwL.flat _ rfl
theorem encStr_flat : Flat encStr := fun _ _ _ => TwL.flat _ rfl
end Go.Bm
