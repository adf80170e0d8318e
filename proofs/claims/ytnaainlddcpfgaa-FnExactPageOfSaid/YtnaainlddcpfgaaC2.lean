/- Contracts of the functions of a list of nodes. -/
import Derived.Test.YtnaainlddcpfgaaAmP
import Derived.Test.YtnaainlddcpfgaaC1
namespace Go.Proofs.Ytnaainlddcpfgaa
open Go Go.Am Go.Proofs
set_option linter.all false

theorem Nd.take_enc (x : Nd) : x.enc.take 15 = x.enc := (rfl)

theorem eqNodeS_iff {h : AH} {v w : AV} {xs ys : List Nd} (H : Rs 15 Nd.enc h v xs) (G : Rs 15 Nd.enc h w ys) (hb : xs.length ≤ 1099511627776) (R : AV → AH → Prop) :
    CA 14 [v, w] h R ↔ R (.bool (decide (xs = ys))) h := by
  refine ca_pure (af := ac14) rfl ?_
  simp [ac14, H.len, G.len]
  by_cases hl : xs.length = ys.length
  case neg =>
    have : xs ≠ ys := fun e => hl (by rw [e])
    have hl' : ¬ (xs.length : Int) = ys.length := by omega
    simp [hl, hl', this]
  simp [hl]
  refine awp_loop2 ca_mono (fun n s h' => h' = h ∧ ∃ i : Nat, n = xs.length - i ∧ i ≤ xs.length ∧ (s 0 = v ∧ s 1 = w ∧ s 5 = .int .i64 i) ∧ xs.take i = ys.take i) ?_ (n := xs.length) ⟨rfl, 0, by simp⟩
  rintro n s h' ⟨rfl, i, rfl, hi, ⟨h0, h1, h5⟩, ht⟩ K hK hE hQ
  simp [h0, h1, h5, H.len]
  refine condR_splitD ?_ ?_ <;> intro hlt
  · (iterate 4 ((try simp [h0, h1, h5, H.iaddr, G.iaddr, H.load, G.load, Nd.take_enc, eqNode_iff]); (try simp (disch := omega) [h0, h1, h5, H.iaddr, G.iaddr, H.load, G.load, Nd.take_enc, eqNode_iff])))
    refine condR_splitND ?_ ?_ <;> intro e
    · (iterate 4 ((try simp [h0, h1, h5, wrap_i64]); (try simp (disch := omega) [h0, h1, h5, wrap_i64])))
      refine hK (xs.length - (i + 1)) _ _ (by omega) ⟨rfl, i + 1, rfl, by omega, by simp [h0, h1], ?_⟩
      rw [take_succ hlt, take_succ (by omega), ht, e]
    · simp [hQ]
      intro he; rw [he] at e; exact e rfl
  · obtain rfl : i = xs.length := by omega
    have : xs = ys := by rw [List.take_length, hl, List.take_length] at ht; exact ht
    simp [hE, this]

def sizes (xs : List Nd) : Int := (xs.map fun x => (x.text.size : Int)).sum

theorem szNode_iff (x : Nd) (hx : x.text.size ≤ 9223372036854775807) (left : Int) (h0 : 0 ≤ left) (h1 : left ≤ 9223372036854775807) (h : AH) (R : AV → AH → Prop) :
    CA 39 [.agg x.enc, .int .i64 left] h R ↔ R (.int .i64 (if left < x.text.size then -1 else left - x.text.size)) h := by
  refine ca_pure (af := ac39) rfl ?_
  (iterate 4 ((try simp [ac39, Nd.enc, wrap_i64]); (try simp (disch := omega) [ac39, Nd.enc, wrap_i64])))
  refine condR_splitD ?_ ?_ <;> intro e
  · simp [show left < x.text.size by omega]
  · (iterate 4 ((try simp [show ¬ left < x.text.size by omega, wrap_i64]); (try simp (disch := omega) [show ¬ left < x.text.size by omega, wrap_i64])))

theorem szNodeS_ok {h : AH} {v : AV} {xs : List Nd} (H : Ra 15 Nd.enc h v xs) (hx : ∀ x ∈ xs, x.text.size ≤ 9223372036854775807) (hl : xs.length ≤ 9223372036854775807) (left : Int) (h0 : 0 ≤ left) (h1 : left ≤ 9223372036854775807) {R : AV → AH → Prop}
    (hR : ∀ r : Int, (r = -1 ∨ (0 ≤ r ∧ (xs.length : Int) + sizes xs + r = left)) → R (.int .i64 r) h) : CA 10 [v, .int .i64 left] h R := by
  rw [ca_iff (af := ac10) rfl]
  (iterate 4 ((try simp [ac10, H.len, wrap_i64]); (try simp (disch := omega) [ac10, H.len, wrap_i64])))
  refine condR_splitD ?_ ?_ <;> intro e
  · simp; exact hR _ (.inl rfl)
  simp
  refine awp_loop2 ca_mono (fun n s h' => h' = h ∧ ∃ (i : Nat) (r : Int), n = xs.length - i ∧ i ≤ xs.length ∧ (s 0 = v ∧ s 1 = .int .i64 r ∧ s 5 = .int .i64 i) ∧ 0 ≤ r ∧ r + sizes (xs.take i) + xs.length = left) ?_ (n := xs.length) ⟨rfl, 0, left - xs.length, by simp, by simp, ⟨by simp, by simp; exact wrap_i64 (by omega) (by omega), by simp⟩, by omega, by simp [sizes]⟩
  rintro n s h' ⟨rfl, i, r, rfl, hi, ⟨s0, s1, s5⟩, hr, hs⟩ K hK hE hQ
  simp [s0, s1, s5, H.len]
  refine condR_splitD ?_ ?_ <;> intro hlt
  · have hm : ∀ x ∈ xs.take i, (0 : Int) ≤ x.text.size := fun x _ => by omega
    have hsz : 0 ≤ sizes (xs.take i) := by
      unfold sizes
      generalize xs.take i = l
      induction l with
      | nil => simp
      | cons x l ih => simp only [List.map_cons, List.sum_cons]; omega
    (iterate 4 ((try simp [s0, s1, s5, H.iaddr, H.load, Nd.take_enc, szNode_iff _ (hx (nth xs i) (by rw [nth_eq hlt]; exact List.getElem_mem hlt))]); (try simp (disch := omega) [s0, s1, s5, H.iaddr, H.load, Nd.take_enc, szNode_iff _ (hx (nth xs i) (by rw [nth_eq hlt]; exact List.getElem_mem hlt))])))
    by_cases e : r < (nth xs i).text.size
    · simp [e, hQ]; exact hR _ (.inl rfl)
    · have e2 : ¬ r - (nth xs i).text.size < 0 := by omega
      (iterate 4 ((try simp [e, e2, s0, s5, wrap_i64]); (try simp (disch := omega) [e, e2, s0, s5, wrap_i64])))
      refine hK (xs.length - (i + 1)) _ _ (by omega) ⟨rfl, i + 1, _, rfl, by omega, ⟨by simp [s0], by simp; rfl, by simp⟩, by omega, ?_⟩
      rw [take_succ hlt]
      simp only [sizes, List.map_append, List.sum_append, List.map_cons, List.sum_cons, List.map_nil, List.sum_nil] at hs ⊢
      omega
  · simp [s1, hE]
    obtain rfl : i = xs.length := by omega
    refine hR _ (.inr ⟨hr, ?_⟩)
    rw [List.take_length] at hs
    omega

theorem toNodeS_ok {h : AH} {v : AV} {xs : List Nd} (H : Ra 15 Nd.enc h v xs) (hb : xs.length ≤ 1099511627776) {R : AV → AH → Prop}
    (hR : ∀ v' h', h.le h' → Rn h 15 Nd.enc h' v' xs → R v' h') : CA 12 [v] h R := by
  rw [ca_iff (af := ac12) rfl]
  have hz : [AV.int .i64 0, .int .i64 0, .int .i64 0, .int .i64 0, .int .i64 0, .int .i64 0, .int .i64 0, .int .i64 0, .int .i64 0, .int .i64 0, .int .i64 0, .int .i64 0, .int .i64 0, .str ⟨#[]⟩, .int .i64 0] = Nd.enc ⟨0, 0, 0, 0, 0, 0, 0, 0, 0, 0, 0, 0, 0, ⟨#[]⟩, 0⟩ := rfl
  have hms := mslice_eq 15 128 [AV.int .i64 0, .int .i64 0, .int .i64 0, .int .i64 0, .int .i64 0, .int .i64 0, .int .i64 0, .int .i64 0, .int .i64 0, .int .i64 0, .int .i64 0, .int .i64 0, .int .i64 0, .str ⟨#[]⟩, .int .i64 0] .i64 .i64 xs.length h rfl rfl (by omega) (by omega)
  (iterate 4 ((try simp [ac12, H.len, hms]); (try simp (disch := omega) [ac12, H.len, hms])))
  have hN := Rn.make (h := h) (es := 15) Nd.ok (AH.le_refl h) hz xs.length
  have hle := AH.le_new h (.cells true (rep xs.length [AV.int .i64 0, .int .i64 0, .int .i64 0, .int .i64 0, .int .i64 0, .int .i64 0, .int .i64 0, .int .i64 0, .int .i64 0, .int .i64 0, .int .i64 0, .int .i64 0, .int .i64 0, .str ⟨#[]⟩, .int .i64 0]))
  revert hN hle
  generalize h.new _ = h1
  generalize AV.sl h.next 0 15 xs.length (some xs.length) = u
  intro hN hle
  refine awp_loop2 ca_mono (fun n s h' => ∃ (i : Nat) (ys : List Nd), n = xs.length - i ∧ i ≤ xs.length ∧ (s 0 = v ∧ s 3 = u ∧ s 4 = .int .i64 i) ∧ h.le h' ∧ Rn h 15 Nd.enc h' u ys ∧ ys.length = xs.length ∧ ys.take i = xs.take i) ?_ (n := xs.length) ⟨0, _, by simp, by simp, ?_, hle, hN, by simp, by simp⟩
  rotate_left
  · simp
  rintro n s h' ⟨i, ys, rfl, hi, ⟨s0, s3, s4⟩, hle', hN', hyl, hyt⟩ K hK hE hQ
  have H' := H.le hle'
  simp [s0, s3, s4, H.len]
  refine condR_splitD ?_ ?_ <;> intro hlt
  · have hlt' : i < ys.length := by omega
    (iterate 4 ((try simp [s0, s3, s4, H'.iaddr, hN'.rows.iaddr, H'.load, Nd.take_enc, toNode_iff, wrap_i64, hN'.own.storeE i (nth xs i) hlt']); (try simp (disch := omega) [s0, s3, s4, H'.iaddr, hN'.rows.iaddr, H'.load, Nd.take_enc, toNode_iff, wrap_i64, hN'.own.storeE i (nth xs i) hlt'])))
    refine hK (xs.length - (i + 1)) _ _ (by omega) ⟨i + 1, ys.set i (nth xs i), rfl, by omega, by simp [s0, s3], hN'.setR_le hle' (by omega), hN'.setR (by simp), by simp [hyl], ?_⟩
    rw [take_set hlt', take_succ hlt, hyt]
  · simp [s3, hE]
    obtain rfl : i = xs.length := by omega
    have : ys = xs := by rw [List.take_length, ← hyl, List.take_length] at hyt; exact hyt
    exact hR _ _ hle' (this ▸ hN')

def mtL : Nat → Nat → ByteArray → ByteArray
  | 0, _, out => out
  | f + 1, k, out => if k = 0 then out else mtL f (k / 10) (⟨#[UInt8.ofNat (48 + k % 10)]⟩ ++ out)
/-- The text of a mark. -/
def mt (k : Nat) : ByteArray := if k = 0 then ⟨#[109, 48]⟩ else ⟨#[109]⟩ ++ mtL k k ⟨#[]⟩

theorem markText_ok (k : Nat) (hk : k ≤ 4611686018427387904) {h : AH} {R : AV → AH → Prop} (hR : ∀ h', h.le h' → R (.str (mt k)) h') : CA 47 [.int .i64 k] h R := by
  rw [ca_iff (af := ac47) rfl]
  (iterate 4 ((try simp [ac47]); (try simp (disch := omega) [ac47])))
  refine condR_splitD ?_ ?_ <;> intro e
  · simp
    obtain rfl : k = 0 := by omega
    exact hR _ (AH.le_refl h)
  simp
  have hex : (⟨#[]⟩ : ByteArray).size = 0 := rfl
  refine awp_loop2 ca_mono (fun n s h' => ∃ (j : Nat) (out : ByteArray), n = j ∧ (s 0 = .int .i64 j ∧ s 3 = .str out) ∧ out.size + j ≤ k ∧ h.le h' ∧ ∃ f, j ≤ f ∧ mtL f j out = mtL k k ⟨#[]⟩) ?_ (n := k) ⟨k, ⟨#[]⟩, by simp [hex, AH.le_refl]; exact ⟨k, Nat.le_refl _, rfl⟩⟩
  rintro n s h' ⟨j, out, rfl, ⟨s0, s3⟩, hs, hle, f, hf, hm⟩ K hK hE hQ
  simp [s0, s3]
  refine condR_splitD ?_ ?_ <;> intro hlt
  · have ht : (n : Int).tmod 10 = ((n % 10 : Nat) : Int) := rfl
    have hd : (n : Int).tdiv 10 = ((n / 10 : Nat) : Int) := rfl
    obtain ⟨f, rfl⟩ : ∃ g, f = g + 1 := ⟨f - 1, by omega⟩
    (iterate 4 ((try simp [s0, s3, ht, hd, wrap_i64, wrap_u8, bslice1, b2s_lit1]); (try simp (disch := omega) [s0, s3, ht, hd, wrap_i64, wrap_u8, bslice1, b2s_lit1])))
    rw [binStr_add _ _ (by show 1 + out.size ≤ _; omega)]
    (iterate 4 ((try simp [s0, s3, ht, hd, wrap_i64]); (try simp (disch := omega) [s0, s3, ht, hd, wrap_i64])))
    refine hK (n / 10) _ _ (by omega) ⟨n / 10, ⟨#[UInt8.ofNat (48 + n % 10)]⟩ ++ out, rfl, ⟨by simp, ?_⟩, ?_, AH.new_le_of hle _, f, by omega, ?_⟩
    · have e1 : (48 + ((n % 10 : Nat) : Int)).toNat = 48 + n % 10 := by omega
      have e2 : (48 + (n : Int).tmod 10).toNat = 48 + n % 10 := by rw [ht]; omega
      have e3 : (48 + (n : Int) % 10).toNat = 48 + n % 10 := by omega
      simp [e1, e2, e3]
    · show (⟨#[UInt8.ofNat (48 + n % 10)]⟩ ++ out : ByteArray).size + n / 10 ≤ k
      rw [ByteArray.size_append]
      show 1 + out.size + n / 10 ≤ k
      omega
    · rw [← hm, mtL, if_neg (by omega)]
  · simp [s3, hE]
    obtain rfl : n = 0 := by omega
    have e0 : mtL f 0 out = out := by cases f <;> simp [mtL]
    rw [e0] at hm
    rw [binStr_add _ _ (by show 1 + out.size ≤ _; omega)]
    simp
    have : mt k = ⟨#[109]⟩ ++ out := by rw [mt, if_neg e, hm]
    rw [← this]
    exact hR _ hle

/-- A node, one cell of it set. -/
def Nd.put (x : Nd) (off : Nat) (a : Int) : Nd := match off with
  | 0 => { x with kind := a }
  | 1 => { x with width := a }
  | 2 => { x with height := a }
  | 3 => { x with depth := a }
  | 4 => { x with shift := a }
  | 5 => { x with font := a }
  | 6 => { x with char := a }
  | 7 => { x with n := a }
  | 8 => { x with size := a }
  | 9 => { x with plus := a }
  | 10 => { x with plusO := a }
  | 11 => { x with minus := a }
  | 12 => { x with minusO := a }
  | 14 => { x with kids := a }
  | _ => x
def Nd.putT (x : Nd) (t : ByteArray) : Nd := { x with text := t }
theorem Nd.put_enc (x : Nd) (off : Nat) (a : Int) (ho : off < 15) (h13 : off ≠ 13) : setAll x.enc off [AV.int .i64 a] = (x.put off a).enc := by
  have : off = 0 ∨ off = 1 ∨ off = 2 ∨ off = 3 ∨ off = 4 ∨ off = 5 ∨ off = 6 ∨ off = 7 ∨ off = 8 ∨ off = 9 ∨ off = 10 ∨ off = 11 ∨ off = 12 ∨ off = 14 := by omega
  rcases this with rfl | rfl | rfl | rfl | rfl | rfl | rfl | rfl | rfl | rfl | rfl | rfl | rfl | rfl <;> rfl
theorem Nd.putT_enc (x : Nd) (t : ByteArray) : setAll x.enc 13 [AV.str t] = (x.putT t).enc := rfl

theorem Nd.st {h : AH} {v : AV} {xs zs : List Nd} (H : Ro 15 Nd.enc h v xs) (hz : zs.length = xs.length) {i : Nat} (hi : i < xs.length) (y : Nd) (off : Nat) (ho : off < 15) (h13 : off ≠ 13) (a : Int) :
    storeA 1 (elt 15 v i off) (.int .i64 a) (h.setR v Nd.enc (zs.set i y)) = some (.tup [], h.setR v Nd.enc (zs.set i (y.put off a))) := by
  have hl : i < (zs.set i y).length := by rw [List.length_set]; omega
  have := (H.setR (ys := zs.set i y) (by simp [hz])).store i (y.put off a) off 1 (.int .i64 a) hl rfl (by omega) rfl (by
    rw [nth_eq hl]; simp only [List.getElem_set_self]; exact Nd.put_enc y off a ho h13)
  rw [this, AH.setR_setR]; simp
theorem Nd.stT {h : AH} {v : AV} {xs zs : List Nd} (H : Ro 15 Nd.enc h v xs) (hz : zs.length = xs.length) {i : Nat} (hi : i < xs.length) (y : Nd) (t : ByteArray) :
    storeA 1 (elt 15 v i 13) (.str t) (h.setR v Nd.enc (zs.set i y)) = some (.tup [], h.setR v Nd.enc (zs.set i (y.putT t))) := by
  have hl : i < (zs.set i y).length := by rw [List.length_set]; omega
  have := (H.setR (ys := zs.set i y) (by simp [hz])).store i (y.putT t) 13 1 (.str t) hl rfl (by omega) rfl (by
    rw [nth_eq hl]; simp only [List.getElem_set_self]; exact Nd.putT_enc y t)
  rw [this, AH.setR_setR]; simp
theorem get_setR_blk {h : AH} {v : AV} {xs ys : List Nd} (H : Ro 15 Nd.enc h v xs) (hx : 0 < xs.length) {c : Nat} (hc : blk v ≠ some c) : (h.setR v Nd.enc ys).get c = h.get c := by
  rcases H.at_ with ⟨rfl, rfl⟩ | ⟨b, o, rfl, _⟩
  · simp at hx
  · exact AH.get_setR_ne _ _ _ _ (fun e => hc (by rw [← e]; rfl))

/-- The node that marks from k on make. -/
def mkNd (k : Nat) : Nd := ⟨k, (k + 1 : Nat), (k + 2 : Nat), (k + 3 : Nat), (k + 4 : Nat), (k + 5 : Nat), (k + 6 : Nat), (k + 7 : Nat), (k + 8 : Nat), (k + 9 : Nat), (k + 10 : Nat), (k + 11 : Nat), (k + 12 : Nat), mt (k + 13), (k + 14 : Nat)⟩
def mkNds (k n : Nat) : List Nd := (List.range n).map fun i => mkNd (k + 15 * i)
theorem mkNds_succ (k n : Nat) : mkNds k (n + 1) = mkNds k n ++ [mkNd (k + 15 * n)] := by simp [mkNds, List.range_succ]
theorem mkNds_length (k n : Nat) : (mkNds k n).length = n := by simp [mkNds]

set_option maxRecDepth 100000 in
set_option maxHeartbeats 1000000 in
theorem markNodeS_ok {h : AH} {v : AV} {xs : List Nd} (H : Ro 15 Nd.enc h v xs) (k : Nat) (hk : k + 15 * xs.length ≤ 4611686018427387904) {R : AV → AH → Prop}
    (hR : ∀ h', Ro 15 Nd.enc h' v (mkNds k xs.length) → h.next ≤ h'.next → (∀ c, c < h.next → blk v ≠ some c → h'.get c = h.get c) → R (.int .i64 (k + 15 * xs.length : Nat)) h') : CA 15 [v, .int .i64 k] h R := by
  rw [ca_iff (af := ac15) rfl]
  (iterate 4 ((try simp [ac15]); (try simp (disch := omega) [ac15])))
  refine awp_loop2 ca_mono (fun n s h' => ∃ (i : Nat) (ys : List Nd), n = xs.length - i ∧ i ≤ xs.length ∧ (s 0 = v ∧ s 1 = .int .i64 (k + 15 * i : Nat) ∧ s 5 = .int .i64 i) ∧ Ro 15 Nd.enc h' v ys ∧ ys.length = xs.length ∧ ys.take i = mkNds k i ∧ h.next ≤ h'.next ∧ (∀ c, c < h.next → blk v ≠ some c → h'.get c = h.get c)) ?_ (n := xs.length) ⟨0, xs, by simp [H, mkNds]⟩
  rintro n s h' ⟨i, ys, rfl, hi, ⟨s0, s1, s5⟩, H', hyl, hyt, hn, hf⟩ K hK hE hQ
  simp [s0, s1, s5, H'.rows.len, hyl]
  refine condR_splitD ?_ ?_ <;> intro hlt
  · have hlt' : i < ys.length := by omega
    obtain ⟨g, Hg, hge, rfl⟩ : ∃ g, Ro 15 Nd.enc g v ys ∧ (∀ c, blk v ≠ some c → g.get c = h'.get c) ∧ h' = g.setR v Nd.enc (ys.set i (nth ys i)) := ⟨h', H', fun _ _ => rfl, by rw [set_nth hlt', H'.self (by omega)]⟩
    have L := H'.rows
    (iterate 4 ((try simp [s0, s1, s5, L.iaddr, Nd.st Hg rfl hlt', Nd.stT Hg rfl hlt', wrap_i64]); (try simp (disch := omega) [s0, s1, s5, L.iaddr, Nd.st Hg rfl hlt', Nd.stT Hg rfl hlt', wrap_i64])))
    have ek : (k : Int) + 15 * i + 1 + 1 + 1 + 1 + 1 + 1 + 1 + 1 + 1 + 1 + 1 + 1 + 1 = ((k + 15 * i + 13 : Nat) : Int) := by omega
    rw [ek]
    refine markText_ok _ (by omega) fun h2 hle2 => ?_
    revert hle2
    generalize hY : ((((((((((((((nth ys i).put 0 _).put 1 _).put 2 _).put 3 _).put 4 _).put 5 _).put 6 _).put 7 _).put 8 _).put 9 _).put 10 _).put 11 _).put 12 _) = Y
    intro hle2
    have H2 := (Hg.setR (ys := ys.set i Y) (by simp)).le hle2
    have L2 := H2.rows
    have hl2 : i < (ys.set i Y).length := by simpa using hlt'
    obtain ⟨g2, Hg2, hge2, rfl⟩ : ∃ g2, Ro 15 Nd.enc g2 v (ys.set i Y) ∧ (g2.next = h2.next ∧ ∀ c, g2.get c = h2.get c) ∧ h2 = g2.setR v Nd.enc (ys.set i Y) := ⟨h2, H2, ⟨rfl, fun _ => rfl⟩, by rw [H2.self (by omega)]⟩
    have hz2 : ys.length = (ys.set i Y).length := by simp
    (iterate 4 ((try simp [s0, s1, s5, L2.iaddr, Nd.st Hg2 hz2 hl2, Nd.stT Hg2 hz2 hl2, wrap_i64]); (try simp (disch := omega) [s0, s1, s5, L2.iaddr, Nd.st Hg2 hz2 hl2, Nd.stT Hg2 hz2 hl2, wrap_i64])))
    refine hK (xs.length - (i + 1)) _ _ (by omega) ⟨i + 1, ys.set i (mkNd (k + 15 * i)), rfl, by omega, ⟨by simp [s0], by simp; omega, by simp⟩, ?_, by simp [hyl], ?_, ?_, ?_⟩
    · have e : ((Y.putT (mt (k + 15 * i + 13))).put 14 ((k : Int) + 15 * i + 13 + 1)) = mkNd (k + 15 * i) := by
        rw [← hY]; simp only [Nd.put, Nd.putT, mkNd]; congr 1 <;> omega
      rw [e]
      exact Hg2.setR (by simp)
    · rw [take_set hlt', hyt, mkNds_succ]
    · have a1 := hle2.1
      rw [AH.next_setR] at a1 hn ⊢
      rw [AH.next_setR] at a1
      omega
    · intro c hc hb
      have hlt2 : c < (g.setR v Nd.enc (ys.set i Y)).next := by rw [AH.next_setR] at hn ⊢; omega
      rw [get_setR_blk Hg2 (by omega) hb, hge2.2, hle2.2 c hlt2, get_setR_blk Hg (by omega) hb, hge c hb, hf c hc hb]
  · simp [s1, hE]
    obtain rfl : i = xs.length := by omega
    have : ys = mkNds k xs.length := by rw [← hyl, List.take_length] at hyt; rw [← hyl]; exact hyt
    subst this
    exact hR _ H' hn hf

theorem nth_mkNds (k n i : Nat) (hi : i < n) : nth (mkNds k n) i = mkNd (k + 15 * i) := by
  rw [nth_eq (by rw [mkNds_length]; exact hi)]; simp [mkNds]

set_option maxRecDepth 100000 in
set_option maxHeartbeats 1000000 in
theorem heldNodeS_ok {h : AH} {v : AV} (k n0 : Nat) (H : Rs 15 Nd.enc h v (mkNds k n0)) (hk : k + 15 * n0 ≤ 4611686018427387904) {R : AV → AH → Prop}
    (hR : ∀ h', h.le h' → R (.int .i64 (k + 15 * n0 : Nat)) h') : CA 16 [v, .int .i64 k] h R := by
  rw [ca_iff (af := ac16) rfl]
  have hl := mkNds_length k n0
  (iterate 4 ((try simp [ac16]); (try simp (disch := omega) [ac16])))
  refine awp_loop2 ca_mono (fun n s h' => ∃ i : Nat, n = n0 - i ∧ i ≤ n0 ∧ (s 0 = v ∧ s 1 = .int .i64 (k + 15 * i : Nat) ∧ s 5 = .int .i64 i) ∧ h.le h') ?_ (n := n0) ⟨0, by simp [AH.le_refl]⟩
  rintro n s h' ⟨i, rfl, hi, ⟨s0, s1, s5⟩, hle⟩ K hK hE hQ
  have H' := H.le hle
  simp [s0, s1, s5, H'.len, hl]
  refine condR_splitD ?_ ?_ <;> intro hlt
  · have hlt' : i < (mkNds k n0).length := by omega
    (iterate 4 ((try simp [s0, s1, s5, H'.iaddr, H'.load1, hl, nth_mkNds, Nd.enc, mkNd, wrap_i64]); (try simp (disch := omega) [s0, s1, s5, H'.iaddr, H'.load1, hl, nth_mkNds, Nd.enc, mkNd, wrap_i64])))
    repeat (with_reducible refine condR_splitND (fun _ => ?_) (fun e => absurd (by omega) e); (iterate 4 ((try simp [s0, s1, s5, H'.iaddr, H'.load1, hl, nth_mkNds, Nd.enc, mkNd, wrap_i64]); (try simp (disch := omega) [s0, s1, s5, H'.iaddr, H'.load1, hl, nth_mkNds, Nd.enc, mkNd, wrap_i64]))))
    have ek : (k : Int) + 15 * i + 1 + 1 + 1 + 1 + 1 + 1 + 1 + 1 + 1 + 1 + 1 + 1 + 1 = ((k + 15 * i + 13 : Nat) : Int) := by omega
    rw [ek]
    refine markText_ok _ (by omega) fun h2 hle2 => ?_
    have H2 := H'.le hle2
    (iterate 4 ((try simp [s0, s1, s5, H2.iaddr, H2.load1, hl, nth_mkNds, Nd.enc, mkNd, wrap_i64]); (try simp (disch := omega) [s0, s1, s5, H2.iaddr, H2.load1, hl, nth_mkNds, Nd.enc, mkNd, wrap_i64])))
    refine ⟨hle2, ?_⟩
    repeat (with_reducible refine condR_splitND (fun _ => ?_) (fun e => absurd (by omega) e); (iterate 4 ((try simp [s0, s1, s5, H2.iaddr, H2.load1, hl, nth_mkNds, Nd.enc, mkNd, wrap_i64]); (try simp (disch := omega) [s0, s1, s5, H2.iaddr, H2.load1, hl, nth_mkNds, Nd.enc, mkNd, wrap_i64]))))
    refine hK (n0 - (i + 1)) _ _ (by omega) ⟨i + 1, rfl, by omega, ⟨?_, ?_, ?_⟩, AH.le_trans hle hle2⟩
    · simp [s0]
    · simp; omega
    · simp
  · simp [s1, hE]
    obtain rfl : i = n0 := by omega
    exact hR _ hle
end Go.Proofs.Ytnaainlddcpfgaa
