/- strings.Trim, as the kit tells it, laid at this program. -/
import Derived.Test.YteeaefjlpkijkaaDoorQ12
namespace Go.Proofs.YteeaefjlpkijkaaDoor
open Go Go.Bm Go.Proofs
set_option linter.all false

def trim_ren : Go.Shelf.Ren := ⟨fun n => if n = 160 then 13 else if n = 232 then 21 else if n = 231 then 20 else if n = 227 then 22 else if n = 234 then 24 else if n = 233 then 23 else if n = 236 then 26 else if n = 235 then 25 else if n = 228 then 33 else if n = 271 then 36 else if n = 151 then 35 else if n = 197 then 34 else if n = 120 then 42 else if n = 152 then 41 else if n = 260 then 40 else if n = 137 then 43 else if n = 119 then 44 else if n = 224 then 45 else if n = 225 then 46 else if n = 217 then 47 else if n = 266 then 48 else n, fun n => if n = 9 then 9 else if n = 4 then 4 else if n = 3 then 3 else if n = 5 then 5 else if n = 117 then 46 else if n = 116 then 45 else if n = 0 then 0 else if n = 124 then 49 else if n = 21 then 21 else if n = 105 then 56 else if n = 46 then 62 else if n = 119 then 64 else if n = 139 then 67 else if n = 138 then 66 else n, fun n => if n = 3 then 0 else if n = 4 then 1 else n⟩
theorem trim_lays : Lays.n160 Tryd.prog trim_ren where
  mixed := by kernel_rfl
  f119 := Tryd.func44.trans (congrArg some (by kernel_rfl))
  f120 := Tryd.func42.trans (congrArg some (by kernel_rfl))
  f137 := Tryd.func43.trans (congrArg some (by kernel_rfl))
  f151 := Tryd.func35.trans (congrArg some (by kernel_rfl))
  f152 := Tryd.func41.trans (congrArg some (by kernel_rfl))
  f160 := Tryd.func13.trans (congrArg some (by kernel_rfl))
  f197 := Tryd.func34.trans (congrArg some (by kernel_rfl))
  f217 := Tryd.func47.trans (congrArg some (by kernel_rfl))
  f224 := Tryd.func45.trans (congrArg some (by kernel_rfl))
  f225 := Tryd.func46.trans (congrArg some (by kernel_rfl))
  f227 := Tryd.func22.trans (congrArg some (by kernel_rfl))
  f228 := Tryd.func33.trans (congrArg some (by kernel_rfl))
  f231 := Tryd.func20.trans (congrArg some (by kernel_rfl))
  f232 := Tryd.func21.trans (congrArg some (by kernel_rfl))
  f233 := Tryd.func23.trans (congrArg some (by kernel_rfl))
  f234 := Tryd.func24.trans (congrArg some (by kernel_rfl))
  f235 := Tryd.func25.trans (congrArg some (by kernel_rfl))
  f236 := Tryd.func26.trans (congrArg some (by kernel_rfl))
  f260 := Tryd.func40.trans (congrArg some (by kernel_rfl))
  f266 := Tryd.func48.trans (congrArg some (by kernel_rfl))
  f271 := Tryd.func36.trans (congrArg some (by kernel_rfl))
  t0 := Tryd.underlying0
  a0 := Tryd.isAgg0
  z0 := Tryd.sizeOf0
  v0 := Tryd.zeroValue0
  t3 := Tryd.underlying3
  a3 := Tryd.isAgg3
  z3 := Tryd.sizeOf3
  v3 := Tryd.zeroValue3
  t4 := Tryd.underlying4
  a4 := Tryd.isAgg4
  z4 := Tryd.sizeOf4
  v4 := Tryd.zeroValue4
  t5 := Tryd.underlying5
  a5 := Tryd.isAgg5
  z5 := Tryd.sizeOf5
  v5 := Tryd.zeroValue5
  t9 := Tryd.underlying9
  a9 := Tryd.isAgg9
  z9 := Tryd.sizeOf9
  v9 := Tryd.zeroValue9
  t21 := Tryd.underlying21
  a21 := Tryd.isAgg21
  z21 := Tryd.sizeOf21
  v21 := Tryd.zeroValue21
  t46 := Tryd.underlying62
  a46 := Tryd.isAgg62
  z46 := Tryd.sizeOf62
  v46 := Tryd.zeroValue62
  t105 := Tryd.underlying56
  a105 := Tryd.isAgg56
  z105 := Tryd.sizeOf56
  v105 := Tryd.zeroValue56
  t116 := Tryd.underlying45
  a116 := Tryd.isAgg45
  z116 := Tryd.sizeOf45
  t117 := Tryd.underlying46
  a117 := Tryd.isAgg46
  z117 := Tryd.sizeOf46
  v117 := Tryd.zeroValue46
  t119 := Tryd.underlying64
  a119 := Tryd.isAgg64
  z119 := Tryd.sizeOf64
  t124 := Tryd.underlying49
  a124 := Tryd.isAgg49
  z124 := Tryd.sizeOf49
  v124 := Tryd.zeroValue49
  t138 := Tryd.underlying66
  a138 := Tryd.isAgg66
  z138 := Tryd.sizeOf66
  v138 := Tryd.zeroValue66
  t139 := Tryd.underlying67
  a139 := Tryd.isAgg67
  z139 := Tryd.sizeOf67
  v139 := Tryd.zeroValue67
  g3 := by kernel_rfl
  g4 := by kernel_rfl
/-- The listed variables' cells. -/
def u8s (l : List Int) : Array Value := (l.map fun n => Value.int .u8 n).toArray
def firstCells : Array Value := u8s (List.replicate 128 240 ++ List.replicate 66 241 ++ List.replicate 30 2 ++ [19] ++ List.replicate 12 3 ++ [35] ++ List.replicate 2 3 ++ [52] ++ List.replicate 3 4 ++ [68] ++ List.replicate 11 241)
def acceptCells : Array Value := u8s ([128, 191, 160, 191, 128, 159, 144, 191, 128, 143] ++ List.replicate 22 0)
theorem hapL (base : Nat) : ∀ f af, ap f = some af → (∃ fn B, Tryd.prog.funcs[f]? = some fn ∧ cF Tryd.prog B fn = some af.erase) ∨ ∀ args h R, abody (CC Tryd.prog base) af args h R → CC Tryd.prog base f args h R := by
  intro f af hf
  rcases hap2 f af hf with h | ⟨rfl, rfl⟩
  · exact .inl h
  · exact .inr (trim_cc ⟨_, Tryd.func13, by decide, rfl⟩ fun s cs w hs ha hc => Any.strings_Trim_laid trim_lays (by kernel_rfl) s cs w hs hc ha)
end Go.Proofs.YteeaefjlpkijkaaDoor
