/- strings.Trim, as the kit tells it, laid at this program. -/
import Derived.Test.YtimpbgncgdaofaaDoorB4
namespace Go.Proofs.YtimpbgncgdaofaaDoor
open Go Go.Bm Go.Proofs
set_option linter.all false

def trim_ren : Go.Shelf.Ren := ⟨fun n => if n = 160 then 52 else if n = 232 then 63 else if n = 231 then 62 else if n = 227 then 64 else if n = 234 then 66 else if n = 233 then 65 else if n = 236 then 68 else if n = 235 then 67 else if n = 228 then 71 else if n = 271 then 74 else if n = 151 then 73 else if n = 197 then 72 else if n = 120 then 77 else if n = 152 then 76 else if n = 260 then 75 else if n = 137 then 78 else if n = 119 then 79 else if n = 224 then 80 else if n = 225 then 81 else if n = 217 then 82 else if n = 266 then 83 else n, fun n => if n = 9 then 9 else if n = 4 then 4 else if n = 3 then 3 else if n = 5 then 5 else if n = 117 then 87 else if n = 116 then 86 else if n = 0 then 0 else if n = 124 then 90 else if n = 21 then 21 else if n = 105 then 92 else if n = 46 then 82 else if n = 119 then 96 else if n = 139 then 99 else if n = 138 then 98 else n, fun n => if n = 3 then 1 else if n = 4 then 2 else n⟩
theorem trim_lays : Lays.n160 Tryd.prog trim_ren where
  mixed := by kernel_rfl
  f119 := Tryd.func79.trans (congrArg some (by kernel_rfl))
  f120 := Tryd.func77.trans (congrArg some (by kernel_rfl))
  f137 := Tryd.func78.trans (congrArg some (by kernel_rfl))
  f151 := Tryd.func73.trans (congrArg some (by kernel_rfl))
  f152 := Tryd.func76.trans (congrArg some (by kernel_rfl))
  f160 := Tryd.func52.trans (congrArg some (by kernel_rfl))
  f197 := Tryd.func72.trans (congrArg some (by kernel_rfl))
  f217 := Tryd.func82.trans (congrArg some (by kernel_rfl))
  f224 := Tryd.func80.trans (congrArg some (by kernel_rfl))
  f225 := Tryd.func81.trans (congrArg some (by kernel_rfl))
  f227 := Tryd.func64.trans (congrArg some (by kernel_rfl))
  f228 := Tryd.func71.trans (congrArg some (by kernel_rfl))
  f231 := Tryd.func62.trans (congrArg some (by kernel_rfl))
  f232 := Tryd.func63.trans (congrArg some (by kernel_rfl))
  f233 := Tryd.func65.trans (congrArg some (by kernel_rfl))
  f234 := Tryd.func66.trans (congrArg some (by kernel_rfl))
  f235 := Tryd.func67.trans (congrArg some (by kernel_rfl))
  f236 := Tryd.func68.trans (congrArg some (by kernel_rfl))
  f260 := Tryd.func75.trans (congrArg some (by kernel_rfl))
  f266 := Tryd.func83.trans (congrArg some (by kernel_rfl))
  f271 := Tryd.func74.trans (congrArg some (by kernel_rfl))
  t0 := Tryd.underlying0
  a0 := Tryd.isAgg0
  z0 := Tryd.sizeOf0
  v0 := Tryd.zeroValue0
  t3 := Tryd.underlying3
  a3 := Tryd.isAgg3
  z3 := Tryd.sizeOf3
  v3 := Tryd.zeroValue3
  t4 := Tryd.underlying4
  a4 := Tryd.isAgg4
  z4 := Tryd.sizeOf4
  v4 := Tryd.zeroValue4
  t5 := Tryd.underlying5
  a5 := Tryd.isAgg5
  z5 := Tryd.sizeOf5
  v5 := Tryd.zeroValue5
  t9 := Tryd.underlying9
  a9 := Tryd.isAgg9
  z9 := Tryd.sizeOf9
  v9 := Tryd.zeroValue9
  t21 := Tryd.underlying21
  a21 := Tryd.isAgg21
  z21 := Tryd.sizeOf21
  v21 := Tryd.zeroValue21
  t46 := Tryd.underlying82
  a46 := Tryd.isAgg82
  z46 := Tryd.sizeOf82
  v46 := Tryd.zeroValue82
  t105 := Tryd.underlying92
  a105 := Tryd.isAgg92
  z105 := Tryd.sizeOf92
  v105 := Tryd.zeroValue92
  t116 := Tryd.underlying86
  a116 := Tryd.isAgg86
  z116 := Tryd.sizeOf86
  t117 := Tryd.underlying87
  a117 := Tryd.isAgg87
  z117 := Tryd.sizeOf87
  v117 := Tryd.zeroValue87
  t119 := Tryd.underlying96
  a119 := Tryd.isAgg96
  z119 := Tryd.sizeOf96
  t124 := Tryd.underlying90
  a124 := Tryd.isAgg90
  z124 := Tryd.sizeOf90
  v124 := Tryd.zeroValue90
  t138 := Tryd.underlying98
  a138 := Tryd.isAgg98
  z138 := Tryd.sizeOf98
  v138 := Tryd.zeroValue98
  t139 := Tryd.underlying99
  a139 := Tryd.isAgg99
  z139 := Tryd.sizeOf99
  v139 := Tryd.zeroValue99
  g3 := by kernel_rfl
  g4 := by kernel_rfl
def cmp_ren : Go.Shelf.Ren := ⟨fun n => if n = 213 then 59 else if n = 265 then 70 else n, fun n => if n = 9 then 9 else if n = 3 then 3 else n, fun n => n⟩
theorem cmp_lays : Lays.n213 Tryd.prog cmp_ren where
  mixed := by kernel_rfl
  f213 := Tryd.func59.trans (congrArg some (by kernel_rfl))
  f265 := Tryd.func70.trans (congrArg some (by kernel_rfl))
  t3 := Tryd.underlying3
  a3 := Tryd.isAgg3
  z3 := Tryd.sizeOf3
  v3 := Tryd.zeroValue3
  t9 := Tryd.underlying9
  a9 := Tryd.isAgg9
  z9 := Tryd.sizeOf9
  v9 := Tryd.zeroValue9
/-- The listed variables' cells. -/
def u8s (l : List Int) : Array Value := (l.map fun n => Value.int .u8 n).toArray
def firstCells : Array Value := u8s (List.replicate 128 240 ++ List.replicate 66 241 ++ List.replicate 30 2 ++ [19] ++ List.replicate 12 3 ++ [35] ++ List.replicate 2 3 ++ [52] ++ List.replicate 3 4 ++ [68] ++ List.replicate 11 241)
def acceptCells : Array Value := u8s ([128, 191, 160, 191, 128, 159, 144, 191, 128, 143] ++ List.replicate 22 0)
theorem hapL (base : Nat) : ∀ f af, ap f = some af → (∃ fn B, Tryd.prog.funcs[f]? = some fn ∧ cF Tryd.prog B fn = some af.erase) ∨ ∀ args h R, abody (CC Tryd.prog base) af args h R → CC Tryd.prog base f args h R := by
  intro f af hf
  rcases hap2 f af hf with h | ⟨rfl, rfl⟩ | ⟨rfl, rfl⟩
  · exact .inl h
  · exact .inr (trim_cc ⟨_, Tryd.func52, by decide, rfl⟩ fun s cs w hs ha hc => Any.strings_Trim_laid trim_lays (by kernel_rfl) s cs w hs hc ha)
  · exact .inr (cmp_cc ⟨_, Tryd.func59, by decide, rfl⟩ fun a b w => Any.bytealg_CompareString cmp_lays a b w)
end Go.Proofs.YtimpbgncgdaofaaDoor
