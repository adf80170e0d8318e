/-
  No cell of these rows narrows 'for every input' (looked for: loops, veiled, ifaces, maps, wideKeys, modest, calm, conditions, laid).
  DERIVED. THE GIVEN ROWS OF THIS SEAT. 8 by the template 'for every input the law returns true; each argument reads behind the call as it read before'; 0 by the template 'total and deterministic' (their statements: YtojmemlbajnhhaaTotals.lean).
  GIVEN WITH THE SEED: the statements are not yours to turn. If you find one false, say at which input.
  Laid BY PROGRAM, IN A SANDBOX (cutbox-rows.mjs): the forced cells as the released guide's own fill.sh prints them over the translation e5acd35e980fd8cb… (all of the seat's roots in one cut). By AI agents, Wed Nov 11 2026. No macro, syntax, notation, axiom, sorry.
-/
import Derived.Test.YtojmemlbajnhhaaChecked
import GoSem.Claim
import GoSem.ClaimJoined
import GoSem.ClaimMapViews
import Derived.JoinedTies
import Derived.KernelRfl
namespace Go.Proofs.Ytojmemlbajnhhaa
/- THE CELL 'sum', in the pinned program and in every row, IS THE sha256 OF THE DUMP (.gsa) THAT YtojmemlbajnhhaaProg.lean LOADS. Nothing in Lean hashes anything: it is a label: what it is worth is what the hold of that sum in a sandbox is worth. -/
noncomputable def Try.pinned : Pinned := { name := "ytojmemlbajnhhaa", sum := "e5acd35e980fd8cbbe088ecd0afbe051179280225d4bc38a7e9d81ae5a0fce93", checked := Try.checked }
namespace Rows
def none {H : Type} : Left H := { results := [], args := [] }

/-- 'laws.FnExactEnvOk': WHATEVER THE INPUT: true; the input reads as it did. -/
def fnExactEnvOkSpec : ChangeSpec := { name := "fnExactEnvOk", fn := fun _ => fun
  | [d] => { results := [.lit (.bool true)], args := [d] }
  | _ => none }
def fnExactEnvOkRow : OpenClaim := { program := "ytojmemlbajnhhaa", sum := "e5acd35e980fd8cbbe088ecd0afbe051179280225d4bc38a7e9d81ae5a0fce93", func := "loop.example/g00014/laws.FnExactEnvOk", spec := "fnExactEnvOk", unfollowed := true, recurses := true, apart := false }
def FnExactEnvOkSaid : Prop := fnExactEnvOkRow.holds Try.pinned (OpenSpec.ofChange fnExactEnvOkSpec)

/-- ITS FALSE NEIGHBOUR: 'it returns false'. Refute it at one input. -/
def fnExactEnvOkWrong : ChangeSpec := { name := "fnExactEnvOk", fn := fun _ => fun
  | [d] => { results := [.lit (.bool false)], args := [d] }
  | _ => none }
def FnExactEnvOkWrongFalsely : Prop := fnExactEnvOkRow.holds Try.pinned (OpenSpec.ofChange fnExactEnvOkWrong)

/-- 'laws.FnExactLook': WHATEVER THE INPUT: true; the input reads as it did. -/
def fnExactLookSpec : ChangeSpec := { name := "fnExactLook", fn := fun _ => fun
  | [d1, d2] => { results := [.lit (.bool true)], args := [d1, d2] }
  | _ => none }
def fnExactLookRow : OpenClaim := { program := "ytojmemlbajnhhaa", sum := "e5acd35e980fd8cbbe088ecd0afbe051179280225d4bc38a7e9d81ae5a0fce93", func := "loop.example/g00014/laws.FnExactLook", spec := "fnExactLook", inPlace := ["internal/bytealg.abigen_runtime_cmpstring"], unfollowed := true, recurses := true, apart := false }
def FnExactLookSaid : Prop := fnExactLookRow.holds Try.pinned (OpenSpec.ofChange fnExactLookSpec)

/-- ITS FALSE NEIGHBOUR: 'it returns false'. Refute it at one input. -/
def fnExactLookWrong : ChangeSpec := { name := "fnExactLook", fn := fun _ => fun
  | [d1, d2] => { results := [.lit (.bool false)], args := [d1, d2] }
  | _ => none }
def FnExactLookWrongFalsely : Prop := fnExactLookRow.holds Try.pinned (OpenSpec.ofChange fnExactLookWrong)

/-- 'laws.FnExactCloseGroup': WHATEVER THE INPUT: true; the input reads as it did. -/
def fnExactCloseGroupSpec : ChangeSpec := { name := "fnExactCloseGroup", fn := fun _ => fun
  | [d] => { results := [.lit (.bool true)], args := [d] }
  | _ => none }
def fnExactCloseGroupRow : OpenClaim := { program := "ytojmemlbajnhhaa", sum := "e5acd35e980fd8cbbe088ecd0afbe051179280225d4bc38a7e9d81ae5a0fce93", func := "loop.example/g00014/laws.FnExactCloseGroup", spec := "fnExactCloseGroup", unfollowed := true, recurses := true, apart := false }
def FnExactCloseGroupSaid : Prop := fnExactCloseGroupRow.holds Try.pinned (OpenSpec.ofChange fnExactCloseGroupSpec)

/-- ITS FALSE NEIGHBOUR: 'it returns false'. Refute it at one input. -/
def fnExactCloseGroupWrong : ChangeSpec := { name := "fnExactCloseGroup", fn := fun _ => fun
  | [d] => { results := [.lit (.bool false)], args := [d] }
  | _ => none }
def FnExactCloseGroupWrongFalsely : Prop := fnExactCloseGroupRow.holds Try.pinned (OpenSpec.ofChange fnExactCloseGroupWrong)

/-- 'laws.FnExactOpenGroup': WHATEVER THE INPUT: true; the input reads as it did. -/
def fnExactOpenGroupSpec : ChangeSpec := { name := "fnExactOpenGroup", fn := fun _ => fun
  | [d] => { results := [.lit (.bool true)], args := [d] }
  | _ => none }
def fnExactOpenGroupRow : OpenClaim := { program := "ytojmemlbajnhhaa", sum := "e5acd35e980fd8cbbe088ecd0afbe051179280225d4bc38a7e9d81ae5a0fce93", func := "loop.example/g00014/laws.FnExactOpenGroup", spec := "fnExactOpenGroup", unfollowed := true, recurses := true, apart := false }
def FnExactOpenGroupSaid : Prop := fnExactOpenGroupRow.holds Try.pinned (OpenSpec.ofChange fnExactOpenGroupSpec)

/-- ITS FALSE NEIGHBOUR: 'it returns false'. Refute it at one input. -/
def fnExactOpenGroupWrong : ChangeSpec := { name := "fnExactOpenGroup", fn := fun _ => fun
  | [d] => { results := [.lit (.bool false)], args := [d] }
  | _ => none }
def FnExactOpenGroupWrongFalsely : Prop := fnExactOpenGroupRow.holds Try.pinned (OpenSpec.ofChange fnExactOpenGroupWrong)

/-- 'laws.FnExactSameMean': WHATEVER THE INPUT: true; the input reads as it did. -/
def fnExactSameMeanSpec : ChangeSpec := { name := "fnExactSameMean", fn := fun _ => fun
  | [d1, d2, d3] => { results := [.lit (.bool true)], args := [d1, d2, d3] }
  | _ => none }
def fnExactSameMeanRow : OpenClaim := { program := "ytojmemlbajnhhaa", sum := "e5acd35e980fd8cbbe088ecd0afbe051179280225d4bc38a7e9d81ae5a0fce93", func := "loop.example/g00014/laws.FnExactSameMean", spec := "fnExactSameMean", inPlace := ["internal/bytealg.abigen_runtime_cmpstring"], unfollowed := true, recurses := true, apart := false }
def FnExactSameMeanSaid : Prop := fnExactSameMeanRow.holds Try.pinned (OpenSpec.ofChange fnExactSameMeanSpec)

/-- ITS FALSE NEIGHBOUR: 'it returns false'. Refute it at one input. -/
def fnExactSameMeanWrong : ChangeSpec := { name := "fnExactSameMean", fn := fun _ => fun
  | [d1, d2, d3] => { results := [.lit (.bool false)], args := [d1, d2, d3] }
  | _ => none }
def FnExactSameMeanWrongFalsely : Prop := fnExactSameMeanRow.holds Try.pinned (OpenSpec.ofChange fnExactSameMeanWrong)

/-- 'laws.FnExactDumpSize': WHATEVER THE INPUT: true; the input reads as it did. -/
def fnExactDumpSizeSpec : ChangeSpec := { name := "fnExactDumpSize", fn := fun _ => fun
  | [d] => { results := [.lit (.bool true)], args := [d] }
  | _ => none }
def fnExactDumpSizeRow : OpenClaim := { program := "ytojmemlbajnhhaa", sum := "e5acd35e980fd8cbbe088ecd0afbe051179280225d4bc38a7e9d81ae5a0fce93", func := "loop.example/g00014/laws.FnExactDumpSize", spec := "fnExactDumpSize", unfollowed := true, recurses := true, apart := false }
def FnExactDumpSizeSaid : Prop := fnExactDumpSizeRow.holds Try.pinned (OpenSpec.ofChange fnExactDumpSizeSpec)

/-- ITS FALSE NEIGHBOUR: 'it returns false'. Refute it at one input. -/
def fnExactDumpSizeWrong : ChangeSpec := { name := "fnExactDumpSize", fn := fun _ => fun
  | [d] => { results := [.lit (.bool false)], args := [d] }
  | _ => none }
def FnExactDumpSizeWrongFalsely : Prop := fnExactDumpSizeRow.holds Try.pinned (OpenSpec.ofChange fnExactDumpSizeWrong)

/-- 'laws.FnExactDump': WHATEVER THE INPUT: true; the input reads as it did. -/
def fnExactDumpSpec : ChangeSpec := { name := "fnExactDump", fn := fun _ => fun
  | [d] => { results := [.lit (.bool true)], args := [d] }
  | _ => none }
def fnExactDumpRow : OpenClaim := { program := "ytojmemlbajnhhaa", sum := "e5acd35e980fd8cbbe088ecd0afbe051179280225d4bc38a7e9d81ae5a0fce93", func := "loop.example/g00014/laws.FnExactDump", spec := "fnExactDump", unfollowed := true, recurses := true, apart := false }
def FnExactDumpSaid : Prop := fnExactDumpRow.holds Try.pinned (OpenSpec.ofChange fnExactDumpSpec)

/-- ITS FALSE NEIGHBOUR: 'it returns false'. Refute it at one input. -/
def fnExactDumpWrong : ChangeSpec := { name := "fnExactDump", fn := fun _ => fun
  | [d] => { results := [.lit (.bool false)], args := [d] }
  | _ => none }
def FnExactDumpWrongFalsely : Prop := fnExactDumpRow.holds Try.pinned (OpenSpec.ofChange fnExactDumpWrong)

/-- 'laws.FnExactLoad': WHATEVER THE INPUT: true; the input reads as it did. -/
def fnExactLoadSpec : ChangeSpec := { name := "fnExactLoad", fn := fun _ => fun
  | [d] => { results := [.lit (.bool true)], args := [d] }
  | _ => none }
def fnExactLoadRow : OpenClaim := { program := "ytojmemlbajnhhaa", sum := "e5acd35e980fd8cbbe088ecd0afbe051179280225d4bc38a7e9d81ae5a0fce93", func := "loop.example/g00014/laws.FnExactLoad", spec := "fnExactLoad", unfollowed := true, recurses := true, apart := false }
def FnExactLoadSaid : Prop := fnExactLoadRow.holds Try.pinned (OpenSpec.ofChange fnExactLoadSpec)

/-- ITS FALSE NEIGHBOUR: 'it returns false'. Refute it at one input. -/
def fnExactLoadWrong : ChangeSpec := { name := "fnExactLoad", fn := fun _ => fun
  | [d] => { results := [.lit (.bool false)], args := [d] }
  | _ => none }
def FnExactLoadWrongFalsely : Prop := fnExactLoadRow.holds Try.pinned (OpenSpec.ofChange fnExactLoadWrong)

/- THE SECOND FORM. 'bulk': how many values and letters a reading holds, each counted each time it is reached (what is shared counts as often as it is met; a slice's spare places count too). A statement '..UptoSaid' is the law's where the arguments, and the package variables that the reading takes, are together of bulk at most 1048576: NARROWER than '..Said'. Prove '..Said' where nothing that the law and all that it calls make is longer than what came in: it says more and counts as full. Else prove '..UptoSaid'. A law counts once. -/
mutual
def uptoBulk {H : Type} : DataW H → Nat
  | .lit (.string bytes) => bytes.length + 1
  | .lit _ => 1
  | .nil => 1
  | .ptr d => uptoBulk d + 1
  | .slice elems spare => uptoBulkAll elems + uptoBulkAll spare + 1
  | .agg parts => uptoBulkAll parts + 1
  | .iface _ d => uptoBulk d + 1
  | .map entries => uptoBulkEntries entries + 1
  | .held _ => 1
def uptoBulkAll {H : Type} : List (DataW H) → Nat
  | [] => 0
  | d :: r => uptoBulk d + uptoBulkAll r
def uptoBulkEntries {H : Type} : List (Lit × DataW H) → Nat
  | [] => 0
  | x :: r => uptoBulkEntry x + uptoBulkEntries r
def uptoBulkEntry {H : Type} : Lit × DataW H → Nat
  | (.string bytes, d) => bytes.length + uptoBulk d + 1
  | (_, d) => uptoBulk d + 1
 end
def uptoSmall : (H : Type) → List (DataW H) → Bool := fun _ ds => decide (uptoBulkAll ds ≤ 1048576)
def OpenSpec.upto (s : _root_.Go.ChangeSpec) : _root_.Go.OpenSpec := { _root_.Go.OpenSpec.ofChange s with cond := some uptoSmall }

/-- 'laws.FnExactEnvOk', WHERE WHAT IT READS IS OF BULK AT MOST 1048576: true; the input reads as it did. -/
def fnExactEnvOkUptoRow : OpenClaim := { program := "ytojmemlbajnhhaa", sum := "e5acd35e980fd8cbbe088ecd0afbe051179280225d4bc38a7e9d81ae5a0fce93", func := "loop.example/g00014/laws.FnExactEnvOk", spec := "fnExactEnvOk", unfollowed := true, recurses := true, apart := false, narrowed := true }
def FnExactEnvOkUptoSaid : Prop := fnExactEnvOkUptoRow.holds Try.pinned (OpenSpec.upto fnExactEnvOkSpec)

/-- 'laws.FnExactLook', WHERE WHAT IT READS IS OF BULK AT MOST 1048576: true; the input reads as it did. -/
def fnExactLookUptoRow : OpenClaim := { program := "ytojmemlbajnhhaa", sum := "e5acd35e980fd8cbbe088ecd0afbe051179280225d4bc38a7e9d81ae5a0fce93", func := "loop.example/g00014/laws.FnExactLook", spec := "fnExactLook", inPlace := ["internal/bytealg.abigen_runtime_cmpstring"], unfollowed := true, recurses := true, apart := false, narrowed := true }
def FnExactLookUptoSaid : Prop := fnExactLookUptoRow.holds Try.pinned (OpenSpec.upto fnExactLookSpec)

/-- 'laws.FnExactCloseGroup', WHERE WHAT IT READS IS OF BULK AT MOST 1048576: true; the input reads as it did. -/
def fnExactCloseGroupUptoRow : OpenClaim := { program := "ytojmemlbajnhhaa", sum := "e5acd35e980fd8cbbe088ecd0afbe051179280225d4bc38a7e9d81ae5a0fce93", func := "loop.example/g00014/laws.FnExactCloseGroup", spec := "fnExactCloseGroup", unfollowed := true, recurses := true, apart := false, narrowed := true }
def FnExactCloseGroupUptoSaid : Prop := fnExactCloseGroupUptoRow.holds Try.pinned (OpenSpec.upto fnExactCloseGroupSpec)

/-- 'laws.FnExactOpenGroup', WHERE WHAT IT READS IS OF BULK AT MOST 1048576: true; the input reads as it did. -/
def fnExactOpenGroupUptoRow : OpenClaim := { program := "ytojmemlbajnhhaa", sum := "e5acd35e980fd8cbbe088ecd0afbe051179280225d4bc38a7e9d81ae5a0fce93", func := "loop.example/g00014/laws.FnExactOpenGroup", spec := "fnExactOpenGroup", unfollowed := true, recurses := true, apart := false, narrowed := true }
def FnExactOpenGroupUptoSaid : Prop := fnExactOpenGroupUptoRow.holds Try.pinned (OpenSpec.upto fnExactOpenGroupSpec)

/-- 'laws.FnExactSameMean', WHERE WHAT IT READS IS OF BULK AT MOST 1048576: true; the input reads as it did. -/
def fnExactSameMeanUptoRow : OpenClaim := { program := "ytojmemlbajnhhaa", sum := "e5acd35e980fd8cbbe088ecd0afbe051179280225d4bc38a7e9d81ae5a0fce93", func := "loop.example/g00014/laws.FnExactSameMean", spec := "fnExactSameMean", inPlace := ["internal/bytealg.abigen_runtime_cmpstring"], unfollowed := true, recurses := true, apart := false, narrowed := true }
def FnExactSameMeanUptoSaid : Prop := fnExactSameMeanUptoRow.holds Try.pinned (OpenSpec.upto fnExactSameMeanSpec)

/-- 'laws.FnExactDumpSize', WHERE WHAT IT READS IS OF BULK AT MOST 1048576: true; the input reads as it did. -/
def fnExactDumpSizeUptoRow : OpenClaim := { program := "ytojmemlbajnhhaa", sum := "e5acd35e980fd8cbbe088ecd0afbe051179280225d4bc38a7e9d81ae5a0fce93", func := "loop.example/g00014/laws.FnExactDumpSize", spec := "fnExactDumpSize", unfollowed := true, recurses := true, apart := false, narrowed := true }
def FnExactDumpSizeUptoSaid : Prop := fnExactDumpSizeUptoRow.holds Try.pinned (OpenSpec.upto fnExactDumpSizeSpec)

/-- 'laws.FnExactDump', WHERE WHAT IT READS IS OF BULK AT MOST 1048576: true; the input reads as it did. -/
def fnExactDumpUptoRow : OpenClaim := { program := "ytojmemlbajnhhaa", sum := "e5acd35e980fd8cbbe088ecd0afbe051179280225d4bc38a7e9d81ae5a0fce93", func := "loop.example/g00014/laws.FnExactDump", spec := "fnExactDump", unfollowed := true, recurses := true, apart := false, narrowed := true }
def FnExactDumpUptoSaid : Prop := fnExactDumpUptoRow.holds Try.pinned (OpenSpec.upto fnExactDumpSpec)

/-- 'laws.FnExactLoad', WHERE WHAT IT READS IS OF BULK AT MOST 1048576: true; the input reads as it did. -/
def fnExactLoadUptoRow : OpenClaim := { program := "ytojmemlbajnhhaa", sum := "e5acd35e980fd8cbbe088ecd0afbe051179280225d4bc38a7e9d81ae5a0fce93", func := "loop.example/g00014/laws.FnExactLoad", spec := "fnExactLoad", unfollowed := true, recurses := true, apart := false, narrowed := true }
def FnExactLoadUptoSaid : Prop := fnExactLoadUptoRow.holds Try.pinned (OpenSpec.upto fnExactLoadSpec)

end Rows
end Go.Proofs.Ytojmemlbajnhhaa
