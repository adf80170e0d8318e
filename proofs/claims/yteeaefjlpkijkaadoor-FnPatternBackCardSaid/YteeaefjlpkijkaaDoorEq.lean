/- What the helpers of the laws tell. -/
import Derived.Test.YteeaefjlpkijkaaDoorTy
import Derived.Test.YteeaefjlpkijkaaDoorBc0
namespace Go.Proofs.YteeaefjlpkijkaaDoor
open Go Go.Bm Go.Proofs
set_option linter.all false

def CA : AQ := ACalls ap noE
theorem ca_iff {f : FuncId} {af : AFunc} (hf : ap f = some af) {args : List AV} {h : AH} {R : AV → AH → Prop} : CA f args h R ↔ abody CA af args h R := acall_iff hf
@[congr] theorem ca_congr {f : FuncId} {a a' : List AV} {h h' : AH} {R : AV → AH → Prop} (ea : tick a = a') (eh : h = h') : CA f a h R = CA f a' h' R := by rw [← ea, eh]; rfl
theorem ca_pure {f : FuncId} {af : AFunc} (hf : ap f = some af) {args : List AV} {h : AH} {v : AV} {R : AV → AH → Prop} (hb : abody CA af args h (fun v' h' => v' = v ∧ h' = h)) : CA f args h R ↔ R v h := call_pure hf hb
theorem ca_frz {f : FuncId} {af : AFunc} (hf : ap f = some af) {args : List AV} {h : AH} {v : AV} {R : AV → AH → Prop} (hb : abody CA af args h (fun v' h' => h.le h' ∧ frzV h.next h' DF v' = some v)) : acallM CA .frz f args h R ↔ R v h := call_frz hf hb
theorem caM : CA.Mono := acalls_mono noE_mono

end Go.Proofs.YteeaefjlpkijkaaDoor
