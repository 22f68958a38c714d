/-
  Closed facts of the row of WorkerNews.
-/
import Derived.Test.YtfmhagjbhableaaGreatDoorChecked
import Derived.Test.YtfmhagjbhableaaGreatDoorRows
import Derived.JoinedOf
import Derived.KernelRfl
set_option linter.unusedVariables false
namespace Go.Proofs.YtfmhagjbhableaaGreatDoor
open Go
theorem fact2 : (fun (P : Program) (f : FuncId) (fn : Func) (s : ChangeSpec) (c : OpenClaim) => (mapsRowed P : Bool)) Tryz.prog 8 Tryz.f8 Rows.workerNewsSpec Rows.workerNewsRow = true := by kernel_rfl
theorem fact24 : (fun (P : Program) (f : FuncId) (fn : Func) (s : ChangeSpec) (c : OpenClaim) => (P.stopsHeard : Bool)) Tryz.prog 8 Tryz.f8 Rows.workerNewsSpec Rows.workerNewsRow = true := by kernel_rfl
theorem fact25 : (fun (P : Program) (f : FuncId) (fn : Func) (s : ChangeSpec) (c : OpenClaim) => (P.mayEnter : Bool)) Tryz.prog 8 Tryz.f8 Rows.workerNewsSpec Rows.workerNewsRow = true := by kernel_rfl
end Go.Proofs.YtfmhagjbhableaaGreatDoor
