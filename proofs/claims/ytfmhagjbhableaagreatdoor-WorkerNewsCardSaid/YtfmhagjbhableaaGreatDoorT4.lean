/-
  The tie of the row of WorkerNews, a part.
-/
import Derived.Test.YtfmhagjbhableaaGreatDoorChecked
import Derived.Test.YtfmhagjbhableaaGreatDoorRows
import Derived.LaidByTextLater
import Derived.SevenTiedAt
import Derived.Test.YtfmhagjbhableaaGreatDoorT1
namespace Go.Proofs.YtfmhagjbhableaaGreatDoor
open Go

theorem tie_2 (os : Os) (tape : Tape) : (DataW.laidRun Tryz.prog (varsWorld Tryz.prog 400 778 os tape).memory 8 (tieL.map (·.1))).map (fun x => decide x.2.Nodup && laidRowsB Tryz.prog (varsWorld Tryz.prog 400 778 os tape).memory x.2) = some true := by kernel_rfl
end Go.Proofs.YtfmhagjbhableaaGreatDoor
