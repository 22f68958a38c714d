/-
  The tie of the row of WorkerNews, a part.
-/
import Derived.Test.YtfmhagjbhableaaGreatDoorChecked
import Derived.Test.YtfmhagjbhableaaGreatDoorRows
import Derived.LaidByTextLater
import Derived.SevenTiedAt
import Derived.Test.YtfmhagjbhableaaGreatDoorT1
namespace Go.Proofs.YtfmhagjbhableaaGreatDoor
open Go

theorem tie_n : varsNamedLaterB Tryz.prog 778 tieL = true := by kernel_rfl
end Go.Proofs.YtfmhagjbhableaaGreatDoor
