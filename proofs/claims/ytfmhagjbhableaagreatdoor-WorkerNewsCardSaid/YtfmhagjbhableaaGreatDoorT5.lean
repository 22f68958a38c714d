/-
  The tie of the row of WorkerNews, a part.
-/
import Derived.Test.YtfmhagjbhableaaGreatDoorChecked
import Derived.Test.YtfmhagjbhableaaGreatDoorRows
import Derived.LaidByTextLater
import Derived.SevenTiedAt
import Derived.Test.YtfmhagjbhableaaGreatDoorT1
import Derived.Test.YtfmhagjbhableaaGreatDoorT2
import Derived.Test.YtfmhagjbhableaaGreatDoorT3
import Derived.Test.YtfmhagjbhableaaGreatDoorT4
namespace Go.Proofs.YtfmhagjbhableaaGreatDoor
open Go

theorem tieT : Tryz.prog.laidByTextLater tieL [.data, .data, .data, .sentinel, .sentinel, .data, .data] true :=
  Program.laidByTextLater_of_run 778 400 8 tie_w tie_w' tie_root tie_k tie_g tie_n tie_d tie_1 tie_2 tie_p
theorem pinFirst : Tryz.pinned.checked.prog.pinnedFits "unicode/utf8.first" = true := by kernel_rfl
theorem noUnsafe : Tryz.pinned.checked.prog.headLifts.contains "ownunsafe" = false := by kernel_rfl
theorem newsFits : Tryz.pinned.checked.prog.listedFits Rows.workerNewsRow.laid = true := by
  unfold Program.listedFits
  rw [noUnsafe]
  kernel_rfl
theorem newsTie : Rows.workerNewsRow.laidByTextAt .later Tryz.pinned [.data, .data, .data, .sentinel, .sentinel, .data, .pinned, .data] true :=
  OpenClaim.laidByTextAt_pinned rfl rfl tieT rfl rfl rfl rfl (fun y hy he => by
    simp only [Rows.workerNewsRow, List.zip_cons_cons, List.zip_nil_right, List.mem_cons, List.mem_nil_iff, or_false] at hy
    rcases hy with rfl | rfl | rfl | rfl | rfl | rfl | rfl | rfl
    · cases he
    · cases he
    · cases he
    · cases he
    · cases he
    · cases he
    · exact ⟨pinFirst, by kernel_rfl⟩
    · cases he) newsFits
end Go.Proofs.YtfmhagjbhableaaGreatDoor
