/-
  Closed facts of the row of WorkerNews.
-/
import Derived.Test.YtfmhagjbhableaaGreatDoorChecked
import Derived.Test.YtfmhagjbhableaaGreatDoorRows
import Derived.JoinedOf
import Derived.KernelRfl
namespace Go.Proofs.YtfmhagjbhableaaGreatDoor
open Go
theorem rows_0 : ((List.range' 0 200).all (rowFine Tryz.prog)) = true := by kernel_rfl
theorem rows_1 : ((List.range' 200 200).all (rowFine Tryz.prog)) = true := by kernel_rfl
theorem rows_2 : ((List.range' 400 200).all (rowFine Tryz.prog)) = true := by kernel_rfl
theorem rows_3 : ((List.range' 600 151).all (rowFine Tryz.prog)) = true := by kernel_rfl
theorem globalsFine : Tryz.prog.globals.all (fun g => decide (g.type < Tryz.prog.types.size)) = true := by kernel_rfl
theorem paramsFine : Tryz.prog.funcs.all (fun f => f.params.all fun t => decide (t < Tryz.prog.types.size)) = true := by kernel_rfl
theorem typesSize : Tryz.prog.types.size = 751 := by kernel_rfl
theorem laidOutTryz : laidOutB Tryz.prog = true := by
  unfold laidOutB
  rw [globalsFine, paramsFine, typesSize, Bool.and_true, Bool.and_true, List.all_eq_true]
  intro t ht
  have ht := List.mem_range.1 ht
  by_cases h0 : t < 200
  · exact List.all_eq_true.1 rows_0 t (by simp [List.mem_range'_1]; omega)
  · by_cases h1 : t < 400
    · exact List.all_eq_true.1 rows_1 t (by simp [List.mem_range'_1]; omega)
    · by_cases h2 : t < 600
      · exact List.all_eq_true.1 rows_2 t (by simp [List.mem_range'_1]; omega)
      · exact List.all_eq_true.1 rows_3 t (by simp [List.mem_range'_1]; omega)
end Go.Proofs.YtfmhagjbhableaaGreatDoor
