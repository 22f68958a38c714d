/-
  The tie of the row of WorkerNews, a part.
-/
import Derived.Test.YtfmhagjbhableaaGreatDoorChecked
import Derived.Test.YtfmhagjbhableaaGreatDoorRows
import Derived.SevenTiedAt
namespace Go.Proofs.YtfmhagjbhableaaGreatDoor
open Go
theorem goes_none {P : Program} (h : P.funcs.any Func.goes = false) (f : FuncId) : P.goes f = false := by
  have hg : ∀ g : FuncId, (P.funcs[g]?).any Func.goes = false := by
    intro g
    cases e : P.funcs[g]? with
    | none => rfl
    | some fn =>
      have h0 := h
      rw [← Array.any_toList, List.any_eq_false] at h0
      have h1 := h0 fn (Array.mem_toList_iff.2 (Array.mem_of_getElem? e))
      show fn.goes = false
      simpa using h1
  unfold Program.goes
  rw [h, Bool.and_false, Bool.or_false, List.any_eq_false]
  intro g _
  rw [hg]
  simp
theorem goesFrom_some {P : Program} {s : String} {f : FuncId} (h : P.funcNamed s = some f) (g : P.goes f = false) : P.goesFrom s = false := by
  unfold Program.goesFrom
  rw [h]
  exact g
theorem goesBy_entering {c : OpenClaim} {P : Program} (hs : c.start = .entering) (h : P.goesFrom c.func = false) : false = c.goesBy P := by
  unfold OpenClaim.goesBy Program.goesAt
  rw [h, hs]
  rfl
theorem noGoes : Tryz.prog.funcs.any Func.goes = false := by kernel_rfl
theorem newsNamed : Tryz.prog.funcNamed Rows.workerNewsRow.func = some 8 := by kernel_rfl
theorem newsGoes : false = Rows.workerNewsRow.goesBy Tryz.pinned.checked.prog :=
  goesBy_entering (c := Rows.workerNewsRow) (P := Tryz.pinned.checked.prog) rfl (goesFrom_some (P := Tryz.prog) newsNamed (goes_none noGoes 8))
end Go.Proofs.YtfmhagjbhableaaGreatDoor
