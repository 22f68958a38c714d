/-
  What the statement WorkerNews of the document's layer 56 (worker) says is proved of the given program: with which names and setups there is a worker, as the reference says, and that a nil worker runs nothing.
  Conditions: none beside those that the given card words (the listed variables begin as the program's text lays them, tied in the texts T1 to T5 and T7).
-/
import Derived.Test.YtfmhagjbhableaaGreatDoorA5
import Derived.Test.YtfmhagjbhableaaGreatDoorT5
import Derived.Test.YtfmhagjbhableaaGreatDoorT7
import Derived.Test.YtfmhagjbhableaaGreatDoorCards
set_option linter.unusedVariables false
namespace Go.Proofs.YtfmhagjbhableaaGreatDoor
open Go
theorem newsMain : Tryz.pinned.checked.prog.mainIs = some (true, "4d60778ebb92e14abcc0f6101d1e8dc5263501ce1d014b607501cdfe37478a46".toList) := by kernel_rfl
theorem newsByText : Rows.workerNewsRow.wfByText (OpenSpec.ofChange Rows.workerNewsSpec) = true := by kernel_rfl
theorem newsLooks : true = Tryz.prog.looks [] := by kernel_rfl
theorem newsWants : ([9, 39, 59].all fun u => !Tryz.prog.wantsStandIn u) = true := by kernel_rfl
theorem workerNews_card : Rows.WorkerNewsCardSaid :=
  Claim7.holds_tied_plain_at .later [] [.data, .data, .data, .sentinel, .sentinel, .data, .pinned, .data] true (true, "4d60778ebb92e14abcc0f6101d1e8dc5263501ce1d014b607501cdfe37478a46") true
    workerNews_holds (fun _ h => by cases h) newsByText (fun _ h => by cases h) newsTie rfl ⟨rfl, rfl⟩ newsMain rfl
    (fun f fn hf hfn => by
      obtain rfl : f = 8 := Option.some.inj (named8'.symm.trans hf) |>.symm
      obtain rfl : fn = Tryz.f8 := (Option.some.inj (Tryz.func8.symm.trans hfn)).symm
      exact ⟨newsLooks, fun j t ht => by
        rw [Tryz.params8] at ht
        have hm : t ∈ [9, 39, 59] := by simpa using Array.mem_of_getElem? ht
        exact (show Tryz.prog.wantsStandIn t = false by simpa using List.all_eq_true.1 newsWants t hm)⟩)
    newsGoes
end Go.Proofs.YtfmhagjbhableaaGreatDoor
