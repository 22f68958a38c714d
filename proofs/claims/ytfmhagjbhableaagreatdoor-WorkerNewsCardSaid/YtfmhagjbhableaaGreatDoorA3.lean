/-
  The example and the row of WorkerNews, a part.
-/
import Derived.Test.YtfmhagjbhableaaGreatDoorA2
open Go Go.CE Go.RowKit
set_option linter.unusedVariables false
namespace Go.Proofs.YtfmhagjbhableaaGreatDoor
theorem noHandles : (Rows.workerNewsRow.laid.filter fun x => x.2.handleName?.isSome) = [] := by kernel_rfl
theorem heap_of_var {W : World} {n : String} {g : Nat} {cs : Array Value} (hg : Tryz.prog.globalNamed n = some g) (h : W.var? Tryz.prog n = some cs) : ∃ t fz, W.heap[g]? = some (.cells cs t fz) := by
  unfold World.var? at h
  rw [hg] at h
  simp only [Option.bind_some] at h
  split at h
  · rename_i c t fz e; simp only [Option.some.injEq] at h; subst h; exact ⟨t, fz, e⟩
  · cases h
theorem shapesIn_of_laid {W : World} (h : laidMetH Tryz.prog Rows.workerNewsRow.laid W) : ShapesIn W := by
  unfold laidMetH at h
  rw [noHandles] at h
  obtain ⟨ps, hl, _, _⟩ := (show laidMet Tryz.prog Rows.workerNewsRow.laid W from h)
  obtain ⟨_, _, _, _, _, _, _, _, _, _, hl, _⟩ := hl
  obtain ⟨_, _, _, _, _, _, _, _, _, _, hl, _⟩ := hl
  obtain ⟨_, _, _, _, _, _, _, _, _, _, hl, _⟩ := hl
  obtain ⟨_, _, _, _, _, _, _, _, _, _, hl, _⟩ := hl
  obtain ⟨_, _, _, _, _, _, _, _, _, _, hl, _⟩ := hl
  obtain ⟨g, t, cs, fuel, p, q, hg, ht, hv, hd, hl, _⟩ := hl
  obtain ⟨_, _, _, _, _, _, _, _, _, _, hl, _⟩ := hl
  obtain ⟨_, _, cs10, _, _, _, _, _, hv10, _, _, _⟩ := hl
  obtain ⟨t10, fz10, e10⟩ := heap_of_var g10 hv10
  obtain rfl := Option.some.inj (g3.symm.trans hg)
  obtain rfl := Option.some.inj (gt3.symm.trans ht)
  obtain ⟨t3, fz3, e3⟩ := heap_of_var g3 hv
  have c567 : Tryz.prog.cellsOf 567 = 6 := by kernel_rfl
  have hcs : ∀ fs : Array Field, Tryz.prog.underlying 567 = some (.struct fs) → fs.toList.all (fun f => Tryz.prog.cellsOf f.type == 1) = true := fun fs e => by rw [Tryz.underlying567] at e; cases e; kernel_rfl
  obtain ⟨h1, h2, h3⟩ := table_of_trod (ρ := ρ0) (e := 567) (n := 21) Tryz.underlying568 (by kernel_rfl) (Tryz.underlying567) (by kernel_rfl) (fun f hf => by have := List.all_eq_true.1 (hcs _ Tryz.underlying567) f hf; simpa using this) tab_shapes hd
  rw [c567] at h1 h3
  refine ⟨?_, cs, t3, fz3, e3, by rw [← Array.length_toList, h1], fun i row hi => ?_⟩
  · have := (Array.getElem?_eq_some_iff.1 e10).1; omega
  · obtain ⟨k1, k2⟩ := h3 i row hi
    exact ⟨k1, fun q a hq => by obtain ⟨x, hx, hV⟩ := k2 q a hq; exact ⟨x, by rw [← Array.getElem?_toList]; exact hx, hV⟩⟩
end Go.Proofs.YtfmhagjbhableaaGreatDoor
