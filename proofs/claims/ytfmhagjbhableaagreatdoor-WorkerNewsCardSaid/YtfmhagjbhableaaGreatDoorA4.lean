/-
  The example and the row of WorkerNews, a part.
-/
import Derived.Test.YtfmhagjbhableaaGreatDoorA3
import Derived.Test.YtfmhagjbhableaaGreatDoorChecked
import Derived.ProofKit
import Derived.OpenShut
import Derived.LaidMore
import Derived.Lay
import Derived.Carry
open Go Go.CE
set_option linter.unusedVariables false
set_option maxRecDepth 100000
namespace Go.Proofs.YtfmhagjbhableaaGreatDoor
open Go.ChangeShapes Go.WideShapes Go.ChangeAt Go.RowKit
theorem ownTryz : ownKnob Tryz.prog.godebug = none := by kernel_rfl
/-! ### Opening the arguments -/
theorem cell_int {W : World} {base : Nat} {v : Value} (h : Cell.okWide Tryz.prog W .any base 3 v) : ∃ n, v = .int .i64 n := by
  unfold Cell.okWide Cell.ok at h
  rw [Tryz.underlying3] at h
  cases v <;> simp at h
  exact ⟨_, by rw [h.1]⟩
theorem cell_string {W : World} {base : Nat} {v : Value} (h : Cell.okWide Tryz.prog W .any base 9 v) : ∃ s, v = .string s := by
  unfold Cell.okWide Cell.ok at h
  rw [Tryz.underlying9] at h
  cases v <;> simp at h
  exact ⟨_, rfl⟩
theorem types39 : Tryz.prog.cellTypes Tryz.prog.depth 39 = some [31, 3, 3, 3, 3, 3, 3, 3, 3, 3, 3, 3] := by kernel_rfl
theorem types59 : Tryz.prog.cellTypes Tryz.prog.depth 59 = some [9, 9, 9, 9, 9, 3, 9, 55, 9, 3, 3, 9] := by kernel_rfl
theorem cells39 : Tryz.prog.cellsOf 39 = 12 := by kernel_rfl
theorem cells59 : Tryz.prog.cellsOf 59 = 12 := by kernel_rfl
theorem array12 {cs : Array Value} (h : cs.size = 12) : ∃ a b c d e f g h i j k l, cs = #[a, b, c, d, e, f, g, h, i, j, k, l] := by
  obtain ⟨l⟩ := cs
  match l, h with
  | [a, b, c, d, e, f, g, h, i, j, k, l], _ => exact ⟨a, b, c, d, e, f, g, h, i, j, k, l, rfl⟩
theorem open39 {W : World} {base : Nat} {v : Value} (h : Value.okWide Tryz.prog W .any base 39 v) : ∃ ws a b c d e f g h q r p, v = setupV ws a b c d e f g h q r p := by
  unfold Value.okWide at h
  rw [Tryz.underlying39] at h
  obtain ⟨cs, rfl, hs, ts, hts, _, hc⟩ := h
  rw [types39] at hts
  cases hts
  obtain ⟨x0, x1, x2, x3, x4, x5, x6, x7, x8, x9, x10, x11, rfl⟩ := array12 (hs.trans cells39)
  have hi : ∀ (i : Nat) (v : Value), i < 12 → i ≠ 0 → #[x0, x1, x2, x3, x4, x5, x6, x7, x8, x9, x10, x11][i]? = some v → ∃ n, v = .int .i64 n := by
    intro i v h1 h2 h3
    obtain ⟨u, hu, hv⟩ := hc i v h3
    have : u = 3 := by
      simp only [List.length_cons, List.length_nil] at hu
      match i, h1, h2, hu with
      | 1, _, _, hu | 2, _, _, hu | 3, _, _, hu | 4, _, _, hu | 5, _, _, hu | 6, _, _, hu | 7, _, _, hu | 8, _, _, hu | 9, _, _, hu | 10, _, _, hu | 11, _, _, hu => simpa using hu.symm
    subst this
    exact cell_int hv
  obtain ⟨n1, rfl⟩ := hi 1 x1 (by omega) (by omega) rfl
  obtain ⟨n2, rfl⟩ := hi 2 x2 (by omega) (by omega) rfl
  obtain ⟨n3, rfl⟩ := hi 3 x3 (by omega) (by omega) rfl
  obtain ⟨n4, rfl⟩ := hi 4 x4 (by omega) (by omega) rfl
  obtain ⟨n5, rfl⟩ := hi 5 x5 (by omega) (by omega) rfl
  obtain ⟨n6, rfl⟩ := hi 6 x6 (by omega) (by omega) rfl
  obtain ⟨n7, rfl⟩ := hi 7 x7 (by omega) (by omega) rfl
  obtain ⟨n8, rfl⟩ := hi 8 x8 (by omega) (by omega) rfl
  obtain ⟨n9, rfl⟩ := hi 9 x9 (by omega) (by omega) rfl
  obtain ⟨n10, rfl⟩ := hi 10 x10 (by omega) (by omega) rfl
  obtain ⟨n11, rfl⟩ := hi 11 x11 (by omega) (by omega) rfl
  exact ⟨x0, n1, n2, n3, n4, n5, n6, n7, n8, n9, n10, n11, rfl⟩
theorem open59 {W : World} {base : Nat} {v : Value} (h : Value.okWide Tryz.prog W .any base 59 v) : ∃ a0 a1 a2 a3 a4 a5 a6 a7 a8 a9 a10 a11, v = invV a0 a1 a2 a3 a4 a5 a6 a7 a8 a9 a10 a11 := by
  unfold Value.okWide at h
  rw [Tryz.underlying59] at h
  obtain ⟨cs, rfl, hs, ts, hts, _, hc⟩ := h
  rw [types59] at hts
  cases hts
  obtain ⟨x0, x1, x2, x3, x4, x5, x6, x7, x8, x9, x10, x11, rfl⟩ := array12 (hs.trans cells59)
  have hs' : ∀ (i : Nat) (v : Value), (i = 0 ∨ i = 1 ∨ i = 2 ∨ i = 3 ∨ i = 4 ∨ i = 6 ∨ i = 8 ∨ i = 11) → #[x0, x1, x2, x3, x4, x5, x6, x7, x8, x9, x10, x11][i]? = some v → ∃ s, v = .string s := by
    intro i v h1 h3
    obtain ⟨u, hu, hv⟩ := hc i v h3
    have : u = 9 := by
      simp only [List.length_cons, List.length_nil] at hu
      rcases h1 with rfl | rfl | rfl | rfl | rfl | rfl | rfl | rfl <;> simpa using hu.symm
    subst this
    exact cell_string hv
  have hi : ∀ (i : Nat) (v : Value), (i = 5 ∨ i = 9 ∨ i = 10) → #[x0, x1, x2, x3, x4, x5, x6, x7, x8, x9, x10, x11][i]? = some v → ∃ n, v = .int .i64 n := by
    intro i v h1 h3
    obtain ⟨u, hu, hv⟩ := hc i v h3
    have : u = 3 := by
      simp only [List.length_cons, List.length_nil] at hu
      rcases h1 with rfl | rfl | rfl <;> simpa using hu.symm
    subst this
    exact cell_int hv
  obtain ⟨n0, rfl⟩ := hs' 0 x0 (by omega) rfl
  obtain ⟨n1, rfl⟩ := hs' 1 x1 (by omega) rfl
  obtain ⟨n2, rfl⟩ := hs' 2 x2 (by omega) rfl
  obtain ⟨n3, rfl⟩ := hs' 3 x3 (by omega) rfl
  obtain ⟨n4, rfl⟩ := hs' 4 x4 (by omega) rfl
  obtain ⟨n5, rfl⟩ := hi 5 x5 (by omega) rfl
  obtain ⟨n6, rfl⟩ := hs' 6 x6 (by omega) rfl
  obtain ⟨n8, rfl⟩ := hs' 8 x8 (by omega) rfl
  obtain ⟨n9, rfl⟩ := hi 9 x9 (by omega) rfl
  obtain ⟨n10, rfl⟩ := hi 10 x10 (by omega) rfl
  obtain ⟨n11, rfl⟩ := hs' 11 x11 (by omega) rfl
  exact ⟨n0, n1, n2, n3, n4, n5, n6, x7, n8, n9, n10, n11, rfl⟩
end Go.Proofs.YtfmhagjbhableaaGreatDoor
