/-
  The example and the row of WorkerNews, a part.
-/
import Derived.Test.YtfmhagjbhableaaGreatDoorA1
import Derived.Test.YtfmhagjbhableaaGreatDoorW8
import Derived.Test.YtfmhagjbhableaaGreatDoorRows
open Go Go.CE Go.RowKit
set_option linter.unusedVariables false
namespace Go.Proofs.YtfmhagjbhableaaGreatDoor
/-! ### The example, in any world in which the table is laid -/
theorem rowsT_at (l : List (List AV)) : ∀ (i : Nat) (t : T (List AV)) (r : Nat), (rowsT l i t).at r = if i ≤ r ∧ r < i + l.length then l[r - i]? else t.at r := by
  induction l with
  | nil => intro i t r; show t.at r = _; rw [if_neg (by rw [List.length_nil]; omega)]
  | cons x xs ih =>
    intro i t r
    show (T.setK t (Nat.succ i) x fun t => forceN (Nat.succ i) fun i => rowsT xs i t).at r = _
    rw [T.setK_put, forceN_eq, ih, T.at_put]
    by_cases e : r = i
    · subst e
      rw [if_neg (by omega), if_pos rfl, if_pos (by simp)]
      simp
    · by_cases g : i + 1 ≤ r ∧ r < i + 1 + xs.length
      · rw [if_pos g, if_pos (by simp; omega)]
        obtain ⟨k, rfl⟩ : ∃ k, r = i + 1 + k := ⟨r - (i + 1), by omega⟩
        have e1 : i + 1 + k - (i + 1) = k := by omega
        have e2 : i + 1 + k - i = k + 1 := by omega
        rw [e1, e2]; rfl
      · rw [if_neg g, if_neg e, if_neg (by simp; omega)]
noncomputable def ρ0 : Ren := fun b => if b < 11 then some ⟨b, 0, if b = 3 then 126 else 0, if b = 3 then 6 else 0⟩ else none
/-- The table of shapes is laid. -/
def ShapesIn (w : World) : Prop := 11 ≤ w.heap.size ∧ ∃ arr t fz, w.heap[3]? = some (.cells arr t fz) ∧ arr.size = 126 ∧ ∀ (i : Nat) row, shapes[i]? = some row → row.length = 6 ∧ ∀ (q : Nat) a, row[q]? = some a → ∃ x, arr[i * 6 + q]? = some x ∧ VR ρ0 a x
theorem ShapesIn.below {w w1 : World} (h : ShapesIn w) (g : Below w.heap.size w w1) : ShapesIn w1 := by
  obtain ⟨h1, arr, t, fz, h2, h3⟩ := h
  exact ⟨Nat.le_trans h1 g.size, arr, t, fz, by rw [g.block 3 (by omega)]; exact h2, h3⟩
theorem globals11 : Tryz.prog.globals.size = 11 := by kernel_rfl
theorem h0_at (ty : TypeId) (b : Nat) (blk : ABlk) (h : (h0 ty).at b = some blk) : b = 3 ∧ blk = .cells ty 6 21 (rowsT shapes 0 .leaf) true := by
  unfold h0 at h
  rw [show (4 : Nat) = Nat.succ 3 from rfl, T.setK_put, id, T.at_put] at h
  split at h
  · rename_i e; simp at h; exact ⟨e, h.symm⟩
  · rw [T.at_leaf] at h; cases h
theorem shapes_len : shapes.length = 21 := rfl
theorem awake_in {w : World} (h : ShapesIn w) : Calls Tryz.prog 9 #[] w (ValEnd (.bool true) w) := by
  obtain ⟨h1, arr, t, fz, h2, h3, h4⟩ := h
  have hb : ∀ b p, ρ0 b = some p → b < 11 ∧ p.blk = b ∧ p.base = 0 := by
    intro b p e
    unfold ρ0 at e
    split at e
    · rename_i hb; cases e; exact ⟨hb, rfl, rfl⟩
    · cases e
  have hp : Pre Tryz.prog all' ρ0 (h0 t) 11 w := by
    refine ⟨fun b p e => (hb b p e).1, fun b p e => ?_, fun b _ blk p e g => ?_, fun b b' p p' _ _ _ _ e e' g => ?_, fun g hg => ?_⟩
    · rw [(hb b p e).2.1]; have := (hb b p e).1; omega
    · obtain ⟨rfl, rfl⟩ := h0_at t b blk e
      have hp : p = ⟨3, 0, 126, 6⟩ := by unfold ρ0 at g; simpa using g.symm
      subst hp
      refine ⟨rfl, by decide, arr, fz, h2, by show 0 + 126 ≤ _; omega, fun r hr => ?_, fun e => by cases e⟩
      have hrl : r < shapes.length := by rw [shapes_len]; exact hr
      refine ⟨shapes[r], ?_, (h4 r _ (List.getElem?_eq_getElem hrl)).1, fun q a hq => ?_⟩
      · rw [rowsT_at, if_pos ⟨Nat.zero_le _, by omega⟩]; simp [hrl]
      · obtain ⟨x, hx, hV⟩ := (h4 r _ (List.getElem?_eq_getElem hrl)).2 q a hq
        exact ⟨x, by show arr[0 + r * 6 + q]? = _; rw [Nat.zero_add]; exact hx, hV⟩
    · rw [(hb b p e).2.1, (hb b' p' e').2.1] at g; exact g
    · rw [globals11] at hg; exact ⟨_, by unfold ρ0; rw [if_pos hg], rfl, rfl⟩
  have hd : HD (h0 t) 11 := fun b blk e => by obtain ⟨rfl, _⟩ := h0_at t b blk e; omega
  refine (goF_true (P := Tryz.prog) (cf := cf) primsOK nodOK namesOK mixedTryz (by rfl) hd (awake_run t) hp (vals := #[]) rfl).mono ?_
  rintro e w' ⟨rfl, ha⟩
  exact ⟨⟨ha.os, ha.tape, ha.output, ha.size, ha.keep⟩, rfl⟩
theorem awakeOK {w : World} (h : ShapesIn w) : AwakeOK w := fun w1 hb => awake_in (h.below hb)
/-! ### The laid facts -/
theorem g3 : Tryz.prog.globalNamed "faas/code.shapes" = some 3 := by kernel_rfl
theorem g10 : Tryz.prog.globalNamed "unicode/utf8.acceptRanges" = some 10 := by kernel_rfl
theorem gt3 : (Tryz.prog.globals[3]?).map (·.type) = some 568 := by kernel_rfl
theorem tab_shapes : tabA Rows.laid_faas_code_shapes = some shapes := by kernel_rfl
theorem c568 : Tryz.prog.cellsOf 568 = 21 * 6 := by kernel_rfl
end Go.Proofs.YtfmhagjbhableaaGreatDoor
