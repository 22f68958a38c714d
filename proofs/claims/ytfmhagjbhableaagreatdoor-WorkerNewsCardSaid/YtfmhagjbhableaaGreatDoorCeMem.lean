/-
  CE, part 5: reading and writing rows of cells in the model's world.
-/
import Derived.Test.YtfmhagjbhableaaGreatDoorCeOp
namespace Go.CE
open Go
set_option linter.unusedVariables false
set_option linter.unusedSimpArgs false

theorem addr_add (b o n : Nat) : (⟨b, o, none⟩ : Addr).add n = ⟨b, o + n, none⟩ := by
  unfold Addr.add
  split
  · rename_i h; subst h; rfl
  · rfl
theorem cell?_of {w : World} {b o : Nat} {arr : Array Value} {ty : TypeId} {fz : Nat × Nat} (h : w.heap[b]? = some (.cells arr ty fz)) : w.cell? ⟨b, o, none⟩ = arr[o]? := by
  unfold World.cell?
  simp [h]
theorem frozen?_of {w : World} {b o : Nat} {arr : Array Value} {ty : TypeId} {fz : Nat × Nat} (h : w.heap[b]? = some (.cells arr ty fz)) : w.frozen? ⟨b, o, none⟩ = (decide (fz.1 ≤ o) && decide (o < fz.2)) := by
  unfold World.frozen?
  simp [h]

section
variable {P : Program}
theorem run_load_cell {w : World} {a : Addr} {v : Value} (h : w.cell? a = some v) : (load a).run P w = .ok v w := by simp [h]
theorem run_loadCellsFrom {w : World} (b o : Nat) : ∀ (vs : List Value) (i : Nat) (acc : Array Value), (∀ (j : Nat) v, vs[j]? = some v → w.cell? ⟨b, o + i + j, none⟩ = some v) →
    (loadCellsFrom ⟨b, o, none⟩ i vs.length acc).run P w = .ok (acc ++ vs.toArray) w
  | [], i, acc, _ => by simp [loadCellsFrom]
  | v :: vs, i, acc, h => by
    have h0 := h 0 v rfl
    simp only [List.length_cons, loadCellsFrom, Sem.run_bind, addr_add]
    rw [run_load_cell (by simpa using h0)]
    simp only [Result.andThen_ok]
    rw [run_loadCellsFrom b o vs (i + 1) (acc.push v) (fun j u e => by
      have := h (j + 1) u (by simpa using e)
      rw [← this]; congr 2; omega)]
    simp
theorem run_loadCells {w : World} {b o n : Nat} {vs : List Value} (hn : vs.length = n) (h : ∀ (j : Nat) v, vs[j]? = some v → w.cell? ⟨b, o + j, none⟩ = some v) :
    (loadCells ⟨b, o, none⟩ n).run P w = .ok vs.toArray w := by
  subst hn
  unfold loadCells
  rw [run_loadCellsFrom b o vs 0 #[] (by simpa using h)]
  simp

/-- Cells written over from a place on. -/
def setL (arr : Array Value) (o : Nat) : List Value → Array Value
  | [] => arr
  | v :: vs => setL (arr.setIfInBounds o v) (o + 1) vs
theorem setL_size : ∀ (vs : List Value) (arr : Array Value) (o : Nat), (setL arr o vs).size = arr.size
  | [], _, _ => rfl
  | v :: vs, arr, o => by simp [setL, setL_size vs]
theorem setL_get : ∀ (vs : List Value) (arr : Array Value) (o j : Nat), o + vs.length ≤ arr.size → (setL arr o vs)[j]? = if o ≤ j ∧ j < o + vs.length then vs[j - o]? else arr[j]?
  | [], arr, o, j, _ => by
    simp only [setL, List.length_nil]
    rw [if_neg (by omega)]
  | v :: vs, arr, o, j, h => by
    simp only [List.length_cons] at h
    simp only [setL]
    rw [setL_get vs _ _ _ (by simp; omega), Array.getElem?_setIfInBounds]
    simp only [List.length_cons]
    by_cases h1 : o + 1 ≤ j ∧ j < o + 1 + vs.length
    · rw [if_pos h1, if_pos (by omega)]
      obtain ⟨k, rfl⟩ : ∃ k, j = o + 1 + k := ⟨j - (o + 1), by omega⟩
      rw [show o + 1 + k - o = k + 1 from by omega, show o + 1 + k - (o + 1) = k from by omega, List.getElem?_cons_succ]
    · rw [if_neg h1]
      by_cases h2 : o = j
      · subst h2
        rw [if_pos rfl, if_pos (by omega), if_pos (by omega)]; simp
      · rw [if_neg h2, if_neg (by omega)]
/-- The block b holds o from now on. -/
def setBlk (w : World) (b : Nat) (o : Obj) : World := { w with heap := w.heap.setIfInBounds b o }
theorem setBlk_at {w : World} {b : Nat} {o o' : Obj} (h : w.heap[b]? = some o') : (setBlk w b o).heap[b]? = some o := by
  have hb : b < w.heap.size := by
    rcases Nat.lt_or_ge b w.heap.size with i | i
    · exact i
    · rw [Array.getElem?_eq_none i] at h; cases h
  simp [setBlk, hb]
theorem setBlk_ne {w : World} {b c : Nat} {o : Obj} (h : c ≠ b) : (setBlk w b o).heap[c]? = w.heap[c]? := by
  simp [setBlk, Ne.symm h]
theorem setBlk_size (w : World) (b : Nat) (o : Obj) : (setBlk w b o).heap.size = w.heap.size := by simp [setBlk]
theorem setBlk_same {w : World} {b : Nat} {o : Obj} (h : w.heap[b]? = some o) : setBlk w b o = w := by
  unfold setBlk
  have : w.heap.setIfInBounds b o = w.heap := by
    apply Array.ext_getElem?
    intro i
    rw [Array.getElem?_setIfInBounds]
    split
    · rename_i e; subst e; rw [h]
      split
      · rfl
      · rename_i g; rw [Array.getElem?_eq_none (by omega)] at h; cases h
    · rfl
  rw [this]
theorem setBlk_twice (w : World) (b : Nat) (o o' : Obj) : setBlk (setBlk w b o) b o' = setBlk w b o' := by
  unfold setBlk
  have : (w.heap.setIfInBounds b o).setIfInBounds b o' = w.heap.setIfInBounds b o' := by
    apply Array.ext_getElem?
    intro i
    simp only [Array.getElem?_setIfInBounds, Array.size_setIfInBounds]
    split <;> rfl
  simp [this]
theorem setCell_eq {w : World} {b o : Nat} {v : Value} {arr : Array Value} {ty : TypeId} {fz : Nat × Nat} (h : w.heap[b]? = some (.cells arr ty fz)) :
    w.setCell ⟨b, o, none⟩ v = setBlk w b (.cells (arr.setIfInBounds o v) ty fz) := by
  unfold World.setCell setBlk
  congr 1
  apply Array.ext_getElem?
  intro i
  rw [Array.getElem?_modify, Array.getElem?_setIfInBounds]
  by_cases e : b = i
  · subst e
    have hb : b < w.heap.size := by
      rcases Nat.lt_or_ge b w.heap.size with i | i
      · exact i
      · rw [Array.getElem?_eq_none i] at h; cases h
    rw [if_pos rfl, if_pos rfl, if_pos hb, h]
    rfl
  · rw [if_neg e, if_neg e]
theorem run_storeCells {b o : Nat} {ty : TypeId} {fz : Nat × Nat} : ∀ (vs : List Value) (i : Nat) (w : World) (arr : Array Value), w.heap[b]? = some (.cells arr ty fz) → (∀ v ∈ vs, v.oneCell' = true) →
    o + i + vs.length ≤ arr.size → (∀ j, j < vs.length → ¬ (fz.1 ≤ o + i + j ∧ o + i + j < fz.2)) →
    (storeCells ⟨b, o, none⟩ vs i).run P w = .ok () (setBlk w b (.cells (setL arr (o + i) vs) ty fz))
  | [], i, w, arr, h, _, _, _ => by simp [storeCells, setL, setBlk_same h]
  | v :: vs, i, w, arr, h, h1, h2, h3 => by
    simp only [List.length_cons] at h2
    simp only [storeCells, Sem.run_bind, addr_add]
    rw [run_store _ _ _ _ _ (h1 v (by simp)), cell?_of h, Array.getElem?_eq_getElem (by omega)]
    have hf : w.frozen? ⟨b, o + i, none⟩ = false := by
      rw [frozen?_of h]
      have := h3 0 (by simp)
      simp at this ⊢
      omega
    rw [hf]
    simp only [Bool.false_eq_true, if_false, Result.andThen_ok]
    rw [setCell_eq h]
    have h4 := setBlk_at (o := .cells (arr.setIfInBounds (o + i) v) ty fz) h
    have e : o + (i + 1) = o + i + 1 := by omega
    rw [run_storeCells vs (i + 1) _ _ h4 (fun u hu => h1 u (by simp [hu])) (by simp; omega) (fun j hj => by
      have := h3 (j + 1) (by simp; omega)
      rw [e]; omega)]
    rw [setBlk_twice, e]
    rfl
end

/-- A cell's value is no aggregate. -/
def isCell : AV → Bool
  | .agg _ => false
  | .tuple _ => false
  | _ => true
theorem isCell_sound {ρ : Ren} {a : AV} {v : Value} (h : isCell a = true) (g : VR ρ a v) : v.oneCell' = true := by
  cases a <;> simp only [isCell, Bool.false_eq_true] at h <;> simp only [VR] at g
  all_goals first
    | (subst g; rfl)
    | (obtain ⟨_, _, g⟩ := g; subst g; rfl)
    | (obtain ⟨_, g, _⟩ := g; subst g; rfl)
    | (obtain ⟨_, _, _, _, g, _⟩ := g; subst g; rfl)
    | (obtain ⟨_, _, _, g, _⟩ := g; subst g; rfl)
    | (obtain ⟨_, _, g, _⟩ := g; subst g; rfl)
def cellsA : AV → List AV
  | .agg cs => cs
  | v => [v]
theorem cellsA_sound {ρ : Ren} {a : AV} {v : Value} (g : VR ρ a v) (ht : ∀ l, a ≠ .tuple l) : VRs ρ (cellsA a) v.cells.toList := by
  cases a
  case agg cs => obtain ⟨vs, rfl, h⟩ := g; exact h
  case tuple l => exact absurd rfl (ht l)
  all_goals
    have hc := isCell_sound (by rfl) g
    have : v.cells = #[v] := by cases v <;> first | rfl | (simp [Value.oneCell'] at hc)
    rw [this]
    exact VRs.cons g rfl
/-- All are cells' values. -/
noncomputable def cellsOK (l : List AV) : Bool := @List.rec AV (fun _ => Bool) true (fun x _ ih => @AV.casesOn (fun _ => Bool) x (fun _ => ih) (fun _ _ => ih) (fun _ _ => ih) (fun _ _ => ih) ih (fun _ _ _ _ _ => ih) ih (fun _ => ih) ih (fun _ _ _ => ih) ih (fun _ _ => ih) ih (fun _ => false) (fun _ => false)) l
theorem cellsOK_iff : ∀ {l : List AV}, cellsOK l = true → ∀ a ∈ l, isCell a = true
  | [], _, a, h => by cases h
  | x :: xs, h, a, g => by
    have h' : isCell x = true ∧ cellsOK xs = true := by
      cases x <;> first | exact ⟨rfl, h⟩ | exact absurd h (by intro e; cases e)
    rcases List.mem_cons.1 g with e | e
    · subst e; exact h'.1
    · exact cellsOK_iff h'.2 a e
theorem cells_ok {ρ : Ren} : ∀ {l : List AV} {vs : List Value}, (∀ a ∈ l, isCell a = true) → VRs ρ l vs → ∀ v ∈ vs, v.oneCell' = true
  | [], _, _, e, v, hv => by cases e; cases hv
  | a :: as, _, h, ⟨x, xs, e, g, i⟩, v, hv => by
    subst e
    rcases List.mem_cons.1 hv with j | j
    · subst j; exact isCell_sound (h a (by simp)) g
    · exact cells_ok (fun b hb => h b (by simp [hb])) i v j
end Go.CE
