/-
  CE, part 27: a table that is laid (an array of structs of scalars) as an abstract block.
-/
import Derived.Test.YtfmhagjbhableaaGreatDoorCeTop
import Derived.LaidLaws
namespace Go.CE
open Go
set_option linter.unusedVariables false
set_option linter.unusedSimpArgs false
def litA : Lit → Option AV
  | .bool b => some (.bool b)
  | .int k n => some (.int k n)
  | .string s => some (.str s.length (bytesN s))
  | _ => none
def datA : DataW Unit → Option AV
  | .lit l => litA l
  | _ => none
def rowA : DataW Unit → Option (List AV)
  | .agg ds => ds.mapM datA
  | _ => none
def tabA : DataW Unit → Option (List (List AV))
  | .agg rs => rs.mapM rowA
  | _ => none
theorem mapM_get {α β : Type} {f : α → Option β} : ∀ {l : List α} {xs : List β}, l.mapM f = some xs → xs.length = l.length ∧ ∀ (i : Nat) a x, l[i]? = some a → xs[i]? = some x → f a = some x
  | [], xs, h => by
    simp at h
    subst h
    exact ⟨rfl, fun i a x e => by simp at e⟩
  | b :: l, xs, h => by
    simp only [List.mapM_cons, Option.bind_eq_bind, Option.bind_eq_some_iff, Option.pure_def, Option.some.injEq] at h
    obtain ⟨y, hy, ys, hys, rfl⟩ := h
    obtain ⟨h1, h2⟩ := mapM_get hys
    refine ⟨by simp [h1], fun i a x e g => ?_⟩
    cases i with
    | zero => simp at e g; subst e; subst g; exact hy
    | succ i => exact h2 i a x (by simpa using e) (by simpa using g)
section
variable {P : Program} {w : World} {ρ : Ren}
theorem lit_of_trod {fuel : Nat} {t : TypeId} {cs : List Value} {l : Lit} {a : AV} {p : List MemPlace} (ha : litA l = some a) (h : DataW.trod (fun _ => ()) P w 0 (fun _ => true) false fuel t cs = some (.lit l, p)) :
    ∃ v, cs = [v] ∧ VR ρ a v := by
  cases fuel with
  | zero => simp [DataW.trod] at h
  | succ fuel =>
    simp only [DataW.trod] at h
    split at h
    all_goals try (simp at h; done)
    all_goals try (split at h <;> simp at h; done)
    · simp at h; obtain ⟨rfl, _⟩ := h; simp [litA] at ha; subst ha; exact ⟨_, rfl, rfl⟩
    · split at h
      · rename_i hh; simp at h; obtain ⟨rfl, _⟩ := h; simp [litA] at ha; subst ha; obtain ⟨rfl, _⟩ := hh; exact ⟨_, rfl, rfl⟩
      · cases h
    · split at h
      · simp at h; obtain ⟨rfl, _⟩ := h; simp [litA] at ha
      · cases h
    · split at h
      · simp at h; obtain ⟨rfl, _⟩ := h; simp [litA] at ha; subst ha; exact ⟨_, rfl, _, rfl, by have := SR.of (by assumption); simpa using this⟩
      · cases h
    all_goals exfalso
    all_goals repeat' first
      | (split at h)
      | (rw [Option.map_eq_some_iff] at h; obtain ⟨_, _, h⟩ := h)
      | (rw [Option.bind_eq_some_iff] at h; obtain ⟨_, _, h⟩ := h)
      | (dsimp only at h)
    all_goals first | (cases h; done) | (simp at h; done)
/-- A row of scalars. -/
theorem row_of_trod {fuel : Nat} {e : TypeId} {fs : Array Field} {cs : List Value} {d : DataW Unit} {row : List AV} {p : List MemPlace} (hu : P.underlying e = some (.struct fs)) (ho : fs.toList.map (·.offset) = List.range (P.cellsOf e))
    (hc : ∀ f ∈ fs.toList, P.cellsOf f.type = 1) (hr : rowA d = some row) (h : DataW.trod (fun _ => ()) P w 0 (fun _ => true) false fuel e cs = some (d, p)) :
    cs.length = P.cellsOf e ∧ row.length = P.cellsOf e ∧ ∀ (q : Nat) a, row[q]? = some a → ∃ x, cs[q]? = some x ∧ VR ρ a x := by
  cases fuel with
  | zero => simp [DataW.trod] at h
  | succ fuel =>
    simp only [DataW.trod, hu] at h
    have h' : (if cs.length = P.cellsOf e then (fs.toList.mapM fun f => DataW.trod (fun _ => ()) P w 0 (fun _ => true) false fuel f.type ((cs.drop f.offset).take (P.cellsOf f.type))).map fun xs => (DataW.agg (xs.map (·.1)), xs.flatMap (·.2)) else none) = some (d, p) := by
      revert h; split <;> first | exact id | (intro h; simp_all)
    split at h'
    · rename_i hl
      rw [Option.map_eq_some_iff] at h'
      obtain ⟨xs, hxs, he⟩ := h'
      simp only [Prod.mk.injEq] at he
      obtain ⟨rfl, _⟩ := he
      obtain ⟨g1, g2⟩ := mapM_get hxs
      have hr' : (xs.map (·.1)).mapM datA = some row := hr
      obtain ⟨k1, k2⟩ := mapM_get hr'
      have hfl : fs.toList.length = P.cellsOf e := by
        have := congrArg List.length ho
        simpa using this
      refine ⟨hl, by rw [k1, List.length_map, g1, hfl], fun q a hq => ?_⟩
      have hql : q < row.length := (List.getElem?_eq_some_iff.1 hq).1
      have hqx : q < xs.length := by rw [k1, List.length_map] at hql; exact hql
      have hqf : q < fs.toList.length := by omega
      have e1 := g2 q _ _ (List.getElem?_eq_getElem hqf) (List.getElem?_eq_getElem hqx)
      have e2 : datA (xs[q]).1 = some a := k2 q _ a (by rw [List.getElem?_map, List.getElem?_eq_getElem hqx]; rfl) hq
      have eoff : (fs.toList[q]).offset = q := by
        have := congrArg (·[q]?) ho
        simp only [List.getElem?_map, List.getElem?_eq_getElem hqf, Option.map_some, List.getElem?_range (by omega : q < P.cellsOf e), Option.some.injEq] at this
        exact this
      rw [hc _ (List.getElem_mem hqf), eoff] at e1
      cases hd : (xs[q]).1 with
      | lit l =>
        rw [hd] at e2
        have e1' : DataW.trod (fun _ => ()) P w 0 (fun _ => true) false fuel (fs.toList[q]).type ((cs.drop q).take 1) = some (.lit l, (xs[q]).2) := by rw [e1, ← hd]
        obtain ⟨v, hv, hV⟩ := lit_of_trod (ρ := ρ) e2 e1'
        refine ⟨v, ?_, hV⟩
        have := congrArg (·[0]?) hv
        simpa using this
      | _ => rw [hd] at e2; simp [datA] at e2
    · cases h'
/-- A table of such rows. -/
theorem table_of_trod {fuel : Nat} {t e : TypeId} {n : Nat} {fs : Array Field} {cs : List Value} {d : DataW Unit} {rows : List (List AV)} {p : List MemPlace} (ht : P.underlying t = some (.array n e)) (hct : P.cellsOf t = n * P.cellsOf e) (hu : P.underlying e = some (.struct fs)) (ho : fs.toList.map (·.offset) = List.range (P.cellsOf e))
    (hc : ∀ f ∈ fs.toList, P.cellsOf f.type = 1) (hr : tabA d = some rows) (h : DataW.trod (fun _ => ()) P w 0 (fun _ => true) false fuel t cs = some (d, p)) :
    cs.length = n * P.cellsOf e ∧ rows.length = n ∧ ∀ (i : Nat) row, rows[i]? = some row → row.length = P.cellsOf e ∧ ∀ (q : Nat) a, row[q]? = some a → ∃ x, cs[i * P.cellsOf e + q]? = some x ∧ VR ρ a x := by
  cases fuel with
  | zero => simp [DataW.trod] at h
  | succ fuel =>
    simp only [DataW.trod, ht] at h
    have h' : (if cs.length = P.cellsOf t then ((List.range n).mapM fun i => DataW.trod (fun _ => ()) P w 0 (fun _ => true) false fuel e ((cs.drop (i * P.cellsOf e)).take (P.cellsOf e))).map fun xs => (DataW.agg (xs.map (·.1)), xs.flatMap (·.2)) else none) = some (d, p) := by
      revert h; split <;> first | exact id | (intro h; simp_all)
    split at h'
    · rename_i hl
      rw [Option.map_eq_some_iff] at h'
      obtain ⟨xs, hxs, he⟩ := h'
      simp only [Prod.mk.injEq] at he
      obtain ⟨rfl, _⟩ := he
      obtain ⟨g1, g2⟩ := mapM_get hxs
      have hr' : (xs.map (·.1)).mapM rowA = some rows := hr
      obtain ⟨k1, k2⟩ := mapM_get hr'
      have hrn : rows.length = n := by rw [k1, List.length_map, g1]; simp
      refine ⟨by rw [hl, hct], hrn, fun i row hi => ?_⟩
      have hil : i < n := by rw [← hrn]; exact (List.getElem?_eq_some_iff.1 hi).1
      have hix : i < xs.length := by rw [g1]; simpa using hil
      have e1 := g2 i i _ (by simp [hil]) (List.getElem?_eq_getElem hix)
      have e2 := k2 i _ row (by rw [List.getElem?_map, List.getElem?_eq_getElem hix]; rfl) hi
      obtain ⟨_, f2, f3⟩ := row_of_trod (ρ := ρ) hu ho hc e2 e1
      refine ⟨f2, fun q a hq => ?_⟩
      obtain ⟨x, hx, hV⟩ := f3 q a hq
      refine ⟨x, ?_, hV⟩
      have hql : q < P.cellsOf e := by rw [← f2]; exact (List.getElem?_eq_some_iff.1 hq).1
      rw [List.getElem?_take_of_lt hql, List.getElem?_drop] at hx
      exact hx
    · cases h'
end
end Go.CE
