/-
  CE, part 15: append, copy, clear.
-/
import Derived.Test.YtfmhagjbhableaaGreatDoorCeDo9
namespace Go.CE
open Go
set_option linter.unusedVariables false
set_option linter.unusedSimpArgs false

/-- The cells of n rows from place i on. -/
noncomputable def flatK (n : Nat) (rows : T (List AV)) (i : Nat) (c : List AV → Res) : Res :=
  @Nat.rec (fun _ => Nat → (List AV → Res) → Res) (fun _ c => c []) (fun _ ih i c => getO rows (Nat.succ i) fun row => ih (Nat.succ i) fun l => appK row l c) n i c
section
variable {r : Res}
theorem flatK_inv {rows : T (List AV)} : ∀ {n i : Nat} {c : List AV → Res}, flatK n rows i c = r → r ≠ .fail →
    ∃ l, c l = r ∧ ∀ ty esz nr ro (ρ : Ren) p w, BR ρ (.cells ty esz nr rows ro) p w → i + n ≤ nr → l.length = n * esz ∧ ∀ j, j < n → rows.at (i + j) = some ((l.drop (j * esz)).take esz)
  | 0, i, c, e, hr => ⟨[], e, fun ty esz nr ro ρ p w hB hle => ⟨by simp, fun j hj => absurd hj (by omega)⟩⟩
  | n + 1, i, c, e, hr => by
    have e' : (getO rows (Nat.succ i) fun row => flatK n rows (Nat.succ i) fun l => appK row l c) = r := e
    replace e' := getO_inv e' hr; obtain ⟨row, h1, e'⟩ := e'
    have h1 : rows.at i = some row := h1
    obtain ⟨l, e2, H⟩ := flatK_inv e' hr
    rw [appK_eq] at e2
    refine ⟨row ++ l, e2, fun ty esz nr ro ρ p w hB hle => ?_⟩
    obtain ⟨g1, g4⟩ := H ty esz nr ro ρ p w hB (by omega)
    have hlen : row.length = esz := by
      obtain ⟨_, _, arr, fz, _, _, h5, _⟩ := hB
      obtain ⟨row', q1, q2, _⟩ := h5 i (by omega)
      rw [h1] at q1; cases q1; exact q2
    refine ⟨by rw [List.length_append, hlen, g1, Nat.succ_mul]; omega, fun j hj => ?_⟩
    cases j with
    | zero =>
      rw [Nat.add_zero, h1, Nat.zero_mul, List.drop_zero, List.take_append_of_le_length (by omega), List.take_of_length_le (by omega)]
    | succ j =>
      rw [show i + (j + 1) = i + 1 + j from by omega, g4 j (by omega)]
      congr 2
      rw [Nat.succ_mul, Nat.add_comm, ← hlen, ← List.drop_drop, List.drop_left]
end
/-- Rows of a block as one list. -/
theorem BR.flatten {ρ : Ren} {p : Pl} {w : World} {ty : TypeId} {esz nr : Nat} {rows : T (List AV)} {ro : Bool} (hB : BR ρ (.cells ty esz nr rows ro) p w) : ∀ (n i : Nat), i + n ≤ nr →
    ∃ (l : List AV) (xs : List Value), l.length = n * esz ∧ VRs ρ l xs ∧ (∀ (j : Nat) v, xs[j]? = some v → w.cell? ⟨p.blk, p.base + i * esz + j, none⟩ = some v) ∧ ∀ j, j < n → rows.at (i + j) = some ((l.drop (j * esz)).take esz)
  | 0, i, _ => ⟨[], [], by simp, rfl, fun j v h => by simp at h, fun j hj => absurd hj (by omega)⟩
  | n + 1, i, hle => by
    obtain ⟨l, xs, g1, g2, g3, g4⟩ := hB.flatten n (i + 1) (by omega)
    have hrow : ∃ row, rows.at i = some row ∧ row.length = esz := by
      obtain ⟨_, _, arr, fz, _, _, h5, _⟩ := hB
      obtain ⟨row, q1, q2, _⟩ := h5 i (by omega)
      exact ⟨row, q1, q2⟩
    obtain ⟨row, h1, hlen⟩ := hrow
    obtain ⟨ys, k1, k2, k3⟩ := hB.cells (i := i) (q := 0) (n := esz) (by omega) h1 (by omega)
    rw [List.drop_zero, List.take_of_length_le (by omega)] at k2
    refine ⟨row ++ l, ys ++ xs, by rw [List.length_append, hlen, g1, Nat.succ_mul]; omega, k2.append g2, fun j v hj => ?_, fun j hj => ?_⟩
    · rw [List.getElem?_append] at hj
      split at hj
      · have := k3 j v hj
        rw [← this]; congr 2
      · have := g3 (j - ys.length) v hj
        rw [← this]; congr 2
        rw [Nat.succ_mul, k1]; omega
    · cases j with
      | zero =>
        rw [Nat.add_zero, h1, Nat.zero_mul, List.drop_zero, List.take_append_of_le_length (by omega), List.take_of_length_le (by omega)]
      | succ j =>
        rw [show i + (j + 1) = i + 1 + j from by omega, g4 j (by omega)]
        congr 2
        rw [Nat.succ_mul, Nat.add_comm, ← hlen, ← List.drop_drop, List.drop_left]

theorem eq_of_cuts {α : Type} {esz : Nat} : ∀ {n : Nat} {l m : List α}, l.length = n * esz → m.length = n * esz → (∀ j, j < n → (l.drop (j * esz)).take esz = (m.drop (j * esz)).take esz) → l = m
  | 0, l, m, h1, h2, _ => by
    rw [Nat.zero_mul] at h1 h2
    rw [List.length_eq_zero_iff.1 h1, List.length_eq_zero_iff.1 h2]
  | n + 1, l, m, h1, h2, H => by
    rw [Nat.succ_mul] at h1 h2
    have h0 := H 0 (by omega)
    rw [Nat.zero_mul, List.drop_zero, List.drop_zero] at h0
    have hr : l.drop esz = m.drop esz := eq_of_cuts (n := n) (esz := esz) (by rw [List.length_drop]; omega) (by rw [List.length_drop]; omega) fun j hj => by
      have := H (j + 1) (by omega)
      rw [Nat.succ_mul, Nat.add_comm, ← List.drop_drop, ← List.drop_drop] at this
      exact this
    rw [← List.take_append_drop esz l, ← List.take_append_drop esz m, h0, hr]
/-- The list that was read stands for what lies there. -/
theorem BR.flatList {ρ : Ren} {p : Pl} {w : World} {ty : TypeId} {esz nr n i : Nat} {rows : T (List AV)} {ro : Bool} {l : List AV} (hB : BR ρ (.cells ty esz nr rows ro) p w) (hle : i + n ≤ nr) (hl : l.length = n * esz) (hr : ∀ j, j < n → rows.at (i + j) = some ((l.drop (j * esz)).take esz)) :
    ∃ xs : List Value, xs.length = n * esz ∧ VRs ρ l xs ∧ ∀ (j : Nat) v, xs[j]? = some v → w.cell? ⟨p.blk, p.base + i * esz + j, none⟩ = some v := by
  obtain ⟨l0, xs, g1, g2, g3, g4⟩ := hB.flatten n i hle
  have : l0 = l := eq_of_cuts g1 hl fun j hj => by
    have := (g4 j hj).symm.trans (hr j hj)
    exact Option.some.inj this
  subst this
  exact ⟨xs, by rw [← g2.length]; exact g1, g2, g3⟩

section
variable {P : Program} {o : Oper} {env : T AV} {D : Nat → Prop} {h : AH} {nx : Nat} {lg : List Nat} {k : KV} {r : Res}
/-- What is appended or copied: its cells, how many elements. -/
noncomputable def srcK (esz : Nat) (h : AH) (x : AV) (c : Nat → List AV → Res) : Res :=
  @AV.casesOn (fun _ => Res) x (fun _ => .fail) (fun _ _ => .fail) (fun l n => ifK (and (Nat.beq esz 1) (Nat.ble l 1000000)) (spreadL l n fun cs => c l cs)) (fun _ _ => .fail) .fail
    (fun b o n _ _ => @Bool.rec (fun _ => Res) (getBlk h b fun blk => asCells blk fun _ esz' nr rows _ => forceN (Nat.div o esz) fun i => ifK (and (Nat.beq esz' esz) (and (Nat.beq (Nat.mul i esz) o) (and (Nat.ble (Nat.add i n) nr) (Nat.ble n 1000000)))) (flatK n rows i fun l => c n l)) (c 0 []) (Nat.beq n 0))
    (c 0 []) (fun _ => .fail) .fail (fun _ _ _ => .fail) .fail (fun _ _ => .fail) .fail (fun _ => .fail) (fun _ => .fail)
theorem srcK_inv {esz : Nat} {x : AV} {c : Nat → List AV → Res} (e : srcK esz h x c = r) (hr : r ≠ .fail) :
    ∃ n l, c n l = r ∧ n ≤ 1000000 ∧ ∀ (ρ : Ren) w v, VR ρ x v → (∀ b, topB x = some b → ∀ blk p, h.at b = some blk → ρ b = some p → BR ρ blk p w) →
      (Builtin.lenOf v).run P w = .ok n w ∧ ∃ xs : List Value, xs.length = n * esz ∧ VRs ρ l xs ∧ (Builtin.firstCells esz n v).run P w = .ok xs.toArray w := by
  cases x <;> first
    | exact absurd e.symm hr
    | skip
  case str l n =>
    replace e := ifK_inv e hr; obtain ⟨hs, e⟩ := e
    simp only [Bool.and_eq_true, beqN, bleN] at hs
    obtain ⟨rfl, hl⟩ := hs
    rw [spreadL_eq] at e
    refine ⟨_, _, e, hl, fun ρ w v hv _ => ?_⟩
    obtain ⟨s, rfl, hS⟩ := hv
    have hsz := hS.size
    refine ⟨by simp [Builtin.lenOf, hsz], s.data.toList.map fun b => Value.int .u8 b.toNat, ?_, ?_, ?_⟩
    · rw [List.length_map, hS.1, decB_length]; omega
    · rw [hS.1]
      refine VRs.of_get (by simp) fun i a y h1 h2 => ?_
      rw [List.getElem?_map] at h1 h2
      cases hb : (decB l n)[i]? with
      | none => rw [hb] at h1; cases h1
      | some b => rw [hb] at h1 h2; cases h1; cases h2; rfl
    · have : s.extract 0 l = s := by rw [← hsz]; simp
      simp only [Builtin.firstCells, this, Sem.run_pure]
      congr 1
      apply Array.ext'
      simp
  case slice b q n cp ex =>
    rw [show srcK esz h (AV.slice b q n cp ex) c = @Bool.rec (fun _ => Res) (getBlk h b fun blk => asCells blk fun _ esz' nr rows _ => forceN (Nat.div q esz) fun i => ifK (and (Nat.beq esz' esz) (and (Nat.beq (Nat.mul i esz) q) (and (Nat.ble (Nat.add i n) nr) (Nat.ble n 1000000)))) (flatK n rows i fun l => c n l)) (c 0 []) (Nat.beq n 0) from rfl, boolRec_ite] at e
    split at e
    · rename_i hn
      rw [beqN] at hn; subst hn
      refine ⟨0, [], e, by omega, fun ρ w v hv _ => ?_⟩
      obtain ⟨p, q', c', h1, rfl, _⟩ := hv
      refine ⟨by simp [Builtin.lenOf], [], by simp, rfl, ?_⟩
      simp [Builtin.firstCells, loadCells, loadCellsFrom]
    · rename_i hn
      rw [beqN] at hn
      replace e := getBlk_inv e hr; obtain ⟨blk, hb, e⟩ := e
      replace e := asCells_inv e hr; obtain ⟨ty, esz', nr, rows, ro, rfl, e⟩ := e
      rw [forceN_eq] at e
      replace e := ifK_inv e hr; obtain ⟨hc, e⟩ := e
      simp only [Bool.and_eq_true, beqN, bleN] at hc
      obtain ⟨rfl, hq, hle, hbig⟩ := hc
      replace e := flatK_inv e hr; obtain ⟨l, e, H⟩ := e
      refine ⟨n, l, e, hbig, fun ρ w v hv hF => ?_⟩
      obtain ⟨p, c', h1, rfl, _⟩ := hv.at (.inl hn)
      have hBr := hF b rfl _ p hb h1
      obtain ⟨H1, H2⟩ := H ty esz' nr ro ρ p w hBr hle
      obtain ⟨xs, g1, g2, g3⟩ := hBr.flatList hle H1 H2
      refine ⟨by simp [Builtin.lenOf], xs, g1, g2, ?_⟩
      simp only [Builtin.firstCells]
      refine run_loadCells g1 fun j v hj => ?_
      have := g3 j v hj
      rw [← this]; congr 2
      have hq' : Nat.div q esz' * esz' = q := hq
      rw [hq']
  case nilSlice =>
    refine ⟨0, [], e, by omega, fun ρ w v hv _ => ?_⟩
    simp only [VR] at hv; subst hv
    exact ⟨by simp [Builtin.lenOf], [], by simp, rfl, by simp [Builtin.firstCells]⟩

/-- Rows written over from row i on, in the block of p: what the store leaves. -/
theorem BR.storeRows {ρ : Ren} {p : Pl} {w : World} {ty : TypeId} {esz nr m i : Nat} {rows rows' : T (List AV)} {l : List AV} {xs : List Value} (h : BR ρ (.cells ty esz nr rows false) p w) (hl : l.length = m * esz) (hv : VRs ρ l xs) (hc : ∀ a ∈ l, isCell a = true)
    (hi : i ≤ nr) (hfit : (i + m) * esz ≤ p.room) (h1 : ∀ j, j < m → rows'.at (i + j) = some ((l.drop (j * esz)).take esz)) (h2 : ∀ j, j < i ∨ i + m ≤ j → rows'.at j = rows.at j) :
    ∃ arr fz, (storeCells ⟨p.blk, p.base + i * esz, none⟩ xs).run P w = .ok () (setBlk w p.blk (.cells arr ty fz)) ∧
      BR ρ (.cells ty esz (max nr (i + m)) rows' false) p (setBlk w p.blk (.cells arr ty fz)) := by
  obtain ⟨e1, e2, arr, fz, h3, h4, h5, h6⟩ := h
  have hxl := hv.length
  have hfit' : i * esz + m * esz ≤ p.room := by rw [← Nat.add_mul]; exact hfit
  have hb : p.base + i * esz + xs.length ≤ arr.size := by omega
  refine ⟨setL arr (p.base + i * esz) xs, fz, ?_, e1, ?_, setL arr (p.base + i * esz) xs, fz, setBlk_at h3, by rw [setL_size]; exact h4, fun j hj => ?_, h6⟩
  · have := run_storeCells (P := P) xs 0 w arr h3 (cells_ok hc hv) (by simpa using hb) (fun j hj => by
      have := h6 rfl (i * esz + j) (by omega)
      simpa [Nat.add_assoc] using this)
    simpa using this
  · rcases Nat.le_total nr (i + m) with z | z
    · rw [Nat.max_eq_right z]; exact hfit
    · rw [Nat.max_eq_left z]; exact e2
  · by_cases z : i ≤ j ∧ j < i + m
    · obtain ⟨s, rfl⟩ : ∃ s, j = i + s := ⟨j - i, by omega⟩
      have hs : s < m := by omega
      have hle : (s + 1) * esz ≤ m * esz := Nat.mul_le_mul_right _ hs
      rw [Nat.succ_mul] at hle
      refine ⟨_, h1 s hs, by rw [List.length_take, List.length_drop]; omega, fun q a hq => ?_⟩
      rw [List.getElem?_take] at hq
      split at hq
      · rename_i hq1
        rw [List.getElem?_drop] at hq
        obtain ⟨x, k1, k2⟩ := hv.get _ a hq
        refine ⟨x, ?_, k2⟩
        rw [setL_get _ _ _ _ hb, if_pos (by rw [Nat.add_mul]; omega), ← k1]
        congr 1; rw [Nat.add_mul]; omega
      · cases hq
    · have hj' : j < nr := by omega
      obtain ⟨row, k1, k2, k3⟩ := h5 j hj'
      refine ⟨row, by rw [h2 j (by omega)]; exact k1, k2, fun q a hq => ?_⟩
      have hq' : q < row.length := by
        rcases Nat.lt_or_ge q row.length with y | y
        · exact y
        · rw [List.getElem?_eq_none y] at hq; cases hq
      rw [setL_get _ _ _ _ hb, if_neg]
      · exact k3 q a hq
      · rintro ⟨c1, c2⟩
        rcases Nat.lt_or_ge j i with y | y
        · have : (j + 1) * esz ≤ i * esz := Nat.mul_le_mul_right _ y
          rw [Nat.succ_mul] at this; omega
        · have : (i + m) * esz ≤ j * esz := Nat.mul_le_mul_right _ (by omega)
          rw [Nat.add_mul] at this; omega
/-- The same cells, seen from row i on. -/
theorem BR.shift {ρ : Ren} {p : Pl} {w : World} {ty : TypeId} {esz nr i n : Nat} {rows rows' : T (List AV)} {ro : Bool} (h : BR ρ (.cells ty esz nr rows ro) p w) (hi : i + n ≤ nr) (hr : ∀ j, j < n → rows'.at j = rows.at (i + j)) :
    BR ρ (.cells ty esz n rows' ro) ⟨p.blk, p.base + i * esz, p.room - i * esz, esz⟩ w := by
  obtain ⟨e1, e2, arr, fz, h3, h4, h5, h6⟩ := h
  have hle : (i + n) * esz ≤ nr * esz := Nat.mul_le_mul_right _ hi
  rw [Nat.add_mul] at hle
  refine ⟨rfl, by show n * esz ≤ p.room - i * esz; omega, arr, fz, h3, by show p.base + i * esz + (p.room - i * esz) ≤ arr.size; omega, fun j hj => ?_, fun hro s hs => ?_⟩
  · obtain ⟨row, k1, k2, k3⟩ := h5 (i + j) (by omega)
    refine ⟨row, by rw [hr j hj]; exact k1, k2, fun q a hq => ?_⟩
    obtain ⟨x, g1, g2⟩ := k3 q a hq
    refine ⟨x, ?_, g2⟩
    rw [← g1]; congr 1
    show p.base + i * esz + j * esz + q = p.base + (i + j) * esz + q
    rw [Nat.add_mul]; omega
  · have hs' : s < p.room - i * esz := hs
    have := h6 hro (i * esz + s) (by omega)
    show ¬ (fz.1 ≤ p.base + i * esz + s ∧ p.base + i * esz + s < fz.2)
    omega
/-- A block goes and another comes, in the same place of the world or in a new one. -/
theorem AF.move {b : Nat} {blk : ABlk} (hb : D b) (hn : b < nx) (hl : live h b) : AF D h nx ((h.put b .dead).put nx blk) (nx + 1) [b] :=
  ⟨Nat.le_succ _, fun x hx hxn => by
    rw [T.at_put, if_neg (by omega), T.at_put, if_neg]
    intro e; subst e; exact hx (by simp), fun x hx => by simp at hx; subst hx; exact .inl hb, fun x hx _ => by simp at hx; subst hx; exact hl, fun x hx => by simp at hx; subst hx; omega, fun x hx g => by
    rcases (live_put _ _ _ _).1 g with ⟨e, _⟩ | ⟨_, l⟩
    · omega
    · rcases (live_put _ _ _ _).1 l with ⟨_, e⟩ | ⟨_, l⟩
      · exact absurd rfl e
      · exact l, fun g x blk' e => by
    rw [T.at_put] at e
    by_cases i : x = nx
    · omega
    · rw [if_neg i, T.at_put] at e
      by_cases j : x = b
      · omega
      · rw [if_neg j] at e; have := g _ _ e; omega⟩
theorem Post.move {ρ : Ren} {w w' : World} {b : Nat} {blk : ABlk} {pl p2 : Pl} (p : Pre P D ρ h nx w) (hb : D b) (hl : live h b) (hp : ρ b = some pl)
    (e : ∀ β, β < w.heap.size → β ≠ pl.blk → w'.heap[β]? = w.heap[β]?) (es : w.heap.size ≤ w'.heap.size) (e1 : w'.os = w.os) (e2 : w'.tape = w.tape) (e3 : w'.output = w.output)
    (h2 : p2.blk = pl.blk ∨ (p2.blk = w.heap.size ∧ p2.blk < w'.heap.size)) (hB : BR (updR ρ nx p2) blk p2 w') : Post P D ρ h nx w [b] (updR ρ nx p2) ((h.put b .dead).put nx blk) (nx + 1) w' := by
  have hx := Ext.upd (p := p2) p.fresh
  have hbn := p.dom _ _ hp
  have hnd : ¬ live ((h.put b .dead).put nx blk) b := fun g => by
    rcases (live_put _ _ _ _).1 g with ⟨e, _⟩ | ⟨_, l⟩
    · omega
    · rcases (live_put _ _ _ _).1 l with ⟨_, e⟩ | ⟨e, _⟩
      · exact e rfl
      · exact e rfl
  have old : ∀ x, x < nx → live ((h.put b .dead).put nx blk) x → x ≠ b ∧ live h x := fun x hxn g => by
    rcases (live_put _ _ _ _).1 g with ⟨e, _⟩ | ⟨_, l⟩
    · omega
    · rcases (live_put _ _ _ _).1 l with ⟨_, e⟩ | ⟨e, l⟩
      · exact absurd rfl e
      · exact ⟨e, l⟩
  refine ⟨hx, fun x q g i => ?_, ⟨fun x q g => ?_, fun x q g => ?_, fun x d blk' q g i => ?_, fun x x' q q' d d' l l' g g' i => ?_, fun g hg => ?_⟩, fun β hβ hW => e β hβ (fun i => hW b pl (by simp) hp i.symm), es, e1, e2, e3⟩
  · by_cases j : x = nx
    · subst j; rw [updR_at] at g; cases g
      refine ⟨Nat.le_refl _, ?_⟩
      rcases h2 with h2 | h2
      · exact .inr ⟨b, pl, by simp, hp, h2.symm, hl, hnd⟩
      · exact .inl (by omega)
    · rw [updR_ne _ j, i] at g; cases g
  · by_cases j : x = nx
    · omega
    · rw [updR_ne _ j] at g; have := p.dom _ _ g; omega
  · by_cases j : x = nx
    · subst j; rw [updR_at] at g; cases g
      have := p.bnd _ _ hp
      omega
    · rw [updR_ne _ j] at g; have := p.bnd _ _ g; omega
  · by_cases j : x = nx
    · subst j; rw [updR_at] at i; cases i
      rw [T.at_put, if_pos rfl] at g; cases g; exact hB
    · rw [updR_ne _ j] at i
      have hlt := p.dom _ _ i
      have hd : D x := d.resolve_right (by omega)
      rw [T.at_put, if_neg j, T.at_put] at g
      by_cases jb : x = b
      · rw [if_pos jb] at g; cases g; trivial
      · rw [if_neg jb] at g
        by_cases hdd : blk' = .dead
        · subst hdd; trivial
        · refine ((p.rel x hd blk' q g i).same (e _ (p.bnd _ _ i) fun k => jb ?_)).ext hx
          exact p.inj x b q pl hd hb ⟨_, g, hdd⟩ hl i hp k
  · have key : ∀ {x x' : Nat} {q q' : Pl}, x = nx → x' ≠ nx → (D x' ∨ nx ≤ x') → live ((h.put b .dead).put nx blk) x' → updR ρ nx p2 x = some q → updR ρ nx p2 x' = some q' → q.blk = q'.blk → False := fun {x x' q q'} j j' d' l' g g' i => by
      subst j; rw [updR_at] at g; cases g
      rw [updR_ne _ j'] at g'
      have h3 := p.bnd _ _ g'
      have h4 := p.dom _ _ g'
      obtain ⟨h5, h6⟩ := old x' h4 l'
      rcases h2 with h2 | h2
      · exact h5 (p.inj x' b q' pl (d'.resolve_right (by omega)) hb h6 hl g' hp (by omega))
      · omega
    by_cases j : x = nx
    · by_cases j' : x' = nx
      · omega
      · exact (key j j' d' l' g g' i).elim
    · by_cases j' : x' = nx
      · exact (key j' j d l g' g i.symm).elim
      · rw [updR_ne _ j] at g; rw [updR_ne _ j'] at g'
        have h3 := p.dom _ _ g; have h4 := p.dom _ _ g'
        exact p.inj x x' q q' (d.resolve_right (by omega)) (d'.resolve_right (by omega)) (old x h3 l).2 (old x' h4 l').2 g g' i
  · obtain ⟨q, i, k⟩ := p.glob g hg
    exact ⟨q, hx _ _ i, k⟩

def notIntTy (P : Program) (t : TypeId) : Bool := match P.underlying t with | some (.int _) => false | some _ => true | none => false
theorem notIntTy_inv {t : TypeId} (h : notIntTy P t = true) : ∃ d, P.underlying t = some d ∧ ∀ k, d ≠ .int k := by
  unfold notIntTy at h
  cases hu : P.underlying t with
  | none => rw [hu] at h; cases h
  | some d => rw [hu] at h; exact ⟨d, rfl, fun k e => by subst e; cases h⟩
theorem matches_int {d : TypeDesc} (h : ∀ k, d ≠ .int k) : (match d with | .int _ => true | _ => false) = false := by cases d <;> first | exact absurd rfl (h _) | rfl
theorem run_append_in {w w' : World} {t xt et ty : TypeId} {ts : Array TypeId} {d : TypeDesc} {info : TypeInfo} {a : Addr} {n c m : Nat} {x : Value} {xs : List Value} (ht : ts[0]? = some t) (hxt : ts[1]? = some xt) (hu : P.underlying t = some (.slice et)) (hi : P.info? et = some info)
    (hd : P.underlying xt = some d) (hni : ∀ k, d ≠ .int k) (hl : (Builtin.lenOf x).run P w = .ok m w) (hf : (Builtin.firstCells info.size m x).run P w = .ok xs.toArray w) (hle : n + m ≤ c) (hst : (storeCells (a.add (n * info.size)) xs).run P w = .ok () w') :
    (Builtin.append_ ts ty #[.slice (some a) n c, x]).run P w = .ok (.slice (some a) (n + m) c) w' := by
  have h2 := matches_int hni
  simp [Builtin.append_, ht, hxt, run_underlying' hu, run_sizeOf' hi, run_underlying' hd, h2, hl, hle, hf, hst]
theorem run_append_none {w : World} {t xt et ty : TypeId} {ts : Array TypeId} {d : TypeDesc} {info : TypeInfo} {base : Option Addr} {n c : Nat} {x : Value} (ht : ts[0]? = some t) (hxt : ts[1]? = some xt) (hu : P.underlying t = some (.slice et)) (hi : P.info? et = some info)
    (hd : P.underlying xt = some d) (hni : ∀ k, d ≠ .int k) (hl : (Builtin.lenOf x).run P w = .ok 0 w) (hf : (Builtin.firstCells info.size 0 x).run P w = .ok #[] w) (hle : n ≤ c) :
    (Builtin.append_ ts ty #[.slice base n c, x]).run P w = .ok (.slice base n c) w := by
  have h2 := matches_int hni
  cases base <;> simp [Builtin.append_, ht, hxt, run_underlying' hu, run_sizeOf' hi, run_underlying' hd, h2, hl, hle, hf, storeCells]
/-- The capacity that is drawn. -/
def newCap (w : World) (need old : Nat) (et : TypeId) : Nat := Question.cut (.appendCap need old et) (w.tape w.drawn (.appendCap need old et))
theorem newCap_bounds (w : World) {need old : Nat} (et : TypeId) (h : need ≤ 2000000) : need ≤ newCap w need old et ∧ newCap w need old et ≤ 9223372036854775807 := by
  simp only [newCap, Question.cut]
  have : w.tape w.drawn (.appendCap need old et) % (2 ^ 63 - need) < 2 ^ 63 - need := Nat.mod_lt _ (by omega)
  omega
theorem run_append_new {w : World} {t xt et ty : TypeId} {ts : Array TypeId} {d : TypeDesc} {info : TypeInfo} {zv : Value} {base : Option Addr} {n c m : Nat} {x : Value} {xs olds : List Value} (ht : ts[0]? = some t) (hxt : ts[1]? = some xt) (hu : P.underlying t = some (.slice et)) (hi : P.info? et = some info)
    (hd : P.underlying xt = some d) (hni : ∀ k, d ≠ .int k) (hz : ∀ w, (zeroValue et).run P w = .ok zv w) (hb : info.bytes ≤ 65536) (hl : (Builtin.lenOf x).run P w = .ok m w) (hf : ∀ w', w'.heap = w.heap → (Builtin.firstCells info.size m x).run P w' = .ok xs.toArray w')
    (hf2 : ∀ w', w'.heap = w.heap → (Builtin.firstCells info.size n (.slice base n c)).run P w' = .ok olds.toArray w') (hle : ¬ n + m ≤ c) (hsm : n + m ≤ 2000000) :
    (Builtin.append_ ts ty #[.slice base n c, x]).run P w = .ok (.slice (some ⟨w.heap.size, 0, none⟩) (n + m) (newCap w (n + m) c et))
      { w with heap := w.heap.push (.cells ((olds ++ xs).toArray ++ Builtin.zeroCells zv.cells (newCap w (n + m) c et - (n + m))) et), drawn := w.drawn + 1 } := by
  have h2 := matches_int hni
  have h3 := nextslicecap_le (need := n + m) (old := c) (by omega)
  have h4 : Builtin.nextslicecap (n + m) c * info.bytes ≤ 4000000 * 65536 := Nat.mul_le_mul (by omega) hb
  have h5 : ¬ (281474976710656 < Builtin.nextslicecap (n + m) c * info.bytes) := by omega
  have h6 : ¬ ((IntKind.i64.max : Int) < ((n + m : Nat) : Int)) := by simp [IntKind.max, IntKind.signed, IntKind.bits]; omega
  have h7 : ¬ ((IntKind.i64.max : Int) < (n : Int) + (m : Int)) := by simpa using h6
  have g1 := hf w.drew rfl
  have g2 := hf2 w.drew rfl
  have g3 := hz w.drew
  have hle' : ¬ n + m ≤ c := hle
  simp [Builtin.append_, ht, hxt, run_underlying' hu, run_sizeOf' hi, run_underlying' hd, h2, hl, hle', run_typeInfo' hi, h5, h7, Question.forced, g1, g2, g3, newRow]
  have h8 : ¬ ((9223372036854775807 : Int) < (n : Int) + (m : Int) ∧ info.bytes = 0) := by omega
  rw [if_neg h8]
  have h9 : ∀ R : Array Value, (olds ++ xs).toArray ++ R = olds.toArray ++ (xs.toArray ++ R) := fun R => by apply Array.ext'; simp
  rw [h9]
  rfl
noncomputable def apNew (et : TypeId) (sz need : Nat) (l : List AV) (h : AH) (nx : Nat) (lg : List Nat) (k : KV) : Res :=
  chunkK need sz l 0 .leaf fun rows => newBlk (.cells et sz need rows false) h nx fun h nx' => k (.slice nx 0 need need false) h nx' lg
noncomputable def apMove (b : Nat) (et : TypeId) (sz need : Nat) (rows : T (List AV)) (h : AH) (nx : Nat) (lg : List Nat) (k : KV) : Res :=
  T.setK h (Nat.succ b) .dead fun h => newBlk (.cells et sz need rows false) h nx fun h nx' => k (.slice nx 0 need need false) h nx' (b :: lg)
noncomputable def apSlice (et : TypeId) (sz m : Nat) (l : List AV) (b o n c : Nat) (ex : Bool) (h : AH) (nx : Nat) (lg : List Nat) (k : KV) : Res :=
  getBlk h b fun blk => asCells blk fun ty esz nr rows ro => forceN (Nat.div o esz) fun i => ifK (and (Nat.beq esz sz) (and (Nat.beq (Nat.mul i sz) o) (Nat.blt 0 sz))) (forceN (Nat.add n m) fun need => ifK (Nat.ble need 2000000)
    (@Bool.rec (fun _ => Res)
      (@Bool.rec (fun _ => Res)
        (ifK (and (not ro) (and (Nat.beq (Nat.add i n) nr) (Nat.beq ty et)))
          (@Bool.rec (fun _ => Res) (flatK n rows i fun l0 => appK l0 l fun ll => chunkK need sz ll 0 .leaf fun rows => apMove b et sz need rows h nx lg k) (chunkK m sz l n rows fun rows => apMove b et sz need rows h nx lg k) (Nat.beq i 0)))
        (ifK (Nat.ble (Nat.add i n) nr) (flatK n rows i fun l0 => appK l0 l fun ll => apNew et sz need ll h nx lg k)) ex)
      (ifK (and (not ro) (Nat.ble (Nat.add i need) nr)) (chunkK m sz l (Nat.add i n) rows fun rows => T.setK h (Nat.succ b) (.cells ty esz nr rows ro) fun h => k (.slice b o need c ex) h nx (b :: lg)))
      (Nat.ble need c)))
noncomputable def doAppend (P : Program) (ts : Array TypeId) (args : List AV) (h : AH) (nx : Nat) (lg : List Nat) (k : KV) : Res :=
  two args fun s x => optK (ts[0]?) fun t => optK (ts[1]?) fun xt => optK (slSize P t) fun y => optK (zeroOf P y.1) fun z => optK (P.info? y.1) fun info => ifK (and (and (cellsOK (cellsA z)) (Nat.beq (cellsA z).length y.2)) (and (Nat.ble info.bytes 65536) (and (Nat.blt 0 y.2) (notIntTy P xt)))) (forceN y.2 fun sz =>
    srcK sz h x fun m l => ifK (cellsOK l)
     (@AV.casesOn (fun _ => Res) s (fun _ => .fail) (fun _ _ => .fail) (fun _ _ => .fail) (fun _ _ => .fail) .fail
      (fun b o n c ex => @Bool.rec (fun _ => Res) (apSlice y.1 sz m l b o n c ex h nx lg k) (k s h nx lg) (Nat.beq m 0))
      (@Bool.rec (fun _ => Res) (apNew y.1 sz m l h nx lg k) (k s h nx lg) (Nat.beq m 0))
      (fun _ => .fail) .fail (fun _ _ _ => .fail) .fail (fun _ _ => .fail) .fail (fun _ => .fail) (fun _ => .fail)))
/-- What a new row of cells stands for, spare room included. -/
theorem BR.grown {ρ : Ren} {w : World} {p : Pl} {et : TypeId} {sz need cap : Nat} {rows : T (List AV)} {l : List AV} {vs : List Value} {rest : Array Value} (hw : w.heap[p.blk]? = some (.cells (vs.toArray ++ rest) et (0, 0))) (hb : p.base = 0) (hr : p.room = cap * sz) (he : p.esz = sz) (hc : need ≤ cap)
    (hl : l.length = need * sz) (hrest : rest.size = (cap - need) * sz) (hv : VRs ρ l vs) (hrows : ∀ j, j < need → rows.at j = some ((l.drop (j * sz)).take sz)) : BR ρ (.cells et sz need rows false) p w := by
  have hvl := hv.length
  have hmul : need * sz ≤ cap * sz := Nat.mul_le_mul_right _ hc
  refine ⟨he, by omega, _, (0, 0), hw, ?_, fun r hr => ⟨_, hrows r hr, ?_, fun q a e => ?_⟩, fun _ i _ => by simp⟩
  · rw [Array.size_append, hrest, Nat.sub_mul]
    simp; omega
  · have : (r + 1) * sz ≤ need * sz := Nat.mul_le_mul_right _ hr
    rw [Nat.succ_mul] at this
    rw [List.length_take, List.length_drop]; omega
  · rw [List.getElem?_take] at e
    split at e
    · rw [List.getElem?_drop] at e
      obtain ⟨x, k1, k2⟩ := hv.get _ a e
      refine ⟨x, ?_, k2⟩
      have hlt : r * sz + q < vs.length := by
        rcases Nat.lt_or_ge (r * sz + q) vs.length with z | z
        · exact z
        · rw [List.getElem?_eq_none z] at k1; cases k1
      rw [hb, Nat.zero_add, Array.getElem?_append_left (by simpa using hlt)]
      simpa using k1
    · cases e
theorem zeroCells_size (z : Array Value) (n : Nat) : (Builtin.zeroCells z n).size = n * z.size := by simp [Builtin.zeroCells]
end
end Go.CE
