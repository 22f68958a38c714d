/-
  CE, part 7: the operations on rows of cells: load, store, new variables, addresses of fields and elements.
-/
import Derived.Test.YtfmhagjbhableaaGreatDoorCeDo
namespace Go.CE
open Go
set_option linter.unusedVariables false
set_option linter.unusedSimpArgs false

noncomputable def getBlk (h : AH) (b : Nat) (c : ABlk → Res) : Res := getO h (Nat.succ b) c
noncomputable def asCells (blk : ABlk) (c : TypeId → Nat → Nat → T (List AV) → Bool → Res) : Res :=
  @ABlk.casesOn (fun _ => Res) blk c (fun _ _ => .fail) (fun _ _ _ => .fail) (fun _ _ _ _ => .fail) .fail .fail
noncomputable def asMapB (blk : ABlk) (c : List (AV × AV × Nat) → Nat → Res) : Res :=
  @ABlk.casesOn (fun _ => Res) blk (fun _ _ _ _ _ => .fail) c (fun _ _ _ => .fail) (fun _ _ _ _ => .fail) .fail .fail
noncomputable def rowCol (esz o : Nat) (c : Nat → Nat → Res) : Res :=
  @Bool.rec (fun _ => Res) (@Bool.rec (fun _ => Res) (forceN (Nat.div o esz) fun r => forceN (Nat.mod o esz) fun q => c r q) (c 0 o) (Nat.blt o esz)) (c o 0) (Nat.beq esz 1)
section
variable {r : Res}
theorem getBlk_inv {h : AH} {b : Nat} {c : ABlk → Res} (e : getBlk h b c = r) (hr : r ≠ .fail) : ∃ blk, h.at b = some blk ∧ c blk = r := getO_inv e hr
theorem asCells_inv {blk : ABlk} {c : TypeId → Nat → Nat → T (List AV) → Bool → Res} (e : asCells blk c = r) (hr : r ≠ .fail) : ∃ ty esz nr rows ro, blk = .cells ty esz nr rows ro ∧ c ty esz nr rows ro = r := by
  cases blk <;> first | exact ⟨_, _, _, _, _, rfl, e⟩ | exact absurd e.symm hr
theorem asMapB_inv {blk : ABlk} {c : List (AV × AV × Nat) → Nat → Res} (e : asMapB blk c = r) (hr : r ≠ .fail) : ∃ es cl, blk = .map es cl ∧ c es cl = r := by
  cases blk <;> first | exact ⟨_, _, rfl, e⟩ | exact absurd e.symm hr
theorem rowCol_inv {esz o : Nat} {c : Nat → Nat → Res} (e : rowCol esz o c = r) : ∃ i q, o = i * esz + q ∧ c i q = r := by
  unfold rowCol at e
  rw [boolRec_ite, boolRec_ite, forceN_eq, forceN_eq] at e
  split at e
  · rename_i h; rw [beqN] at h; subst h; exact ⟨o, 0, by simp, e⟩
  · split at e
    · exact ⟨0, o, by simp, e⟩
    · exact ⟨_, _, (Nat.div_add_mod' o esz).symm, e⟩
end

section
variable {ρ : Ren} {p : Pl} {w : World} {ty : TypeId} {esz nr : Nat} {rows : T (List AV)} {ro : Bool}
theorem BR.cell (h : BR ρ (.cells ty esz nr rows ro) p w) {i q : Nat} {row : List AV} {a : AV} (hi : i < nr) (hr : rows.at i = some row) (hq : row[q]? = some a) :
    ∃ x, w.cell? ⟨p.blk, p.base + (i * esz + q), none⟩ = some x ∧ VR ρ a x := by
  obtain ⟨_, _, arr, fz, h3, _, h5, _⟩ := h
  obtain ⟨row', g1, _, g3⟩ := h5 i hi
  rw [hr] at g1; cases g1
  obtain ⟨x, k1, k2⟩ := g3 q a hq
  exact ⟨x, by rw [cell?_of h3, ← Nat.add_assoc]; exact k1, k2⟩
/-- A stretch of a row. -/
theorem BR.cells (h : BR ρ (.cells ty esz nr rows ro) p w) {i q n : Nat} {row : List AV} (hi : i < nr) (hr : rows.at i = some row) (hq : q + n ≤ esz) :
    ∃ xs : List Value, xs.length = n ∧ VRs ρ ((row.drop q).take n) xs ∧ ∀ (j : Nat) v, xs[j]? = some v → w.cell? ⟨p.blk, p.base + (i * esz + q) + j, none⟩ = some v := by
  obtain ⟨_, _, arr, fz, h3, h4, h5, _⟩ := h
  obtain ⟨row', g1, g2, g3⟩ := h5 i hi
  rw [hr] at g1; cases g1
  have key : ∀ j, j < n → ∃ x, arr[p.base + (i * esz + q) + j]? = some x := fun j hj => by
    obtain ⟨x, k1, _⟩ := g3 (q + j) (row[q + j]'(by omega)) (List.getElem?_eq_getElem (by omega))
    exact ⟨x, by rw [← k1]; congr 1; omega⟩
  refine ⟨(List.range n).map fun j => (arr[p.base + (i * esz + q) + j]?).getD undef, by simp, ?_, fun j v e => ?_⟩
  · refine VRs.of_get (by simp; omega) fun j a x e1 e2 => ?_
    simp only [List.getElem?_take, List.getElem?_drop] at e1
    split at e1
    · rename_i hj
      obtain ⟨x', k1, k2⟩ := g3 (q + j) a e1
      simp only [List.getElem?_map, List.getElem?_range hj, Option.map_some, Option.some.injEq] at e2
      rw [show p.base + (i * esz + q) + j = p.base + i * esz + (q + j) from by omega, k1] at e2
      simp at e2; subst e2; exact k2
    · cases e1
  · have hj : j < n := by
      rcases Nat.lt_or_ge j n with hj | hj
      · exact hj
      · rw [List.getElem?_eq_none (by simp; omega)] at e; cases e
    simp only [List.getElem?_map, List.getElem?_range hj, Option.map_some, Option.some.injEq] at e
    obtain ⟨x, hx⟩ := key j hj
    rw [hx] at e; simp at e; subst e
    rw [cell?_of h3]; exact hx
/-- Cells of one row are written over. -/
theorem BR.store (h : BR ρ (.cells ty esz nr rows false) p w) {i q : Nat} {row vs : List AV} {xs : List Value} (hi : i < nr) (hr : rows.at i = some row) (hq : q + vs.length ≤ esz) (hv : VRs ρ vs xs) (hc : ∀ a ∈ vs, isCell a = true)
    {P : Program} : ∃ arr fz, (storeCells ⟨p.blk, p.base + (i * esz + q), none⟩ xs).run P w = .ok () (setBlk w p.blk (.cells arr ty fz)) ∧
      BR ρ (.cells ty esz nr (rows.put i (over q vs row)) false) p (setBlk w p.blk (.cells arr ty fz)) := by
  obtain ⟨h1, h2, arr, fz, h3, h4, h5, h6⟩ := h
  obtain ⟨row', g1, g2, g3⟩ := h5 i hi
  rw [hr] at g1; cases g1
  have hl := hv.length
  have hfit : (i + 1) * esz ≤ nr * esz := Nat.mul_le_mul_right _ hi
  rw [Nat.succ_mul] at hfit
  have hb : p.base + (i * esz + q) + xs.length ≤ arr.size := by omega
  refine ⟨setL arr (p.base + (i * esz + q)) xs, fz, ?_, h1, h2, setL arr (p.base + (i * esz + q)) xs, fz, setBlk_at h3, by rw [setL_size]; exact h4, fun j hj => ?_, h6⟩
  · have := run_storeCells (P := P) xs 0 w arr h3 (cells_ok hc hv) (by simpa using hb) (fun j hj => by
      have := h6 rfl (i * esz + q + j) (by omega)
      simpa [Nat.add_assoc] using this)
    simpa using this
  · by_cases e : j = i
    · subst e
      refine ⟨over q vs row, by rw [T.at_put, if_pos rfl], by rw [over_length (by omega)]; exact g2, fun s a hs => ?_⟩
      rw [over_get (by omega)] at hs
      rw [setL_get _ _ _ _ hb]
      split at hs
      · rename_i c
        rw [if_pos (by omega)]
        obtain ⟨x, k1, k2⟩ := hv.get (s - q) a hs
        exact ⟨x, by rw [← k1]; congr 1; omega, k2⟩
      · rename_i c
        rw [if_neg (by omega)]
        exact g3 s a hs
    · obtain ⟨row', k1, k2, k3⟩ := h5 j hj
      refine ⟨row', by rw [T.at_put, if_neg e]; exact k1, k2, fun s a hs => ?_⟩
      rw [setL_get _ _ _ _ hb]
      have hs' : s < row'.length := by
        rcases Nat.lt_or_ge s row'.length with z | z
        · exact z
        · rw [List.getElem?_eq_none z] at hs; cases hs
      rw [if_neg]
      · exact k3 s a hs
      · rintro ⟨c1, c2⟩
        rcases Nat.lt_or_ge i j with z | z
        · have : (i + 1) * esz ≤ j * esz := Nat.mul_le_mul_right _ z
          rw [Nat.succ_mul] at this; omega
        · have : (j + 1) * esz ≤ i * esz := Nat.mul_le_mul_right _ (by omega)
          rw [Nat.succ_mul] at this; omega
end

/-- The cells of a type, if it is an aggregate. -/
def ldTy (P : Program) (t : TypeId) : Option (Option Nat) :=
  match P.underlying t with
  | some (.struct _) => (P.info? t).map fun i => some i.size
  | some (.array _ _) => (P.info? t).map fun i => some i.size
  | some _ => some none
  | none => none
section
variable {P : Program} {w : World}
theorem run_loadVar_sc {t : TypeId} {a : Addr} (h : ldTy P t = some none) : (loadVar t a).run P w = (load a).run P w := by
  unfold ldTy at h
  cases hu : P.underlying t with
  | none => rw [hu] at h; cases h
  | some d =>
    rw [hu] at h
    cases d <;> simp only [Option.map_eq_some_iff] at h <;>
    first
      | (obtain ⟨_, _, h⟩ := h; cases h)
      | simp [loadVar, isAgg, run_underlying' hu]
theorem run_loadVar_ag {t : TypeId} {a : Addr} {n : Nat} (h : ldTy P t = some (some n)) : (loadVar t a).run P w = ((loadCells a n).run P w).andThen fun l w => .ok (.agg l) w := by
  unfold ldTy at h
  cases hu : P.underlying t with
  | none => rw [hu] at h; cases h
  | some d =>
    rw [hu] at h
    cases d <;> simp only [Option.map_eq_some_iff, Option.some.injEq, reduceCtorEq, and_false, exists_const] at h
    all_goals
      obtain ⟨i, h1, h2⟩ := h
      subst h2
      simp [loadVar, isAgg, run_underlying' hu, run_sizeOf' h1]
end

noncomputable def loadRow (z : Option Nat) (esz q : Nat) (row : List AV) (c : AV → Res) : Res :=
  @Option.rec Nat (fun _ => Res) (dropK q row fun l => headK l c)
    (fun sz => @Bool.rec (fun _ => Res) (ifK (Nat.ble (Nat.add q sz) esz) (dropK q row fun l => takeK sz l fun l => c (.agg l))) (c (.agg row)) (and (Nat.beq sz esz) (Nat.beq q 0))) z
noncomputable def loadK (z : Option Nat) (h : AH) (b o : Nat) (c : AV → Res) : Res :=
  getBlk h b fun blk => asCells blk fun _ esz nr rows _ => rowCol esz o fun r q => ifK (Nat.blt r nr) (getO rows (Nat.succ r) fun row => loadRow z esz q row c)
/-- What is loaded is there, in every world for which the memory stands. -/
theorem loadK_inv {P : Program} {t : TypeId} {z : Option Nat} {h : AH} {b q : Nat} {c : AV → Res} {r : Res} (e : loadK z h b q c = r) (hr : r ≠ .fail) (hz : ldTy P t = some z) :
    ∃ v, c v = r ∧ ∃ blk, h.at b = some blk ∧ ∀ (ρ : Ren) p w, ρ b = some p → BR ρ blk p w → ∃ v', (loadVar t ⟨p.blk, p.base + q, none⟩).run P w = .ok v' w ∧ VR ρ v v' := by
  replace e := getBlk_inv e hr; obtain ⟨blk, hb, e⟩ := e
  replace e := asCells_inv e hr; obtain ⟨ty, esz, nr, rows, ro, rfl, e⟩ := e
  replace e := rowCol_inv e; obtain ⟨i, s, rfl, e⟩ := e
  replace e := ifK_inv e hr; obtain ⟨hi, e⟩ := e
  rw [bltN] at hi
  replace e := getO_inv e hr; obtain ⟨row, hrow, e⟩ := e
  have hrow : rows.at i = some row := hrow
  cases z with
  | none =>
    have e' : (dropK s row fun l => headK l c) = r := e
    rw [dropK_eq] at e'
    obtain ⟨y, ys, e2, e'⟩ := headK_inv e' hr
    have hy : row[s]? = some y := by
      have := congrArg (fun m => m[0]?) e2
      simpa using this
    refine ⟨y, e', _, hb, fun ρ p w hp hB => ?_⟩
    obtain ⟨x, hx, hv⟩ := hB.cell hi hrow hy
    exact ⟨x, by rw [run_loadVar_sc hz, run_load_cell hx], hv⟩
  | some n =>
    have e' : @Bool.rec (fun _ => Res) (ifK (Nat.ble (Nat.add s n) esz) (dropK s row fun l => takeK n l fun l => c (.agg l))) (c (.agg row)) (and (Nat.beq n esz) (Nat.beq s 0)) = r := e
    rw [boolRec_ite] at e'
    split at e'
    · rename_i hc
      simp only [Bool.and_eq_true, beqN] at hc
      obtain ⟨rfl, rfl⟩ := hc
      refine ⟨_, e', _, hb, fun ρ p w hp hB => ?_⟩
      obtain ⟨xs, h1, h2, h3⟩ := hB.cells (n := n) (q := 0) hi hrow (by omega)
      have hlen : row.length = n := by
        obtain ⟨_, _, arr, fz, _, _, h5, _⟩ := hB
        obtain ⟨row', g1, g2, _⟩ := h5 i hi
        rw [hrow] at g1; cases g1; exact g2
      rw [List.drop_zero, List.take_of_length_le (by omega)] at h2
      exact ⟨.agg xs.toArray, by rw [run_loadVar_ag hz, run_loadCells h1 h3]; rfl, _, rfl, by simpa using h2⟩
    · obtain ⟨hle, e'⟩ := ifK_inv e' hr
      rw [bleN] at hle
      rw [dropK_eq, takeK_eq] at e'
      refine ⟨_, e', _, hb, fun ρ p w hp hB => ?_⟩
      obtain ⟨xs, h1, h2, h3⟩ := hB.cells (n := n) (q := s) hi hrow hle
      exact ⟨.agg xs.toArray, by rw [run_loadVar_ag hz, run_loadCells h1 h3]; rfl, _, rfl, by simpa using h2⟩

section
variable {P : Program} {o : Oper} {env : T AV} {D : Nat → Prop} {h : AH} {nx : Nat} {lg : List Nat} {k : KV} {r : Res}

noncomputable def doLoad (P : Program) (t : TypeId) (a : Operand) (env : T AV) (h : AH) (nx : Nat) (lg : List Nat) (k : KV) : Res :=
  optK (ldTy P t) fun z => evalO P.globals.size env a fun v => asPtr v fun b o => loadK z h b o fun v => k v h nx lg
theorem doLoad_did {t : TypeId} {x : Operand} (ho : o.op = .load t x) (hD : ∀ b, FootIn P o.op env b → D b) (e : doLoad P t x env h nx lg k = r) (hr : r ≠ .fail) : Did P o env D h nx lg k r := by
  replace e := optK_inv e hr; obtain ⟨z, hz, e⟩ := e
  replace e := evalO_inv e hr; obtain ⟨v, e1, e⟩ := e
  replace e := asPtr_inv e hr; obtain ⟨b, q, rfl, e⟩ := e
  replace e := loadK_inv e hr hz; obtain ⟨v, e, blk, hb, H⟩ := e
  refine did_same e fun ρ w a hx hp => ?_
  obtain ⟨p, h1, h2⟩ := hx x (by simp [ho, Op.operands]) _ e1
  obtain ⟨v', g1, g2⟩ := H ρ p w h1 (hp.rel b (hD b ⟨x, by simp [ho, footOps], _, e1, rfl⟩) blk p hb h1)
  exact ⟨v', by simp [execOp, ho, Instr.loadAt, Instr.sureAddr, h2, g1], g2⟩

noncomputable def putRow (row vs : List AV) (q esz : Nat) (c : List AV → Res) : Res :=
  @Bool.rec (fun _ => Res) (overK q vs row c) (c vs) (and (Nat.beq vs.length esz) (Nat.beq q 0))
noncomputable def storeK (vs : List AV) (h : AH) (b o : Nat) (c : AH → Res) : Res :=
  getBlk h b fun blk => asCells blk fun ty esz nr rows ro => ifK (not ro) (rowCol esz o fun r q => ifK (and (Nat.blt r nr) (Nat.ble (Nat.add q vs.length) esz)) (getO rows (Nat.succ r) fun row =>
    putRow row vs q esz fun row => T.setK rows (Nat.succ r) row fun rows => T.setK h (Nat.succ b) (.cells ty esz nr rows ro) c))
noncomputable def doStore (P : Program) (t : TypeId) (a x : Operand) (env : T AV) (h : AH) (nx : Nat) (lg : List Nat) (k : KV) : Res :=
  optK (P.info? t) fun i => evalO P.globals.size env a fun p => evalO P.globals.size env x fun v => asPtr p fun b o => ifK (and (cellsOK (cellsA v)) (Nat.beq (cellsA v).length i.size)) (storeK (cellsA v) h b o fun h => k undefA h nx (b :: lg))
theorem setBlk_rest (w : World) (b : Nat) (o : Obj) : (setBlk w b o).os = w.os ∧ (setBlk w b o).tape = w.tape ∧ (setBlk w b o).output = w.output := ⟨rfl, rfl, rfl⟩
theorem cellsOK_tuple {v : AV} (h : cellsOK (cellsA v) = true) : ∀ l, v ≠ .tuple l := by
  intro l e; subst e; cases h
theorem doStore_did {t : TypeId} {x y : Operand} (ho : o.op = .store t x y) (hD : ∀ b, FootIn P o.op env b → D b) (e : doStore P t x y env h nx lg k = r) (hr : r ≠ .fail) (hn : ∀ b blk, h.at b = some blk → b < nx) : Did P o env D h nx lg k r := by
  replace e := optK_inv e hr; obtain ⟨info, hi, e⟩ := e
  replace e := evalO_inv e hr; obtain ⟨v, e1, e⟩ := e
  replace e := evalO_inv e hr; obtain ⟨u, e2, e⟩ := e
  replace e := asPtr_inv e hr; obtain ⟨b, q, rfl, e⟩ := e
  replace e := ifK_inv e hr; obtain ⟨hc, e⟩ := e
  simp only [Bool.and_eq_true, beqN] at hc
  obtain ⟨hc, hlen⟩ := hc
  replace e := getBlk_inv e hr; obtain ⟨blk, hb, e⟩ := e
  replace e := asCells_inv e hr; obtain ⟨ty, esz, nr, rows, ro, rfl, e⟩ := e
  replace e := ifK_inv e hr; obtain ⟨hro, e⟩ := e
  obtain rfl : ro = false := by cases ro <;> first | rfl | cases hro
  replace e := rowCol_inv e; obtain ⟨i, s, rfl, e⟩ := e
  replace e := ifK_inv e hr; obtain ⟨hi', e⟩ := e
  simp only [Bool.and_eq_true, bltN, bleN] at hi'
  obtain ⟨hi1, hi2⟩ := hi'
  replace e := getO_inv e hr; obtain ⟨row, hrow, e⟩ := e
  have hrow : rows.at i = some row := hrow
  have hf : D b := hD b ⟨x, by simp [ho, footOps], _, e1, rfl⟩
  have hl : live h b := ⟨_, hb, by intro e; cases e⟩
  -- whatever row is put, it is 'over'
  have e' : ∃ row', (T.setK rows (Nat.succ i) row' fun rows => T.setK h (Nat.succ b) (.cells ty esz nr rows false) fun h => k undefA h nx (b :: lg)) = r ∧ (row.length = esz → row' = over s (cellsA u) row) := by
    unfold putRow at e
    rw [boolRec_ite] at e
    split at e
    · rename_i hcc
      simp only [Bool.and_eq_true, beqN] at hcc
      obtain ⟨h1, rfl⟩ := hcc
      refine ⟨_, e, fun hr => ?_⟩
      unfold over
      rw [List.take_zero, List.nil_append, List.drop_eq_nil_of_le (by omega), List.append_nil]
    · rw [overK_eq] at e
      exact ⟨_, e, fun _ => rfl⟩
  obtain ⟨row', e, hrow'⟩ := e'
  rw [T.setK_put, T.setK_put] at e
  refine ⟨undefA, _, nx, [b], e, .upd hf (hn _ _ hb) hl, fun ρ w a hx hp => ?_⟩
  obtain ⟨p, h1, h2⟩ := hx x (by simp [ho, Op.operands]) _ e1
  have hu := hx y (by simp [ho, Op.operands]) _ e2
  have hB := hp.rel b hf _ p hb h1
  have hlr : row.length = esz := by
    obtain ⟨_, _, arr, fz, _, _, h5, _⟩ := hB
    obtain ⟨row', g1, g2, _⟩ := h5 i hi1
    rw [hrow] at g1; cases g1; exact g2
  have hcs := cellsA_sound hu (cellsOK_tuple hc)
  obtain ⟨arr, fz, g1, g2⟩ := hB.store (P := P) hi1 hrow hi2 hcs (cellsOK_iff hc)
  rw [← hrow' hlr] at g2
  refine RunsTo.skip (w' := setBlk w p.blk (.cells arr ty fz)) ?_ ⟨ρ, VR_undef ρ, .upd hp hf hl h1 (fun β hβ => setBlk_ne hβ) (setBlk_size _ _ _) rfl rfl rfl g2⟩
  have hsz : (a.eval y).cells.size = info.size := by
    have := hcs.length
    rw [Array.length_toList] at this; exact this.symm.trans hlen
  simp [execOp, ho, Instr.storeAt, Instr.sureAddr, h2, storeVar, run_sizeOf' hi, hsz, g1]
end
end Go.CE
