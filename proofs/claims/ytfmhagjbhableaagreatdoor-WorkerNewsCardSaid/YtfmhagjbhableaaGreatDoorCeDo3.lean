/-
  CE, part 8: new variables, addresses, fields, elements, cuts.
-/
import Derived.Test.YtfmhagjbhableaaGreatDoorCeDo2
namespace Go.CE
open Go
set_option linter.unusedVariables false
set_option linter.unusedSimpArgs false

/-- The zero value of a type. -/
def zeroOf (P : Program) (t : TypeId) : Option AV :=
  match P.info? t with
  | some i => match i.zero with
    | some v => constA v
    | none => none
  | none => none
theorem zeroOf_inv {P : Program} {t : TypeId} {a : AV} (h : zeroOf P t = some a) : ∃ i v, P.info? t = some i ∧ i.zero = some v ∧ (∀ w, (zeroValue t).run P w = .ok v w) ∧ ∀ ρ : Ren, VR ρ a v := by
  unfold zeroOf at h
  split at h
  · rename_i i hi
    split at h
    · rename_i v hv
      exact ⟨i, v, hi, hv, fun w => by simp [zeroValue, typeInfo, hi, hv], constA_sound h⟩
    · cases h
  · cases h
theorem BR.one {ρ : Ren} {p : Pl} {w : World} {ty : TypeId} {l : List AV} {arr : Array Value} (hw : w.heap[p.blk]? = some (.cells arr ty (0, 0))) (hb : p.base = 0) (hr : p.room = l.length) (he : p.esz = l.length) (hv : VRs ρ l arr.toList) :
    BR ρ (.cells ty l.length 1 (.node (some l) .leaf .leaf) false) p w := by
  have hl : l.length = arr.size := by rw [← Array.length_toList]; exact hv.length
  refine ⟨he, by omega, arr, (0, 0), hw, by omega, fun r hr => ⟨l, ?_, rfl, fun q a e => ?_⟩, fun _ i _ => by simp⟩
  · obtain rfl : r = 0 := by omega
    show T.get _ 1 = _
    rw [T.get_node, if_pos rfl]
  · obtain rfl : r = 0 := by omega
    obtain ⟨x, k1, k2⟩ := hv.get q a e
    rw [Array.getElem?_toList] at k1
    exact ⟨x, by rw [← k1]; congr 1; omega, k2⟩

section
variable {P : Program} {o : Oper} {env : T AV} {D : Nat → Prop} {h : AH} {nx : Nat} {lg : List Nat} {k : KV} {r : Res}

noncomputable def newBlk (blk : ABlk) (h : AH) (nx : Nat) (c : AH → Nat → Res) : Res := T.setK h (Nat.succ nx) blk fun h => c h (Nat.succ nx)
theorem newBlk_eq (blk : ABlk) (h : AH) (nx : Nat) (c : AH → Nat → Res) : newBlk blk h nx c = c (h.put nx blk) (nx + 1) := T.setK_put _ _ _ _
theorem push_at (w : World) (ob : Obj) : ({ w with heap := w.heap.push ob } : World).heap[w.heap.size]? = some ob := by simp

/-- A new variable of cells that stand for the list l. -/
noncomputable def newVarK (ty : TypeId) (l : List AV) (h : AH) (nx : Nat) (c : AH → Nat → Res) : Res :=
  forceN l.length fun sz => newBlk (.cells ty sz 1 (.node (some l) .leaf .leaf) false) h nx c
theorem newVarK_eq (ty : TypeId) (l : List AV) (h : AH) (nx : Nat) (c : AH → Nat → Res) : newVarK ty l h nx c = c (h.put nx (.cells ty l.length 1 (.node (some l) .leaf .leaf) false)) (nx + 1) := by
  unfold newVarK; rw [forceN_eq, newBlk_eq]
theorem did_newVar {ty : TypeId} {l : List AV} (hk : k (.ptr nx 0) (h.put nx (.cells ty l.length 1 (.node (some l) .leaf .leaf) false)) (nx + 1) lg = r)
    (H : ∀ ρ w (a : Act), OpsR P ρ env o a → Pre P D ρ h nx w → ∃ arr : Array Value, (execOp a.eval o).run P w = .ok (.value (.pointer (some ⟨w.heap.size, 0, none⟩))) { w with heap := w.heap.push (.cells arr ty) } ∧ VRs ρ l arr.toList) : Did P o env D h nx lg k r :=
  did_new hk fun ρ w a ho hp => by
    obtain ⟨arr, e, g⟩ := H ρ w a ho hp
    refine ⟨_, _, ⟨w.heap.size, 0, l.length, l.length⟩, _, e, rfl, rfl, rfl, rfl, rfl, ⟨_, updR_at _ _, rfl⟩, ?_⟩
    exact BR.one (push_at w _) rfl rfl rfl (g.ext (Ext.upd hp.fresh))

noncomputable def doAlloc (P : Program) (t : TypeId) (env : T AV) (h : AH) (nx : Nat) (lg : List Nat) (k : KV) : Res :=
  optK (zeroOf P t) fun z => ifK (cellsOK (cellsA z)) (forceL (cellsA z) fun l => newVarK t l h nx fun h nx' => k (.ptr nx 0) h nx' lg)
theorem doAlloc_did {t : TypeId} (ho : o.op = .alloc t) (e : doAlloc P t env h nx lg k = r) (hr : r ≠ .fail) : Did P o env D h nx lg k r := by
  replace e := optK_inv e hr; obtain ⟨z, hz, e⟩ := e
  replace e := ifK_inv e hr; obtain ⟨hc, e⟩ := e
  rw [forceL_eq, newVarK_eq] at e
  obtain ⟨i, v, hi, hv, hrun, hV⟩ := zeroOf_inv hz
  refine did_newVar e fun ρ w a hx hp => ⟨v.cells, ?_, cellsA_sound (hV ρ) (cellsOK_tuple hc)⟩
  simp [execOp, ho, Instr.alloc, hrun, newVar, newRow]
noncomputable def doBox (P : Program) (t : TypeId) (x : Operand) (env : T AV) (h : AH) (nx : Nat) (lg : List Nat) (k : KV) : Res :=
  evalO P.globals.size env x fun v => ifK (cellsOK (cellsA v)) (newVarK t (cellsA v) h nx fun h nx' => k (.ptr nx 0) h nx' lg)
theorem doBox_did {t : TypeId} {x : Operand} (ho : o.op = .box t x) (e : doBox P t x env h nx lg k = r) (hr : r ≠ .fail) : Did P o env D h nx lg k r := by
  replace e := evalO_inv e hr; obtain ⟨v, e1, e⟩ := e
  replace e := ifK_inv e hr; obtain ⟨hc, e⟩ := e
  rw [newVarK_eq] at e
  refine did_newVar e fun ρ w a hx hp => ⟨(a.eval x).cells, ?_, cellsA_sound (hx x (by simp [ho, Op.operands]) _ e1) (cellsOK_tuple hc)⟩
  simp [execOp, ho, Instr.box, newVar, newRow]

/-! ### Addresses -/
def fldOff (P : Program) (s : TypeId) (f : Nat) : Option Nat :=
  match P.underlying s with
  | some (.struct fs) => match fs[f]? with
    | some fd => match P.info? fd.type with
      | some i => if i.size = 0 then none else some fd.offset
      | none => none
    | none => none
  | _ => none
theorem fldOff_inv {s : TypeId} {f n : Nat} (h : fldOff P s f = some n) : ∃ fs fd i, P.underlying s = some (.struct fs) ∧ fs[f]? = some fd ∧ P.info? fd.type = some i ∧ i.size ≠ 0 ∧ fd.offset = n := by
  unfold fldOff at h
  split at h
  · rename_i fs hu
    split at h
    · rename_i fd hf
      split at h
      · rename_i i hi
        split at h
        · cases h
        · rename_i hs; cases h; exact ⟨fs, fd, i, hu, hf, hi, hs, rfl⟩
      · cases h
    · cases h
  · cases h
noncomputable def doFieldAddr (P : Program) (s : TypeId) (x : Operand) (f : Nat) (env : T AV) (h : AH) (nx : Nat) (lg : List Nat) (k : KV) : Res :=
  optK (fldOff P s f) fun n => evalO P.globals.size env x fun v => asPtr v fun b o => forceN (Nat.add o n) fun o => k (.ptr b o) h nx lg
theorem doFieldAddr_did {s : TypeId} {x : Operand} {f : Nat} (ho : o.op = .fieldAddr s x f) (e : doFieldAddr P s x f env h nx lg k = r) (hr : r ≠ .fail) : Did P o env D h nx lg k r := by
  replace e := optK_inv e hr; obtain ⟨n, hn, e⟩ := e
  replace e := evalO_inv e hr; obtain ⟨v, e1, e⟩ := e
  replace e := asPtr_inv e hr; obtain ⟨b, q, rfl, e⟩ := e
  rw [forceN_eq] at e
  obtain ⟨fs, fd, i, hu, hf, hi, hs, rfl⟩ := fldOff_inv hn
  refine did_same e fun ρ w a hx hp => ?_
  obtain ⟨p, h1, h2⟩ := hx x (by simp [ho, Op.operands]) _ e1
  refine ⟨.pointer (some ⟨p.blk, p.base + q + fd.offset, none⟩), ?_, p, h1, by rw [Nat.add_assoc]; rfl⟩
  simp [execOp, ho, Instr.fieldAt, run_underlying' hu, hf, Instr.sureAddr, h2, fieldPlace, run_sizeOf' hi, hs, addr_add]

/-- The element type's size behind a slice. -/
def slSize (P : Program) (t : TypeId) : Option (TypeId × Nat) :=
  match P.underlying t with
  | some (.slice e) => (P.info? e).map fun i => (e, i.size)
  | _ => none
theorem slSize_inv {t e : TypeId} {n : Nat} (h : slSize P t = some (e, n)) : ∃ i, P.underlying t = some (.slice e) ∧ P.info? e = some i ∧ i.size = n := by
  unfold slSize at h
  split at h
  · rename_i e' hu
    rw [Option.map_eq_some_iff] at h
    obtain ⟨i, hi, h⟩ := h
    cases h; exact ⟨i, hu, hi, rfl⟩
  · cases h
/-- An array's length and element's size. -/
def arSize (P : Program) (t : TypeId) : Option (Nat × TypeId × Nat) :=
  match P.underlying t with
  | some (.array n e) => (P.info? e).map fun i => (n, e, i.size)
  | _ => none
theorem arSize_inv {t e : TypeId} {m n : Nat} (h : arSize P t = some (m, e, n)) : ∃ i, P.underlying t = some (.array m e) ∧ P.info? e = some i ∧ i.size = n := by
  unfold arSize at h
  split at h
  · rename_i m' e' hu
    rw [Option.map_eq_some_iff] at h
    obtain ⟨i, hi, h⟩ := h
    cases h; exact ⟨i, hu, hi, rfl⟩
  · cases h
noncomputable def doIndexAddr (P : Program) (t : TypeId) (x i : Operand) (env : T AV) (h : AH) (nx : Nat) (lg : List Nat) (k : KV) : Res :=
  evalO P.globals.size env x fun v => evalO P.globals.size env i fun i => asNat i fun i =>
  @AV.casesOn (fun _ => Res) v (fun _ => .fail) (fun _ _ => .fail) (fun _ _ => .fail)
    (fun b o => optK (arSize P t) fun z => ifK (Nat.blt i z.1) (forceN (Nat.add o (Nat.mul i z.2.2)) fun o => k (.ptr b o) h nx lg)) .fail
    (fun b o n _ _ => optK (slSize P t) fun z => ifK (Nat.blt i n) (forceN (Nat.add o (Nat.mul i z.2)) fun o => k (.ptr b o) h nx lg)) .fail (fun _ => .fail) .fail (fun _ _ _ => .fail) .fail (fun _ _ => .fail) .fail (fun _ => .fail) (fun _ => .fail)
theorem doIndexAddr_did {t : TypeId} {x i : Operand} (ho : o.op = .indexAddr t x i) (e : doIndexAddr P t x i env h nx lg k = r) (hr : r ≠ .fail) : Did P o env D h nx lg k r := by
  replace e := evalO_inv e hr; obtain ⟨v, e1, e⟩ := e
  replace e := evalO_inv e hr; obtain ⟨u, e2, e⟩ := e
  replace e := asNat_inv e hr; obtain ⟨kd, j, rfl, e⟩ := e
  cases v <;> first
    | exact absurd e.symm hr
    | skip
  · rename_i b q
    replace e := optK_inv e hr; obtain ⟨⟨m, et, n⟩, hz, e⟩ := e
    replace e := ifK_inv e hr; obtain ⟨hj, e⟩ := e
    rw [bltN] at hj
    rw [forceN_eq] at e
    obtain ⟨info, hu, hi, hs⟩ := arSize_inv hz
    refine did_same e fun ρ w a hx hp => ?_
    obtain ⟨p, h1, h2⟩ := hx x (by simp [ho, Op.operands]) _ e1
    have h3 := hx i (by simp [ho, Op.operands]) _ e2
    simp only [VR] at h3
    refine ⟨.pointer (some ⟨p.blk, p.base + q + j * n, none⟩), ?_, p, h1, by rw [Nat.add_assoc]; rfl⟩
    have hj' : ¬ m ≤ j := Nat.not_le.2 hj
    simp [execOp, ho, Instr.indexAt, run_underlying' hu, asIntOf, h3, Instr.sureAddr, h2, run_sizeOf' hi, hs, hj', addr_add]
  · rename_i b q m cp ex
    replace e := optK_inv e hr; obtain ⟨⟨et, n⟩, hz, e⟩ := e
    replace e := ifK_inv e hr; obtain ⟨hj, e⟩ := e
    rw [bltN] at hj
    rw [forceN_eq] at e
    obtain ⟨info, hu, hi, hs⟩ := slSize_inv hz
    refine did_same e fun ρ w a hx hp => ?_
    obtain ⟨p, c', h1, h2, _⟩ := (hx x (by simp [ho, Op.operands]) _ e1).at (by omega)
    have h3 := hx i (by simp [ho, Op.operands]) _ e2
    simp only [VR] at h3
    refine ⟨.pointer (some ⟨p.blk, p.base + q + j * n, none⟩), ?_, p, h1, by rw [Nat.add_assoc]; rfl⟩
    have hj' : ¬ m ≤ j := Nat.not_le.2 hj
    simp [execOp, ho, Instr.indexAt, run_underlying' hu, asIntOf, h3, h2, run_sizeOf' hi, hs, hj', addr_add]

/-! ### Parts of aggregates, bytes of strings -/
noncomputable def partK (z : Option Nat) (q : Nat) (l : List AV) (c : AV → Res) : Res :=
  dropK q l fun l => @Option.rec Nat (fun _ => Res) (headK l c) (fun n => ifK (Nat.ble n l.length) (takeK n l fun l => c (.agg l))) z
theorem partK_inv {t : TypeId} {z : Option Nat} {q : Nat} {l : List AV} {c : AV → Res} {r : Res} (e : partK z q l c = r) (hr : r ≠ .fail) (hz : ldTy P t = some z) :
    ∃ v, c v = r ∧ ∀ (ρ : Ren) (cs : Array Value) w, VRs ρ l cs.toList → ∃ v', (part t cs q).run P w = .ok v' w ∧ VR ρ v v' := by
  unfold partK at e
  rw [dropK_eq] at e
  have hd : ∃ d, P.underlying t = some d := by
    unfold ldTy at hz
    cases hu : P.underlying t with
    | none => rw [hu] at hz; cases hz
    | some d => exact ⟨d, rfl⟩
  obtain ⟨d, hu⟩ := hd
  cases z with
  | none =>
    replace e := headK_inv e hr; obtain ⟨y, ys, e2, e⟩ := e
    have hy : l[q]? = some y := by
      have := congrArg (fun m => m[0]?) e2
      simpa using this
    refine ⟨y, e, fun ρ cs w hv => ?_⟩
    obtain ⟨x, k1, k2⟩ := hv.get q y hy
    rw [Array.getElem?_toList] at k1
    refine ⟨x, ?_, k2⟩
    unfold ldTy at hz
    rw [hu] at hz
    cases d <;> simp only [Option.map_eq_some_iff] at hz <;>
    first
      | (obtain ⟨_, _, h⟩ := hz; cases h)
      | simp [part, isAgg, run_underlying' hu, k1]
  | some n =>
    replace e := ifK_inv e hr; obtain ⟨hn, e⟩ := e
    rw [bleN] at hn
    rw [takeK_eq] at e
    refine ⟨_, e, fun ρ cs w hv => ?_⟩
    refine ⟨.agg (cs.extract q (q + n)), ?_, _, rfl, ?_⟩
    · unfold ldTy at hz
      rw [hu] at hz
      cases d <;> simp only [Option.map_eq_some_iff, Option.some.injEq, reduceCtorEq, and_false, exists_const] at hz
      all_goals
        obtain ⟨i, h1, h2⟩ := hz
        subst h2
        simp [part, isAgg, run_underlying' hu, run_sizeOf' h1]
    · rw [Array.toList_extract]
      simp only [List.extract]
      rw [show q + n - q = n from by omega]
      exact (hv.drop q).take n
def fldOf (P : Program) (s : TypeId) (f : Nat) : Option (Nat × Option Nat) :=
  match P.underlying s with
  | some (.struct fs) => match fs[f]? with
    | some fd => (ldTy P fd.type).map fun z => (fd.offset, z)
    | none => none
  | _ => none
noncomputable def doField (P : Program) (s : TypeId) (x : Operand) (f : Nat) (env : T AV) (h : AH) (nx : Nat) (lg : List Nat) (k : KV) : Res :=
  optK (fldOf P s f) fun z => evalO P.globals.size env x fun v => asAgg v fun l => partK z.2 z.1 l fun v => k v h nx lg
theorem doField_did {s : TypeId} {x : Operand} {f : Nat} (ho : o.op = .field s x f) (e : doField P s x f env h nx lg k = r) (hr : r ≠ .fail) : Did P o env D h nx lg k r := by
  replace e := optK_inv e hr; obtain ⟨⟨n, z⟩, hz, e⟩ := e
  replace e := evalO_inv e hr; obtain ⟨v, e1, e⟩ := e
  replace e := asAgg_inv e hr; obtain ⟨l, rfl, e⟩ := e
  unfold fldOf at hz
  split at hz
  · rename_i fs hu
    split at hz
    · rename_i fd hf
      rw [Option.map_eq_some_iff] at hz
      obtain ⟨z', hz, hh⟩ := hz
      cases hh
      replace e := partK_inv e hr hz; obtain ⟨v, e, H⟩ := e
      refine did_same e fun ρ w a hx hp => ?_
      obtain ⟨cs, h1, h2⟩ := hx x (by simp [ho, Op.operands]) _ e1
      obtain ⟨v', g1, g2⟩ := H ρ cs w h2
      refine ⟨v', ?_, g2⟩
      simp [execOp, ho, Instr.field, run_underlying' hu, hf, Go.asAgg, h1, g1]
    · cases hz
  · cases hz
noncomputable def doIndex (P : Program) (t : TypeId) (x i : Operand) (env : T AV) (h : AH) (nx : Nat) (lg : List Nat) (k : KV) : Res :=
  evalO P.globals.size env x fun v => evalO P.globals.size env i fun i => asNat i fun i =>
  @AV.casesOn (fun _ => Res) v (fun _ => .fail) (fun _ _ => .fail)
    (fun l n => ifK (match P.underlying t with | some .string => true | _ => false) (ifK (Nat.blt i l) (forceN (Nat.land (Nat.shiftRight n (Nat.mul 8 i)) 255) fun b => k (.int .u8 (Int.ofNat b)) h nx lg)))
    (fun _ _ => .fail) .fail (fun _ _ _ _ _ => .fail) .fail (fun _ => .fail) .fail (fun _ _ _ => .fail) .fail (fun _ _ => .fail) .fail
    (fun l => optK (arSize P t) fun z => ifK (Nat.blt i z.1) (optK (ldTy P z.2.1) fun y => partK y (Nat.mul i z.2.2) l fun v => k v h nx lg)) (fun _ => .fail)
theorem doIndex_did {t : TypeId} {x i : Operand} (ho : o.op = .index t x i) (e : doIndex P t x i env h nx lg k = r) (hr : r ≠ .fail) : Did P o env D h nx lg k r := by
  replace e := evalO_inv e hr; obtain ⟨v, e1, e⟩ := e
  replace e := evalO_inv e hr; obtain ⟨u, e2, e⟩ := e
  replace e := asNat_inv e hr; obtain ⟨kd, j, rfl, e⟩ := e
  cases v <;> first
    | exact absurd e.symm hr
    | skip
  · rename_i l n
    replace e := ifK_inv e hr; obtain ⟨ht, e⟩ := e
    replace e := ifK_inv e hr; obtain ⟨hj, e⟩ := e
    rw [bltN] at hj
    rw [forceN_eq, sh8, land255] at e
    have hu : P.underlying t = some .string := by
      split at ht
      · assumption
      · cases ht
    refine did_same e fun ρ w a hx hp => ?_
    obtain ⟨s, h1, h2⟩ := hx x (by simp [ho, Op.operands]) _ e1
    have h3 := hx i (by simp [ho, Op.operands]) _ e2
    simp only [VR] at h3
    have h4 := h2.get hj
    refine ⟨.int .u8 (n / 256 ^ j % 256 : Nat), ?_, rfl⟩
    simp [execOp, ho, Instr.index, asIntOf, h3, run_underlying' hu, h1, h4]
  · rename_i l
    replace e := optK_inv e hr; obtain ⟨⟨m, et, n⟩, hz, e⟩ := e
    replace e := ifK_inv e hr; obtain ⟨hj, e⟩ := e
    rw [bltN] at hj
    replace e := optK_inv e hr; obtain ⟨y, hy, e⟩ := e
    replace e := partK_inv e hr hy; obtain ⟨v, e, H⟩ := e
    obtain ⟨info, hu, hi, hs⟩ := arSize_inv hz
    refine did_same e fun ρ w a hx hp => ?_
    obtain ⟨cs, h1, h2⟩ := hx x (by simp [ho, Op.operands]) _ e1
    have h3 := hx i (by simp [ho, Op.operands]) _ e2
    simp only [VR] at h3
    obtain ⟨v', g1, g2⟩ := H ρ cs w h2
    refine ⟨v', ?_, g2⟩
    have hj' : ¬ m ≤ j := Nat.not_le.2 hj
    have g1' : (part et cs (j * n)).run P w = .ok v' w := g1
    simp [execOp, ho, Instr.index, asIntOf, h3, run_underlying' hu, h1, hj', run_sizeOf' hi, hs, g1']
end
end Go.CE
