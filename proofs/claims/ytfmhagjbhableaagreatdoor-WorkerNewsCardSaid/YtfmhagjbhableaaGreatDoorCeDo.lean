/-
  CE, part 6: the operations that reckon with values, and those that read and write rows of cells.
-/
import Derived.Test.YtfmhagjbhableaaGreatDoorCeMem
namespace Go.CE
open Go
set_option linter.unusedVariables false
set_option linter.unusedSimpArgs false

abbrev KV := AV → AH → Nat → List Nat → Res
/-- What is shown of each operation: it has yielded a value and a memory with which the evaluation went on, and it is sound. -/
def Did (P : Program) (o : Oper) (env : T AV) (D : Nat → Prop) (h : AH) (nx : Nat) (lg : List Nat) (k : KV) (r : Res) : Prop :=
  ∃ v h' nx' W, k v h' nx' (W ++ lg) = r ∧ OpSound P o env D h nx v h' nx' W
/-- The operands through which an operation reads memory. -/
def footOps : Op → List Operand
  | .load _ a => [a]
  | .store _ a _ => [a]
  | .lookup _ x _ _ => [x]
  | .mapUpdate _ m _ _ => [m]
  | .insert _ m _ _ => [m]
  | .convert _ _ x => [x]
  | .call c => c.args.toList
  | .slice _ x _ _ _ => [x]
  | .range _ x => [x]
  | _ => []
def topB : AV → Option Nat
  | .ptr b _ => some b
  | .slice b _ _ _ _ => some b
  | .map b => some b
  | _ => none
def FootIn (P : Program) (op : Op) (env : T AV) (b : Nat) : Prop := ∃ x ∈ footOps op, ∃ v, evalA P.globals.size env x = some v ∧ topB v = some b

section
variable {P : Program} {o : Oper} {env : T AV} {D : Nat → Prop} {h : AH} {nx : Nat} {lg : List Nat} {k : KV} {r : Res}

/-- An operation that leaves the world alone. -/
theorem did_same {v : AV} (hk : k v h nx lg = r)
    (H : ∀ ρ w (a : Act), OpsR P ρ env o a → Pre P D ρ h nx w → ∃ v', (execOp a.eval o).run P w = .ok (.value v') w ∧ VR ρ v v') : Did P o env D h nx lg k r :=
  ⟨v, h, nx, [], hk, .refl, fun ρ w a ho hp => by
    obtain ⟨v', e, g⟩ := H ρ w a ho hp
    exact RunsTo.value e ⟨ρ, g, .refl hp rfl rfl rfl rfl⟩⟩
/-- An operation that makes one block. -/
theorem did_new {v : AV} {blk : ABlk} (hk : k v (h.put nx blk) (nx + 1) lg = r)
    (H : ∀ ρ w (a : Act), OpsR P ρ env o a → Pre P D ρ h nx w → ∃ v' ob pl w1, (execOp a.eval o).run P w = .ok (.value v') w1 ∧ w1.heap = w.heap.push ob ∧ w1.os = w.os ∧ w1.tape = w.tape ∧ w1.output = w.output ∧ pl.blk = w.heap.size ∧ VR (updR ρ nx pl) v v' ∧ BR (updR ρ nx pl) blk pl w1) : Did P o env D h nx lg k r :=
  ⟨v, _, _, [], hk, .new blk, fun ρ w a ho hp => by
    obtain ⟨v', ob, pl, w1, e, e0, e1, e2, e3, e4, g, hb⟩ := H ρ w a ho hp
    exact RunsTo.value e ⟨_, g, .alloc hp e0 e1 e2 e3 e4 hb⟩⟩

/-! ### Values -/
noncomputable def doMove (P : Program) (x : Operand) (env : T AV) (h : AH) (nx : Nat) (lg : List Nat) (k : KV) : Res := evalO P.globals.size env x fun v => k v h nx lg
theorem doMove_did {x : Operand} (ho : o.op = .move x) (e : doMove P x env h nx lg k = r) (hr : r ≠ .fail) : Did P o env D h nx lg k r := by
  obtain ⟨v, e1, e⟩ := evalO_inv e hr
  exact did_same e fun ρ w a hx hp => ⟨a.eval x, by simp [execOp, ho], hx x (by simp [ho, Op.operands]) v e1⟩
theorem doAssign_did {x : Operand} (ho : o.op = .assign x) (e : doMove P x env h nx lg k = r) (hr : r ≠ .fail) : Did P o env D h nx lg k r := by
  obtain ⟨v, e1, e⟩ := evalO_inv e hr
  exact did_same e fun ρ w a hx hp => ⟨a.eval x, by simp [execOp, ho], hx x (by simp [ho, Op.operands]) v e1⟩

noncomputable def asBool (v : AV) (c : Bool → Res) : Res :=
  @AV.casesOn (fun _ => Res) v c (fun _ _ => .fail) (fun _ _ => .fail) (fun _ _ => .fail) .fail (fun _ _ _ _ _ => .fail) .fail (fun _ => .fail) .fail (fun _ _ _ => .fail) .fail (fun _ _ => .fail) .fail (fun _ => .fail) (fun _ => .fail)
theorem asBool_inv {v : AV} {c : Bool → Res} (e : asBool v c = r) (hr : r ≠ .fail) : ∃ b, v = .bool b ∧ c b = r := by
  cases v <;> first | exact ⟨_, rfl, e⟩ | exact absurd e.symm hr
noncomputable def asPtr (v : AV) (c : Nat → Nat → Res) : Res :=
  @AV.casesOn (fun _ => Res) v (fun _ => .fail) (fun _ _ => .fail) (fun _ _ => .fail) c .fail (fun _ _ _ _ _ => .fail) .fail (fun _ => .fail) .fail (fun _ _ _ => .fail) .fail (fun _ _ => .fail) .fail (fun _ => .fail) (fun _ => .fail)
theorem asPtr_inv {v : AV} {c : Nat → Nat → Res} (e : asPtr v c = r) (hr : r ≠ .fail) : ∃ b q, v = .ptr b q ∧ c b q = r := by
  cases v <;> first | exact ⟨_, _, rfl, e⟩ | exact absurd e.symm hr
noncomputable def asInt (v : AV) (c : IntKind → Int → Res) : Res :=
  @AV.casesOn (fun _ => Res) v (fun _ => .fail) c (fun _ _ => .fail) (fun _ _ => .fail) .fail (fun _ _ _ _ _ => .fail) .fail (fun _ => .fail) .fail (fun _ _ _ => .fail) .fail (fun _ _ => .fail) .fail (fun _ => .fail) (fun _ => .fail)
theorem asInt_inv {v : AV} {c : IntKind → Int → Res} (e : asInt v c = r) (hr : r ≠ .fail) : ∃ k n, v = .int k n ∧ c k n = r := by
  cases v <;> first | exact ⟨_, _, rfl, e⟩ | exact absurd e.symm hr
noncomputable def asNat (v : AV) (c : Nat → Res) : Res := asInt v fun _ i => @Int.casesOn (fun _ => Res) i c (fun _ => .fail)
theorem asNat_inv {v : AV} {c : Nat → Res} (e : asNat v c = r) (hr : r ≠ .fail) : ∃ k n, v = .int k (Int.ofNat n) ∧ c n = r := by
  obtain ⟨kd, i, e1, e⟩ := asInt_inv e hr
  cases i with
  | ofNat n => exact ⟨kd, n, e1, e⟩
  | negSucc n => exact absurd e.symm hr
noncomputable def asStr (v : AV) (c : Nat → Nat → Res) : Res :=
  @AV.casesOn (fun _ => Res) v (fun _ => .fail) (fun _ _ => .fail) c (fun _ _ => .fail) .fail (fun _ _ _ _ _ => .fail) .fail (fun _ => .fail) .fail (fun _ _ _ => .fail) .fail (fun _ _ => .fail) .fail (fun _ => .fail) (fun _ => .fail)
theorem asStr_inv {v : AV} {c : Nat → Nat → Res} (e : asStr v c = r) (hr : r ≠ .fail) : ∃ l n, v = .str l n ∧ c l n = r := by
  cases v <;> first | exact ⟨_, _, rfl, e⟩ | exact absurd e.symm hr
noncomputable def asAgg (v : AV) (c : List AV → Res) : Res :=
  @AV.casesOn (fun _ => Res) v (fun _ => .fail) (fun _ _ => .fail) (fun _ _ => .fail) (fun _ _ => .fail) .fail (fun _ _ _ _ _ => .fail) .fail (fun _ => .fail) .fail (fun _ _ _ => .fail) .fail (fun _ _ => .fail) .fail c (fun _ => .fail)
theorem asAgg_inv {v : AV} {c : List AV → Res} (e : asAgg v c = r) (hr : r ≠ .fail) : ∃ l, v = .agg l ∧ c l = r := by
  cases v <;> first | exact ⟨_, rfl, e⟩ | exact absurd e.symm hr
noncomputable def asTup (v : AV) (c : List AV → Res) : Res :=
  @AV.casesOn (fun _ => Res) v (fun _ => .fail) (fun _ _ => .fail) (fun _ _ => .fail) (fun _ _ => .fail) .fail (fun _ _ _ _ _ => .fail) .fail (fun _ => .fail) .fail (fun _ _ _ => .fail) .fail (fun _ _ => .fail) .fail (fun _ => .fail) c
theorem asTup_inv {v : AV} {c : List AV → Res} (e : asTup v c = r) (hr : r ≠ .fail) : ∃ l, v = .tuple l ∧ c l = r := by
  cases v <;> first | exact ⟨_, rfl, e⟩ | exact absurd e.symm hr

noncomputable def doPick (P : Program) (c x y : Operand) (env : T AV) (h : AH) (nx : Nat) (lg : List Nat) (k : KV) : Res :=
  evalO P.globals.size env c fun v => asBool v fun t => @Bool.rec (fun _ => Res) (evalO P.globals.size env y fun v => k v h nx lg) (evalO P.globals.size env x fun v => k v h nx lg) t
theorem doPick_did {c x y : Operand} (ho : o.op = .pick c x y) (e : doPick P c x y env h nx lg k = r) (hr : r ≠ .fail) : Did P o env D h nx lg k r := by
  obtain ⟨v, e1, e⟩ := evalO_inv e hr
  replace e := asBool_inv e hr; obtain ⟨b, rfl, e⟩ := e
  cases b with
  | false =>
    obtain ⟨u, e2, e⟩ := evalO_inv e hr
    refine did_same e fun ρ w a hx hp => ⟨a.eval y, ?_, hx y (by simp [ho, Op.operands]) u e2⟩
    have := hx c (by simp [ho, Op.operands]) _ e1
    simp only [VR] at this
    simp [execOp, ho, this, Go.asBool]
  | true =>
    obtain ⟨u, e2, e⟩ := evalO_inv e hr
    refine did_same e fun ρ w a hx hp => ⟨a.eval x, ?_, hx x (by simp [ho, Op.operands]) u e2⟩
    have := hx c (by simp [ho, Op.operands]) _ e1
    simp only [VR] at this
    simp [execOp, ho, this, Go.asBool]

noncomputable def doNilCheck (P : Program) (x : Operand) (env : T AV) (h : AH) (nx : Nat) (lg : List Nat) (k : KV) : Res :=
  evalO P.globals.size env x fun v => @AV.casesOn (fun _ => Res) v (fun _ => .fail) (fun _ _ => .fail) (fun _ _ => .fail) (fun b o => k (.ptr b o) h nx lg) .fail (fun _ _ _ _ _ => .fail) .fail (fun _ => .fail) .fail (fun f a b => k (.func f a b) h nx lg) .fail (fun t v => k (.iface t v) h nx lg) .fail (fun _ => .fail) (fun _ => .fail)
theorem doNilCheck_did {x : Operand} (ho : o.op = .nilCheck x) (e : doNilCheck P x env h nx lg k = r) (hr : r ≠ .fail) : Did P o env D h nx lg k r := by
  obtain ⟨v, e1, e⟩ := evalO_inv e hr
  cases v <;> first
    | exact absurd e.symm hr
    | skip
  · refine did_same e fun ρ w a hx hp => ⟨a.eval x, ?_, hx x (by simp [ho, Op.operands]) _ e1⟩
    have := hx x (by simp [ho, Op.operands]) _ e1
    obtain ⟨p, _, g⟩ := this
    simp [execOp, ho, g]
  · refine did_same e fun ρ w a hx hp => ⟨a.eval x, ?_, hx x (by simp [ho, Op.operands]) _ e1⟩
    have := hx x (by simp [ho, Op.operands]) _ e1
    obtain ⟨_, _, g, _⟩ := this
    simp [execOp, ho, g]
  · refine did_same e fun ρ w a hx hp => ⟨a.eval x, ?_, hx x (by simp [ho, Op.operands]) _ e1⟩
    have := hx x (by simp [ho, Op.operands]) _ e1
    obtain ⟨_, g, _⟩ := this
    simp [execOp, ho, g]

/-! ### Lists -/
noncomputable def dropK {α : Type} (n : Nat) (l : List α) (c : List α → Res) : Res :=
  @Nat.rec (fun _ => List α → Res) c (fun _ ih l => @List.rec α (fun _ => Res) (c []) (fun x xs _ => ih xs) l) n l
theorem dropK_eq {α : Type} (n : Nat) : ∀ (l : List α) (c : List α → Res), dropK n l c = c (l.drop n) := by
  induction n with
  | zero => intro l c; rfl
  | succ n ih => intro l c; cases l with
    | nil => rfl
    | cons x xs => exact ih xs c
noncomputable def takeK {α : Type} (n : Nat) (l : List α) (c : List α → Res) : Res :=
  @Nat.rec (fun _ => List α → (List α → Res) → Res) (fun _ c => c []) (fun _ ih l c => @List.rec α (fun _ => Res) (c []) (fun x xs _ => ih xs fun ys => c (x :: ys)) l) n l c
theorem takeK_eq {α : Type} (n : Nat) : ∀ (l : List α) (c : List α → Res), takeK n l c = c (l.take n) := by
  induction n with
  | zero => intro l c; simp only [List.take_zero]; rfl
  | succ n ih => intro l c; cases l with
    | nil => rfl
    | cons x xs => exact ih xs _
noncomputable def appK {α : Type} (l m : List α) (c : List α → Res) : Res :=
  @List.rec α (fun _ => (List α → Res) → Res) (fun c => c m) (fun x _ ih c => ih fun ys => c (x :: ys)) l c
theorem appK_eq {α : Type} (l m : List α) : ∀ (c : List α → Res), appK l m c = c (l ++ m) := by
  induction l with
  | nil => intro c; rfl
  | cons x xs ih => intro c; exact ih _
/-- Written over from place n on. -/
def over {α : Type} (n : Nat) (vs l : List α) : List α := l.take n ++ (vs ++ l.drop (n + vs.length))
noncomputable def overK {α : Type} (n : Nat) (vs l : List α) (c : List α → Res) : Res :=
  takeK n l fun a => dropK (Nat.add n vs.length) l fun b => appK vs b fun vb => appK a vb c
theorem overK_eq {α : Type} (n : Nat) (vs l : List α) (c : List α → Res) : overK n vs l c = c (over n vs l) := by
  unfold overK; rw [takeK_eq, dropK_eq, appK_eq, appK_eq]; rfl
theorem over_length {α : Type} {n : Nat} {vs l : List α} (h : n + vs.length ≤ l.length) : (over n vs l).length = l.length := by
  simp [over]; omega
theorem over_get {α : Type} {n : Nat} {vs l : List α} (h : n + vs.length ≤ l.length) (i : Nat) : (over n vs l)[i]? = if n ≤ i ∧ i < n + vs.length then vs[i - n]? else l[i]? := by
  unfold over
  rw [List.getElem?_append]
  have h1 : (l.take n).length = n := by simp; omega
  rw [h1]
  by_cases h2 : i < n
  · rw [if_pos h2, if_neg (by omega), List.getElem?_take, if_pos h2]
  · rw [if_neg h2, List.getElem?_append]
    by_cases h3 : i - n < vs.length
    · rw [if_pos h3, if_pos (by omega)]
    · rw [if_neg h3, if_neg (by omega), List.getElem?_drop]
      congr 1; omega
theorem VRs.over {ρ : Ren} {n : Nat} {as bs : List AV} {xs ys : List Value} (h : VRs ρ as xs) (g : VRs ρ bs ys) : VRs ρ (CE.over n as bs) (CE.over n xs ys) := by
  unfold CE.over
  rw [h.length]
  exact (g.take n).append (h.append (g.drop _))
noncomputable def headK {α : Type} (l : List α) (c : α → Res) : Res := @List.rec α (fun _ => Res) .fail (fun x _ _ => c x) l
theorem headK_inv {α : Type} {l : List α} {c : α → Res} (e : headK l c = r) (hr : r ≠ .fail) : ∃ x xs, l = x :: xs ∧ c x = r := by
  cases l with
  | nil => exact absurd e.symm hr
  | cons x xs => exact ⟨x, xs, rfl, e⟩

noncomputable def doExtract (P : Program) (x : Operand) (i : Nat) (env : T AV) (h : AH) (nx : Nat) (lg : List Nat) (k : KV) : Res :=
  evalO P.globals.size env x fun v => asTup v fun l => dropK i l fun l => headK l fun v => k v h nx lg
theorem doExtract_did {x : Operand} {i : Nat} (ho : o.op = .extract x i) (e : doExtract P x i env h nx lg k = r) (hr : r ≠ .fail) : Did P o env D h nx lg k r := by
  obtain ⟨v, e1, e⟩ := evalO_inv e hr
  replace e := asTup_inv e hr; obtain ⟨l, rfl, e⟩ := e
  rw [dropK_eq] at e
  obtain ⟨y, ys, e2, e⟩ := headK_inv e hr
  have hy : l[i]? = some y := by
    have := congrArg (fun m => m[0]?) e2
    simpa using this
  refine did_same e fun ρ w a hx hp => ?_
  obtain ⟨vs, g, hv⟩ := hx x (by simp [ho, Op.operands]) _ e1
  obtain ⟨u, hu, hw⟩ := hv.get i y hy
  refine ⟨u, ?_, hw⟩
  rw [Array.getElem?_toList] at hu
  simp [execOp, ho, g, Instr.extract, hu]

noncomputable def doMakeIface (P : Program) (t : TypeId) (x : Operand) (env : T AV) (h : AH) (nx : Nat) (lg : List Nat) (k : KV) : Res :=
  ifK (match P.underlying t with | some (.interface _) => false | some _ => true | none => false) (evalO P.globals.size env x fun v => k (.iface t v) h nx lg)
theorem run_underlying' {w : World} {t : TypeId} {d : TypeDesc} (h : P.underlying t = some d) : (underlying t).run P w = .ok d w := by simp [underlying, h]
theorem run_sizeOf' {w : World} {t : TypeId} {i : TypeInfo} (h : P.info? t = some i) : (Go.sizeOf t).run P w = .ok i.size w := by simp [Go.sizeOf, typeInfo, h]
theorem run_typeInfo' {w : World} {t : TypeId} {i : TypeInfo} (h : P.info? t = some i) : (typeInfo t).run P w = .ok i w := by simp [typeInfo, h]
theorem doMakeIface_did {t : TypeId} {x : Operand} (ho : o.op = .makeInterface t x) (e : doMakeIface P t x env h nx lg k = r) (hr : r ≠ .fail) : Did P o env D h nx lg k r := by
  obtain ⟨e0, e⟩ := ifK_inv e hr
  obtain ⟨v, e1, e⟩ := evalO_inv e hr
  refine did_same e fun ρ w a hx hp => ⟨.iface t (a.eval x), ?_, ⟨_, rfl, hx x (by simp [ho, Op.operands]) _ e1⟩⟩
  cases hu : P.underlying t with
  | none => rw [hu] at e0; cases e0
  | some d =>
    rw [hu] at e0
    simp only [execOp, ho, Instr.makeInterface, Sem.run_bind, run_underlying' hu, Result.andThen_ok]
    cases d <;> first | rfl | cases e0

noncomputable def fnK (f : Fn) (c : FuncId → Res) : Res := @Fn.casesOn (fun _ => Res) f c (fun _ => .fail) (fun _ _ => .fail) (fun _ _ _ _ => .fail) (fun _ => .fail)
theorem fnK_inv {f : Fn} {c : FuncId → Res} (e : fnK f c = r) (hr : r ≠ .fail) : ∃ g, f = .func g ∧ c g = r := by
  cases f <;> first | exact ⟨_, rfl, e⟩ | exact absurd e.symm hr
noncomputable def doMakeFunc (P : Program) (f : Fn) (a b : Array Operand) (env : T AV) (h : AH) (nx : Nat) (lg : List Nat) (k : KV) : Res :=
  fnK f fun f => evalL P.globals.size env a.toList fun a => evalL P.globals.size env b.toList fun b => k (.func f a b) h nx lg
theorem evalL_sound {ρ : Ren} {a : Act} {xs : List Operand} {vs : List AV} (hl : vs.length = xs.length) (hv : ∀ (i : Nat) x v, xs[i]? = some x → vs[i]? = some v → evalA P.globals.size env x = some v)
    (ho : ∀ x ∈ xs, ∀ v, evalA P.globals.size env x = some v → VR ρ v (a.eval x)) : VRs ρ vs (xs.map a.eval) := by
  refine VRs.of_get (by simp [hl]) fun n v u e1 e2 => ?_
  rw [List.getElem?_map] at e2
  cases hx : xs[n]? with
  | none => rw [hx] at e2; cases e2
  | some x =>
    rw [hx] at e2; cases e2
    exact ho x (List.mem_of_getElem? hx) v (hv n x v hx e1)
theorem doMakeFunc_did {f : Fn} {x y : Array Operand} (ho : o.op = .makeFunc f x y) (e : doMakeFunc P f x y env h nx lg k = r) (hr : r ≠ .fail) : Did P o env D h nx lg k r := by
  replace e := fnK_inv e hr; obtain ⟨g, rfl, e⟩ := e
  obtain ⟨vs, l1, h1, e⟩ := evalL_inv e hr
  obtain ⟨us, l2, h2, e⟩ := evalL_inv e hr
  refine did_same e fun ρ w a hx hp => ⟨.func (.func g) (x.map a.eval) (y.map a.eval), by simp [execOp, ho, Instr.makeFunc], ⟨_, _, rfl, ?_, ?_⟩⟩
  · rw [Array.toList_map]
    exact evalL_sound l1 h1 fun z hz => hx z (by simp [ho, Op.operands]; exact .inl (by simpa using hz))
  · rw [Array.toList_map]
    exact evalL_sound l2 h2 fun z hz => hx z (by simp [ho, Op.operands]; exact .inr (by simpa using hz))
end
end Go.CE
