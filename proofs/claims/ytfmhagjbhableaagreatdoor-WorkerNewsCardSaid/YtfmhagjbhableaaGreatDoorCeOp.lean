/-
  CE, part 4: the evaluator's results, its operands, what it means that one operation is done soundly, and the laws by which that is shown.
-/
import Derived.Test.YtfmhagjbhableaaGreatDoorCeVal
namespace Go.CE
open Go
set_option linter.unusedVariables false

inductive Res where
  | fail
  | done (v : AV) (h : AH) (nx : Nat) (lg : List Nat)

def undefA : AV := .tuple []
theorem VR_undef (ρ : Ren) : VR ρ undefA undef := ⟨#[], rfl, rfl⟩

/-! ### Constants -/
def constS (v : Value) : Option AV :=
  match v with
  | .bool b => some (.bool b)
  | .int k n => some (.int k n)
  | .string s => some (.str s.data.toList.length (bytesN s.data.toList))
  | .pointer none => some .nilPtr
  | .slice none 0 0 => some .nilSlice
  | .map none => some .nilMap
  | .nilFunc => some .nilFunc
  | .nilIface => some .nilIface
  | _ => none
def constL (l : List Value) : Option (List AV) :=
  match l with
  | [] => some []
  | v :: vs => match constS v, constL vs with
    | some a, some as => some (a :: as)
    | _, _ => none
def constA (v : Value) : Option AV :=
  match v with
  | .agg cs => (constL cs.toList).map .agg
  | v => constS v
theorem constS_sound {v : Value} {a : AV} (h : constS v = some a) (ρ : Ren) : VR ρ a v := by
  unfold constS at h
  split at h <;> first | (cases h; rfl) | (cases h; exact ⟨_, rfl, SR.of _⟩) | cases h
theorem constL_sound : ∀ {l : List Value} {as : List AV}, constL l = some as → ∀ ρ : Ren, VRs ρ as l
  | [], as, h, ρ => by simp only [constL, Option.some.injEq] at h; subst h; exact rfl
  | v :: vs, as, h, ρ => by
    simp only [constL] at h
    split at h
    · rename_i a as' h1 h2
      cases h
      exact VRs.cons (constS_sound h1 ρ) (constL_sound h2 ρ)
    · cases h
theorem constA_sound {v : Value} {a : AV} (h : constA v = some a) (ρ : Ren) : VR ρ a v := by
  unfold constA at h
  split at h
  · rename_i cs
    cases hl : constL cs.toList with
    | none => rw [hl] at h; cases h
    | some l => rw [hl] at h; cases h; exact ⟨cs, rfl, constL_sound hl ρ⟩
  · exact constS_sound h ρ

/-! ### Forcing -/
noncomputable def forceN {β : Type} (n : Nat) (c : Nat → β) : β := @Nat.rec (fun _ => β) (c 0) (fun m _ => c (Nat.succ m)) n
theorem forceN_eq {β : Type} (n : Nat) (c : Nat → β) : forceN n c = c n := by cases n <;> rfl
noncomputable def forceI {β : Type} (n : Int) (c : Int → β) : β := @Int.casesOn (fun _ => β) n (fun m => forceN m fun m => c (Int.ofNat m)) (fun m => forceN m fun m => c (Int.negSucc m))
theorem forceI_eq {β : Type} (n : Int) (c : Int → β) : forceI n c = c n := by cases n <;> simp [forceI, forceN_eq]
noncomputable def forceB {β : Type} (b : Bool) (c : Bool → β) : β := @Bool.rec (fun _ => β) (c false) (c true) b
theorem forceB_eq {β : Type} (b : Bool) (c : Bool → β) : forceB b c = c b := by cases b <;> rfl
noncomputable def forceAV {β : Type} (v : AV) (c : AV → β) : β :=
  @AV.casesOn (fun _ => β) v (fun b => forceB b fun b => c (.bool b)) (fun k n => forceI n fun n => c (.int k n)) (fun l n => forceN l fun l => forceN n fun n => c (.str l n)) (fun b o => c (.ptr b o)) (c .nilPtr)
    (fun b o n cp e => c (.slice b o n cp e)) (c .nilSlice) (fun b => c (.map b)) (c .nilMap) (fun f a b => c (.func f a b)) (c .nilFunc) (fun t v => c (.iface t v)) (c .nilIface) (fun l => c (.agg l)) (fun l => c (.tuple l))
theorem forceAV_eq {β : Type} (v : AV) (c : AV → β) : forceAV v c = c v := by cases v <;> simp [forceAV, forceN_eq, forceI_eq, forceB_eq]
noncomputable def forceL {β : Type} (l : List AV) (c : List AV → β) : β := @List.rec AV (fun _ => (List AV → β) → β) (fun c => c []) (fun x _ ih c => forceAV x fun x => ih fun xs => c (x :: xs)) l c
theorem forceL_eq {β : Type} (l : List AV) (c : List AV → β) : forceL l c = c l := by
  induction l generalizing c with
  | nil => rfl
  | cons x xs ih => show forceAV x (fun x => forceL xs fun xs => c (x :: xs)) = _; rw [forceAV_eq, ih]
noncomputable def forceV {β : Type} (v : AV) (c : AV → β) : β :=
  @AV.casesOn (fun _ => β) v (fun b => forceB b fun b => c (.bool b)) (fun k n => forceI n fun n => c (.int k n)) (fun l n => forceN l fun l => forceN n fun n => c (.str l n)) (fun b o => c (.ptr b o)) (c .nilPtr)
    (fun b o n cp e => c (.slice b o n cp e)) (c .nilSlice) (fun b => c (.map b)) (c .nilMap) (fun f a b => c (.func f a b)) (c .nilFunc) (fun t v => c (.iface t v)) (c .nilIface) (fun l => forceL l fun l => c (.agg l)) (fun l => c (.tuple l))
theorem forceV_eq {β : Type} (v : AV) (c : AV → β) : forceV v c = c v := by cases v <;> simp [forceV, forceN_eq, forceI_eq, forceB_eq, forceL_eq]

/-- The value of an option, or failure. -/
noncomputable def optK {α : Type} (o : Option α) (c : α → Res) : Res := @Option.rec α (fun _ => Res) .fail c o
theorem optK_inv {α : Type} {o : Option α} {c : α → Res} {r : Res} (h : optK o c = r) (hr : r ≠ .fail) : ∃ x, o = some x ∧ c x = r := by
  cases o with
  | none => exact absurd h.symm hr
  | some x => exact ⟨x, rfl, h⟩
/-- What lies in a trie, or failure. -/
noncomputable def getO {α : Type} (t : T α) (k : Nat) (c : α → Res) : Res := T.getK t k .fail c
theorem getO_inv {α : Type} {t : T α} {k : Nat} {c : α → Res} {r : Res} (h : getO t k c = r) (hr : r ≠ .fail) : ∃ x, T.get t k = some x ∧ c x = r := by
  unfold getO at h
  rw [T.getK_eq] at h
  exact optK_inv h hr
/-- A test, or failure. -/
noncomputable def ifK (b : Bool) (x : Res) : Res := @Bool.rec (fun _ => Res) .fail x b
theorem ifK_inv {b : Bool} {x r : Res} (h : ifK b x = r) (hr : r ≠ .fail) : b = true ∧ x = r := by
  cases b with
  | false => exact absurd h.symm hr
  | true => exact ⟨rfl, h⟩
noncomputable def iteK (b : Bool) (x y : Res) : Res := @Bool.rec (fun _ => Res) y x b
theorem iteK_inv {b : Bool} {x y r : Res} (h : iteK b x y = r) : (b = true ∧ x = r) ∨ (b = false ∧ y = r) := by
  cases b with
  | false => exact .inr ⟨rfl, h⟩
  | true => exact .inl ⟨rfl, h⟩

/-! ### Operands -/
noncomputable def envGet (env : T AV) (t : Nat) : AV := (env.at t).getD undefA
/-- What an operand is, NG package-level variables. -/
noncomputable def evalA (NG : Nat) (env : T AV) (x : Operand) : Option AV :=
  match x with
  | .tmp t => some (envGet env t)
  | .const v => constA v
  | .global g => if g < NG then some (.ptr g 0) else none
  | .func f => some (.func f [] [])
noncomputable def evalO (NG : Nat) (env : T AV) (x : Operand) (c : AV → Res) : Res :=
  @Operand.casesOn (fun _ => Res) x (fun t => T.getK env (Nat.succ t) (c undefA) c) (fun v => optK (constA v) fun a => forceV a c) (fun g => ifK (Nat.blt g NG) (c (.ptr g 0))) (fun f => c (.func f [] []))
theorem evalO_inv {NG : Nat} {env : T AV} {x : Operand} {c : AV → Res} {r : Res} (h : evalO NG env x c = r) (hr : r ≠ .fail) : ∃ v, evalA NG env x = some v ∧ c v = r := by
  cases x with
  | tmp t =>
    refine ⟨_, rfl, ?_⟩
    have h' : @Option.rec AV (fun _ => Res) (c undefA) c (env.at t) = r := by
      have h0 : T.getK env (Nat.succ t) (c undefA) c = r := h
      rw [T.getK_eq] at h0; exact h0
    unfold envGet
    cases e : env.at t with
    | none => rw [e] at h'; exact h'
    | some v => rw [e] at h'; exact h'
  | const v =>
    obtain ⟨a, e, h⟩ := optK_inv h hr
    rw [forceV_eq] at h
    exact ⟨a, e, h⟩
  | global g =>
    obtain ⟨e, h⟩ := ifK_inv h hr
    rw [bltN] at e
    exact ⟨_, by simp [evalA, e], h⟩
  | func f => exact ⟨_, rfl, h⟩

noncomputable def evalL (NG : Nat) (env : T AV) (xs : List Operand) (c : List AV → Res) : Res :=
  @List.rec Operand (fun _ => (List AV → Res) → Res) (fun c => c []) (fun x _ ih c => evalO NG env x fun v => ih fun vs => c (v :: vs)) xs c
theorem evalL_inv {NG : Nat} {env : T AV} {xs : List Operand} {c : List AV → Res} {r : Res} (h : evalL NG env xs c = r) (hr : r ≠ .fail) :
    ∃ vs, vs.length = xs.length ∧ (∀ (i : Nat) x v, xs[i]? = some x → vs[i]? = some v → evalA NG env x = some v) ∧ c vs = r := by
  induction xs generalizing c with
  | nil => exact ⟨[], rfl, fun i x v h => by simp at h, h⟩
  | cons x xs ih =>
    obtain ⟨v, e, h⟩ := evalO_inv (c := fun v => evalL NG env xs fun vs => c (v :: vs)) h hr
    obtain ⟨vs, e1, e2, h⟩ := ih h
    refine ⟨v :: vs, by simp [e1], fun i y u hy hu => ?_, h⟩
    cases i with
    | zero => simp at hy hu; subst hy; subst hu; exact e
    | succ i => exact e2 i y u (by simpa using hy) (by simpa using hu)

/-! ### Soundness of one operation -/
def live (h : AH) (b : Nat) : Prop := ∃ blk, h.at b = some blk ∧ blk ≠ .dead

structure Pre (P : Program) (D : Nat → Prop) (ρ : Ren) (h : AH) (nx : Nat) (w : World) : Prop where
  dom : ∀ b p, ρ b = some p → b < nx
  bnd : ∀ b p, ρ b = some p → p.blk < w.heap.size
  rel : ∀ b, D b → ∀ blk p, h.at b = some blk → ρ b = some p → BR ρ blk p w
  inj : ∀ b b' p p', D b → D b' → live h b → live h b' → ρ b = some p → ρ b' = some p' → p.blk = p'.blk → b = b'
  glob : ∀ g, g < P.globals.size → ∃ p, ρ g = some p ∧ p.blk = g ∧ p.base = 0
/-- The abstract side of one operation. -/
structure AF (D : Nat → Prop) (h : AH) (nx : Nat) (h' : AH) (nx' : Nat) (W : List Nat) : Prop where
  le : nx ≤ nx'
  out : ∀ b, b ∉ W → b < nx → h'.at b = h.at b
  sub : ∀ b ∈ W, D b ∨ nx ≤ b
  wl : ∀ b ∈ W, b < nx → live h b
  wlt : ∀ b ∈ W, b < nx'
  alive : ∀ b, b < nx → live h' b → live h b
  hdom : (∀ b blk, h.at b = some blk → b < nx) → ∀ b blk, h'.at b = some blk → b < nx'
structure Post (P : Program) (D : Nat → Prop) (ρ : Ren) (h : AH) (nx : Nat) (w : World) (W : List Nat) (ρ' : Ren) (h' : AH) (nx' : Nat) (w' : World) : Prop where
  ext : Ext ρ ρ'
  new : ∀ b p, ρ' b = some p → ρ b = none → nx ≤ b ∧ (w.heap.size ≤ p.blk ∨ ∃ b0 p0, b0 ∈ W ∧ ρ b0 = some p0 ∧ p0.blk = p.blk ∧ live h b0 ∧ ¬ live h' b0)
  pre : Pre P (fun b => D b ∨ nx ≤ b) ρ' h' nx' w'
  keep : ∀ β, β < w.heap.size → (∀ b p, b ∈ W → ρ b = some p → p.blk ≠ β) → w'.heap[β]? = w.heap[β]?
  size : w.heap.size ≤ w'.heap.size
  os : w'.os = w.os
  tape : w'.tape = w.tape
  output : w'.output = w.output

/-- The operation o, carried out in the frame a and the world w, leaves a value and a world of which R holds. -/
def RunsTo (P : Program) (o : Oper) (a : Act) (w : World) (R : Value → World → Prop) : Prop :=
  o.wp P a w (fun a' w' => ∃ v, a' = a.put o.dst v ∧ R v w') (fun _ _ _ => False)
theorem RunsTo.mono {P : Program} {o : Oper} {a : Act} {w : World} {R R' : Value → World → Prop} (h : RunsTo P o a w R) (g : ∀ v w', R v w' → R' v w') : RunsTo P o a w R' :=
  Oper.wp_mono (fun a' w' ⟨v, e, r⟩ => ⟨v, e, g v w' r⟩) h
theorem RunsTo.value {P : Program} {o : Oper} {a : Act} {w w' : World} {R : Value → World → Prop} {v : Value} (h : (execOp a.eval o).run P w = .ok (.value v) w') (g : R v w') : RunsTo P o a w R := by
  unfold RunsTo Oper.wp
  rw [h, Oper.upon_value]
  exact ⟨v, rfl, g⟩
theorem RunsTo.skip {P : Program} {o : Oper} {a : Act} {w w' : World} {R : Value → World → Prop} (h : (execOp a.eval o).run P w = .ok .skip w') (g : R undef w') : RunsTo P o a w R := by
  unfold RunsTo Oper.wp
  rw [h, Oper.upon_skip]
  exact ⟨undef, rfl, g⟩

/-- The operands read as the abstract frame says. -/
def OpsR (P : Program) (ρ : Ren) (env : T AV) (o : Oper) (a : Act) : Prop := ∀ x, x ∈ o.op.operands → ∀ v, evalA P.globals.size env x = some v → VR ρ v (a.eval x)
structure OpSound (P : Program) (o : Oper) (env : T AV) (D : Nat → Prop) (h : AH) (nx : Nat) (v : AV) (h' : AH) (nx' : Nat) (W : List Nat) : Prop where
  af : AF D h nx h' nx' W
  run : ∀ ρ w a, OpsR P ρ env o a → Pre P D ρ h nx w → RunsTo P o a w fun v' w' => ∃ ρ', VR ρ' v v' ∧ Post P D ρ h nx w W ρ' h' nx' w'

section
variable {P : Program} {D : Nat → Prop} {ρ : Ren} {h : AH} {nx : Nat} {w : World}
/-- Only the heap counts. -/
theorem Pre.same {w' : World} (p : Pre P D ρ h nx w) (e : w'.heap = w.heap) : Pre P D ρ h nx w' :=
  ⟨p.dom, fun b q g => by rw [e]; exact p.bnd b q g, fun b d blk q g i => (p.rel b d blk q g i).same (by rw [e]), p.inj, p.glob⟩
theorem Pre.mono {D' : Nat → Prop} (p : Pre P D ρ h nx w) (g : ∀ b, D' b → D b) : Pre P D' ρ h nx w :=
  ⟨p.dom, p.bnd, fun b d => p.rel b (g b d), fun b b' q q' d d' => p.inj b b' q q' (g b d) (g b' d'), p.glob⟩
theorem AF.refl : AF D h nx h nx [] := ⟨Nat.le_refl _, fun _ _ _ => rfl, fun _ h => (by cases h), fun _ h => (by cases h), fun _ h => (by cases h), fun _ _ h => h, fun g => g⟩
/-- Nothing but the draws has changed. -/
theorem Post.refl {w' : World} (p : Pre P D ρ h nx w) (e : w'.heap = w.heap) (e1 : w'.os = w.os) (e2 : w'.tape = w.tape) (e3 : w'.output = w.output) : Post P D ρ h nx w [] ρ h nx w' :=
  ⟨.refl _, fun b q g i => (by rw [g] at i; cases i),
   ⟨p.dom, fun b q g => by rw [e]; exact p.bnd b q g,
    fun b d blk q g i => by
      rcases d with d | d
      · exact (p.rel b d blk q g i).same (by rw [e])
      · exact absurd (p.dom b q i) (by omega),
    fun b b' q q' d d' l l' g g' i => by
      rcases d with d | d
      · rcases d' with d' | d'
        · exact p.inj b b' q q' d d' l l' g g' i
        · exact absurd (p.dom b' q' g') (by omega)
      · exact absurd (p.dom b q g) (by omega), p.glob⟩,
   fun β _ _ => by rw [e], by rw [e]; exact Nat.le_refl _, e1, e2, e3⟩
def updR (ρ : Ren) (b : Nat) (p : Pl) : Ren := fun x => if x = b then some p else ρ x
theorem updR_at (b : Nat) (p : Pl) : updR ρ b p b = some p := by simp [updR]
theorem updR_ne {b x : Nat} (p : Pl) (e : x ≠ b) : updR ρ b p x = ρ x := by simp [updR, e]
theorem Ext.upd {b : Nat} {p : Pl} (e : ρ b = none) : Ext ρ (updR ρ b p) := fun x q g => by
  by_cases i : x = b
  · subst i; rw [e] at g; cases g
  · rw [updR_ne p i]; exact g
theorem Pre.fresh (p : Pre P D ρ h nx w) : ρ nx = none := by
  cases e : ρ nx with
  | none => rfl
  | some q => exact absurd (p.dom _ _ e) (Nat.lt_irrefl _)
theorem live_put (h : AH) (b x : Nat) (blk : ABlk) : live (h.put b blk) x ↔ (x = b ∧ blk ≠ .dead) ∨ (x ≠ b ∧ live h x) := by
  unfold live
  rw [T.at_put]
  by_cases e : x = b
  · subst e; simp
  · simp [e]
/-- A new block. -/
theorem AF.new (blk : ABlk) : AF D h nx (h.put nx blk) (nx + 1) [] :=
  ⟨Nat.le_succ _, fun b _ hb => by rw [T.at_put, if_neg (by omega)], fun _ g => (by cases g), fun _ g => (by cases g), fun _ g => (by cases g), fun b hb g => by
    rcases (live_put _ _ _ _).1 g with ⟨e, _⟩ | ⟨_, l⟩
    · omega
    · exact l, fun g b blk' e => by
    rw [T.at_put] at e
    by_cases i : b = nx
    · omega
    · rw [if_neg i] at e; have := g _ _ e; omega⟩
theorem Post.alloc {w' : World} {o : Obj} {blk : ABlk} {pl : Pl} (p : Pre P D ρ h nx w) (e : w'.heap = w.heap.push o) (e1 : w'.os = w.os) (e2 : w'.tape = w.tape) (e3 : w'.output = w.output)
    (hp : pl.blk = w.heap.size) (hb : BR (updR ρ nx pl) blk pl w') : Post P D ρ h nx w [] (updR ρ nx pl) (h.put nx blk) (nx + 1) w' := by
  have hx := Ext.upd (p := pl) p.fresh
  have hold : ∀ β, β < w.heap.size → w'.heap[β]? = w.heap[β]? := fun β hβ => by rw [e, Array.getElem?_push, if_neg (by omega)]
  refine ⟨hx, fun b q g i => ?_, ⟨fun b q g => ?_, fun b q g => ?_, fun b d blk' q g i => ?_, fun b b' q q' d d' l l' g g' i => ?_, fun g hg => ?_⟩, fun β hβ _ => hold β hβ, by rw [e]; simp, e1, e2, e3⟩
  · by_cases j : b = nx
    · subst j; rw [updR_at] at g; cases g; exact ⟨Nat.le_refl _, .inl (by omega)⟩
    · rw [updR_ne _ j, i] at g; cases g
  · by_cases j : b = nx
    · omega
    · rw [updR_ne _ j] at g; have := p.dom _ _ g; omega
  · rw [e, Array.size_push]
    by_cases j : b = nx
    · subst j; rw [updR_at] at g; cases g; omega
    · rw [updR_ne _ j] at g; have := p.bnd _ _ g; omega
  · by_cases j : b = nx
    · subst j; rw [updR_at] at i; cases i
      rw [T.at_put, if_pos rfl] at g; cases g; exact hb
    · rw [updR_ne _ j] at i
      rw [T.at_put, if_neg j] at g
      have hlt := p.dom _ _ i
      have hd : D b := d.resolve_right (by omega)
      exact ((p.rel b hd blk' q g i).same (hold _ (p.bnd _ _ i))).ext hx
  · have key : ∀ {b b' : Nat} {q q' : Pl}, b = nx → b' ≠ nx → updR ρ nx pl b = some q → updR ρ nx pl b' = some q' → q.blk = q'.blk → False := fun {b b' q q'} j j' g g' i => by
      subst j; rw [updR_at] at g; cases g
      rw [updR_ne _ j'] at g'
      have := p.bnd _ _ g'
      omega
    by_cases j : b = nx
    · by_cases j' : b' = nx
      · omega
      · exact (key j j' g g' i).elim
    · by_cases j' : b' = nx
      · exact (key j' j g' g i.symm).elim
      · rw [updR_ne _ j] at g; rw [updR_ne _ j'] at g'
        have h1 := p.dom _ _ g; have h2 := p.dom _ _ g'
        rcases (live_put _ _ _ _).1 l with ⟨x, _⟩ | ⟨_, l⟩
        · exact absurd x j
        rcases (live_put _ _ _ _).1 l' with ⟨x, _⟩ | ⟨_, l'⟩
        · exact absurd x j'
        exact p.inj b b' q q' (d.resolve_right (by omega)) (d'.resolve_right (by omega)) l l' g g' i
  · obtain ⟨q, i, k⟩ := p.glob g hg
    exact ⟨q, hx _ _ i, k⟩
/-- A block is written. -/
theorem AF.upd {b : Nat} {blk : ABlk} (hb : D b) (hn : b < nx) (hl : live h b) : AF D h nx (h.put b blk) nx [b] :=
  ⟨Nat.le_refl _, fun x hx _ => by
    rw [T.at_put, if_neg]
    intro e; subst e; exact hx (by simp), fun x hx => by simp at hx; subst hx; exact .inl hb, fun x hx _ => by simp at hx; subst hx; exact hl, fun x hx => by simp at hx; subst hx; exact hn, fun x hx g => by
    rcases (live_put _ _ _ _).1 g with ⟨e, _⟩ | ⟨_, l⟩
    · subst e; exact hl
    · exact l, fun g x blk' e => by
    rw [T.at_put] at e
    by_cases i : x = b
    · omega
    · rw [if_neg i] at e; exact g _ _ e⟩
theorem Post.upd {w' : World} {b : Nat} {blk : ABlk} {pl : Pl} (p : Pre P D ρ h nx w) (hb : D b) (hl : live h b) (hp : ρ b = some pl)
    (e : ∀ β, β ≠ pl.blk → w'.heap[β]? = w.heap[β]?) (es : w'.heap.size = w.heap.size) (e1 : w'.os = w.os) (e2 : w'.tape = w.tape) (e3 : w'.output = w.output)
    (hB : BR ρ blk pl w') : Post P D ρ h nx w [b] ρ (h.put b blk) nx w' := by
  refine ⟨.refl _, fun x q g i => (by rw [g] at i; cases i), ⟨p.dom, fun x q g => by rw [es]; exact p.bnd x q g, fun x d blk' q g i => ?_, fun x x' q q' d d' l l' g g' i => ?_, p.glob⟩,
    fun β hβ hW => e β (fun i => hW b pl (by simp) hp i.symm), by rw [es]; exact Nat.le_refl _, e1, e2, e3⟩
  · have hd : D x := d.resolve_right (by have := p.dom _ _ i; omega)
    by_cases j : x = b
    · subst j
      rw [T.at_put, if_pos rfl] at g; cases g
      rw [hp] at i; cases i; exact hB
    · rw [T.at_put, if_neg j] at g
      by_cases hdd : blk' = .dead
      · subst hdd; trivial
      · refine (p.rel x hd blk' q g i).same (e _ fun k => j ?_)
        exact p.inj x b q pl hd hb ⟨_, g, hdd⟩ hl i hp k
  · have l1 : live h x := by
      rcases (live_put _ _ _ _).1 l with ⟨e, _⟩ | ⟨_, l⟩
      · subst e; exact hl
      · exact l
    have l2 : live h x' := by
      rcases (live_put _ _ _ _).1 l' with ⟨e, _⟩ | ⟨_, l⟩
      · subst e; exact hl
      · exact l
    exact p.inj x x' q q' (d.resolve_right (by have := p.dom _ _ g; omega)) (d'.resolve_right (by have := p.dom _ _ g'; omega)) l1 l2 g g' i
end
end Go.CE
