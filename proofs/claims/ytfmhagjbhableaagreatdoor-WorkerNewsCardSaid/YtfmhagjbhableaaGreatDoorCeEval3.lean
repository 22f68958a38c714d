/-
  CE, part 20: calls of every kind; the operations of a region, one after the other.
-/
import Derived.Test.YtfmhagjbhableaaGreatDoorCeEval2
namespace Go.CE
open Go
set_option linter.unusedVariables false
set_option linter.unusedSimpArgs false

noncomputable def asFunc (v : AV) (c : FuncId → List AV → List AV → Res) : Res :=
  @AV.casesOn (fun _ => Res) v (fun _ => .fail) (fun _ _ => .fail) (fun _ _ => .fail) (fun _ _ => .fail) .fail (fun _ _ _ _ _ => .fail) .fail (fun _ => .fail) .fail c .fail (fun _ _ => .fail) .fail (fun _ => .fail) (fun _ => .fail)
noncomputable def asIfc (v : AV) (c : TypeId → AV → Res) : Res :=
  @AV.casesOn (fun _ => Res) v (fun _ => .fail) (fun _ _ => .fail) (fun _ _ => .fail) (fun _ _ => .fail) .fail (fun _ _ _ _ _ => .fail) .fail (fun _ => .fail) .fail (fun _ _ _ => .fail) .fail c .fail (fun _ => .fail) (fun _ => .fail)
noncomputable def appL (a b : List AV) : List AV := @List.rec AV (fun _ => List AV) b (fun x _ ih => x :: ih) a
theorem appL_eq (a b : List AV) : appL a b = a ++ b := by
  induction a with
  | nil => rfl
  | cons x xs ih => show x :: appL xs b = _; rw [ih]; rfl
section
variable {r : Res}
theorem asFunc_inv {v : AV} {c : FuncId → List AV → List AV → Res} (e : asFunc v c = r) (hr : r ≠ .fail) : ∃ f a b, v = .func f a b ∧ c f a b = r := by
  cases v <;> first | exact ⟨_, _, _, rfl, e⟩ | exact absurd e.symm hr
theorem asIfc_inv {v : AV} {c : TypeId → AV → Res} (e : asIfc v c = r) (hr : r ≠ .fail) : ∃ t u, v = .iface t u ∧ c t u = r := by
  cases v <;> first | exact ⟨_, _, rfl, e⟩ | exact absurd e.symm hr
end

/-- The method of a type, where the receiver is handed as it is. -/
def methF (P : Program) (t : TypeId) (name : String) : Option FuncId :=
  match P.info? t with
  | none => none
  | some i => match i.methods.find? (·.name == name) with
    | none => none
    | some m => match m.func with
      | none => none
      | some (f, ptr) => match m.path.toList with
        | [] => match P.underlying t with
          | some (.pointer _) => if ptr then some f else none
          | none => none
          | _ => if ptr then none else some f
        | _ => none
theorem methF_inv {P : Program} {t : TypeId} {name : String} {f : FuncId} (h : methF P t name = some f) (v : Value) (w : World) (n : Nat) : (method (n + 1) t v name).run P w = .ok (f, v) w := by
  unfold methF at h
  split at h
  · cases h
  · rename_i i hi
    split at h
    · cases h
    · rename_i m hm
      split at h
      · cases h
      · rename_i f' ptr hf
        split at h
        · rename_i hp
          have he : m.path.isEmpty = true := by
            rw [Array.isEmpty_iff_size_eq_zero, ← Array.length_toList, hp]; rfl
          split at h
          · rename_i el hu
            split at h
            · cases h
              rename_i hptr
              subst hptr
              simp [method, run_typeInfo' hi, hm, hp, follow, hf, receiverAt, run_underlying' hu, Place.get]
            · cases h
          · cases h
          · rename_i hno hu
            split at h
            · cases h
            · rename_i hptr
              cases h
              obtain rfl : ptr = false := by simpa using hptr
              cases hu' : P.underlying t with
              | none => exact absurd hu' hu
              | some d =>
                cases d <;> first
                  | exact absurd hu' (hno _)
                  | simp [method, run_typeInfo' hi, hm, hp, follow, hf, receiverAt, run_underlying' hu', Place.get]
        · cases h

noncomputable def doCall (P : Program) (cf : Cf) (ih : E) (c : Call) (env : T AV) (h : AH) (nx : Nat) (lg : List Nat) (k : KV) : Res :=
  evalL P.globals.size env c.args.toList fun args =>
   @Callee.casesOn (fun _ => Res) c.callee
    (fun x => evalO P.globals.size env x fun v => asFunc v fun f a b => goF P cf ih f (appL (appL a args) b) h nx lg k)
    (fun x name => evalO P.globals.size env x fun v => asIfc v fun t u => optK (methF P t name) fun f => goF P cf ih f (u :: args) h nx lg k)
    (fun b => doBuiltin P b c.argTypes args h nx lg k)
section
variable {P : Program} {cf : Cf} {ih : E} {r : Res} {o : Oper} {env : T AV} {D : Nat → Prop} {h : AH} {nx : Nat} {lg : List Nat} {k : KV}
theorem RunsTo.go {a : Act} {w : World} {f : FuncId} {vals : Array Value} {R : Value → World → Prop} (e : (execOp a.eval o).run P w = (callFunc f vals).run P w)
    (H : (∃ v', (callFunc f vals).run P w = .ok (.value v') w ∧ R v' w) ∨ ((callFunc f vals).run P w = .ok (.enter f vals) w ∧ CallsR P f vals w R)) : RunsTo P o a w R := by
  rcases H with ⟨v', h1, h2⟩ | ⟨h1, h2⟩
  · exact RunsTo.value (e.trans h1) h2
  · unfold RunsTo Oper.wp
    rw [e, h1, Oper.upon_enter]
    refine Calls.mono h2 ?_
    rintro e w' ⟨v, rfl, hR⟩
    exact ⟨v, rfl, hR⟩
theorem doCall_did (hP : PrimOK P cf) (hN : NodOK P cf) (hM : NamesOK P) (hih : SoundE P ih) {c : Call} (ho : o.op = .call c) (hd : HD h nx) (hD : ∀ b, FootIn P o.op env b → D b) (hDa : (∀ b, c.callee ≠ .builtin b) → ∀ b, D b)
    (e : doCall P cf ih c env h nx lg k = r) (hr : r ≠ .fail) : Did P o env D h nx lg k r := by
  replace e := evalL_inv e hr; obtain ⟨vs, hl, hv, e⟩ := e
  cases hc : c.callee with
  | builtin b =>
    rw [hc] at e
    exact doBuiltin_did ho hc hl hv hD hd e hr
  | value x =>
    rw [hc] at e
    have hDD : D = all' := funext fun b => propext ⟨fun _ => trivial, fun _ => hDa (by simp [hc]) b⟩
    subst hDD
    replace e := evalO_inv e hr; obtain ⟨v, hx, e⟩ := e
    replace e := asFunc_inv e hr; obtain ⟨f, a1, b1, rfl, e⟩ := e
    obtain ⟨v, h', nx', W, e1, haf, H⟩ := goF_inv hP hN hM hih hd e hr
    refine ⟨v, h', nx', W, e1, haf, fun ρ w a hops hp => ?_⟩
    obtain ⟨a', b', q1, q2, q3⟩ := hops x (by simp [ho, Op.operands, Call.operands, hc]) _ hx
    refine RunsTo.go (f := f) (vals := a' ++ c.args.map a.eval ++ b') ?_ (H ρ w _ hp ?_)
    · simp [execOp, ho, resolve, hc, q1, Deferred.ofValue, invoke]
    · rw [appL_eq, appL_eq]
      simp only [Array.toList_append, Array.toList_map]
      exact (q2.append (call_args ho hl hv hops)).append q3
  | invoke x name =>
    rw [hc] at e
    have hDD : D = all' := funext fun b => propext ⟨fun _ => trivial, fun _ => hDa (by simp [hc]) b⟩
    subst hDD
    replace e := evalO_inv e hr; obtain ⟨v, hx, e⟩ := e
    replace e := asIfc_inv e hr; obtain ⟨t, u, rfl, e⟩ := e
    replace e := optK_inv e hr; obtain ⟨f, hf, e⟩ := e
    obtain ⟨v, h', nx', W, e1, haf, H⟩ := goF_inv hP hN hM hih hd e hr
    refine ⟨v, h', nx', W, e1, haf, fun ρ w a hops hp => ?_⟩
    obtain ⟨x', q1, q2⟩ := hops x (by simp [ho, Op.operands, Call.operands, hc]) _ hx
    refine RunsTo.go (f := f) (vals := #[x'] ++ c.args.map a.eval) ?_ (H ρ w _ hp ?_)
    · have hm := methF_inv hf x' w (P.types.size + Made.depth - 1)
      have hpos : P.types.size + Made.depth - 1 + 1 = P.types.size + Made.depth := by
        have : 0 < Made.depth := by decide
        omega
      rw [hpos] at hm
      have hg : (#[Value.iface t x'] ++ Array.map a.eval c.args)[0]? = some (Value.iface t x') := by simp [Array.getElem?_append]
      simp only [execOp, ho, resolve, hc, q1, invoke, Sem.run_bind, Sem.run_pure, Result.andThen_ok, hg]
      have hx2 : (#[Value.iface t x'] ++ Array.map a.eval c.args).extract 1 (#[Value.iface t x'] ++ Array.map a.eval c.args).size = Array.map a.eval c.args := by
        apply Array.ext'
        simp [Array.toList_extract]
        exact List.take_of_length_le (by simp)
      rw [hx2]
      simp [callMethod, hm]
    · simp only [Array.toList_append, Array.toList_map]
      exact VRs.cons q2 (call_args ho hl hv hops)

/-! ### Every operation -/
abbrev KD := FuncId → List AV → Res
noncomputable def doDefer (P : Program) (c : Call) (env : T AV) (kd : KD) : Res :=
  evalL P.globals.size env c.args.toList fun args => @Callee.casesOn (fun _ => Res) c.callee (fun x => evalO P.globals.size env x fun v => asFunc v fun f a b => kd f (appL (appL a args) b)) (fun _ _ => .fail) (fun _ => .fail)
abbrev OpG := T AV → AH → Nat → List Nat → KV → KD → Res
noncomputable def failG : OpG := fun _ _ _ _ _ _ => .fail
noncomputable def doAny (P : Program) (cf : Cf) (ih : E) (op : Op) : OpG :=
  @Op.casesOn (fun _ => OpG) op (fun x e h n l k _ => doMove P x e h n l k) (fun x e h n l k _ => doMove P x e h n l k) (fun x y z e h n l k _ => doPick P x y z e h n l k) (fun x e h n l k _ => doAlloc P x e h n l k) (fun x y e h n l k _ => doBox P x y e h n l k)
   (fun x y e h n l k _ => doBuild P x y e h n l k) (fun x y z e h n l k _ => doBuildSlice P x y z e h n l k) (fun x y z u e h n l k _ => doMapUpdate P x y z u e h n l k) (fun x y e h n l k _ => doLoad P x y e h n l k) (fun x y z e h n l k _ => doStore P x y z e h n l k)
   (fun _ => failG) (fun _ => failG) (fun x e h n l k _ => doNilCheck P x e h n l k) (fun b t x y _ e h n l k _ => doBin P b t x y e h n l k) (fun u _ x e h n l k _ => doUn P u x e h n l k) (fun x y z e h n l k _ => doConvert P x y z e h n l k) (fun _ _ => failG)
   (fun x y e h n l k _ => doMakeIface P x y e h n l k) (fun x y z e h n l k _ => doMakeFunc P x y z e h n l k) (fun x y e h n l k _ => doMakeMap P x y e h n l k) (fun _ _ => failG) (fun x y z e h n l k _ => doMakeSlice P x y z e h n l k) (fun x y z u v e h n l k _ => doSlice P x y z u v e h n l k)
   (fun x y z e h n l k _ => doFieldAddr P x y z e h n l k) (fun x y z e h n l k _ => doField P x y z e h n l k) (fun x y z e h n l k _ => doIndexAddr P x y z e h n l k) (fun x y z e h n l k _ => doIndex P x y z e h n l k) (fun x y z u e h n l k _ => doLookup P x y z u e h n l k) (fun x y z u e h n l k _ => doMapUpdate P x y z u e h n l k)
   (fun _ _ _ => failG) (fun _ _ _ _ => failG) (fun x y e h n l k _ => doRange P x y e h n l k) (fun x y e h n l k _ => doNext P x y e h n l k) (fun _ => failG) (fun x xt t ok e h n l k _ => doTypeAssert P x xt t ok e h n l k) (fun x y e h n l k _ => doExtract P x y e h n l k)
   (fun c e h n l k _ => doCall P cf ih c e h n l k) (fun _ => failG) (fun c e _ _ _ _ kd => doDefer P c e kd) (fun _ => failG) (fun _ _ => failG) (fun _ _ _ => failG) (fun _ _ => failG)
/-- Which operations look at all of memory. -/
def wide : Op → Bool
  | .next _ _ => true
  | .call c => match c.callee with
    | .builtin _ => false
    | _ => true
  | _ => false
theorem doAny_did (hP : PrimOK P cf) (hN : NodOK P cf) (hM : NamesOK P) (hih : SoundE P ih) {kd : KD} (hd : HD h nx) (hD : ∀ b, FootIn P o.op env b → D b) (hDa : wide o.op = true → ∀ b, D b) (hnd : ∀ c, o.op ≠ .defer c)
    (e : doAny P cf ih o.op env h nx lg k kd = r) (hr : r ≠ .fail) : Did P o env D h nx lg k r := by
  have main : (∀ c, o.op ≠ .call c) → (∀ x y, o.op ≠ .next x y) → doOp P o.op env h nx lg k = r := by
    intro h1 h2
    revert e hnd h1 h2
    generalize o.op = op
    intro hnd e h1 h2
    cases op <;> first
      | exact absurd rfl (h1 _)
      | exact absurd rfl (h2 _ _)
      | exact absurd rfl (hnd _)
      | exact e
  by_cases h1 : ∃ c, o.op = .call c
  · obtain ⟨c, hc⟩ := h1
    rw [hc] at e
    refine doCall_did hP hN hM hih hc hd hD (fun hb => hDa ?_) e hr
    rw [hc]
    unfold wide
    cases hcc : c.callee with
    | builtin b => exact absurd hcc (hb b)
    | value => simp [hcc]
    | invoke => simp [hcc]
  by_cases h2 : ∃ x y, o.op = .next x y
  · obtain ⟨x, y, hc⟩ := h2
    rw [hc] at e
    exact doNext_did hc (hDa (by rw [hc]; rfl)) e hr hd
  · exact doOp_did hD hd (main (fun c hc => h1 ⟨c, hc⟩) (fun x y hc => h2 ⟨x, y, hc⟩)) hr
/-- A defer. -/
theorem doDefer_inv {c : Call} {kd : KD} (e : doDefer P c env kd = r) (hr : r ≠ .fail) (ho : o.op = .defer c) :
    ∃ f l, kd f l = r ∧ ∀ ρ w a, OpsR P ρ env o a → ∃ d : Deferred, (execOp a.eval o).run P w = .ok (.defer d) w ∧ ∃ cap, d.target = .fn (.func f) cap ∧ (d.args ++ cap).size = l.length := by
  replace e := evalL_inv e hr; obtain ⟨vs, hl, hv, e⟩ := e
  cases hc : c.callee with
  | builtin b => rw [hc] at e; exact absurd e.symm hr
  | invoke x name => rw [hc] at e; exact absurd e.symm hr
  | value x =>
    rw [hc] at e
    replace e := evalO_inv e hr; obtain ⟨v, hx, e⟩ := e
    replace e := asFunc_inv e hr; obtain ⟨f, a1, b1, rfl, e⟩ := e
    refine ⟨f, _, e, fun ρ w a hops => ?_⟩
    obtain ⟨a', b', q1, q2, q3⟩ := hops x (by simp [ho, Op.operands, Call.operands, hc]) _ hx
    refine ⟨{ target := .fn (.func f) b', args := a' ++ c.args.map a.eval }, by simp [execOp, ho, resolve, hc, q1, Deferred.ofValue], b', rfl, ?_⟩
    simp [appL_eq, q2.length, q3.length, hl]

/-! ### In a row -/
abbrev KO := T AV → Ds → AH → Nat → List Nat → Res
noncomputable def opsK (P : Program) (cf : Cf) (ih : E) (all : List Oper) (nt : Nat) (l : List Oper) (env : T AV) (ds : Ds) (h : AH) (nx : Nat) (lg : List Nat) (k : KO) : Res :=
  @List.rec Oper (fun _ => T AV → Ds → AH → Nat → List Nat → Res) k
   (fun o _ ih' env ds h nx lg => wantK all env nt o.guard
      (doAny P cf ih o.op env h nx lg (fun v h nx lg => putK o.dst v env nt fun env => ih' env ds h nx lg) (fun f args => putK o.dst (.tuple []) env nt fun env => ih' env ((f, args) :: ds) h nx lg))
      (putK o.dst (.tuple []) env nt fun env => ih' env ds h nx lg)) l env ds h nx lg
theorem ER.setDefers {ρ : Ren} {nt : Nat} {ds : Ds} {a : Act} {f : FuncId} {args : List AV} {d : Deferred} (hE : ER ρ env nt ds a) (hd : ∃ cap, d.target = .fn (.func f) cap ∧ (d.args ++ cap).size = args.length) : ER ρ env nt ((f, args) :: ds) { a with defers := d :: a.defers } :=
  ⟨hE.size, hE.tmps, ⟨d, a.defers, rfl, hd, hE.defs⟩⟩
theorem opsK_inv (hP : PrimOK P cf) (hN : NodOK P cf) (hM : NamesOK P) (hih : SoundE P ih) {all : List Oper} {nt : Nat} : ∀ {l : List Oper} {env : T AV} {ds : Ds} {h : AH} {nx : Nat} {lg : List Nat} {k : KO}, HD h nx → opsK P cf ih all nt l env ds h nx lg k = r → r ≠ .fail →
    ∃ env' ds' h' nx' W, k env' ds' h' nx' (W ++ lg) = r ∧ AF all' h nx h' nx' W ∧ ∀ ρ w a (Q : Exit → Act → World → Prop), ER ρ env nt ds a → Pre P all' ρ h nx w →
      (∀ a' w' ρ', ER ρ' env' nt ds' a' → Post P all' ρ h nx w W ρ' h' nx' w' → Q .normal a' w') → wpList P all.toArray Q l a w
  | [], env, ds, h, nx, lg, k, hd, e, hr => ⟨env, ds, h, nx, [], e, .refl, fun ρ w a Q hE hp H => H a w ρ hE (.refl hp rfl rfl rfl rfl)⟩
  | o :: l, env, ds, h, nx, lg, k, hd, e, hr => by
    have e' : wantK all env nt o.guard
      (doAny P cf ih o.op env h nx lg (fun v h nx lg => putK o.dst v env nt fun env => opsK P cf ih all nt l env ds h nx lg k) (fun f args => putK o.dst (.tuple []) env nt fun env => opsK P cf ih all nt l env ((f, args) :: ds) h nx lg k))
      (putK o.dst (.tuple []) env nt fun env => opsK P cf ih all nt l env ds h nx lg k) = r := e
    obtain ⟨t, e1, ht⟩ := wantK_inv e' hr
    cases t with
    | false =>
      simp only [Bool.false_eq_true, if_false] at e1
      obtain ⟨env1, e2, hput⟩ := putK_inv e1 hr
      obtain ⟨env', ds', h', nx', W, e3, haf, H⟩ := opsK_inv hP hN hM hih hd e2 hr
      refine ⟨env', ds', h', nx', W, e3, haf, fun ρ w a Q hE hp HQ => ?_⟩
      unfold wpList
      rw [if_neg (by rw [ht ρ a o rfl hE.size fun _ _ t _ _ => hE.tmps t]; simp)]
      exact H ρ w _ Q (hput ρ ds a undef hE ⟨#[], rfl, rfl⟩) hp HQ
    | true =>
      simp only [if_true] at e1
      by_cases hdef : ∃ c, o.op = .defer c
      · obtain ⟨c, hc⟩ := hdef
        rw [hc] at e1
        have e1' : doDefer P c env (fun f args => putK o.dst (.tuple []) env nt fun env => opsK P cf ih all nt l env ((f, args) :: ds) h nx lg k) = r := e1
        obtain ⟨f, args, e2, Hd⟩ := doDefer_inv (o := o) e1' hr hc
        obtain ⟨env1, e3, hput⟩ := putK_inv e2 hr
        obtain ⟨env', ds', h', nx', W, e4, haf, H⟩ := opsK_inv hP hN hM hih hd e3 hr
        refine ⟨env', ds', h', nx', W, e4, haf, fun ρ w a Q hE hp HQ => ?_⟩
        unfold wpList
        rw [if_pos (ht ρ a o rfl hE.size fun _ _ t _ _ => hE.tmps t)]
        refine .inl ?_
        obtain ⟨d, k1, k2⟩ := Hd ρ w a (hE.ops hp o)
        unfold Oper.wp
        rw [k1, Oper.upon_defer]
        exact H ρ w _ Q (hput ρ _ _ undef (hE.setDefers k2) ⟨#[], rfl, rfl⟩) hp HQ
      · obtain ⟨v, h1, nx1, W1, e2, hS⟩ := doAny_did (o := o) (D := all') hP hN hM hih hd (fun _ _ => trivial) (fun _ _ => trivial) (fun c hc => hdef ⟨c, hc⟩) e1 hr
        obtain ⟨env1, e3, hput⟩ := putK_inv e2 hr
        obtain ⟨env', ds', h', nx', W, e4, haf, H⟩ := opsK_inv hP hN hM hih (hS.af.hdom hd) e3 hr
        refine ⟨env', ds', h', nx', W ++ W1, by rw [List.append_assoc]; exact e4, hS.af.trans haf, fun ρ w a Q hE hp HQ => ?_⟩
        unfold wpList
        rw [if_pos (ht ρ a o rfl hE.size fun _ _ t _ _ => hE.tmps t)]
        refine .inl (Oper.wp_mono ?_ (Oper.wp_exits (hS.run ρ w a (hE.ops hp o) hp)))
        rintro a1 w1 ⟨v1, rfl, ρ1, hv1, hpost⟩
        refine H ρ1 w1 _ Q (hput ρ1 ds _ v1 (hE.ext hpost.ext) hv1) hpost.toPre fun a' w' ρ' hE' hpost' => ?_
        exact HQ a' w' ρ' hE' (Post.trans hp hS.af haf hpost hpost')
end
end Go.CE
