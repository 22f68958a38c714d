/-
  CE, part 24: the evaluator of code, and that it is sound.
-/
import Derived.Test.YtfmhagjbhableaaGreatDoorCeDraw3
import Derived.Scope
namespace Go.CE
open Go
set_option linter.unusedVariables false
set_option linter.unusedSimpArgs false

noncomputable def onX (x : X) (n : Res) (e : Nat → Res) (t : Res) : Res := @X.casesOn (fun _ => Res) x n e t
noncomputable def seqC (ih : E) (b : Code) (nt : Nat) (k : KC) : KC := fun x env ds h nx lg => onX x (ih b env ds nt h nx lg k) (fun i => k (.exit i) env ds h nx lg) (k .ret env ds h nx lg)
noncomputable def blockC (id : Nat) (k : KC) : KC := fun x env ds h nx lg => onX x (k .normal env ds h nx lg) (fun i => @Bool.rec (fun _ => Res) (k (.exit i) env ds h nx lg) (k .normal env ds h nx lg) (Nat.beq i id)) (k .ret env ds h nx lg)
noncomputable def loopK (ih : E) (c : Code) (nt : Nat) (k : KC) (n : Nat) (env : T AV) (ds : Ds) (h : AH) (nx : Nat) (lg : List Nat) : Res :=
  @Nat.rec (fun _ => T AV → Ds → AH → Nat → List Nat → Res) (fun _ _ _ _ _ => .fail)
    (fun _ lp env ds h nx lg => ih c env ds nt h nx lg fun x env ds h nx lg => onX x (lp env ds h nx lg) (fun i => k (.exit i) env ds h nx lg) (k .ret env ds h nx lg)) n env ds h nx lg
noncomputable def codeK (P : Program) (cf : Cf) (n : Nat) (ih : E) (c : Code) (env : T AV) (ds : Ds) (nt : Nat) (h : AH) (nx : Nat) (lg : List Nat) (k : KC) : Res :=
  @Code.casesOn (fun _ => Res) c (k .normal env ds h nx lg)
    (fun _ ops draw => @Bool.rec (fun _ => Res) (opsK P cf ih ops.toList nt ops.toList env ds h nx lg (k .normal)) (doDraw P cf ih ops env ds nt h nx lg k) draw)
    (fun a b => ih a env ds nt h nx lg (seqC ih b nt k))
    (fun x a b => evalO P.globals.size env x fun v => asBool v fun t => @Bool.rec (fun _ => Res) (ih b env ds nt h nx lg k) (ih a env ds nt h nx lg k) t)
    (fun id c => ih c env ds nt h nx lg (blockC id k))
    (fun c => loopK ih c nt k n env ds h nx lg)
    (fun _ _ _ _ => .fail)
    (fun id => k (.exit id) env ds h nx lg)
    (fun c => ih c env ds nt h nx lg k)
    (fun _ => k .normal env ds h nx lg)
    (fun _ => .fail)
    (k .ret env ds h nx lg)
    (fun _ => .fail)
noncomputable def run (P : Program) (cf : Cf) (n : Nat) : E := @Nat.rec (fun _ => E) (fun _ _ _ _ _ _ _ _ => .fail) (fun n ih => codeK P cf n ih) n

section
variable {P : Program} {cf : Cf} {ih : E} {r : Res}
theorem onX_normal {n t : Res} {e : Nat → Res} : onX .normal n e t = n := rfl
abbrev PostC (P : Program) (ρ : Ren) (h : AH) (nx : Nat) (w : World) (x : X) (env' : T AV) (nt : Nat) (ds' : Ds) (h' : AH) (nx' : Nat) (W : List Nat) : Exit → Act → World → Prop :=
  fun e a' w' => e = XE x ∧ ∃ ρ', ER ρ' env' nt ds' a' ∧ Post P all' ρ h nx w W ρ' h' nx' w'
theorem PostC.trans {ρ ρ1 : Ren} {h h1 h' : AH} {nx nx1 nx' nt : Nat} {w w1 : World} {x : X} {env' : T AV} {ds' : Ds} {W1 W2 : List Nat} (hp : Pre P all' ρ h nx w) (a1 : AF all' h nx h1 nx1 W1) (a2 : AF all' h1 nx1 h' nx' W2) (p1 : Post P all' ρ h nx w W1 ρ1 h1 nx1 w1) :
    ∀ e a' w', PostC P ρ1 h1 nx1 w1 x env' nt ds' h' nx' W2 e a' w' → PostC P ρ h nx w x env' nt ds' h' nx' (W2 ++ W1) e a' w' :=
  fun e a' w' ⟨he, ρ', hE, h2⟩ => ⟨he, ρ', hE, Post.trans hp a1 a2 p1 h2⟩
/-- The loop stands before its body once more. -/
def LoopW (P : Program) (c : Code) (Q : Exit → Act → World → Prop) (a : Act) (w : World) : Prop :=
  ∀ (b : Frame) (k : List Item) (cs : List Frame), ∃ e a' w', Q e a' w' ∧ Arrives P (lone (b.at a (.code c :: .inLoop c :: k)) cs w) b k cs e a' w'
theorem LoopW.wp {c : Code} {Q : Exit → Act → World → Prop} {a : Act} {w : World} (h : LoopW P c Q a w) : (Code.loop c).wp P Q a w := fun b k cs =>
  let ⟨e, a', w', hq, harr⟩ := h b k cs
  ⟨e, a', w', hq, .of_steps (.one step_loop) harr⟩
theorem LoopW.round {c : Code} {Q : Exit → Act → World → Prop} {a : Act} {w : World} (h : c.wp P (Exit.then (LoopW P c Q) Q) a w) : LoopW P c Q a w := by
  intro b k cs
  obtain ⟨e, a₁, w₁, hq, harr⟩ := h b (.inLoop c :: k) cs
  cases e with
  | normal =>
    obtain ⟨e₂, a₂, w₂, hq₂, harr₂⟩ := hq b k cs
    exact ⟨e₂, a₂, w₂, hq₂, .of_steps (Steps.trans harr (.one step_inLoop)) harr₂⟩
  | exit id => exact ⟨_, a₁, w₁, hq, .pass (x := .inLoop c) rfl (fun _ _ => .inl (by simp)) harr⟩
  | goto l => exact ⟨_, a₁, w₁, hq, .pass (x := .inLoop c) rfl (fun _ _ => .inl (by simp)) harr⟩
  | ret => exact ⟨_, a₁, w₁, hq, .pass (x := .inLoop c) rfl (fun _ _ => .inl (by simp)) harr⟩
  | panic ch => exact ⟨_, a₁, w₁, hq, .pass (x := .inLoop c) rfl (fun _ _ => .inl (by simp)) harr⟩
  | outgrown => exact ⟨_, a₁, w₁, hq, .pass (x := .inLoop c) rfl (fun _ _ => .inl (by simp)) harr⟩
theorem loopK_inv (hih : SoundE P ih) {c : Code} {nt : Nat} {k : KC} : ∀ {n : Nat} {env : T AV} {ds : Ds} {h : AH} {nx : Nat} {lg : List Nat}, HD h nx → loopK ih c nt k n env ds h nx lg = r → r ≠ .fail →
    ∃ x env' ds' h' nx' W, k x env' ds' h' nx' (W ++ lg) = r ∧ AF all' h nx h' nx' W ∧ ∀ ρ w a, ER ρ env nt ds a → Pre P all' ρ h nx w → LoopW P c (PostC P ρ h nx w x env' nt ds' h' nx' W) a w
  | 0, env, ds, h, nx, lg, hd, e, hr => absurd e.symm hr
  | n + 1, env, ds, h, nx, lg, hd, e, hr => by
    have e' : (ih c env ds nt h nx lg fun x env ds h nx lg => onX x (loopK ih c nt k n env ds h nx lg) (fun i => k (.exit i) env ds h nx lg) (k .ret env ds h nx lg)) = r := e
    obtain ⟨x, env1, ds1, h1, nx1, W1, e1, hS⟩ := hih _ _ _ _ _ _ _ _ _ hd e' hr
    cases x with
    | normal =>
      obtain ⟨x, env', ds', h', nx', W, e2, haf, H⟩ := loopK_inv hih (hS.af.hdom hd) e1 hr
      refine ⟨x, env', ds', h', nx', W ++ W1, by rw [List.append_assoc]; exact e2, hS.af.trans haf, fun ρ w a hE hp => LoopW.round (wp_mono (hS.run ρ w a hE hp) ?_)⟩
      rintro ex a1 w1 ⟨rfl, ρ1, hE1, hpost⟩
      intro b k cs
      obtain ⟨e, a', w', hq, harr⟩ := H ρ1 w1 a1 hE1 hpost.toPre b k cs
      exact ⟨e, a', w', PostC.trans hp hS.af haf hpost e a' w' hq, harr⟩
    | exit i =>
      refine ⟨.exit i, env1, ds1, h1, nx1, W1, e1, hS.af, fun ρ w a hE hp => LoopW.round (wp_mono (hS.run ρ w a hE hp) ?_)⟩
      rintro ex a1 w1 ⟨rfl, hq⟩
      exact ⟨rfl, hq⟩
    | ret =>
      refine ⟨.ret, env1, ds1, h1, nx1, W1, e1, hS.af, fun ρ w a hE hp => LoopW.round (wp_mono (hS.run ρ w a hE hp) ?_)⟩
      rintro ex a1 w1 ⟨rfl, hq⟩
      exact ⟨rfl, hq⟩
theorem codeK_inv (hP : PrimOK P cf) (hN : NodOK P cf) (hM : NamesOK P) (hm : P.follows .mixedOrders = true) (hih : SoundE P ih) (n : Nat) : SoundE P (codeK P cf n ih) := by
  intro c env ds nt h nx lg k r hd e hr
  cases c with
  | skip => exact ⟨.normal, env, ds, h, nx, [], e, .refl, fun ρ w a hE hp => wp_skip ⟨rfl, ρ, hE, .refl hp rfl rfl rfl rfl⟩⟩
  | region id ops draw =>
    cases draw with
    | false =>
      have e' : opsK P cf ih ops.toList nt ops.toList env ds h nx lg (k .normal) = r := e
      obtain ⟨env', ds', h', nx', W, e1, haf, H⟩ := opsK_inv hP hN hM hih hd e' hr
      refine ⟨.normal, env', ds', h', nx', W, e1, haf, fun ρ w a hE hp => wp_region_list ?_⟩
      have := H ρ w a (PostC P ρ h nx w .normal env' nt ds' h' nx' W) hE hp fun a' w' ρ' hE' hpost => ⟨rfl, ρ', hE', hpost⟩
      rw [Array.toArray_toList] at this
      exact this
    | true => exact doDraw_inv hP hN hM hm hih hd e hr
  | seq x y =>
    have e' : ih x env ds nt h nx lg (seqC ih y nt k) = r := e
    obtain ⟨x1, env1, ds1, h1, nx1, W1, e1, hS⟩ := hih _ _ _ _ _ _ _ _ _ hd e' hr
    cases x1 with
    | normal =>
      obtain ⟨x2, env', ds', h', nx', W, e2, hS2⟩ := hih _ _ _ _ _ _ _ _ _ (hS.af.hdom hd) e1 hr
      refine ⟨x2, env', ds', h', nx', W ++ W1, by rw [List.append_assoc]; exact e2, hS.af.trans hS2.af, fun ρ w a hE hp => wp_seq (wp_mono (hS.run ρ w a hE hp) ?_)⟩
      rintro ex a1 w1 ⟨rfl, ρ1, hE1, hpost⟩
      exact wp_mono (hS2.run ρ1 w1 a1 hE1 hpost.toPre) (PostC.trans hp hS.af hS2.af hpost)
    | exit i =>
      refine ⟨.exit i, env1, ds1, h1, nx1, W1, e1, hS.af, fun ρ w a hE hp => wp_seq (wp_mono (hS.run ρ w a hE hp) ?_)⟩
      rintro ex a1 w1 ⟨rfl, hq⟩
      exact ⟨rfl, hq⟩
    | ret =>
      refine ⟨.ret, env1, ds1, h1, nx1, W1, e1, hS.af, fun ρ w a hE hp => wp_seq (wp_mono (hS.run ρ w a hE hp) ?_)⟩
      rintro ex a1 w1 ⟨rfl, hq⟩
      exact ⟨rfl, hq⟩
  | cond x y z =>
    have e' : (evalO P.globals.size env x fun v => asBool v fun t => @Bool.rec (fun _ => Res) (ih z env ds nt h nx lg k) (ih y env ds nt h nx lg k) t) = r := e
    replace e' := evalO_inv e' hr; obtain ⟨v, hx, e'⟩ := e'
    replace e' := asBool_inv e' hr; obtain ⟨t, rfl, e'⟩ := e'
    have e2 : ih (if t then y else z) env ds nt h nx lg k = r := by cases t <;> exact e'
    obtain ⟨x1, env1, ds1, h1, nx1, W1, e1, hS⟩ := hih _ _ _ _ _ _ _ _ _ hd e2 hr
    refine ⟨x1, env1, ds1, h1, nx1, W1, e1, hS.af, fun ρ w a hE hp => wp_cond (t := t) ?_ (hS.run ρ w a hE hp)⟩
    have := hE.ops hp { dst := none, op := .move x, type := 0, pos := "", after := #[], guard := none } x (by simp [Op.operands]) _ hx
    exact this
  | block id c =>
    have e' : ih c env ds nt h nx lg (blockC id k) = r := e
    obtain ⟨x1, env1, ds1, h1, nx1, W1, e1, hS⟩ := hih _ _ _ _ _ _ _ _ _ hd e' hr
    cases x1 with
    | normal =>
      refine ⟨.normal, env1, ds1, h1, nx1, W1, e1, hS.af, fun ρ w a hE hp => wp_block (wp_mono (hS.run ρ w a hE hp) ?_)⟩
      rintro ex a1 w1 ⟨rfl, hq⟩
      exact ⟨rfl, hq⟩
    | exit i =>
      have e1' : @Bool.rec (fun _ => Res) (k (.exit i) env1 ds1 h1 nx1 (W1 ++ lg)) (k .normal env1 ds1 h1 nx1 (W1 ++ lg)) (Nat.beq i id) = r := e1
      rw [boolRec_ite] at e1'
      split at e1'
      · rename_i hi
        rw [beqN] at hi
        refine ⟨.normal, env1, ds1, h1, nx1, W1, e1', hS.af, fun ρ w a hE hp => wp_block (wp_mono (hS.run ρ w a hE hp) ?_)⟩
        rintro ex a1 w1 ⟨rfl, hq⟩
        show if i = id then _ else _
        rw [if_pos hi]
        exact ⟨rfl, hq⟩
      · rename_i hi
        rw [beqN] at hi
        refine ⟨.exit i, env1, ds1, h1, nx1, W1, e1', hS.af, fun ρ w a hE hp => wp_block (wp_mono (hS.run ρ w a hE hp) ?_)⟩
        rintro ex a1 w1 ⟨rfl, hq⟩
        show if i = id then _ else _
        rw [if_neg hi]
        exact ⟨rfl, hq⟩
    | ret =>
      refine ⟨.ret, env1, ds1, h1, nx1, W1, e1, hS.af, fun ρ w a hE hp => wp_block (wp_mono (hS.run ρ w a hE hp) ?_)⟩
      rintro ex a1 w1 ⟨rfl, hq⟩
      exact ⟨rfl, hq⟩
  | loop c =>
    obtain ⟨x, env', ds', h', nx', W, e2, haf, H⟩ := loopK_inv hih hd e hr
    exact ⟨x, env', ds', h', nx', W, e2, haf, fun ρ w a hE hp => (H ρ w a hE hp).wp⟩
  | rangeFunc f ps a b => exact absurd e.symm hr
  | exit id => exact ⟨.exit id, env, ds, h, nx, [], e, .refl, fun ρ w a hE hp => wp_exit ⟨rfl, ρ, hE, .refl hp rfl rfl rfl rfl⟩⟩
  | scope c =>
    have e' : ih c env ds nt h nx lg k = r := e
    obtain ⟨x1, env1, ds1, h1, nx1, W1, e1, hS⟩ := hih _ _ _ _ _ _ _ _ _ hd e' hr
    refine ⟨x1, env1, ds1, h1, nx1, W1, e1, hS.af, fun ρ w a hE hp => wp_scope_straight (wp_mono (hS.run ρ w a hE hp) ?_)⟩
    rintro ex a1 w1 ⟨rfl, hq⟩
    cases x1 <;> exact ⟨rfl, hq⟩
  | label l => exact ⟨.normal, env, ds, h, nx, [], e, .refl, fun ρ w a hE hp => wp_label ⟨rfl, ρ, hE, .refl hp rfl rfl rfl rfl⟩⟩
  | goto l => exact absurd e.symm hr
  | ret => exact ⟨.ret, env, ds, h, nx, [], e, .refl, fun ρ w a hE hp => wp_ret ⟨rfl, ρ, hE, .refl hp rfl rfl rfl rfl⟩⟩
  | refuse s => exact absurd e.symm hr
theorem run_sound (hP : PrimOK P cf) (hN : NodOK P cf) (hM : NamesOK P) (hm : P.follows .mixedOrders = true) : ∀ n, SoundE P (run P cf n)
  | 0 => fun c env ds nt h nx lg k r hd e hr => absurd e.symm hr
  | n + 1 => codeK_inv hP hN hM hm (run_sound hP hN hM hm n) n
/-- What is evaluated is what the function does. -/
theorem goF_sound (hP : PrimOK P cf) (hN : NodOK P cf) (hM : NamesOK P) (hm : P.follows .mixedOrders = true) {n : Nat} {f : FuncId} {args : List AV} {h : AH} {nx : Nat} {v : AV} {h' : AH} {nx' : Nat} {W : List Nat} (hf : cf.prim f = none) (hd : HD h nx)
    (e : goF P cf (run P cf n) f args h nx [] (fun v h nx W => .done v h nx W) = .done v h' nx' W) {ρ : Ren} {w : World} {vals : Array Value} (hp : Pre P all' ρ h nx w) (ha : VRs ρ args vals.toList) :
    CallsR P f vals w fun v' w' => ∃ ρ', VR ρ' v v' ∧ Post P all' ρ h nx w W ρ' h' nx' w' := by
  obtain ⟨v1, h1, nx1, W1, e1, haf, H⟩ := goF_inv hP hN hM (run_sound hP hN hM hm n) hd e (by intro h; cases h)
  rw [List.append_nil] at e1
  cases e1
  rcases H ρ w vals hp ha with ⟨v', h1, _⟩ | ⟨_, h2⟩
  · exfalso
    unfold goF at e
    rw [hf] at e
    replace e := optK_inv e (by intro h; cases h); obtain ⟨fn, hfn, e⟩ := e
    replace e := optK_inv e (by intro h; cases h); obtain ⟨body, hbody, e⟩ := e
    unfold callFunc at h1
    have hn : ¬ fn.name = "runtime.NumGoroutine" := hM f fn hfn
    simp [hfn, hn, hbody] at h1
  · exact h2
end
end Go.CE
