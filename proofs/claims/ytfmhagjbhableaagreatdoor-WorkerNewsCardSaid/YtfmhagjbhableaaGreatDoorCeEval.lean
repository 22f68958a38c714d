/-
  CE, part 18: the evaluator of code, regions whose order is drawn left out (part 19), and its soundness.
-/
import Derived.Test.YtfmhagjbhableaaGreatDoorCeDoC
import Derived.Tactics
namespace Go.CE
open Go
set_option linter.unusedVariables false
set_option linter.unusedSimpArgs false

inductive X where
  | normal
  | exit (id : Nat)
  | ret
def XE : X → Exit
  | .normal => .normal
  | .exit id => .exit id
  | .ret => .ret
abbrev Ds := List (FuncId × List AV)
abbrev KC := X → T AV → Ds → AH → Nat → List Nat → Res
abbrev E := Code → T AV → Ds → Nat → AH → Nat → List Nat → KC → Res

/-- What is known of the program's functions: those that the model answers itself, and deferred ones that leave a quiet return alone. -/
structure Cf where
  prim : FuncId → Option (List AV → Option AV)
  nod : FuncId → Nat → Bool
def all' : Nat → Prop := fun _ => True
def PrimOK (P : Program) (cf : Cf) : Prop := ∀ f g args v, cf.prim f = some g → g args = some v → ∀ (ρ : Ren) (vals : Array Value), VRs ρ args vals.toList → ∀ w, ∃ v', (callFunc f vals).run P w = .ok (.value v') w ∧ VR ρ v v'
/-- Behind a deferred function that does nothing: the heap has only grown. -/
def NodOK (P : Program) (cf : Cf) : Prop := ∀ f m, cf.nod f m = true → ∀ (args cap : Array Value) w, (args ++ cap).size = m → (∃ n, (invoke (.fn (.func f) cap) args).run P w = .ok (.enter f n) w ∧
  CallsD P f n .returning w fun e u' w' => u' = .returning ∧ (∃ v, e = .returned v) ∧ w.heap.size ≤ w'.heap.size ∧ (∀ β, β < w.heap.size → w'.heap[β]? = w.heap[β]?) ∧ w'.os = w.os ∧ w'.tape = w.tape ∧ w'.output = w.output)
def NamesOK (P : Program) : Prop := ∀ (f : FuncId) (fn : Func), P.funcs[f]? = some fn → fn.name ≠ "runtime.NumGoroutine"

/-! ### The frame -/
def DsR (ρ : Ren) : Ds → List Deferred → Prop
  | [], ds => ds = []
  | d :: ds, l => ∃ x xs, l = x :: xs ∧ (∃ cap, x.target = .fn (.func d.1) cap ∧ (x.args ++ cap).size = d.2.length) ∧ DsR ρ ds xs
structure ER (ρ : Ren) (env : T AV) (nt : Nat) (ds : Ds) (a : Act) : Prop where
  size : a.tmps.size = nt
  tmps : ∀ t, VR ρ (envGet env t) (a.tmps.getD t undef)
  defs : DsR ρ ds a.defers
theorem DsR.ext {ρ ρ' : Ren} : ∀ {ds : Ds} {l : List Deferred}, DsR ρ ds l → DsR ρ' ds l
  | [], _, h => h
  | d :: ds, _, ⟨x, xs, e, h, g⟩ => ⟨x, xs, e, h, DsR.ext g⟩
theorem ER.ext {ρ ρ' : Ren} {env : T AV} {nt : Nat} {ds : Ds} {a : Act} (h : ER ρ env nt ds a) (g : Ext ρ ρ') : ER ρ' env nt ds a := ⟨h.size, fun t => (h.tmps t).ext g, h.defs.ext⟩
theorem envGet_put (env : T AV) (d : Nat) (v : AV) (t : Nat) : envGet (env.put d v) t = if t = d then v else envGet env t := by
  unfold envGet; rw [T.at_put]; split <;> rfl
theorem ER.put {ρ : Ren} {env : T AV} {nt : Nat} {ds : Ds} {a : Act} {v : AV} {v' : Value} {d : Nat} (h : ER ρ env nt ds a) (hv : VR ρ v v') (hd : d < nt) : ER ρ (env.put d v) nt ds (a.put (some d) v') := by
  refine ⟨by simp [Act.put, h.size], fun t => ?_, h.defs⟩
  rw [envGet_put]
  have hs := h.size
  split
  · rename_i e; subst e
    simp [Act.put, Array.getD_eq_getD_getElem?, hs, hd, hv]
  · rename_i e
    have := h.tmps t
    simp only [Act.put, Array.getD_eq_getD_getElem?] at this ⊢
    rw [Array.getElem?_setIfInBounds_ne (Ne.symm e)]
    exact this
noncomputable def putK (dst : Option Tmp) (v : AV) (env : T AV) (nt : Nat) (c : T AV → Res) : Res :=
  @Option.rec Tmp (fun _ => Res) (c env) (fun d => ifK (Nat.blt d nt) (T.setK env (Nat.succ d) v c)) dst
theorem putK_inv {dst : Option Tmp} {v : AV} {env : T AV} {nt : Nat} {c : T AV → Res} {r : Res} (e : putK dst v env nt c = r) (hr : r ≠ .fail) :
    ∃ env', c env' = r ∧ ∀ (ρ : Ren) ds a v', ER ρ env nt ds a → VR ρ v v' → ER ρ env' nt ds (a.put dst v') := by
  cases dst with
  | none => exact ⟨env, e, fun ρ ds a v' h _ => h⟩
  | some d =>
    have e' : ifK (Nat.blt d nt) (T.setK env (Nat.succ d) v c) = r := e
    replace e' := ifK_inv e' hr; obtain ⟨hd, e'⟩ := e'
    rw [bltN] at hd
    rw [T.setK_put] at e'
    exact ⟨_, e', fun ρ ds a v' h hv => h.put hv hd⟩
theorem ER.ops {P : Program} {D : Nat → Prop} {ρ : Ren} {env : T AV} {nt : Nat} {ds : Ds} {a : Act} {h : AH} {nx : Nat} {w : World} (he : ER ρ env nt ds a) (hp : Pre P D ρ h nx w) (o : Oper) : OpsR P ρ env o a := by
  intro x _ v hv
  cases x with
  | tmp t => cases hv; exact he.tmps t
  | const c => exact constA_sound hv ρ
  | global g =>
    simp only [evalA] at hv
    split at hv
    · rename_i hg
      cases hv
      obtain ⟨p, h1, h2, h3⟩ := hp.glob g hg
      exact ⟨p, h1, by simp [Act.eval, h2, h3]⟩
    · cases hv
  | func f => cases hv; exact ⟨#[], #[], rfl, rfl, rfl⟩

/-! ### Soundness of a piece of code -/
structure SoundC (P : Program) (c : Code) (env : T AV) (ds : Ds) (nt : Nat) (h : AH) (nx : Nat) (x : X) (env' : T AV) (ds' : Ds) (h' : AH) (nx' : Nat) (W : List Nat) : Prop where
  af : AF all' h nx h' nx' W
  run : ∀ ρ w a, ER ρ env nt ds a → Pre P all' ρ h nx w → c.wp P (fun e a' w' => e = XE x ∧ ∃ ρ', ER ρ' env' nt ds' a' ∧ Post P all' ρ h nx w W ρ' h' nx' w') a w
def HD (h : AH) (nx : Nat) : Prop := ∀ b blk, h.at b = some blk → b < nx
def SoundE (P : Program) (ih : E) : Prop := ∀ c env ds nt h nx lg k r, HD h nx → ih c env ds nt h nx lg k = r → r ≠ .fail →
  ∃ x env' ds' h' nx' W, k x env' ds' h' nx' (W ++ lg) = r ∧ SoundC P c env ds nt h nx x env' ds' h' nx' W

section
variable {P : Program}
theorem Post.toPre {ρ ρ' : Ren} {h h' : AH} {nx nx' : Nat} {w w' : World} {W : List Nat} (p : Post P all' ρ h nx w W ρ' h' nx' w') : Pre P all' ρ' h' nx' w' := p.pre.mono fun b _ => .inl trivial
theorem AF.trans {h h1 h2 : AH} {nx nx1 nx2 : Nat} {W1 W2 : List Nat} (a : AF all' h nx h1 nx1 W1) (b : AF all' h1 nx1 h2 nx2 W2) : AF all' h nx h2 nx2 (W2 ++ W1) :=
  ⟨Nat.le_trans a.le b.le, fun x hx hl => (b.out x (fun g => hx (by simp [g])) (Nat.lt_of_lt_of_le hl a.le)).trans (a.out x (fun g => hx (by simp [g])) hl), fun x _ => .inl trivial, fun x hx hl => (List.mem_append.1 hx).elim (fun g => a.alive x hl (b.wl x g (Nat.lt_of_lt_of_le hl a.le))) (fun g => a.wl x g hl), fun x hx => (List.mem_append.1 hx).elim (b.wlt x) (fun g => Nat.lt_of_lt_of_le (a.wlt x g) b.le), fun x hx hl => a.alive x hx (b.alive x (Nat.lt_of_lt_of_le hx a.le) hl), fun g => b.hdom (a.hdom g)⟩
theorem Post.trans {ρ ρ1 ρ2 : Ren} {h h1 h2 : AH} {nx nx1 nx2 : Nat} {w w1 w2 : World} {W1 W2 : List Nat} (pre : Pre P all' ρ h nx w) (a1 : AF all' h nx h1 nx1 W1) (a2 : AF all' h1 nx1 h2 nx2 W2)
    (p1 : Post P all' ρ h nx w W1 ρ1 h1 nx1 w1) (p2 : Post P all' ρ1 h1 nx1 w1 W2 ρ2 h2 nx2 w2) : Post P all' ρ h nx w (W2 ++ W1) ρ2 h2 nx2 w2 := by
  have hle := a1.le
  have gone : ∀ b, b < nx → ¬ live h1 b → ¬ live h2 b := fun b hb h1' h2' => h1' (a2.alive b (by omega) h2')
  refine ⟨p1.ext.trans p2.ext, fun b p hb hn => ?_, p2.pre.mono fun b _ => .inl trivial, fun β hβ hW => ?_, Nat.le_trans p1.size p2.size, p2.os.trans p1.os, p2.tape.trans p1.tape, p2.output.trans p1.output⟩
  · cases h1b : ρ1 b with
    | some q =>
      have := p2.ext b q h1b
      rw [hb] at this; cases this
      obtain ⟨g1, g2⟩ := p1.new b p h1b hn
      refine ⟨g1, g2.imp id ?_⟩
      rintro ⟨b0, p0, k1, k2, k3, k4, k5⟩
      exact ⟨b0, p0, by simp [k1], k2, k3, k4, gone b0 (pre.dom _ _ k2) k5⟩
    | none =>
      obtain ⟨g1, g2⟩ := p2.new b p hb h1b
      refine ⟨by omega, ?_⟩
      rcases g2 with g2 | ⟨b0, p0, k1, k2, k3, k4, k5⟩
      · exact .inl (Nat.le_trans p1.size g2)
      · cases h0 : ρ b0 with
        | some q =>
          have := p1.ext b0 q h0
          rw [k2] at this; cases this
          exact .inr ⟨b0, p0, by simp [k1], h0, k3, a1.alive b0 (pre.dom _ _ h0) k4, k5⟩
        | none =>
          obtain ⟨m1, m2⟩ := p1.new b0 p0 k2 h0
          rcases m2 with m2 | ⟨b1, q1, l1, l2, l3, l4, l5⟩
          · exact .inl (by omega)
          · exact .inr ⟨b1, q1, by simp [l1], l2, by omega, l4, gone b1 (pre.dom _ _ l2) l5⟩
  · rw [← p1.keep β hβ fun b p hb hρ => hW b p (by simp [hb]) hρ]
    refine p2.keep β (Nat.lt_of_lt_of_le hβ p1.size) fun b p hb hρ hbe => ?_
    cases h0 : ρ b with
    | some q =>
      have := p1.ext b q h0
      rw [hρ] at this; cases this
      exact hW b p (by simp [hb]) h0 hbe
    | none =>
      obtain ⟨m1, m2⟩ := p1.new b p hρ h0
      rcases m2 with m2 | ⟨b1, q1, l1, l2, l3, _, _⟩
      · omega
      · exact hW b1 q1 (by simp [l1]) l2 (by omega)
/-- The log may be thinned out: only the blocks that were there before count. -/
theorem AF.filt {D : Nat → Prop} {h h' : AH} {nx nx' : Nat} {W W' : List Nat} (a : AF D h nx h' nx' W) (h1 : ∀ b ∈ W', b ∈ W) (h2 : ∀ b ∈ W, b < nx → b ∈ W') : AF D h nx h' nx' W' :=
  ⟨a.le, fun b hb hn => a.out b (fun g => hb (h2 b g hn)) hn, fun b hb => a.sub b (h1 b hb), fun b hb => a.wl b (h1 b hb), fun b hb => a.wlt b (h1 b hb), a.alive, a.hdom⟩
theorem Post.filt {D : Nat → Prop} {ρ ρ' : Ren} {h h' : AH} {nx nx' : Nat} {w w' : World} {W W' : List Nat} (p : Post P D ρ h nx w W ρ' h' nx' w') (hd : ∀ b p, ρ b = some p → b < nx) (h2 : ∀ b ∈ W, b < nx → b ∈ W') : Post P D ρ h nx w W' ρ' h' nx' w' :=
  ⟨p.ext, fun b q g g' => let ⟨k1, k2⟩ := p.new b q g g'; ⟨k1, k2.imp id fun ⟨b0, p0, m1, m2, m3⟩ => ⟨b0, p0, h2 b0 m1 (hd _ _ m2), m2, m3⟩⟩, p.pre, fun β hβ hW => p.keep β hβ fun b q hb hq => hW b q (h2 b hb (hd _ _ hq)) hq, p.size, p.os, p.tape, p.output⟩
theorem Oper.wp_exits {o : Oper} {a : Act} {w : World} {K : Act → World → Prop} {Q : Exit → Act → World → Prop} (h : o.wp P a w K (fun _ _ _ => False)) : o.wp P a w K Q := by
  unfold Oper.wp at *
  generalize (execOp a.eval o).run P w = r at *
  cases r with
  | ok n w' =>
    cases n <;> simp only [Oper.upon] at h ⊢ <;>
    first
      | exact h
      | exact Calls.mono h (fun e w'' he => by
          cases e with
          | returned v => exact he
          | panicked c => exact he.elim
          | outgrown => obtain ⟨_, _, he⟩ := he; exact he.elim)
  | halt x w' => cases x <;> simp only [Oper.upon] at h ⊢ <;> first | exact h | exact h.elim

/-! ### Guards -/
noncomputable def wantK (all : List Oper) (env : T AV) (nt : Nat) (g : Option (Nat × Bool)) (y n : Res) : Res :=
  @Option.rec (Nat × Bool) (fun _ => Res) y (fun g => optK ((all[g.1]?).bind (·.dst)) fun t => ifK (Nat.blt t nt) (T.getK env (Nat.succ t) n (fun v => @AV.casesOn (fun _ => Res) v (fun b => @Bool.rec (fun _ => Res) (@Bool.rec (fun _ => Res) y n g.2) (@Bool.rec (fun _ => Res) n y g.2) b) (fun _ _ => .fail) (fun _ _ => .fail) (fun _ _ => .fail) .fail (fun _ _ _ _ _ => .fail) .fail (fun _ => .fail) .fail (fun _ _ _ => .fail) .fail (fun _ _ => .fail) .fail (fun _ => .fail) (fun l => @List.rec AV (fun _ => Res) n (fun _ _ _ => .fail) l)))) g
theorem wantK_inv {all : List Oper} {env : T AV} {nt : Nat} {g : Option (Nat × Bool)} {y n r : Res} (e : wantK all env nt g y n = r) (hr : r ≠ .fail) :
    ∃ t : Bool, (if t then y else n) = r ∧ ∀ (ρ : Ren) (a : Act) (o : Oper), o.guard = g → a.tmps.size = nt → (∀ j b t, g = some (j, b) → (all[j]?).bind (·.dst) = some t → VR ρ (envGet env t) (a.tmps.getD t undef)) → Region.wanted o (yielded all.toArray a.tmps) = t := by
  cases g with
  | none => exact ⟨true, e, fun ρ a o ho _ _ => by simp [Region.wanted, ho]⟩
  | some g =>
    obtain ⟨j, b⟩ := g
    have e' : (optK ((all[j]?).bind (·.dst)) fun t => ifK (Nat.blt t nt) (T.getK env (Nat.succ t) n (fun v => @AV.casesOn (fun _ => Res) v (fun c => @Bool.rec (fun _ => Res) (@Bool.rec (fun _ => Res) y n b) (@Bool.rec (fun _ => Res) n y b) c) (fun _ _ => .fail) (fun _ _ => .fail) (fun _ _ => .fail) .fail (fun _ _ _ _ _ => .fail) .fail (fun _ => .fail) .fail (fun _ _ _ => .fail) .fail (fun _ _ => .fail) .fail (fun _ => .fail) (fun l => @List.rec AV (fun _ => Res) n (fun _ _ _ => .fail) l)))) = r := e
    replace e' := optK_inv e' hr; obtain ⟨t, ht, e'⟩ := e'
    replace e' := ifK_inv e' hr; obtain ⟨hlt, e'⟩ := e'
    rw [bltN] at hlt
    have e' : @Option.rec AV (fun _ => Res) n (fun v => @AV.casesOn (fun _ => Res) v (fun c => @Bool.rec (fun _ => Res) (@Bool.rec (fun _ => Res) y n b) (@Bool.rec (fun _ => Res) n y b) c) (fun _ _ => .fail) (fun _ _ => .fail) (fun _ _ => .fail) .fail (fun _ _ _ _ _ => .fail) .fail (fun _ => .fail) .fail (fun _ _ _ => .fail) .fail (fun _ _ => .fail) .fail (fun _ => .fail) (fun l => @List.rec AV (fun _ => Res) n (fun _ _ _ => .fail) l)) (env.at t) = r := by rw [T.getK_eq] at e'; exact e'
    have ht2 : (all.toArray[j]?).bind (·.dst) = some t := by simpa using ht
    have look : ∀ (a : Act), a.tmps.size = nt → ∀ (o : Oper), o.guard = some (j, b) → Region.wanted o (yielded all.toArray a.tmps) = (match a.tmps.getD t undef with | .bool c => c == b | _ => false) := by
      intro a hs o ho
      have h1 : t < a.tmps.size := by rw [hs]; exact hlt
      simp only [Region.wanted, ho, yielded, ht2, Option.bind_some, Array.getElem?_eq_getElem h1, Array.getD_eq_getD_getElem?, Option.getD_some]
      cases a.tmps[t] <;> simp
    have never : ∀ {v : AV}, envGet env t = v → v = .tuple [] → n = r → ∃ t' : Bool, (if t' then y else n) = r ∧ ∀ (ρ : Ren) (a : Act) (o : Oper), o.guard = some (j, b) → a.tmps.size = nt → (∀ j' b' t', some (j, b) = some (j', b') → (all[j']?).bind (·.dst) = some t' → VR ρ (envGet env t') (a.tmps.getD t' undef)) → Region.wanted o (yielded all.toArray a.tmps) = t' := by
      intro v hv hve e
      refine ⟨false, e, fun ρ a o ho hs hE => ?_⟩
      rw [look a hs o ho]
      have h2 := hE j b t rfl ht
      rw [hv, hve] at h2
      obtain ⟨vs, h3, _⟩ := h2
      rw [h3]
    cases hv : env.at t with
    | none =>
      rw [hv] at e'
      exact never (v := undefA) (by simp [envGet, hv]) rfl e'
    | some v =>
      rw [hv] at e'
      have hg : envGet env t = v := by simp [envGet, hv]
      cases v <;> first
        | exact absurd e'.symm hr
        | skip
      case bool c =>
        refine ⟨c == b, by cases c <;> cases b <;> exact e', fun ρ a o ho hs hE => ?_⟩
        rw [look a hs o ho]
        have h2 := hE j b t rfl ht
        rw [hg] at h2
        simp only [VR] at h2
        rw [h2]
      case tuple l =>
        cases l with
        | nil => exact never hg rfl e'
        | cons x xs => exact absurd e'.symm hr
end
end Go.CE
