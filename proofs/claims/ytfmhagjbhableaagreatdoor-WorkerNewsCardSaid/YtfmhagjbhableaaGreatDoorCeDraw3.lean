/-
  CE, part 23: the run of a region whose order is drawn, and the check that every order does alike.
-/
import Derived.Test.YtfmhagjbhableaaGreatDoorCeDraw2
namespace Go.CE
open Go
set_option linter.unusedVariables false
set_option linter.unusedSimpArgs false

/-! ### What can be seen of a region without running it -/
noncomputable def bitOff (m j : Nat) : Bool := Nat.beq (Nat.land (Nat.shiftRight m j) 1) 0
noncomputable def maskOf (M : T Nat) (l : List Edge) : Nat :=
  @List.rec Edge (fun _ => Nat) 0 (fun e _ s => @Bool.rec (fun _ => Nat) s (Nat.lor s (Nat.lor (Nat.pow 2 e.on) (@Option.rec Nat (fun _ => Nat) 0 (fun x => x) (T.get M (Nat.succ e.on))))) (Region.binds .any e)) l
noncomputable def backL (i : Nat) (l : List Edge) : Bool := @List.rec Edge (fun _ => Bool) true (fun e _ s => and (or (not (Region.binds .any e)) (Nat.blt e.on i)) s) l
abbrev Ps := List (Nat × Nat)
noncomputable def pairsK (all : List Oper) (arr : Array Oper) (o : Oper) (i m j : Nat) (ps : Ps) (c : Ps → Option Ps) : Option Ps :=
  @Nat.rec (fun _ => Ps → Option Ps) c (fun j ih ps => @Bool.rec (fun _ => Option Ps) (ih ps) (@Option.rec Oper (fun _ => Option Ps) none (fun oj => @Bool.rec (fun _ => Option Ps) none (ih ((j, i) :: ps)) (oj.apart arr o)) (all[j]?)) (bitOff m j)) j ps
noncomputable def stat (all : List Oper) (arr : Array Oper) (l : List Oper) (i : Nat) (M : T Nat) (ps : Ps) : Option Ps :=
  @List.rec Oper (fun _ => Nat → T Nat → Ps → Option Ps) (fun _ _ ps => some ps)
    (fun o _ ih i M ps => @Bool.rec (fun _ => Option Ps) none (forceN (maskOf M o.after.toList) fun m => pairsK all arr o i m i ps fun ps => T.setK M (Nat.succ i) m fun M => forceN (Nat.succ i) fun i => ih i M ps) (backL i o.after.toList)) l i M ps

theorem bitOff_iff (m j : Nat) : bitOff m j = !m.testBit j := by
  unfold bitOff
  rw [Bool.eq_iff_iff, beqN, Nat.testBit]
  show (m >>> j) &&& 1 = 0 ↔ (!(1 &&& m >>> j != 0)) = true
  rw [Nat.and_comm]; simp
theorem maskOf_bit {M : T Nat} {q : Nat} : ∀ {l : List Edge}, (maskOf M l).testBit q = true → ∃ e ∈ l, Region.binds .any e = true ∧ (e.on = q ∨ ((M.at e.on).getD 0).testBit q = true)
  | [], h => by
    have : (0 : Nat).testBit q = true := h
    simp at this
  | e :: l, h => by
    have h' : (@Bool.rec (fun _ => Nat) (maskOf M l) (Nat.lor (maskOf M l) (Nat.lor (Nat.pow 2 e.on) ((M.at e.on).getD 0))) (Region.binds .any e)).testBit q = true := by
      have e1 : (@Option.rec Nat (fun _ => Nat) 0 (fun x => x) (T.get M (Nat.succ e.on))) = (M.at e.on).getD 0 := by
        show (@Option.rec Nat (fun _ => Nat) 0 (fun x => x) (M.at e.on)) = _
        cases M.at e.on <;> rfl
      rw [← e1]; exact h
    rw [boolRec_ite] at h'
    split at h'
    · rename_i hb
      have h2 : (maskOf M l ||| (2 ^ e.on ||| (M.at e.on).getD 0)).testBit q = true := h'
      rw [Nat.testBit_or, Nat.testBit_or, Nat.testBit_two_pow, Bool.or_eq_true, Bool.or_eq_true, decide_eq_true_iff] at h2
      rcases h2 with h2 | h2
      · obtain ⟨e', m, r⟩ := maskOf_bit h2
        exact ⟨e', by simp [m], r⟩
      · exact ⟨e, by simp, hb, h2⟩
    · obtain ⟨e', m, r⟩ := maskOf_bit h'
      exact ⟨e', by simp [m], r⟩
theorem backL_iff {i : Nat} : ∀ {l : List Edge}, backL i l = true → ∀ e ∈ l, Region.binds .any e = true → e.on < i
  | [], _, e, h => by cases h
  | x :: l, h, e, he => by
    have h' : ((!(Region.binds .any x) || Nat.blt x.on i) && backL i l) = true := h
    rw [Bool.and_eq_true, Bool.or_eq_true, bltN] at h'
    rcases List.mem_cons.1 he with g | g
    · subst g
      intro hb
      rcases h'.1 with k | k
      · rw [hb] at k; cases k
      · exact k
    · exact backL_iff h'.2 e g
theorem pairsK_inv {all : List Oper} {arr : Array Oper} {o : Oper} {i m : Nat} {c : Ps → Option Ps} {r : Ps} : ∀ {j : Nat} {ps : Ps}, pairsK all arr o i m j ps c = some r →
    ∃ ps', c ps' = some r ∧ (∀ p ∈ ps, p ∈ ps') ∧ ∀ k ok, k < j → all[k]? = some ok → m.testBit k = true ∨ (ok.apart arr o = true ∧ (k, i) ∈ ps')
  | 0, ps, h => ⟨ps, h, fun _ h => h, fun k _ hk => by omega⟩
  | j + 1, ps, h => by
    have h' : @Bool.rec (fun _ => Option Ps) (pairsK all arr o i m j ps c) (@Option.rec Oper (fun _ => Option Ps) none (fun oj => @Bool.rec (fun _ => Option Ps) none (pairsK all arr o i m j ((j, i) :: ps) c) (oj.apart arr o)) (all[j]?)) (bitOff m j) = some r := h
    rw [boolRec_ite, bitOff_iff] at h'
    split at h'
    · cases hj : all[j]? with
      | none => rw [hj] at h'; cases h'
      | some oj =>
        rw [hj] at h'
        dsimp only at h'
        rw [boolRec_ite] at h'
        split at h'
        · rename_i hap
          obtain ⟨ps', h1, h2, h3⟩ := pairsK_inv h'
          refine ⟨ps', h1, fun p hp => h2 p (by simp [hp]), fun k ok hk hok => ?_⟩
          by_cases e : k = j
          · subst e
            rw [hj] at hok; cases hok
            exact .inr ⟨hap, h2 _ (by simp)⟩
          · exact h3 k ok (by omega) hok
        · cases h'
    · rename_i hb
      obtain ⟨ps', h1, h2, h3⟩ := pairsK_inv h'
      refine ⟨ps', h1, h2, fun k ok hk hok => ?_⟩
      by_cases e : k = j
      · subst e
        exact .inl (by simpa using hb)
      · exact h3 k ok (by omega) hok
theorem stat_inv {all : List Oper} {arr : Array Oper} {r : Ps} : ∀ {l : List Oper} {i : Nat} {M : T Nat} {ps : Ps}, stat all arr l i M ps = some r →
    ∃ Mf : Nat → Nat, (∀ k, k < i → Mf k = (M.at k).getD 0) ∧ (∀ p ∈ ps, p ∈ r) ∧ ∀ k o, l[k]? = some o → (∀ e ∈ o.after, Region.binds .any e = true → e.on < i + k) ∧
      (∀ q, (Mf (i + k)).testBit q = true → ∃ e ∈ o.after, Region.binds .any e = true ∧ (e.on = q ∨ (Mf e.on).testBit q = true)) ∧
      ∀ j oj, j < i + k → all[j]? = some oj → (Mf (i + k)).testBit j = true ∨ (oj.apart arr o = true ∧ (j, i + k) ∈ r)
  | [], i, M, ps, h => by
    have h : some ps = some r := h
    cases h
    exact ⟨fun k => (M.at k).getD 0, fun _ _ => rfl, fun _ h => h, fun k o hk => by simp at hk⟩
  | o :: l, i, M, ps, h => by
    have h' : @Bool.rec (fun _ => Option Ps) none (forceN (maskOf M o.after.toList) fun m => pairsK all arr o i m i ps fun ps => T.setK M (Nat.succ i) m fun M => forceN (Nat.succ i) fun i => stat all arr l i M ps) (backL i o.after.toList) = some r := h
    rw [boolRec_ite] at h'
    split at h'
    · rename_i hback
      rw [forceN_eq] at h'
      obtain ⟨ps', h1, h2, h3⟩ := pairsK_inv h'
      rw [T.setK_put, forceN_eq] at h1
      obtain ⟨Mf, k1, k2, k3⟩ := stat_inv h1
      have hold : ∀ k, k < i → Mf k = (M.at k).getD 0 := fun k hk => by
        rw [k1 k (by omega), T.at_put, if_neg (by omega)]
      have hi : Mf i = maskOf M o.after.toList := by
        rw [k1 i (by omega), T.at_put, if_pos rfl]; rfl
      refine ⟨Mf, hold, fun p hp => k2 p (h2 p hp), fun k o' hk => ?_⟩
      cases k with
      | zero =>
        simp only [List.getElem?_cons_zero, Option.some.injEq] at hk
        subst hk
        refine ⟨fun e he hb => backL_iff hback e (Array.mem_toList_iff.2 he) hb, fun q hq => ?_, fun j oj hj hoj => ?_⟩
        · rw [Nat.add_zero, hi] at hq
          obtain ⟨e, g1, g2, g3⟩ := maskOf_bit hq
          refine ⟨e, Array.mem_toList_iff.1 g1, g2, g3.imp id fun g => ?_⟩
          rw [hold e.on (backL_iff hback e g1 g2)]; exact g
        · rw [Nat.add_zero] at *
          rw [hi]
          exact (h3 j oj hj hoj).imp id fun ⟨x, y⟩ => ⟨x, k2 _ y⟩
      | succ k =>
        have := k3 k o' (by simpa using hk)
        rw [show i + 1 + k = i + (k + 1) from by omega] at this
        exact this
    · cases h'

/-! ### The run -/
structure Rc where
  op : Op
  env : T AV
  nx : Nat
  nx' : Nat
  W : List Nat
abbrev KR := T AV → AH → Nat → T Rc → Bool → List Nat → Res
noncomputable def drawK (P : Program) (cf : Cf) (ih : E) (all : List Oper) (nt : Nat) (l : List Oper) (i : Nat) (env : T AV) (h : AH) (nx : Nat) (rs : T Rc) (e : Bool) (lg : List Nat) (k : KR) : Res :=
  @List.rec Oper (fun _ => Nat → T AV → AH → Nat → T Rc → Bool → List Nat → Res) (fun _ env h nx rs e lg => k env h nx rs e lg)
   (fun o _ ih' i env h nx rs e lg => wantK all env nt o.guard
      (doAny P cf ih o.op env h nx [] (fun v h nx' W => putK o.dst v env nt fun env' => T.setK rs (Nat.succ i) ⟨o.op, env, nx, nx', W⟩ fun rs => ih' (Nat.succ i) env' h nx' rs (and e W.isEmpty) (addL W lg)) (fun _ _ => .fail))
      (putK o.dst (.tuple []) env nt fun env' => T.setK rs (Nat.succ i) ⟨o.op, env, nx, nx, []⟩ fun rs => ih' (Nat.succ i) env' h nx rs e lg)) l i env h nx rs e lg
noncomputable def noT (NG : Nat) (W : List Nat) (b : Rc) : Bool :=
  W.isEmpty || (!wide b.op && (footOps b.op).all fun x => match evalA NG b.env x with
    | none => true
    | some v => match topB v with
      | none => true
      | some y => !memN y W)
noncomputable def pairOK (NG : Nat) (a b : Rc) : Bool := noT NG a.W b && (noT NG b.W a && b.W.all fun x => Nat.blt x a.nx || Nat.ble a.nx' x)
noncomputable def chkAll (NG : Nat) (rs : T Rc) (ps : Ps) : Bool := ps.all fun p => match rs.at p.1 with
  | none => false
  | some a => match rs.at p.2 with
    | none => false
    | some b => pairOK NG a b
noncomputable def doDraw (P : Program) (cf : Cf) (ih : E) (ops : Array Oper) (env : T AV) (ds : Ds) (nt : Nat) (h : AH) (nx : Nat) (lg : List Nat) (k : KC) : Res :=
  optK (stat ops.toList ops ops.toList 0 .leaf []) fun ps => drawK P cf ih ops.toList nt ops.toList 0 env h nx .leaf true lg fun env h nx rs e lg => ifK (or e (chkAll P.globals.size rs ps)) (k .normal env ds h nx lg)

def Dof (P : Program) (o : Oper) (env : T AV) : Nat → Prop := fun b => wide o.op = true ∨ FootIn P o.op env b
theorem noT_sound {P : Program} {W : List Nat} {o : Oper} {rc : Rc} (h : noT P.globals.size W rc = true) (ho : rc.op = o.op) : ∀ b ∈ W, ¬ Dof P o rc.env b := by
  intro b hb hD
  unfold noT at h
  rw [Bool.or_eq_true] at h
  rcases h with h | h
  · rw [List.isEmpty_iff] at h; subst h; cases hb
  · rw [Bool.and_eq_true] at h
    rcases hD with hD | ⟨x, hx, v, hv, hv'⟩
    · rw [ho] at h; rw [hD] at h; simp at h
    · have := List.all_eq_true.1 h.2 x (by rw [ho]; exact hx)
      rw [hv] at this
      dsimp only at this
      rw [hv'] at this
      dsimp only at this
      rw [memN_eq] at this
      simp [hb] at this
section
variable {P : Program} {cf : Cf} {ih : E} {r : Res}
theorem putK_inv2 {dst : Option Tmp} {v : AV} {env : T AV} {nt : Nat} {c : T AV → Res} (e : putK dst v env nt c = r) (hr : r ≠ .fail) :
    ∃ env', c env' = r ∧ (∀ t, envGet env' t = if dst = some t then v else envGet env t) ∧ ∀ d, dst = some d → d < nt := by
  cases dst with
  | none => exact ⟨env, e, fun t => by simp, fun d h => by cases h⟩
  | some d =>
    have e' : ifK (Nat.blt d nt) (T.setK env (Nat.succ d) v c) = r := e
    replace e' := ifK_inv e' hr; obtain ⟨hd, e'⟩ := e'
    rw [bltN] at hd
    rw [T.setK_put] at e'
    refine ⟨_, e', fun t => ?_, fun d' h => by cases h; exact hd⟩
    rw [envGet_put]
    by_cases g : t = d
    · subst g; simp
    · rw [if_neg g, if_neg (by simpa [eq_comm] using g)]
theorem LooksR.ops {ops : List Oper} {ρ : Ren} {env : T AV} {o : Oper} {a : Act} {D : Nat → Prop} {h : AH} {nx : Nat} {w : World} (H : LooksR ops ρ env o a) (hp : Pre P D ρ h nx w) : OpsR P ρ env o a := by
  intro x hx v hv
  cases x with
  | tmp t => cases hv; exact H t (List.mem_append_left _ (List.mem_filterMap.2 ⟨.tmp t, by simpa using hx, rfl⟩))
  | const c => exact constA_sound hv ρ
  | global g =>
    simp only [evalA] at hv
    split at hv
    · rename_i hg
      cases hv
      obtain ⟨p, h1, h2, h3⟩ := hp.glob g hg
      exact ⟨p, h1, by simp [Act.eval, h2, h3]⟩
    · cases hv
  | func f => cases hv; exact ⟨#[], #[], rfl, rfl, rfl⟩
theorem drawK_inv (hP : PrimOK P cf) (hN : NodOK P cf) (hM : NamesOK P) (hih : SoundE P ih) {all : List Oper} {nt : Nat} : ∀ {l : List Oper} {i : Nat} {env : T AV} {h : AH} {nx : Nat} {rs : T Rc} {e : Bool} {lg : List Nat} {k : KR},
    HD h nx → drawK P cf ih all nt l i env h nx rs e lg k = r → r ≠ .fail →
    ∃ (en : Nat → T AV) (hh : Nat → AH) (nn : Nat → Nat) (vv : Nat → AV) (WW : Nat → List Nat) (rs' : T Rc) (e' : Bool) (W : List Nat), en 0 = env ∧ hh 0 = h ∧ nn 0 = nx ∧ k (en l.length) (hh l.length) (nn l.length) rs' e' (W ++ lg) = r ∧
      (∀ q, q < i → rs'.at q = rs.at q) ∧ (e' = true → e = true ∧ ∀ q, q < l.length → WW q = []) ∧ (∀ b q, q < l.length → b ∈ WW q → b ∈ W) ∧ (∀ b ∈ W, ∃ q, q < l.length ∧ b ∈ WW q) ∧ nn 0 ≤ nn l.length ∧
      ∀ q o, l[q]? = some o → rs'.at (i + q) = some ⟨o.op, en q, nn q, nn (q + 1), WW q⟩ ∧ StepR P all nt o (Dof P o (en q)) (en q) (en (q + 1)) (hh q) (hh (q + 1)) (nn q) (nn (q + 1)) (vv q) (WW q)
  | [], i, env, h, nx, rs, e, lg, k, hd, he, hr => ⟨fun _ => env, fun _ => h, fun _ => nx, fun _ => undefA, fun _ => [], rs, e, [], rfl, rfl, rfl, he, fun _ _ => rfl, fun h => ⟨h, fun _ _ => rfl⟩, fun _ _ _ h => (by cases h), fun _ h => (by cases h), Nat.le_refl _, fun q o h => by simp at h⟩
  | o :: l, i, env, h, nx, rs, e, lg, k, hd, he, hr => by
    have he' : wantK all env nt o.guard
      (doAny P cf ih o.op env h nx [] (fun v h nx' W => putK o.dst v env nt fun env' => T.setK rs (Nat.succ i) ⟨o.op, env, nx, nx', W⟩ fun rs => drawK P cf ih all nt l (i + 1) env' h nx' rs (and e W.isEmpty) (addL W lg) k) (fun _ _ => .fail))
      (putK o.dst (.tuple []) env nt fun env' => T.setK rs (Nat.succ i) ⟨o.op, env, nx, nx, []⟩ fun rs => drawK P cf ih all nt l (i + 1) env' h nx rs e lg k) = r := he
    obtain ⟨t, e1, ht⟩ := wantK_inv he' hr
    have hguard : ∀ (ρ : Ren) (a : Act), LooksR all ρ env o a → ∀ j b t, o.guard = some (j, b) → (all[j]?).bind (·.dst) = some t → VR ρ (envGet env t) (a.tmps.getD t undef) := by
      intro ρ a hL j b t hg hd
      refine hL t (List.mem_append_right _ ?_)
      have hd' : (all.toArray[j]?).bind (·.dst) = some t := by simpa using hd
      rw [hg]
      show t ∈ ((all.toArray[j]?).bind (·.dst)).toList
      rw [hd']; simp
    -- how the pieces are put together
    have fin : ∀ (v : AV) (env1 : T AV) (h1 : AH) (nx1 : Nat) (W1 lg1 : List Nat) (e1 : Bool), (e1 = true → e = true ∧ W1 = []) → lg1 = W1 ++ lg → HD h1 nx1 → StepR P all nt o (Dof P o env) env env1 h h1 nx nx1 v W1 →
        drawK P cf ih all nt l (i + 1) env1 h1 nx1 (rs.put i ⟨o.op, env, nx, nx1, W1⟩) e1 lg1 k = r →
        ∃ (en : Nat → T AV) (hh : Nat → AH) (nn : Nat → Nat) (vv : Nat → AV) (WW : Nat → List Nat) (rs' : T Rc) (e' : Bool) (W : List Nat), en 0 = env ∧ hh 0 = h ∧ nn 0 = nx ∧ k (en (o :: l).length) (hh (o :: l).length) (nn (o :: l).length) rs' e' (W ++ lg) = r ∧
          (∀ q, q < i → rs'.at q = rs.at q) ∧ (e' = true → e = true ∧ ∀ q, q < (o :: l).length → WW q = []) ∧ (∀ b q, q < (o :: l).length → b ∈ WW q → b ∈ W) ∧ (∀ b ∈ W, ∃ q, q < (o :: l).length ∧ b ∈ WW q) ∧ nn 0 ≤ nn (o :: l).length ∧
          ∀ q o', (o :: l)[q]? = some o' → rs'.at (i + q) = some ⟨o'.op, en q, nn q, nn (q + 1), WW q⟩ ∧ StepR P all nt o' (Dof P o' (en q)) (en q) (en (q + 1)) (hh q) (hh (q + 1)) (nn q) (nn (q + 1)) (vv q) (WW q) := by
      intro v env1 h1 nx1 W1 lg1 ee hee hlg hd1 hS hrun
      obtain ⟨en, hh, nn, vv, WW, rs', e', W, q1, q2, q3, q4, q5, q6, q7, q8, q9, q10⟩ := drawK_inv hP hN hM hih hd1 hrun hr
      refine ⟨fun q => match q with | 0 => env | q + 1 => en q, fun q => match q with | 0 => h | q + 1 => hh q, fun q => match q with | 0 => nx | q + 1 => nn q, fun q => match q with | 0 => v | q + 1 => vv q, fun q => match q with | 0 => W1 | q + 1 => WW q, rs', e', W ++ W1,
        rfl, rfl, rfl, ?_, fun q hq => ?_, fun h => ?_, fun b q hq hb => ?_, fun b hb => ?_, ?_, fun q o' hq => ?_⟩
      · rw [List.append_assoc, ← hlg]; exact q4
      · rw [q5 q (by omega), T.at_put, if_neg (by omega)]
      · obtain ⟨g1, g2⟩ := q6 h
        obtain ⟨g3, g4⟩ := hee g1
        refine ⟨g3, fun q hq => ?_⟩
        cases q with
        | zero => exact g4
        | succ q => exact g2 q (by simpa using hq)
      · cases q with
        | zero => exact List.mem_append_right _ hb
        | succ q => exact List.mem_append_left _ (q7 b q (by simpa using hq) hb)
      · rcases List.mem_append.1 hb with g | g
        · obtain ⟨q, g1, g2⟩ := q8 b g
          exact ⟨q + 1, by simpa using g1, g2⟩
        · exact ⟨0, by simp, g⟩
      · have := hS.af.le
        show nx ≤ nn l.length
        rw [q3] at q9; omega
      · cases q with
        | zero =>
          simp only [List.getElem?_cons_zero, Option.some.injEq] at hq
          subst hq
          refine ⟨?_, ?_⟩
          · rw [Nat.add_zero, q5 i (by omega), T.at_put, if_pos rfl]
            show some (Rc.mk o.op env nx nx1 W1) = some (Rc.mk o.op env nx (nn 0) W1)
            rw [q3]
          · show StepR P all nt o (Dof P o env) env (en 0) h (hh 0) nx (nn 0) v W1
            rw [q1, q2, q3]; exact hS
        | succ q =>
          obtain ⟨g1, g2⟩ := q10 q o' (by simpa using hq)
          refine ⟨?_, g2⟩
          rw [show i + (q + 1) = i + 1 + q from by omega]; exact g1
    cases t with
    | false =>
      simp only [Bool.false_eq_true, if_false] at e1
      obtain ⟨env1, e2, hput, hdst⟩ := putK_inv2 e1 hr
      rw [T.setK_put] at e2
      refine fin undefA env1 h nx [] lg e (fun h => ⟨h, rfl⟩) rfl hd ⟨.refl, hput, hdst, fun ρ w a hs hL hp => .inr ⟨ht ρ a o rfl hs (hguard ρ a hL), ρ, VR_undef ρ, .refl hp rfl rfl rfl rfl⟩⟩ e2
    | true =>
      simp only [if_true] at e1
      by_cases hdef : ∃ c, o.op = .defer c
      · obtain ⟨c, hc⟩ := hdef
        rw [hc] at e1
        have e1' : doDefer P c env (fun _ _ => .fail) = r := e1
        obtain ⟨f, args, e2, _⟩ := doDefer_inv (o := o) e1' hr hc
        exact absurd e2.symm hr
      · obtain ⟨v, h1, nx1, W1, e2, hS⟩ := doAny_did (o := o) (D := Dof P o env) hP hN hM hih hd (fun _ h => .inr h) (fun h _ => .inl h) (fun c hc => hdef ⟨c, hc⟩) e1 hr
        obtain ⟨env1, e3, hput, hdst⟩ := putK_inv2 e2 hr
        rw [T.setK_put, List.append_nil] at e3
        refine fin v env1 h1 nx1 W1 (addL W1 lg) (and e W1.isEmpty) (fun h => ?_) (addL_eq _ _) (hS.af.hdom hd) ⟨hS.af, hput, hdst, fun ρ w a hs hL hp => .inl ⟨ht ρ a o rfl hs (hguard ρ a hL), ?_⟩⟩ e3
        · have h' : (e && W1.isEmpty) = true := h
          rw [Bool.and_eq_true, List.isEmpty_iff] at h'
          exact h'
        · exact hS.run ρ w a (hL.ops hp) hp
theorem doDraw_inv (hP : PrimOK P cf) (hN : NodOK P cf) (hM : NamesOK P) (hm : P.follows .mixedOrders = true) (hih : SoundE P ih) {rid : Nat} {ops : Array Oper} {nt : Nat} {env : T AV} {ds : Ds} {h : AH} {nx : Nat} {lg : List Nat} {k : KC}
    (hd : HD h nx) (e : doDraw P cf ih ops env ds nt h nx lg k = r) (hr : r ≠ .fail) :
    ∃ x env' ds' h' nx' W, k x env' ds' h' nx' (W ++ lg) = r ∧ SoundC P (.region rid ops true) env ds nt h nx x env' ds' h' nx' W := by
  unfold doDraw at e
  replace e := optK_inv e hr; obtain ⟨ps, hps, e⟩ := e
  obtain ⟨en, hh, nn, vv, WW, rs', e', W, q1, q2, q3, q4, q5, q6, q7, q8, q9, q10⟩ := drawK_inv hP hN hM hih hd e hr
  obtain ⟨hchk, q4⟩ := ifK_inv q4 hr
  obtain ⟨Mf, s1, s2, s3⟩ := stat_inv hps
  let DD : Nat → Nat → Prop := fun i b => ∃ o, ops.toList[i]? = some o ∧ Dof P o (en i) b
  have hDD : ∀ i o, ops.toList[i]? = some o → DD i = Dof P o (en i) := fun i o ho => funext fun b => propext ⟨fun ⟨o', h1, h2⟩ => by rw [ho] at h1; cases h1; exact h2, fun h => ⟨o, ho, h⟩⟩
  have T : Trace P ops.toList nt en hh nn vv WW DD (fun i j => (Mf j).testBit i = true) := by
    refine ⟨fun i o ho => by rw [hDD i o ho]; exact (q10 i o ho).2, fun i o ho e he hb => ?_, fun i j oi oj hij hoi hoj => ?_, fun S hS i j oj hoj hpre hprec => ?_⟩
    · have := (s3 i o ho).1 e he hb
      omega
    · have g := (s3 j oj hoj).2.2 i oi (by omega) hoi
      rw [Nat.zero_add] at g
      refine g.imp id fun ⟨g1, g2⟩ => ?_
      have hpair : (WW i = [] ∧ WW j = []) ∨ pairOK P.globals.size ⟨oi.op, en i, nn i, nn (i + 1), WW i⟩ ⟨oj.op, en j, nn j, nn (j + 1), WW j⟩ = true := by
        have hchk' : (e' || chkAll P.globals.size rs' ps) = true := hchk
        rw [Bool.or_eq_true] at hchk'
        rcases hchk' with hc | hc
        · obtain ⟨_, g3⟩ := q6 hc
          exact .inl ⟨g3 i (lt_of hoi), g3 j (lt_of hoj)⟩
        · have := List.all_eq_true.1 hc (i, j) g2
          have ri := (q10 i oi hoi).1
          have rj := (q10 j oj hoj).1
          rw [Nat.zero_add] at ri rj
          dsimp only at this
          rw [ri] at this
          dsimp only at this
          rw [rj] at this
          exact .inr this
      have ha : oi.apart ops.toList.toArray oj = true := by simpa using g1
      refine ⟨ha, ?_⟩
      rcases hpair with ⟨h1, h2⟩ | hpair
      · rw [h1, h2]; simp
      · unfold pairOK at hpair
        rw [Bool.and_eq_true, Bool.and_eq_true] at hpair
        refine ⟨fun b hb => ?_, fun b hb => ?_, fun b hb => ?_⟩
        · rw [hDD j oj hoj]; exact noT_sound (o := oj) hpair.1 rfl b hb
        · rw [hDD i oi hoi]; exact noT_sound (o := oi) hpair.2.1 rfl b hb
        · have := List.all_eq_true.1 hpair.2.2 b hb
          rw [Bool.or_eq_true, bltN, bleN] at this
          exact this
    · revert i oj
      induction j using Nat.strongRecOn with
      | _ j ihj =>
        intro i oj hoj hpre hprec
        have hprec' : (Mf (0 + j)).testBit i = true := by rw [Nat.zero_add]; exact hprec
        obtain ⟨e, he, hb, hor⟩ := (s3 j oj hoj).2.1 i hprec'
        have hlt := (s3 j oj hoj).1 e he hb
        rcases hor with hor | hor
        · subst hor; exact hpre e he hb
        · have hSe := hpre e he hb
          obtain ⟨oe, hoe⟩ := get_of (ops := ops.toList) (i := e.on) (by have := lt_of hoj; omega)
          exact ihj e.on (by omega) i oe hoe (fun e2 he2 hb2 => hS e.on oe hSe hoe e2 he2 hb2) hor
  refine ⟨.normal, _, ds, _, _, W, q4, ⟨⟨?_, fun b hb hn => ?_, fun b _ => .inl trivial, fun b hb hn => ?_, fun b hb => ?_, fun b hb hl => ?_, fun _ => ?_⟩, fun ρ w a hE hp => ?_⟩⟩
  · rw [← q3]; exact q9
  · rw [← q2]
    exact T.same (Nat.zero_le _) (Nat.le_refl _) (by rw [q3]; exact hn) fun k _ hk hW => hb (q7 b k hk hW)
  · obtain ⟨q, hq, hbq⟩ := q8 b hb
    obtain ⟨o, ho⟩ := get_of (ops := ops.toList) hq
    rw [← q2]
    have hn' : b < nn 0 := by rw [q3]; exact hn
    exact T.alive (Nat.zero_le q) (by omega) hn' ((T.step q o ho).af.wl b hbq (Nat.lt_of_lt_of_le hn' (T.mono (Nat.zero_le _) (by omega))))
  · obtain ⟨q, hq, hbq⟩ := q8 b hb
    obtain ⟨o, ho⟩ := get_of (ops := ops.toList) hq
    exact Nat.lt_of_lt_of_le ((T.step q o ho).af.wlt b hbq) (T.mono (by omega) (Nat.le_refl _))
  · rw [← q2]
    exact T.alive (Nat.zero_le _) (Nat.le_refl _) (by rw [q3]; exact hb) hl
  · have : ∀ m, m ≤ ops.toList.length → HD (hh m) (nn m) := by
      intro m
      induction m with
      | zero => intro _; rw [q2, q3]; exact hd
      | succ m ihm =>
        intro hm'
        obtain ⟨o, ho⟩ := get_of (ops := ops.toList) (i := m) (by omega)
        exact (T.step m o ho).af.hdom (ihm (by omega))
    exact this _ (Nat.le_refl _)
  · rw [← q1] at hE
    rw [← q2, ← q3] at hp
    have := T.region (id := rid) (Q := fun e a' w' => e = XE .normal ∧ ∃ ρ', ER ρ' (en ops.toList.length) nt ds a' ∧ Post P all' ρ (hh 0) (nn 0) w W ρ' (hh ops.toList.length) (nn ops.toList.length) w') hm q7 hE hp fun ρ' w' a' h1 h2 => ⟨rfl, ρ', h1, h2⟩
    rw [q2, q3, Array.toArray_toList] at this
    exact this
end
end Go.CE
