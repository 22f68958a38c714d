/-
  CE, part 19: calls; the operations of a region in a row; code.
-/
import Derived.Test.YtfmhagjbhableaaGreatDoorCeEval
namespace Go.CE
open Go
set_option linter.unusedVariables false
set_option linter.unusedSimpArgs false

/-! ### Calls of functions -/
noncomputable def argsK (args : List AV) (i : Nat) (env : T AV) (c : T AV → Res) : Res :=
  @List.rec AV (fun _ => Nat → T AV → Res) (fun _ => c) (fun x _ ih i env => T.setK env (Nat.succ i) x (ih (Nat.succ i))) args i env
noncomputable def resK (P : Program) (NG : Nat) (env : T AV) (h : AH) (rs : List ResultVar) (c : List AV → Res) : Res :=
  @List.rec ResultVar (fun _ => (List AV → Res) → Res) (fun c => c []) (fun r _ ih c => @ResultVar.casesOn (fun _ => Res) r (fun t => evalO NG env (.tmp t) fun v => ih fun vs => c (v :: vs)) (fun a t => evalO NG env (.tmp a) fun p => asPtr p fun b o => optK (ldTy P t) fun z => loadK z h b o fun v => ih fun vs => c (v :: vs))) rs c
noncomputable def oneOr (l : List AV) (c : AV → Res) : Res := @List.rec AV (fun _ => Res) (c (.tuple [])) (fun x xs _ => @List.rec AV (fun _ => Res) (c x) (fun _ _ _ => c (.tuple l)) xs) l
/-- The numbers below nx, each once; m holds those that have been. -/
noncomputable def filtK (nx : Nat) (W : List Nat) (m : Nat) (c : List Nat → Res) : Res :=
  @List.rec Nat (fun _ => Nat → (List Nat → Res) → Res) (fun _ c => c []) (fun b _ ih m c => @Bool.rec (fun _ => Res) (ih m c) (@Bool.rec (fun _ => Res) (ih m c) (forceN (Nat.lor m (Nat.pow 2 b)) fun m => ih m fun l => c (b :: l)) (Nat.beq (Nat.land (Nat.shiftRight m b) 1) 0)) (Nat.blt b nx)) W m c
noncomputable def addL (a b : List Nat) : List Nat := @List.rec Nat (fun _ => List Nat) b (fun x _ ih => x :: ih) a
theorem addL_eq (a b : List Nat) : addL a b = a ++ b := by
  induction a with
  | nil => rfl
  | cons x xs ih => show x :: addL xs b = _; rw [ih]; rfl
noncomputable def allNod (cf : Cf) (ds : Ds) : Bool := @List.rec (FuncId × List AV) (fun _ => Bool) true (fun d _ ih => and (cf.nod d.1 d.2.length) ih) ds
noncomputable def isEnd (x : X) : Bool := @X.casesOn (fun _ => Bool) x true (fun _ => false) true
noncomputable def goF (P : Program) (cf : Cf) (ih : E) (f : FuncId) (args : List AV) (h : AH) (nx : Nat) (lg : List Nat) (k : KV) : Res :=
  @Option.rec (List AV → Option AV) (fun _ => Res)
    (optK (P.funcs[f]?) fun fn => optK fn.body fun body => ifK (Nat.ble args.length fn.ntmps) (argsK args 0 .leaf fun env => ih body env [] fn.ntmps h nx [] fun x env ds h' nx' W => ifK (and (isEnd x) (allNod cf ds)) (resK P P.globals.size env h' fn.results.toList fun vs => oneOr vs fun v => filtK nx W 0 fun W => k v h' nx' (addL W lg))))
    (fun g => optK (g args) fun v => forceV v fun v => k v h nx lg) (cf.prim f)
section
variable {P : Program} {cf : Cf} {ih : E} {r : Res}
theorem bit_or (m b c : Nat) : (Nat.land (Nat.shiftRight (Nat.lor m (Nat.pow 2 b)) c) 1 = 0) ↔ (Nat.land (Nat.shiftRight m c) 1 = 0 ∧ c ≠ b) := by
  have h1 : ∀ n c : Nat, Nat.land (Nat.shiftRight n c) 1 = 0 ↔ n.testBit c = false := by
    intro n c
    rw [Nat.testBit]
    show (n >>> c) &&& 1 = 0 ↔ (1 &&& n >>> c != 0) = false
    rw [Nat.and_comm]; simp
  rw [h1, h1]
  show (m ||| 2 ^ b).testBit c = false ↔ _
  rw [Nat.testBit_or, Nat.testBit_two_pow, Bool.or_eq_false_iff, decide_eq_false_iff_not]
  exact ⟨fun ⟨x, y⟩ => ⟨x, fun e => y e.symm⟩, fun ⟨x, y⟩ => ⟨x, fun e => y e.symm⟩⟩
theorem filtK_inv {nx : Nat} : ∀ {W : List Nat} {m : Nat} {c : List Nat → Res}, ∃ W', filtK nx W m c = c W' ∧ (∀ b ∈ W', b ∈ W ∧ b < nx) ∧ ∀ b ∈ W, b < nx → Nat.land (Nat.shiftRight m b) 1 = 0 → b ∈ W'
  | [], m, c => ⟨[], rfl, fun _ h => (by cases h), fun _ h => (by cases h)⟩
  | x :: xs, m, c => by
    have e : filtK nx (x :: xs) m c = @Bool.rec (fun _ => Res) (filtK nx xs m c) (@Bool.rec (fun _ => Res) (filtK nx xs m c) (forceN (Nat.lor m (Nat.pow 2 x)) fun m => filtK nx xs m fun l => c (x :: l)) (Nat.beq (Nat.land (Nat.shiftRight m x) 1) 0)) (Nat.blt x nx) := rfl
    rw [e, boolRec_ite, boolRec_ite, forceN_eq]
    split
    · rename_i hx
      rw [bltN] at hx
      split
      · rename_i hm
        rw [beqN] at hm
        obtain ⟨W', e1, h1, h2⟩ := filtK_inv (nx := nx) (W := xs) (m := Nat.lor m (Nat.pow 2 x)) (c := fun l => c (x :: l))
        refine ⟨x :: W', e1, fun b hb => ?_, fun b hb hn h0 => ?_⟩
        · rcases List.mem_cons.1 hb with e | e
          · subst e; exact ⟨by simp, hx⟩
          · exact ⟨by simp [(h1 b e).1], (h1 b e).2⟩
        · by_cases hbx : b = x
          · subst hbx; simp
          · rcases List.mem_cons.1 hb with e | e
            · exact absurd e hbx
            · exact List.mem_cons_of_mem _ (h2 b e hn ((bit_or _ _ _).2 ⟨h0, hbx⟩))
      · rename_i hm
        rw [beqN] at hm
        obtain ⟨W', e1, h1, h2⟩ := filtK_inv (nx := nx) (W := xs) (m := m) (c := c)
        refine ⟨W', e1, fun b hb => ⟨by simp [(h1 b hb).1], (h1 b hb).2⟩, fun b hb hn h0 => ?_⟩
        rcases List.mem_cons.1 hb with e | e
        · subst e; exact absurd h0 hm
        · exact h2 b e hn h0
    · rename_i hx
      rw [bltN] at hx
      obtain ⟨W', e1, h1, h2⟩ := filtK_inv (nx := nx) (W := xs) (m := m) (c := c)
      refine ⟨W', e1, fun b hb => ⟨by simp [(h1 b hb).1], (h1 b hb).2⟩, fun b hb hn h0 => ?_⟩
      rcases List.mem_cons.1 hb with e | e
      · subst e; exact absurd hn hx
      · exact h2 b e hn h0
theorem argsK_inv : ∀ {args : List AV} {i : Nat} {env : T AV} {c : T AV → Res}, ∃ env', argsK args i env c = c env' ∧ ∀ t, envGet env' t = if i ≤ t ∧ t < i + args.length then args.getD (t - i) undefA else envGet env t
  | [], i, env, c => ⟨env, rfl, fun t => by rw [if_neg (by simp only [List.length_nil]; omega)]⟩
  | x :: xs, i, env, c => by
    obtain ⟨env', h1, h2⟩ := argsK_inv (args := xs) (i := i + 1) (env := env.put i x) (c := c)
    refine ⟨env', ?_, fun t => ?_⟩
    · show T.setK env (Nat.succ i) x (fun env => argsK xs (i + 1) env c) = _
      rw [T.setK_put, h1]
    · rw [h2, envGet_put]
      simp only [List.length_cons]
      by_cases c1 : i + 1 ≤ t ∧ t < i + 1 + xs.length
      · rw [if_pos c1, if_pos (by omega)]
        obtain ⟨s, rfl⟩ : ∃ s, t = i + 1 + s := ⟨t - (i + 1), by omega⟩
        rw [show i + 1 + s - i = s + 1 from by omega, show i + 1 + s - (i + 1) = s from by omega]
        simp
      · rw [if_neg c1]
        by_cases c2 : t = i
        · subst c2; rw [if_pos rfl, if_pos (by omega)]; simp
        · rw [if_neg c2, if_neg (by omega)]
theorem resK_inv {env : T AV} {h : AH} : ∀ {rs : List ResultVar} {c : List AV → Res}, resK P P.globals.size env h rs c = r → r ≠ .fail →
    ∃ vs, c vs = r ∧ ∀ (ρ : Ren) nt ds a nx w, ER ρ env nt ds a → Pre P all' ρ h nx w → ∃ xs : List Value, (rs.mapM (fun rv => match rv with | .tmp t => pure (a.tmps.getD t undef) | .cell p t => do loadVar t (← asAddr (a.tmps.getD p undef)) : ResultVar → Sem Value)).run P w = .ok xs w ∧ VRs ρ vs xs
  | [], c, e, hr => ⟨[], e, fun ρ nt ds a nx w _ _ => ⟨[], rfl, rfl⟩⟩
  | .tmp t :: rs, c, e, hr => by
    have e' : (evalO P.globals.size env (.tmp t) fun v => resK P P.globals.size env h rs fun vs => c (v :: vs)) = r := e
    replace e' := evalO_inv e' hr; obtain ⟨v, e1, e'⟩ := e'
    obtain ⟨vs, e2, H⟩ := resK_inv e' hr
    refine ⟨_, e2, fun ρ nt ds a nx w hE hp => ?_⟩
    obtain ⟨xs, g1, g2⟩ := H ρ nt ds a nx w hE hp
    cases e1
    refine ⟨a.tmps.getD t undef :: xs, ?_, VRs.cons (hE.tmps t) g2⟩
    simp only [List.mapM_cons, Sem.run_bind, Sem.run_pure, Result.andThen_ok, g1]
  | .cell p t :: rs, c, e, hr => by
    have e' : (evalO P.globals.size env (.tmp p) fun v => asPtr v fun b o => optK (ldTy P t) fun z => loadK z h b o fun v => resK P P.globals.size env h rs fun vs => c (v :: vs)) = r := e
    replace e' := evalO_inv e' hr; obtain ⟨v, e1, e'⟩ := e'
    replace e' := asPtr_inv e' hr; obtain ⟨b, q, rfl, e'⟩ := e'
    replace e' := optK_inv e' hr; obtain ⟨z, hz, e'⟩ := e'
    replace e' := loadK_inv e' hr hz; obtain ⟨v, e', blk, hb, HL⟩ := e'
    obtain ⟨vs, e2, H⟩ := resK_inv e' hr
    refine ⟨_, e2, fun ρ nt ds a nx w hE hp => ?_⟩
    obtain ⟨xs, g1, g2⟩ := H ρ nt ds a nx w hE hp
    have h1 := hE.tmps p
    rw [show envGet env p = AV.ptr b q from Option.some.inj e1] at h1
    obtain ⟨pl, h2, h3⟩ := h1
    obtain ⟨v', k1, k2⟩ := HL ρ pl w h2 (hp.rel b trivial blk pl hb h2)
    refine ⟨v' :: xs, ?_, VRs.cons k2 g2⟩
    have ha : (asAddr (a.tmps.getD p undef)).run P w = .ok ⟨pl.blk, pl.base + q, none⟩ w := by rw [h3]; rfl
    simp only [List.mapM_cons, Sem.run_bind, Sem.run_pure, Result.andThen_ok, ha, k1, g1]
theorem oneOr_inv {l : List AV} {c : AV → Res} : ∃ v, oneOr l c = c v ∧ ∀ (ρ : Ren) (xs : Array Value), VRs ρ l xs.toList → VR ρ v (if h : xs.size = 1 then xs[0] else .tuple xs) := by
  match l with
  | [] =>
    refine ⟨.tuple [], rfl, fun ρ xs hv => ?_⟩
    have : xs = #[] := by apply Array.ext'; exact hv
    subst this
    exact ⟨#[], by simp, rfl⟩
  | [x] =>
    refine ⟨x, rfl, fun ρ xs hv => ?_⟩
    obtain ⟨y, ys, e, h1, h2⟩ := hv
    have h2 : ys = [] := h2
    subst h2
    have : xs = #[y] := by apply Array.ext'; exact e
    subst this
    simpa using h1
  | x :: y :: l =>
    refine ⟨.tuple (x :: y :: l), rfl, fun ρ xs hv => ?_⟩
    have hlen := hv.length
    have : xs.size ≠ 1 := by rw [← Array.length_toList (xs := xs), ← hlen]; simp
    rw [dif_neg this]
    exact ⟨xs, rfl, hv⟩
/-- What a function's call gives. -/
def CallsR (P : Program) (f : FuncId) (args : Array Value) (w : World) (R : Value → World → Prop) : Prop := Calls P f args w fun e w' => ∃ v, e = .returned v ∧ R v w'
theorem run_results {fn : Func} {tmps : Array Value} {w : World} {xs : List Value} (h : (fn.results.toList.mapM (fun rv => match rv with | .tmp t => pure (tmps.getD t undef) | .cell p t => do loadVar t (← asAddr (tmps.getD p undef)) : ResultVar → Sem Value)).run P w = .ok xs w) :
    (results fn tmps).run P w = .ok (if h : xs.toArray.size = 1 then xs.toArray[0] else .tuple xs.toArray) w := by
  unfold results
  rw [Array.mapM_eq_mapM_toList]
  simp only [Sem.run_bind, Sem.run_map]
  exact congrArg (fun q : Result (List Value) => (q.andThen fun a w' => (Result.ok a.toArray w' : Result (Array Value))).andThen fun a w' => (Result.ok (if h : a.size = 1 then a[0] else .tuple a) w' : Result Value)) h
theorem allNod_inv : ∀ {ds : Ds}, allNod cf ds = true → ∀ d ∈ ds, cf.nod d.1 d.2.length = true
  | [], _, d, hd => by cases hd
  | x :: xs, h, d, hd => by
    have h' : (cf.nod x.1 x.2.length && allNod cf xs) = true := h
    rw [Bool.and_eq_true] at h'
    rcases List.mem_cons.1 hd with e | e
    · subst e; exact h'.1
    · exact allNod_inv h'.2 d e
/-- The deferred functions that do nothing leave the results as they are. -/
theorem leaves_nod (hN : NodOK P cf) {fn : Func} {tmps : Array Value} {R : Ending → World → Prop} {ρ : Ren} : ∀ {ds : Ds} {l : List Deferred} {w : World}, DsR ρ ds l → allNod cf ds = true →
    (∀ w', w.heap.size ≤ w'.heap.size → (∀ β, β < w.heap.size → w'.heap[β]? = w.heap[β]?) → w'.os = w.os → w'.tape = w.tape → w'.output = w.output → ∃ v, (results fn tmps).run P w' = .ok v w' ∧ R (.returned v) w') → Leaves P fn tmps R l .returning w
  | [], _, w, e, _, H => by
    cases e
    exact H w (Nat.le_refl _) (fun _ _ => rfl) rfl rfl rfl
  | d :: ds, _, w, ⟨x, xs, rfl, ⟨cap, hx, hxl⟩, g⟩, hn, H => by
    have h' : (cf.nod d.1 d.2.length && allNod cf ds) = true := hn
    rw [Bool.and_eq_true] at h'
    obtain ⟨⟨n, h1, h2⟩⟩ := Nonempty.intro (hN d.1 _ h'.1 x.args cap w hxl)
    refine ⟨by simp, .func d.1, cap, d.1, n, hx, by rw [hx]; exact h1, fun c cs hc => ?_⟩
    obtain ⟨e, u', w', fr, ⟨k1, ⟨v, k2⟩, k3, k4, k5, k6, k7⟩, hrest⟩ := h2 c cs hc
    refine ⟨e, u', w', fr, ?_, hrest⟩
    subst k2; subst k1
    exact leaves_nod hN g h'.2 fun w2 q1 q2 q3 q4 q5 => H w2 (Nat.le_trans k3 q1) (fun β hβ => by rw [q2 β (by omega), k4 β hβ]) (q3.trans k5) (q4.trans k6) (q5.trans k7)
theorem Pre.grow {D : Nat → Prop} {ρ : Ren} {h : AH} {nx : Nat} {w w' : World} (p : Pre P D ρ h nx w) (hs : w.heap.size ≤ w'.heap.size) (hk : ∀ β, β < w.heap.size → w'.heap[β]? = w.heap[β]?) : Pre P D ρ h nx w' :=
  ⟨p.dom, fun b q g => Nat.lt_of_lt_of_le (p.bnd b q g) hs, fun b d blk q g i => (p.rel b d blk q g i).same (hk _ (p.bnd b q i)), p.inj, p.glob⟩
theorem Post.grow {D : Nat → Prop} {ρ ρ' : Ren} {h h' : AH} {nx nx' : Nat} {w w' w2 : World} {W : List Nat} (p : Post P D ρ h nx w W ρ' h' nx' w') (hs : w'.heap.size ≤ w2.heap.size) (hk : ∀ β, β < w'.heap.size → w2.heap[β]? = w'.heap[β]?) (e1 : w2.os = w'.os) (e2 : w2.tape = w'.tape) (e3 : w2.output = w'.output) : Post P D ρ h nx w W ρ' h' nx' w2 :=
  ⟨p.ext, p.new, p.pre.grow hs hk, fun β hβ hW => by rw [hk β (Nat.lt_of_lt_of_le hβ p.size)]; exact p.keep β hβ hW, Nat.le_trans p.size hs, e1.trans p.os, e2.trans p.tape, e3.trans p.output⟩
/-- A function is called: either the model answers, or it is entered. -/
theorem goF_inv (hP : PrimOK P cf) (hN : NodOK P cf) (hM : NamesOK P) (hih : SoundE P ih) {f : FuncId} {args : List AV} {h : AH} {nx : Nat} {lg : List Nat} {k : KV} (hd : HD h nx) (e : goF P cf ih f args h nx lg k = r) (hr : r ≠ .fail) :
    ∃ v h' nx' W, k v h' nx' (W ++ lg) = r ∧ AF all' h nx h' nx' W ∧ ∀ (ρ : Ren) w (vals : Array Value), Pre P all' ρ h nx w → VRs ρ args vals.toList →
      ((∃ v', (callFunc f vals).run P w = .ok (.value v') w ∧ ∃ ρ', VR ρ' v v' ∧ Post P all' ρ h nx w W ρ' h' nx' w) ∨
       ((callFunc f vals).run P w = .ok (.enter f vals) w ∧ CallsR P f vals w fun v' w' => ∃ ρ', VR ρ' v v' ∧ Post P all' ρ h nx w W ρ' h' nx' w')) := by
  unfold goF at e
  cases hp : cf.prim f with
  | some g =>
    rw [hp] at e
    replace e := optK_inv e hr; obtain ⟨v, hv, e⟩ := e
    rw [forceV_eq] at e
    refine ⟨v, h, nx, [], e, .refl, fun ρ w vals hpre hvals => .inl ?_⟩
    obtain ⟨v', g1, g2⟩ := hP f g args v hp hv ρ vals hvals w
    exact ⟨v', g1, ρ, g2, .refl hpre rfl rfl rfl rfl⟩
  | none =>
    rw [hp] at e
    replace e := optK_inv e hr; obtain ⟨fn, hfn, e⟩ := e
    replace e := optK_inv e hr; obtain ⟨body, hbody, e⟩ := e
    replace e := ifK_inv e hr; obtain ⟨hlen, e⟩ := e
    rw [bleN] at hlen
    obtain ⟨env, e1, henv⟩ := argsK_inv (args := args) (i := 0) (env := .leaf) (c := fun env => ih body env [] fn.ntmps h nx [] fun x env ds h' nx' W => ifK (and (isEnd x) (allNod cf ds)) (resK P P.globals.size env h' fn.results.toList fun vs => oneOr vs fun v => filtK nx W 0 fun W => k v h' nx' (addL W lg)))
    have e2 := e1.symm.trans e
    obtain ⟨x, env', ds', h', nx', W0, e3, hS⟩ := hih _ _ _ _ _ _ _ _ _ hd e2 hr
    rw [List.append_nil] at e3
    obtain ⟨hc, e4⟩ := ifK_inv e3 hr
    rw [Bool.and_eq_true] at hc
    obtain ⟨hend, hnod⟩ := hc
    obtain ⟨vs, e5, HR⟩ := resK_inv e4 hr
    obtain ⟨v, e6, HO⟩ := oneOr_inv (l := vs) (c := fun v => filtK nx W0 0 fun W => k v h' nx' (addL W lg))
    have e7 := e6.symm.trans e5
    obtain ⟨W, e8, hW1, hW2⟩ := filtK_inv (nx := nx) (W := W0) (m := 0) (c := fun W => k v h' nx' (addL W lg))
    have e9 := e8.symm.trans e7
    rw [addL_eq] at e9
    have hW2 : ∀ b ∈ W0, b < nx → b ∈ W := fun b hb hn => hW2 b hb hn (by show (0 >>> b) &&& 1 = 0; simp)
    refine ⟨v, h', nx', W, e9, hS.af.filt (fun b hb => (hW1 b hb).1) hW2, fun ρ w vals hpre hvals => .inr ⟨?_, ?_⟩⟩
    · unfold callFunc
      have hn : ¬ fn.name = "runtime.NumGoroutine" := hM f fn hfn
      simp [hfn, hn, hbody]
    · have hvl : args.length = vals.size := by rw [← Array.length_toList (xs := vals)]; exact hvals.length
      refine calls_of_wp_defers hfn hbody (wp_mono (hS.run ρ w _ ⟨?_, fun t => ?_, rfl⟩ hpre) ?_)
      · simp; omega
      · rw [henv]
        simp only [Array.getD_eq_getD_getElem?]
        split
        · rename_i ht
          have ht' : t < args.length := by omega
          rw [Array.getElem?_append_left (by omega), Nat.sub_zero]
          obtain ⟨y, hy, hv⟩ := hvals.get t (args[t]) (List.getElem?_eq_getElem ht')
          rw [Array.getElem?_toList] at hy
          simp [hy, List.getD_eq_getElem?_getD, List.getElem?_eq_getElem ht', hv]
        · rename_i ht
          rw [Array.getElem?_append_right (by omega)]
          have : (Array.replicate (fn.ntmps - vals.size) undef)[t - vals.size]?.getD undef = undef := by
            rw [Array.getElem?_replicate]; split <;> rfl
          rw [this]
          exact VR_undef ρ
      · rintro ex a' w' ⟨hx, ρ', hE, hpost0⟩
        have hpost := hpost0.filt hpre.dom hW2
        have hleave : Leaves P fn a'.tmps (fun e w' => ∃ v', e = .returned v' ∧ ∃ ρ', VR ρ' v v' ∧ Post P all' ρ h nx w W ρ' h' nx' w') a'.defers .returning w' := by
          refine leaves_nod hN hE.defs hnod fun w2 q1 q2 q3 q4 q5 => ?_
          have hpost2 := hpost.grow q1 q2 q3 q4 q5
          obtain ⟨xs, g1, g2⟩ := HR ρ' fn.ntmps ds' a' nx' w2 hE hpost2.toPre
          exact ⟨_, run_results g1, _, rfl, ρ', HO ρ' xs.toArray g2, hpost2⟩
        cases x with
        | normal => subst hx; exact hleave
        | exit id => cases hend
        | ret => subst hx; exact hleave
end
end Go.CE
