/-
  CE, part 14: ranges, and the builtins len, min, max, delete, clear.
-/
import Derived.Test.YtfmhagjbhableaaGreatDoorCeDo8
namespace Go.CE
open Go
set_option linter.unusedVariables false
set_option linter.unusedSimpArgs false
section
variable {P : Program} {o : Oper} {env : T AV} {D : Nat → Prop} {h : AH} {nx : Nat} {lg : List Nat} {k : KV} {r : Res}

noncomputable def doRange (P : Program) (t : TypeId) (x : Operand) (env : T AV) (h : AH) (nx : Nat) (lg : List Nat) (k : KV) : Res :=
  evalO P.globals.size env x fun v =>
  @AV.casesOn (fun _ => Res) v (fun _ => .fail) (fun _ _ => .fail) (fun l n => ifK (isStrTy P t) (newBlk (.siter l n 0) h nx fun h nx' => k (.ptr nx 0) h nx' lg)) (fun _ _ => .fail) .fail (fun _ _ _ _ _ => .fail) .fail
    (fun b => optK (mapTy P t) fun _ => getBlk h b fun blk => asMapB blk fun es cl => newBlk (.miter b cl [] cl) h nx fun h nx' => k (.ptr nx 0) h nx' lg)
    (optK (mapTy P t) fun _ => newBlk .niter h nx fun h nx' => k (.ptr nx 0) h nx' lg) (fun _ _ _ => .fail) .fail (fun _ _ => .fail) .fail (fun _ => .fail) (fun _ => .fail)
theorem doRange_did {t : TypeId} {x : Operand} (ho : o.op = .range t x) (hD : ∀ b, FootIn P o.op env b → D b) (e : doRange P t x env h nx lg k = r) (hr : r ≠ .fail) : Did P o env D h nx lg k r := by
  replace e := evalO_inv e hr; obtain ⟨v, e1, e⟩ := e
  cases v <;> first
    | exact absurd e.symm hr
    | skip
  case str l n =>
    replace e := ifK_inv e hr; obtain ⟨ht, e⟩ := e
    rw [newBlk_eq] at e
    refine did_new e fun ρ w a hx hp => ?_
    obtain ⟨s, h3, hS⟩ := hx x (by simp [ho, Op.operands]) _ e1
    refine ⟨.pointer (some ⟨w.heap.size, 0, none⟩), .stringIter s 0, ⟨w.heap.size, 0, 0, 0⟩, { w with heap := w.heap.push (.stringIter s 0) }, ?_, rfl, rfl, rfl, rfl, rfl, ⟨_, updR_at _ _, rfl⟩, ⟨s, push_at w _, hS, rfl⟩⟩
    simp [execOp, ho, Instr.range, run_underlying' (isStrTy_inv ht), h3]
  case map b =>
    replace e := optK_inv e hr; obtain ⟨⟨kt, et⟩, hty, e⟩ := e
    obtain ⟨hu, _⟩ := mapTy_inv hty
    replace e := getBlk_inv e hr; obtain ⟨blk, hb, e⟩ := e
    replace e := asMapB_inv e hr; obtain ⟨es, cl, rfl, e⟩ := e
    rw [newBlk_eq] at e
    refine did_new e fun ρ w a hx hp => ?_
    obtain ⟨p, h1, h3⟩ := hx x (by simp [ho, Op.operands]) _ e1
    obtain ⟨arr, k1, k2⟩ := hp.rel b (hD b ⟨x, by simp [ho, footOps], _, e1, rfl⟩) _ p hb h1
    refine ⟨.pointer (some ⟨w.heap.size, 0, none⟩), .mapIter (some p.blk) cl #[] cl, ⟨w.heap.size, 0, 0, 0⟩, { w with heap := w.heap.push (.mapIter (some p.blk) cl #[] cl) }, ?_, rfl, rfl, rfl, rfl, rfl, ⟨_, updR_at _ _, rfl⟩, ⟨p, Ext.upd hp.fresh _ _ h1, push_at w _, rfl⟩⟩
    simp [execOp, ho, Instr.range, run_underlying' hu, h3, run_getObj (P := P) k1 (by simp)]
  case nilMap =>
    replace e := optK_inv e hr; obtain ⟨⟨kt, et⟩, hty, e⟩ := e
    obtain ⟨hu, _⟩ := mapTy_inv hty
    rw [newBlk_eq] at e
    refine did_new e fun ρ w a hx hp => ?_
    have h3 := hx x (by simp [ho, Op.operands]) _ e1
    simp only [VR] at h3
    refine ⟨.pointer (some ⟨w.heap.size, 0, none⟩), .mapIter none 0 #[] 0, ⟨w.heap.size, 0, 0, 0⟩, { w with heap := w.heap.push (.mapIter none 0 #[] 0) }, ?_, rfl, rfl, rfl, rfl, rfl, ⟨_, updR_at _ _, rfl⟩, ⟨push_at w _, rfl⟩⟩
    simp [execOp, ho, Instr.range, run_underlying' hu, h3]

noncomputable def memN (n : Nat) (l : List Nat) : Bool := @List.rec Nat (fun _ => Bool) false (fun x _ ih => or (Nat.beq n x) ih) l
theorem memN_eq (n : Nat) (l : List Nat) : memN n l = l.contains n := by
  induction l with
  | nil => rfl
  | cons x xs ih =>
    show (Nat.beq n x || memN n xs) = _
    rw [ih, List.contains_cons]
    congr 1
    rw [Bool.eq_iff_iff, beqN, beq_iff_eq]
/-- The entries that are still to come. -/
noncomputable def leftE (seen : List Nat) (es : List (AV × AV × Nat)) : List (AV × AV × Nat) := match es with
  | [] => []
  | e :: es => if memN e.2.2 seen then leftE seen es else e :: leftE seen es
noncomputable def nextK (b : Nat) (isStr : Bool) (h : AH) (nx : Nat) (lg : List Nat) (k : KV) : Res :=
  getBlk h b fun blk => @ABlk.casesOn (fun _ => Res) blk (fun _ _ _ _ _ => .fail) (fun _ _ => .fail)
    (fun l n pos => ifK isStr (@Bool.rec (fun _ => Res) (k (.tuple [.bool false]) h nx lg)
      (forceN (Nat.land (Nat.shiftRight n (Nat.mul 8 pos)) 255) fun c => ifK (Nat.blt c 128) (T.setK h (Nat.succ b) (.siter l n (Nat.succ pos)) fun h => k (.tuple [.bool true, .int .i64 (Int.ofNat pos), .int .i32 (Int.ofNat c)]) h nx (b :: lg))) (Nat.blt pos l)))
    (fun m since seen stepped => ifK (not isStr) (getBlk h m fun blk => asMapB blk fun es cl =>
      ifK (or seen.isEmpty (or es.isEmpty (not (es.all fun e => Nat.ble stepped e.2.2))))
      (match leftE seen es with
      | [] => k (.tuple [.bool false]) h nx lg
      | [e] => ifK (Nat.blt e.2.2 since) (T.setK h (Nat.succ b) (.miter m since (e.2.2 :: seen) cl) fun h => k (.tuple [.bool true, e.1, e.2.1]) h nx (b :: lg))
      | _ => .fail)))
    (ifK (not isStr) (k (.tuple [.bool false]) h nx lg)) .fail
noncomputable def doNext (P : Program) (x : Operand) (isStr : Bool) (env : T AV) (h : AH) (nx : Nat) (lg : List Nat) (k : KV) : Res :=
  evalO P.globals.size env x fun v => asPtr v fun b q => ifK (Nat.beq q 0) (nextK b isStr h nx lg k)
theorem leftE_rel {ρ : Ren} {seen : List Nat} : ∀ {as : List (AV × AV × Nat)} {es : List MapEntry}, EsR ρ as es → EsR ρ (leftE seen as) (es.filter fun e => !seen.contains e.born)
  | [], _, h => by cases h; exact rfl
  | b :: bs, _, ⟨e0, q, hl, g1, g2, g3, g4⟩ => by
    subst hl
    simp only [leftE, memN_eq, List.filter_cons, g3]
    have := leftE_rel (seen := seen) g4
    cases hc : seen.contains b.2.2 with
    | true => simp only [if_true, Bool.not_true, Bool.false_eq_true, if_false]; exact this
    | false => simp only [if_true, Bool.not_false, Bool.false_eq_true, if_false]; exact ⟨e0, _, rfl, g1, g2, g3, this⟩
theorem all_rel {ρ : Ren} {n : Nat} : ∀ {as : List (AV × AV × Nat)} {es : List MapEntry}, EsR ρ as es → (as.all fun e => Nat.ble n e.2.2) = es.all fun e => decide (e.born ≥ n)
  | [], _, h => by cases h; rfl
  | b :: bs, _, ⟨e0, q, hl, g1, g2, g3, g4⟩ => by
    subst hl
    simp only [List.all_cons, all_rel g4, g3]
    congr 1
    rw [Bool.eq_iff_iff, bleN, decide_eq_true_iff]
theorem did_upd {b : Nat} {blk blk' : ABlk} {v : AV} (hb : h.at b = some blk) (hl : blk ≠ .dead) (hl' : blk' ≠ .dead) (hD : D b) (hn : ∀ b blk, h.at b = some blk → b < nx) (hk : k v (h.put b blk') nx (b :: lg) = r)
    (H : ∀ ρ w (a : Act), OpsR P ρ env o a → Pre P D ρ h nx w → ∃ p ob v' d, ρ b = some p ∧ (execOp a.eval o).run P w = .ok (.value v') { setBlk w p.blk ob with drawn := d } ∧ VR ρ v v' ∧ BR ρ blk' p (setBlk w p.blk ob)) : Did P o env D h nx lg k r := by
  refine ⟨v, _, nx, [b], hk, .upd hD (hn _ _ hb) ⟨_, hb, hl⟩, fun ρ w a hx hp => ?_⟩
  obtain ⟨p, ob, v', d, h1, g1, g2, g3⟩ := H ρ w a hx hp
  exact RunsTo.value g1 ⟨ρ, g2, .upd hp hD ⟨_, hb, hl⟩ h1 (fun β hβ => setBlk_ne hβ) (setBlk_size _ _ _) rfl rfl rfl (g3.same rfl)⟩
theorem decode_ascii {l n pos : Nat} {s : ByteArray} (hS : SR l n s) (hp : pos < l) (hc : n / 256 ^ pos % 256 < 128) : Utf8.decode s pos = (n / 256 ^ pos % 256, 1) := by
  have h1 := hS.get hp
  have h2 : pos < s.size := by rw [hS.size]; exact hp
  rw [getElem?_pos s pos h2] at h1
  have h3 : (s.get! pos).toNat = n / 256 ^ pos % 256 := by
    have : s.get! pos = s[pos] := by
      show s.data[pos]! = s.data[pos]
      exact (getElem!_pos s.data pos h2)
    rw [this, Option.some.inj h1]
    simp
  unfold Utf8.decode
  simp only [Nat.add_zero, h3]
  rw [if_pos hc]
theorem doNext_did {x : Operand} {isStr : Bool} (ho : o.op = .next x isStr) (hDn : ∀ b, D b) (e : doNext P x isStr env h nx lg k = r) (hr : r ≠ .fail) (hn : ∀ b blk, h.at b = some blk → b < nx) : Did P o env D h nx lg k r := by
  replace e := evalO_inv e hr; obtain ⟨v, e1, e⟩ := e
  replace e := asPtr_inv e hr; obtain ⟨b, q, rfl, e⟩ := e
  replace e := ifK_inv e hr; obtain ⟨hq, e⟩ := e
  rw [beqN] at hq; subst hq
  replace e := getBlk_inv e hr; obtain ⟨blk, hb, e⟩ := e
  cases blk <;> first
    | exact absurd e.symm hr
    | skip
  case siter l n pos =>
    replace e := ifK_inv e hr; obtain ⟨his, e⟩ := e
    subst his
    rw [boolRec_ite] at e
    split at e
    · rename_i hlt
      rw [bltN] at hlt
      rw [forceN_eq, sh8, land255] at e
      replace e := ifK_inv e hr; obtain ⟨hc, e⟩ := e
      rw [bltN] at hc
      rw [T.setK_put] at e
      refine did_upd hb (by simp) (by simp) (hDn b) hn e fun ρ w a hx hp => ?_
      obtain ⟨p, h1, h3⟩ := hx x (by simp [ho, Op.operands]) _ e1
      obtain ⟨s, k1, k2, k3⟩ := hp.rel b (hDn b) _ p hb h1
      refine ⟨p, .stringIter s (pos + 1), .tuple #[.bool true, goInt pos, .int .i32 ((n / 256 ^ pos % 256 : Nat) : Int)], w.drawn, h1, ?_, ⟨_, rfl, VRs.cons rfl (VRs.cons rfl (VRs.cons rfl rfl))⟩, ⟨s, setBlk_at k1, k2, k3⟩⟩
      have hd := decode_ascii k2 hlt hc
      have hlt' : pos < s.size := by rw [k2.size]; exact hlt
      simp only [execOp, ho, Instr.next, h3, k3, Nat.add_zero, Sem.run_bind, run_getObj (P := P) k1 (by simp), Result.andThen_ok, hlt', if_true, hd, run_setObj (P := P) k1 (by simp), Sem.run_pure]
      rfl
    · rename_i hlt
      rw [bltN] at hlt
      refine did_same (v := .tuple [.bool false]) e fun ρ w a hx hp => ?_
      obtain ⟨p, h1, h3⟩ := hx x (by simp [ho, Op.operands]) _ e1
      obtain ⟨s, k1, k2, k3⟩ := hp.rel b (hDn b) _ p hb h1
      refine ⟨.tuple #[.bool false], ?_, _, rfl, VRs.cons rfl rfl⟩
      have hlt' : ¬ pos < s.size := by rw [k2.size]; exact hlt
      simp only [execOp, ho, Instr.next, h3, k3, Nat.add_zero, Sem.run_bind, run_getObj (P := P) k1 (by simp), Result.andThen_ok, hlt', if_false, Sem.run_pure]
  case niter =>
    replace e := ifK_inv e hr; obtain ⟨his, e⟩ := e
    obtain rfl : isStr = false := by simpa using his
    refine did_same (v := .tuple [.bool false]) e fun ρ w a hx hp => ?_
    obtain ⟨p, h1, h3⟩ := hx x (by simp [ho, Op.operands]) _ e1
    obtain ⟨k1, k3⟩ := hp.rel b (hDn b) _ p hb h1
    refine ⟨.tuple #[.bool false], ?_, _, rfl, VRs.cons rfl rfl⟩
    simp only [execOp, ho, Instr.next, h3, k3, Nat.add_zero, Sem.run_bind, run_getObj (P := P) k1 (by simp), Result.andThen_ok, Sem.run_pure]
  case miter m since seen stepped =>
    replace e := ifK_inv e hr; obtain ⟨his, e⟩ := e
    obtain rfl : isStr = false := by simpa using his
    replace e := getBlk_inv e hr; obtain ⟨blk, hm, e⟩ := e
    replace e := asMapB_inv e hr; obtain ⟨es, cl, rfl, e⟩ := e
    replace e := ifK_inv e hr; obtain ⟨hall, e⟩ := e
    -- what both ways share
    have key : ∀ ρ w (a : Act), OpsR P ρ env o a → Pre P D ρ h nx w → ∃ p q arr, ρ b = some p ∧ ρ m = some q ∧ a.eval x = .pointer (some ⟨p.blk, 0, none⟩) ∧ w.heap[p.blk]? = some (.mapIter (some q.blk) since seen.reverse.toArray stepped) ∧ p.base = 0 ∧
        w.heap[q.blk]? = some (.map arr cl) ∧ EsR ρ (leftE seen es) (arr.toList.filter fun e => !seen.contains e.born) ∧ (!seen.reverse.toArray.isEmpty && !arr.isEmpty && arr.all fun e => decide (e.born ≥ stepped)) = false := by
      intro ρ w a hx hp
      obtain ⟨p, h1, h3⟩ := hx x (by simp [ho, Op.operands]) _ e1
      obtain ⟨q, k1, k2, k3⟩ := hp.rel b (hDn b) _ p hb h1
      obtain ⟨arr, k4, k5⟩ := hp.rel m (hDn m) _ q hm k1
      refine ⟨p, q, arr, h1, k1, by rw [h3, k3], k2, k3, k4, leftE_rel k5, ?_⟩
      have g1 : (es.all fun e => Nat.ble stepped e.2.2) = arr.all fun e => decide (e.born ≥ stepped) := by rw [all_rel k5, Array.all_toList]
      have g2 := k5.length
      have g3 : arr.isEmpty = es.isEmpty := by
        rw [Bool.eq_iff_iff, Array.isEmpty_iff_size_eq_zero, List.isEmpty_iff_length_eq_zero, g2, Array.length_toList]
      have g4 : seen.reverse.toArray.isEmpty = seen.isEmpty := by cases seen <;> simp
      rw [g3, g4, ← g1]
      revert hall
      cases seen.isEmpty <;> cases es.isEmpty <;> simp
    split at e
    · rename_i hleft
      refine did_same (v := .tuple [.bool false]) e fun ρ w a hx hp => ?_
      obtain ⟨p, q, arr, h1, h2, h3, k1, k2, k3, k4, k5⟩ := key ρ w a hx hp
      rw [hleft] at k4
      have hfil : arr.filter (fun e => !seen.reverse.toArray.contains e.born) = #[] := by
        apply Array.ext'
        rw [Array.toList_filter]
        have : (fun e : MapEntry => !seen.reverse.toArray.contains e.born) = fun e => !seen.contains e.born := by funext e; simp
        rw [this]; exact k4
      refine ⟨.tuple #[.bool false], ?_, _, rfl, VRs.cons rfl rfl⟩
      simp only [execOp, ho, Instr.next, h3, Sem.run_bind, run_getObj (P := P) k1 (by simp), Result.andThen_ok, run_getObj (P := P) k3 (by simp), k5, Bool.false_eq_true, if_false, hfil]
      simp [Question.forced]
    · rename_i e0 hleft
      replace e := ifK_inv e hr; obtain ⟨hborn, e⟩ := e
      rw [bltN] at hborn
      rw [T.setK_put] at e
      refine did_upd hb (by simp) (by simp) (hDn b) hn e fun ρ w a hx hp => ?_
      obtain ⟨p, q, arr, h1, h2, h3, k1, k2, k3, k4, k5⟩ := key ρ w a hx hp
      rw [hleft] at k4
      obtain ⟨ce, rr, m1, m2, m3, m4, m5⟩ := k4
      have m5 : rr = [] := m5
      subst m5
      have hfil : arr.filter (fun e => !seen.reverse.toArray.contains e.born) = #[ce] := by
        apply Array.ext'
        rw [Array.toList_filter]
        have : (fun e : MapEntry => !seen.reverse.toArray.contains e.born) = fun e => !seen.contains e.born := by funext e; simp
        rw [this]; exact m1
      refine ⟨p, .mapIter (some q.blk) since (seen.reverse.toArray.push ce.born) cl, .tuple #[.bool true, ce.key, ce.val], w.drawn, h1, ?_, ⟨_, rfl, VRs.cons rfl (VRs.cons m2 (VRs.cons m3 rfl))⟩, ⟨q, h2, by rw [setBlk_at k1]; simp [m4], k2⟩⟩
      have hb1 : ce.born < since := by rw [m4]; exact hborn
      simp only [execOp, ho, Instr.next, h3, Sem.run_bind, run_getObj (P := P) k1 (by simp), Result.andThen_ok, run_getObj (P := P) k3 (by simp), k5, Bool.false_eq_true, if_false, hfil]
      simp [Question.forced, hb1, run_setObj (P := P) k1 (by simp)]
      rfl
    · exact absurd e.symm hr

/-! ### Builtins -/
theorem exec_builtin {c : Call} {b : Builtin} {a : Act} (ho : o.op = .call c) (hc : c.callee = .builtin b) : ∃ cs : Array Bool, ∀ w, (execOp a.eval o).run P w = (builtin b c.argTypes o.type cs (c.args.map a.eval)).run P w := by
  refine ⟨c.args.map fun x => match x with | .const _ => true | _ => false, fun w => ?_⟩
  simp only [execOp, ho, resolve, hc, Sem.run_bind, Sem.run_pure, Result.andThen_ok, invoke]
  rfl
theorem args_one {ρ : Ren} {a : Act} {args : Array Operand} {v : AV} (h : VRs ρ [v] (args.toList.map a.eval)) : ∃ x, args.map a.eval = #[x] ∧ VR ρ v x := by
  obtain ⟨x, xs, e, h1, h2⟩ := h
  have h2 : xs = [] := h2
  subst h2
  exact ⟨x, by apply Array.ext'; rw [Array.toList_map, e], h1⟩
theorem args_two {ρ : Ren} {a : Act} {args : Array Operand} {v u : AV} (h : VRs ρ [v, u] (args.toList.map a.eval)) : ∃ x y, args.map a.eval = #[x, y] ∧ VR ρ v x ∧ VR ρ u y := by
  obtain ⟨x, xs, e, h1, y, ys, e2, h2, h3⟩ := h
  have h3 : ys = [] := h3
  subst h3; subst e2
  exact ⟨x, y, by apply Array.ext'; rw [Array.toList_map, e], h1, h2⟩
noncomputable def one (l : List AV) (c : AV → Res) : Res := @List.rec AV (fun _ => Res) .fail (fun x xs _ => @List.rec AV (fun _ => Res) (c x) (fun _ _ _ => .fail) xs) l
noncomputable def two (l : List AV) (c : AV → AV → Res) : Res := @List.rec AV (fun _ => Res) .fail (fun x xs _ => one xs (c x)) l
theorem one_inv {l : List AV} {c : AV → Res} (e : one l c = r) (hr : r ≠ .fail) : ∃ x, l = [x] ∧ c x = r := by
  cases l with
  | nil => exact absurd e.symm hr
  | cons x xs => cases xs with
    | nil => exact ⟨x, rfl, e⟩
    | cons y ys => exact absurd e.symm hr
theorem two_inv {l : List AV} {c : AV → AV → Res} (e : two l c = r) (hr : r ≠ .fail) : ∃ x y, l = [x, y] ∧ c x y = r := by
  cases l with
  | nil => exact absurd e.symm hr
  | cons x xs => obtain ⟨y, rfl, e⟩ := one_inv (c := c x) e hr; exact ⟨x, y, rfl, e⟩
/-- The arguments of a call, and what they stand for. -/
theorem call_args {c : Call} (ho : o.op = .call c) {vs : List AV} (hl : vs.length = c.args.toList.length) (hv : ∀ (i : Nat) x v, c.args.toList[i]? = some x → vs[i]? = some v → evalA P.globals.size env x = some v) {ρ : Ren} {a : Act} (hx : OpsR P ρ env o a) : VRs ρ vs (c.args.toList.map a.eval) :=
  evalL_sound hl hv fun x hm => hx x (by
    simp only [ho, Op.operands, Call.operands]
    exact Array.mem_append.2 (.inr (by simpa using hm)))
/-- An argument's block is read. -/
theorem foot_arg {c : Call} (ho : o.op = .call c) {vs : List AV} (hl : vs.length = c.args.toList.length) (hv : ∀ (i : Nat) x v, c.args.toList[i]? = some x → vs[i]? = some v → evalA P.globals.size env x = some v) {v : AV} {b : Nat} (hm : v ∈ vs) (hb : topB v = some b) : FootIn P o.op env b := by
  obtain ⟨i, hi⟩ := List.mem_iff_getElem?.1 hm
  have hlt : i < c.args.toList.length := by
    rw [← hl]
    rcases Nat.lt_or_ge i vs.length with z | z
    · exact z
    · rw [List.getElem?_eq_none z] at hi; cases hi
  exact ⟨c.args.toList[i], by simp [ho, footOps], v, hv i _ v (List.getElem?_eq_getElem hlt) hi, hb⟩

/-- What the length of a value of a type is asked of. -/
noncomputable def lenK (P : Program) (h : AH) (t : TypeId) (v : AV) (c : Nat → Res) : Res :=
  @AV.casesOn (fun _ => Res) v (fun _ => .fail) (fun _ _ => .fail) (fun l _ => ifK (isStrTy P t) (c l)) (fun _ _ => .fail) .fail (fun _ _ n _ _ => optK (slSize P t) fun _ => c n) (optK (slSize P t) fun _ => c 0)
    (fun b => optK (mapTy P t) fun _ => getBlk h b fun blk => asMapB blk fun es _ => forceN es.length c) (optK (mapTy P t) fun _ => c 0) (fun _ _ _ => .fail) .fail (fun _ _ => .fail) .fail (fun _ => optK (arSize P t) fun z => forceN z.1 c) (fun _ => .fail)
noncomputable def doLen (P : Program) (ts : Array TypeId) (args : List AV) (h : AH) (nx : Nat) (lg : List Nat) (k : KV) : Res :=
  one args fun v => optK (ts[0]?) fun t => lenK P h t v fun n => k (.int .i64 (Int.ofNat n)) h nx lg
theorem doLen_did {c : Call} (ho : o.op = .call c) (hc : c.callee = .builtin .len) {vs : List AV} (hl : vs.length = c.args.toList.length) (hv : ∀ (i : Nat) x v, c.args.toList[i]? = some x → vs[i]? = some v → evalA P.globals.size env x = some v)
    (hD : ∀ b, FootIn P o.op env b → D b) (e : doLen P c.argTypes vs h nx lg k = r) (hr : r ≠ .fail) : Did P o env D h nx lg k r := by
  replace e := one_inv e hr; obtain ⟨v, rfl, e⟩ := e
  replace e := optK_inv e hr; obtain ⟨t, ht, e⟩ := e
  have fin : ∀ (n : Nat), k (.int .i64 (Int.ofNat n)) h nx lg = r → (∀ ρ w (a : Act) x, VR ρ v x → Pre P D ρ h nx w → (Builtin.len_ c.argTypes o.type #[x]).run P w = .ok (goInt n) w) → Did P o env D h nx lg k r := by
    intro n e H
    refine did_same e fun ρ w a hx hp => ?_
    obtain ⟨cs, hex⟩ := exec_builtin (P := P) (a := a) ho hc
    obtain ⟨x, ha, hvx⟩ := args_one (call_args ho hl hv hx)
    refine ⟨goInt n, ?_, rfl⟩
    rw [hex, ha]
    simp [builtin, H ρ w a x hvx hp]
  cases v <;> first
    | exact absurd e.symm hr
    | skip
  case str l n =>
    replace e := ifK_inv e hr; obtain ⟨hs, e⟩ := e
    refine fin l e fun ρ w a x hvx hp => ?_
    obtain ⟨s, rfl, hS⟩ := hvx
    simp [Builtin.len_, ht, run_underlying' (isStrTy_inv hs), hS.size]
  case slice b q n cp ex =>
    replace e := optK_inv e hr; obtain ⟨⟨et, sz⟩, hz, e⟩ := e
    obtain ⟨i, hu, _⟩ := slSize_inv hz
    refine fin n e fun ρ w a x hvx hp => ?_
    obtain ⟨p, q', c', h1, rfl, _⟩ := hvx
    simp [Builtin.len_, ht, run_underlying' hu]
  case nilSlice =>
    replace e := optK_inv e hr; obtain ⟨⟨et, sz⟩, hz, e⟩ := e
    obtain ⟨i, hu, _⟩ := slSize_inv hz
    refine fin 0 e fun ρ w a x hvx hp => ?_
    simp only [VR] at hvx; subst hvx
    simp [Builtin.len_, ht, run_underlying' hu]
  case map b =>
    replace e := optK_inv e hr; obtain ⟨⟨kt, et⟩, hty, e⟩ := e
    obtain ⟨hu, _⟩ := mapTy_inv hty
    replace e := getBlk_inv e hr; obtain ⟨blk, hb, e⟩ := e
    replace e := asMapB_inv e hr; obtain ⟨es, cl, rfl, e⟩ := e
    rw [forceN_eq] at e
    refine fin _ e fun ρ w a x hvx hp => ?_
    obtain ⟨p, h1, rfl⟩ := hvx
    obtain ⟨arr, k1, k2⟩ := hp.rel b (hD b (foot_arg ho hl hv (v := .map b) (by simp) rfl)) _ p hb h1
    have : es.length = arr.size := by rw [← Array.length_toList (xs := arr)]; exact k2.length
    simp [Builtin.len_, ht, run_underlying' hu, run_getObj (P := P) k1 (by simp)]
    rw [this]
  case nilMap =>
    replace e := optK_inv e hr; obtain ⟨⟨kt, et⟩, hty, e⟩ := e
    obtain ⟨hu, _⟩ := mapTy_inv hty
    refine fin 0 e fun ρ w a x hvx hp => ?_
    simp only [VR] at hvx; subst hvx
    simp [Builtin.len_, ht, run_underlying' hu]
  case agg cs' =>
    replace e := optK_inv e hr; obtain ⟨⟨m, et, sz⟩, hz, e⟩ := e
    obtain ⟨i, hu, _⟩ := arSize_inv hz
    rw [forceN_eq] at e
    refine fin m e fun ρ w a x hvx hp => ?_
    simp [Builtin.len_, ht, run_underlying' hu]

noncomputable def mmStep (mx : Bool) (x y : AV) (c : AV → Res) : Res := asInt x fun kd a => asInt y fun _ b => @Bool.rec (fun _ => Res) (c (.int kd a)) (c (.int kd b)) (@Bool.rec (fun _ => Bool) (ltI b a) (ltI a b) mx)
noncomputable def mmL (mx : Bool) (l : List AV) (x : AV) (c : AV → Res) : Res := @List.rec AV (fun _ => AV → Res) c (fun y _ ih x => mmStep mx x y ih) l x
noncomputable def doMM (mx : Bool) (args : List AV) (h : AH) (nx : Nat) (lg : List Nat) (k : KV) : Res := @List.rec AV (fun _ => Res) .fail (fun x xs _ => mmL mx xs x fun v => k v h nx lg) args
theorem mmStep_inv {mx : Bool} {x y : AV} {c : AV → Res} (e : mmStep mx x y c = r) (hr : r ≠ .fail) : ∃ v, c v = r ∧ ∀ (ρ : Ren) x' y' w, VR ρ x x' → VR ρ y y' → ∃ v', ((if mx then Builtin.max2 else Builtin.min2) x' y').run P w = .ok v' w ∧ VR ρ v v' := by
  replace e := asInt_inv e hr; obtain ⟨kd, m, rfl, e⟩ := e
  replace e := asInt_inv e hr; obtain ⟨kd', n, rfl, e⟩ := e
  rw [boolRec_ite, boolRec_ite, ltI_eq, ltI_eq] at e
  cases mx with
  | true =>
    simp only [if_true, decide_eq_true_eq] at e
    have e' : c (.int kd (if n > m then n else m)) = r := by
      split at e <;> rename_i hlt
      · rw [if_pos hlt]; exact e
      · rw [if_neg hlt]; exact e
    refine ⟨_, e', fun ρ x' y' w h1 h2 => ⟨_, ?_, rfl⟩⟩
    simp only [VR] at h1 h2
    subst h1; subst h2
    simp [Builtin.max2]
  | false =>
    simp only [Bool.false_eq_true, if_false, decide_eq_true_eq] at e
    have e' : c (.int kd (if n < m then n else m)) = r := by
      split at e <;> rename_i hlt
      · rw [if_pos hlt]; exact e
      · rw [if_neg hlt]; exact e
    refine ⟨_, e', fun ρ x' y' w h1 h2 => ⟨_, ?_, rfl⟩⟩
    simp only [VR] at h1 h2
    subst h1; subst h2
    simp [Builtin.min2]
theorem mmL_inv {mx : Bool} : ∀ {l : List AV} {x : AV} {c : AV → Res}, mmL mx l x c = r → r ≠ .fail → ∃ v, c v = r ∧ ∀ (ρ : Ren) xs x' w, VRs ρ l xs → VR ρ x x' → ∃ v', (xs.foldlM (if mx then Builtin.max2 else Builtin.min2) x').run P w = .ok v' w ∧ VR ρ v v'
  | [], x, c, e, hr => ⟨x, e, fun ρ xs x' w h1 h2 => by cases h1; exact ⟨x', rfl, h2⟩⟩
  | y :: l, x, c, e, hr => by
    have e' : mmStep mx x y (fun x => mmL mx l x c) = r := e
    obtain ⟨u, e1, H1⟩ := mmStep_inv (P := P) e' hr
    obtain ⟨v, e2, H2⟩ := mmL_inv e1 hr
    refine ⟨v, e2, fun ρ xs x' w h1 h2 => ?_⟩
    obtain ⟨y', ys, rfl, g1, g2⟩ := h1
    obtain ⟨u', k1, k2⟩ := H1 ρ x' y' w h2 g1
    obtain ⟨v', k3, k4⟩ := H2 ρ ys u' w g2 k2
    exact ⟨v', by rw [List.foldlM_cons, Sem.run_bind, k1]; exact k3, k4⟩
theorem doMM_did {mx : Bool} {c : Call} (ho : o.op = .call c) (hc : c.callee = .builtin (if mx then .max else .min)) {vs : List AV} (hl : vs.length = c.args.toList.length) (hv : ∀ (i : Nat) x v, c.args.toList[i]? = some x → vs[i]? = some v → evalA P.globals.size env x = some v)
    (e : doMM mx vs h nx lg k = r) (hr : r ≠ .fail) : Did P o env D h nx lg k r := by
  cases vs with
  | nil => exact absurd e.symm hr
  | cons u us =>
    obtain ⟨v, e1, H⟩ := mmL_inv (P := P) e hr
    refine did_same e1 fun ρ w a hx hp => ?_
    obtain ⟨cs, hex⟩ := exec_builtin (P := P) (a := a) ho hc
    obtain ⟨x, xs, h1, h2, h3⟩ := call_args ho hl hv hx
    obtain ⟨v', g1, g2⟩ := H ρ xs x w h3 h2
    refine ⟨v', ?_, g2⟩
    rw [hex]
    have ha : (c.args.map a.eval).toList = x :: xs := by rw [Array.toList_map]; exact h1
    cases mx with
    | true =>
      simp only [if_true] at g1 ⊢
      simp only [builtin, Builtin.max_, ha, Sem.run_bind, g1, Result.andThen_ok, Sem.run_pure]
    | false =>
      simp only [Bool.false_eq_true, if_false] at g1 ⊢
      simp only [builtin, Builtin.min_, ha, Sem.run_bind, g1, Result.andThen_ok, Sem.run_pure]

noncomputable def delK (i : Nat) (es : List (AV × AV × Nat)) (c : List (AV × AV × Nat) → Res) : Res :=
  @List.rec (AV × AV × Nat) (fun _ => Nat → (List (AV × AV × Nat) → Res) → Res) (fun _ c => c []) (fun e es ih i c => @Nat.rec (fun _ => Res) (c es) (fun j _ => ih j fun es => c (e :: es)) i) es i c
theorem delK_eq : ∀ (es : List (AV × AV × Nat)) (i : Nat) (c : List (AV × AV × Nat) → Res), delK i es c = c (es.eraseIdx i)
  | [], i, c => rfl
  | e :: es, 0, c => rfl
  | e :: es, i + 1, c => by show delK i es (fun es => c (e :: es)) = _; rw [delK_eq]; rfl
noncomputable def doDelete (P : Program) (ts : Array TypeId) (args : List AV) (h : AH) (nx : Nat) (lg : List Nat) (k : KV) : Res :=
  two args fun m kv => optK (ts[0]?) fun t => optK (mapTy P t) fun ty => ifK (ckT P 10000 ty.1 kv) (asMap m (k (.tuple []) h nx lg) fun b => getBlk h b fun blk => asMapB blk fun es cl => optK (findE P ty.1 kv es 0) fun q =>
    @Option.rec (Nat × AV) (fun _ => Res) (T.setK h (Nat.succ b) (.map es cl) fun h => k (.tuple []) h nx (b :: lg)) (fun p => delK p.1 es fun es => T.setK h (Nat.succ b) (.map es cl) fun h => k (.tuple []) h nx (b :: lg)) q)
theorem doDelete_did {c : Call} (ho : o.op = .call c) (hc : c.callee = .builtin .delete) {vs : List AV} (hl : vs.length = c.args.toList.length) (hv : ∀ (i : Nat) x v, c.args.toList[i]? = some x → vs[i]? = some v → evalA P.globals.size env x = some v)
    (hD : ∀ b, FootIn P o.op env b → D b) (e : doDelete P c.argTypes vs h nx lg k = r) (hr : r ≠ .fail) (hn : ∀ b blk, h.at b = some blk → b < nx) : Did P o env D h nx lg k r := by
  replace e := two_inv e hr; obtain ⟨m, kv, rfl, e⟩ := e
  replace e := optK_inv e hr; obtain ⟨t, ht, e⟩ := e
  replace e := optK_inv e hr; obtain ⟨⟨kt, et⟩, hty, e⟩ := e
  replace e := ifK_inv e hr; obtain ⟨hck, e⟩ := e
  obtain ⟨hu, ds, hds⟩ := mapTy_inv hty
  replace e := asMap_inv e hr
  rcases e with ⟨rfl, e⟩ | ⟨b, rfl, e⟩
  · refine did_same e fun ρ w a hx hp => ?_
    obtain ⟨cs, hex⟩ := exec_builtin (P := P) (a := a) ho hc
    obtain ⟨x, y, ha, h1, h2⟩ := args_two (call_args ho hl hv hx)
    simp only [VR] at h1
    have hcc := fun e => ckT_sound (P := P) ρ 10000 e kt kv y w hck h2
    refine ⟨.tuple #[], ?_, _, rfl, rfl⟩
    rw [hex, ha, h1]
    simp [builtin, Builtin.delete_, ht, run_underlying' hu, hcc]
  · replace e := getBlk_inv e hr; obtain ⟨blk, hb, e⟩ := e
    replace e := asMapB_inv e hr; obtain ⟨es, cl, rfl, e⟩ := e
    replace e := optK_inv e hr; obtain ⟨q, hq, e⟩ := e
    have hf : D b := hD b (foot_arg ho hl hv (v := .map b) (by simp) rfl)
    have hdef : ∀ (ρ : Ren) (a : Act), OpsR P ρ env o a → ∃ p, ρ b = some p := fun ρ a hx => by
      obtain ⟨x, y, ha, ⟨p, h1, _⟩, h2⟩ := args_two (call_args ho hl hv hx)
      exact ⟨p, h1⟩
    cases q with
    | none =>
      have e' : (T.setK h (Nat.succ b) (.map es cl) fun h => k (.tuple []) h nx (b :: lg)) = r := e
      rw [T.setK_put] at e'
      refine did_mapWrite hb hf hn e' (fun ρ w a p arr hx h1 k1 k2 => ?_) hdef
      obtain ⟨cs, hex⟩ := exec_builtin (P := P) (a := a) ho hc
      obtain ⟨x, y, ha, ⟨p', h1', h3⟩, h2⟩ := args_two (call_args ho hl hv hx)
      rw [h1] at h1'; cases h1'
      have hcc := fun e => ckT_sound (P := P) ρ 10000 e kt kv y w hck h2
      obtain ⟨q', g1, g2⟩ := findKey_sound (P := P) hds h2 w k2 hq
      cases q' with
      | some q => exact g2.elim
      | none =>
        refine ⟨arr, k2, .inr ⟨.tuple #[], ?_, _, rfl, rfl⟩⟩
        rw [hex, ha, h3]
        simp [builtin, Builtin.delete_, ht, run_underlying' hu, hcc, run_getObj (P := P) k1 (by simp), g1, run_setObj (P := P) k1 (by simp)]
    | some q =>
      obtain ⟨i, v0⟩ := q
      have e' : (delK i es fun es => T.setK h (Nat.succ b) (.map es cl) fun h => k (.tuple []) h nx (b :: lg)) = r := e
      rw [delK_eq, T.setK_put] at e'
      refine did_mapWrite hb hf hn e' (fun ρ w a p arr hx h1 k1 k2 => ?_) hdef
      obtain ⟨cs, hex⟩ := exec_builtin (P := P) (a := a) ho hc
      obtain ⟨x, y, ha, ⟨p', h1', h3⟩, h2⟩ := args_two (call_args ho hl hv hx)
      rw [h1] at h1'; cases h1'
      have hcc := fun e => ckT_sound (P := P) ρ 10000 e kt kv y w hck h2
      obtain ⟨q', g1, g2⟩ := findKey_sound (P := P) hds h2 w k2 hq
      cases q' with
      | none => exact g2.elim
      | some q =>
        obtain ⟨j, u⟩ := q
        obtain ⟨rfl, _⟩ := g2
        refine ⟨arr.eraseIdxIfInBounds i, by rw [Array.toList_eraseIdxIfInBounds]; exact k2.erase i, .inr ⟨.tuple #[], ?_, _, rfl, rfl⟩⟩
        rw [hex, ha, h3]
        simp [builtin, Builtin.delete_, ht, run_underlying' hu, hcc, run_getObj (P := P) k1 (by simp), g1, run_setObj (P := P) k1 (by simp)]
end
end Go.CE
