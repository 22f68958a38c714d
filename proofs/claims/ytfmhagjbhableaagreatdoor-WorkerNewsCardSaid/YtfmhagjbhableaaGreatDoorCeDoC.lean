/-
  CE, part 17: clear; all operations that are no calls of functions, in one.
-/
import Derived.Test.YtfmhagjbhableaaGreatDoorCeDoB
namespace Go.CE
open Go
set_option linter.unusedVariables false
set_option linter.unusedSimpArgs false
section
variable {P : Program} {o : Oper} {env : T AV} {D : Nat → Prop} {h : AH} {nx : Nat} {lg : List Nat} {k : KV} {r : Res}
noncomputable def doClear (P : Program) (ts : Array TypeId) (args : List AV) (h : AH) (nx : Nat) (lg : List Nat) (k : KV) : Res :=
  one args fun v => optK (ts[0]?) fun t =>
  @AV.casesOn (fun _ => Res) v (fun _ => .fail) (fun _ _ => .fail) (fun _ _ => .fail) (fun _ _ => .fail) .fail
   (fun b o n _ _ => optK (slSize P t) fun y => @Bool.rec (fun _ => Res)
      (optK (zeroOf P y.1) fun z => ifK (and (cellsOK (cellsA z)) (Nat.beq (cellsA z).length y.2)) (forceL (cellsA z) fun z => forceN y.2 fun sz => getBlk h b fun blk => asCells blk fun ty esz nr rows ro => forceN (Nat.div o esz) fun i =>
        ifK (and (not ro) (and (Nat.beq esz sz) (and (Nat.beq (Nat.mul i sz) o) (Nat.ble (Nat.add i n) nr)))) (repK n z fun l => chunkK n sz l i rows fun rows => T.setK h (Nat.succ b) (.cells ty esz nr rows ro) fun h => k (.tuple []) h nx (b :: lg))))
      (k (.tuple []) h nx lg) (Nat.beq n 0))
   (optK (slSize P t) fun _ => k (.tuple []) h nx lg) (fun b => optK (mapTy P t) fun _ => getBlk h b fun blk => asMapB blk fun _ cl => T.setK h (Nat.succ b) (.map [] cl) fun h => k (.tuple []) h nx (b :: lg)) (optK (mapTy P t) fun _ => k (.tuple []) h nx lg) (fun _ _ _ => .fail) .fail (fun _ _ => .fail) .fail (fun _ => .fail) (fun _ => .fail)
theorem doClear_did {c : Call} (ho : o.op = .call c) (hc : c.callee = .builtin .clear) {vs : List AV} (hl : vs.length = c.args.toList.length) (hv : ∀ (i : Nat) x v, c.args.toList[i]? = some x → vs[i]? = some v → evalA P.globals.size env x = some v)
    (hD : ∀ b, FootIn P o.op env b → D b) (e : doClear P c.argTypes vs h nx lg k = r) (hr : r ≠ .fail) (hn : ∀ b blk, h.at b = some blk → b < nx) : Did P o env D h nx lg k r := by
  replace e := one_inv e hr; obtain ⟨v, rfl, e⟩ := e
  replace e := optK_inv e hr; obtain ⟨t, ht, e⟩ := e
  cases v <;> first
    | exact absurd e.symm hr
    | skip
  case slice b q n cp ex =>
    replace e := optK_inv e hr; obtain ⟨⟨et, sz⟩, hy, e⟩ := e
    obtain ⟨info, hu, hi, hs⟩ := slSize_inv hy
    rw [boolRec_ite] at e
    split at e
    · rename_i h0
      rw [beqN] at h0; subst h0
      refine did_same (v := .tuple []) e fun ρ w a hx hp => ?_
      obtain ⟨cs, hex⟩ := exec_builtin (P := P) (a := a) ho hc
      obtain ⟨x, ha, p, q', c', h1, h2, _⟩ := args_one (call_args ho hl hv hx)
      refine ⟨.tuple #[], ?_, _, rfl, rfl⟩
      rw [hex, ha, h2]
      simp [builtin, Builtin.clear_, ht, run_underlying' hu]
    · rename_i hn0
      rw [beqN] at hn0
      replace e := optK_inv e hr; obtain ⟨z, hz, e⟩ := e
      replace e := ifK_inv e hr; obtain ⟨hzc, e⟩ := e
      simp only [Bool.and_eq_true, beqN] at hzc
      obtain ⟨hzc, hzl⟩ := hzc
      rw [forceL_eq, forceN_eq] at e
      replace e := getBlk_inv e hr; obtain ⟨blk, hb, e⟩ := e
      replace e := asCells_inv e hr; obtain ⟨ty, esz, nr, rows, ro, rfl, e⟩ := e
      rw [forceN_eq] at e
      generalize Nat.div q esz = i at e
      replace e := ifK_inv e hr; obtain ⟨hc2, e⟩ := e
      simp only [Bool.and_eq_true, beqN, bleN, Bool.not_eq_true'] at hc2
      obtain ⟨rfl, rfl, hq, hle⟩ := hc2
      have hq : i * esz = q := hq
      have hle : i + n ≤ nr := hle
      have hzl : (cellsA z).length = esz := hzl
      rw [repK_eq] at e
      obtain ⟨rows', e2, h1r, h2r⟩ := chunkK_inv esz n (rep n (cellsA z)) i rows (fun rows => T.setK h (Nat.succ b) (.cells ty esz nr rows false) fun h => k (.tuple []) h nx (b :: lg))
      have e2 := e2.symm.trans e
      rw [T.setK_put] at e2
      have hf : D b := hD b (foot_arg ho hl hv (v := .slice b q n cp ex) (by simp) rfl)
      obtain ⟨iz, zv, hi2, hzv, hrun, hV⟩ := zeroOf_inv hz
      refine ⟨.tuple [], _, nx, [b], e2, .upd hf (hn _ _ hb) ⟨_, hb, by simp⟩, fun ρ w a hx hp => ?_⟩
      obtain ⟨cs, hex⟩ := exec_builtin (P := P) (a := a) ho hc
      obtain ⟨x, ha, hvx⟩ := args_one (call_args ho hl hv hx)
      obtain ⟨p, c', h1, h2, _⟩ := hvx.at (.inl hn0)
      have hB := hp.rel b hf _ p hb h1
      have hz0 := cellsA_sound (hV ρ) (cellsOK_tuple hzc)
      have hcells : ∀ a ∈ rep n (cellsA z), isCell a = true := by
        intro a ha
        have : ∀ n, a ∈ rep n (cellsA z) → a ∈ cellsA z := by
          intro n
          induction n with
          | zero => intro h; cases h
          | succ n ih => intro h; rcases List.mem_append.1 h with h | h
                         · exact h
                         · exact ih h
        exact cellsOK_iff hzc a (this n ha)
      have hroom : (i + n) * esz ≤ p.room := Nat.le_trans (Nat.mul_le_mul_right _ hle) hB.2.1
      obtain ⟨arr, fz, g1, g2⟩ := hB.storeRows (P := P) (i := i) (m := n) (by rw [rep_length, hzl]) (hz0.rep n) hcells (by omega) hroom h1r h2r
      rw [Nat.max_eq_left hle] at g2
      refine RunsTo.value (v := .tuple #[]) (w' := setBlk w p.blk (.cells arr ty fz)) ?_ ⟨ρ, ⟨_, rfl, rfl⟩, .upd hp hf ⟨_, hb, by simp⟩ h1 (fun β hβ => setBlk_ne hβ) (setBlk_size _ _ _) rfl rfl rfl g2⟩
      rw [hex, ha, h2]
      have hzc2 : (Builtin.zeroCells zv.cells n).toList = rep n zv.cells.toList := zeros_eq _ _
      obtain ⟨n', rfl⟩ : ∃ n', n = n' + 1 := ⟨n - 1, by omega⟩
      rw [← hq]
      have hrun' : (zeroValue et).run P w = .ok zv w := hrun w
      simp [builtin, Builtin.clear_, ht, run_underlying' hu, hrun', hzc2, g1]
  case nilSlice =>
    replace e := optK_inv e hr; obtain ⟨⟨et, sz⟩, hy, e⟩ := e
    obtain ⟨info, hu, hi, hs⟩ := slSize_inv hy
    refine did_same (v := .tuple []) e fun ρ w a hx hp => ?_
    obtain ⟨cs, hex⟩ := exec_builtin (P := P) (a := a) ho hc
    obtain ⟨x, ha, h2⟩ := args_one (call_args ho hl hv hx)
    simp only [VR] at h2
    refine ⟨.tuple #[], ?_, _, rfl, rfl⟩
    rw [hex, ha, h2]
    simp [builtin, Builtin.clear_, ht, run_underlying' hu]
  case map b =>
    replace e := optK_inv e hr; obtain ⟨⟨kt, et⟩, hty, e⟩ := e
    obtain ⟨hu, _⟩ := mapTy_inv hty
    replace e := getBlk_inv e hr; obtain ⟨blk, hb, e⟩ := e
    replace e := asMapB_inv e hr; obtain ⟨es, cl, rfl, e⟩ := e
    rw [T.setK_put] at e
    refine did_mapWrite hb (hD b (foot_arg ho hl hv (v := .map b) (by simp) rfl)) hn e (fun ρ w a p arr hx h1 k1 k2 => ?_) (fun ρ a hx => ?_)
    · obtain ⟨cs, hex⟩ := exec_builtin (P := P) (a := a) ho hc
      obtain ⟨x, ha, p', h1', h2⟩ := args_one (call_args ho hl hv hx)
      rw [h1] at h1'; cases h1'
      refine ⟨#[], rfl, .inr ⟨.tuple #[], ?_, _, rfl, rfl⟩⟩
      rw [hex, ha, h2]
      simp [builtin, Builtin.clear_, ht, run_underlying' hu, run_getObj (P := P) k1 (by simp), run_setObj (P := P) k1 (by simp)]
    · obtain ⟨x, ha, p', h1', h2⟩ := args_one (call_args ho hl hv hx)
      exact ⟨p', h1'⟩
  case nilMap =>
    replace e := optK_inv e hr; obtain ⟨⟨kt, et⟩, hty, e⟩ := e
    obtain ⟨hu, _⟩ := mapTy_inv hty
    refine did_same (v := .tuple []) e fun ρ w a hx hp => ?_
    obtain ⟨cs, hex⟩ := exec_builtin (P := P) (a := a) ho hc
    obtain ⟨x, ha, h2⟩ := args_one (call_args ho hl hv hx)
    simp only [VR] at h2
    refine ⟨.tuple #[], ?_, _, rfl, rfl⟩
    rw [hex, ha, h2]
    simp [builtin, Builtin.clear_, ht, run_underlying' hu]

/-! ### All in one -/
abbrev OpF := T AV → AH → Nat → List Nat → KV → Res
noncomputable def failF : OpF := fun _ _ _ _ _ => .fail
/-- The operations that are no calls, no range's next and no defers. -/
noncomputable def doOp (P : Program) (op : Op) : OpF :=
  @Op.casesOn (fun _ => OpF) op (doMove P) (doMove P) (doPick P) (doAlloc P) (doBox P) (doBuild P) (doBuildSlice P) (doMapUpdate P) (doLoad P) (doStore P) (fun _ => failF) (fun _ => failF) (doNilCheck P)
   (fun b t x y _ => doBin P b t x y) (fun u _ x => doUn P u x) (doConvert P) (fun _ _ => failF) (doMakeIface P) (doMakeFunc P) (doMakeMap P) (fun _ _ => failF) (doMakeSlice P) (doSlice P) (doFieldAddr P) (doField P) (doIndexAddr P) (doIndex P) (doLookup P) (doMapUpdate P)
   (fun _ _ _ => failF) (fun _ _ _ _ => failF) (doRange P) (fun _ _ => failF) (fun _ => failF) (fun x xt t ok => doTypeAssert P x xt t ok) (doExtract P) (fun _ => failF) (fun _ => failF) (fun _ => failF) (fun _ => failF) (fun _ _ => failF) (fun _ _ _ => failF) (fun _ _ => failF)
theorem doOp_did (hD : ∀ b, FootIn P o.op env b → D b) (hn : ∀ b blk, h.at b = some blk → b < nx) (e : doOp P o.op env h nx lg k = r) (hr : r ≠ .fail) : Did P o env D h nx lg k r := by
  generalize ho : o.op = op at e
  cases op
  case move x => exact doMove_did ho e hr
  case assign x => exact doAssign_did ho e hr
  case pick => exact doPick_did ho e hr
  case alloc => exact doAlloc_did ho e hr
  case box => exact doBox_did ho e hr
  case build => exact doBuild_did ho e hr
  case buildSlice => exact doBuildSlice_did ho e hr
  case insert => exact doMapUpdate_did (.inr ho) hD e hr hn
  case load => exact doLoad_did ho hD e hr
  case store => exact doStore_did ho hD e hr hn
  case nilCheck => exact doNilCheck_did ho e hr
  case binOp => exact doBin_did ho e hr
  case unOp => exact doUn_did ho e hr
  case convert => exact doConvert_did ho hD e hr
  case makeInterface => exact doMakeIface_did ho e hr
  case makeFunc => exact doMakeFunc_did ho e hr
  case makeMap => exact doMakeMap_did ho e hr
  case makeSlice => exact doMakeSlice_did ho e hr
  case slice => exact doSlice_did ho hD e hr
  case fieldAddr => exact doFieldAddr_did ho e hr
  case field => exact doField_did ho e hr
  case indexAddr => exact doIndexAddr_did ho e hr
  case index => exact doIndex_did ho e hr
  case lookup => exact doLookup_did ho hD e hr
  case mapUpdate => exact doMapUpdate_did (.inl ho) hD e hr hn
  case range => exact doRange_did ho hD e hr
  case typeAssert => exact doTypeAssert_did ho e hr
  case extract => exact doExtract_did ho e hr
  all_goals exact absurd e.symm hr
/-- The builtins. -/
noncomputable def doBuiltin (P : Program) (b : Builtin) (ts : Array TypeId) (args : List AV) (h : AH) (nx : Nat) (lg : List Nat) (k : KV) : Res :=
  @Builtin.casesOn (fun _ => Res) b (doAppend P ts args h nx lg k) .fail (doClear P ts args h nx lg k) .fail .fail .fail (doDelete P ts args h nx lg k) .fail (doLen P ts args h nx lg k) .fail (doMM true args h nx lg k) (doMM false args h nx lg k) .fail .fail .fail .fail .fail .fail .fail .fail .fail .fail .fail .fail .fail .fail
theorem doBuiltin_did {c : Call} {b : Builtin} (ho : o.op = .call c) (hc : c.callee = .builtin b) {vs : List AV} (hl : vs.length = c.args.toList.length) (hv : ∀ (i : Nat) x v, c.args.toList[i]? = some x → vs[i]? = some v → evalA P.globals.size env x = some v)
    (hD : ∀ b, FootIn P o.op env b → D b) (hn : ∀ b blk, h.at b = some blk → b < nx) (e : doBuiltin P b c.argTypes vs h nx lg k = r) (hr : r ≠ .fail) : Did P o env D h nx lg k r := by
  cases b
  case append => exact doAppend_did ho hc hl hv hD e hr hn
  case clear => exact doClear_did ho hc hl hv hD e hr hn
  case delete => exact doDelete_did ho hc hl hv hD e hr hn
  case len => exact doLen_did ho hc hl hv hD e hr
  case max => exact doMM_did (mx := true) ho hc hl hv e hr
  case min => exact doMM_did (mx := false) ho hc hl hv e hr
  all_goals exact absurd e.symm hr
end
end Go.CE
