/-
  CE, part 11: operators, conversions, cuts.
-/
import Derived.Test.YtfmhagjbhableaaGreatDoorCeDo5
namespace Go.CE
open Go
set_option linter.unusedVariables false
set_option linter.unusedSimpArgs false
section
variable {P : Program} {o : Oper} {env : T AV} {D : Nat → Prop} {h : AH} {nx : Nat} {lg : List Nat} {k : KV} {r : Res}

/-! ### Operators -/
def isConst : Operand → Bool
  | .const _ => true
  | _ => false
def isSh (op : BinOp) : Bool := match op with | .shl | .shr => true | _ => false
noncomputable def eqOp (P : Program) (op : BinOp) (t : TypeId) (cst : Bool) (a b : AV) (c : AV → Res) : Res :=
  ifK (match a, b with | .nilIface, .nilIface => cst | .agg _, .agg _ => not (P.eqGuardType P.depth t) | .str _ _, _ => false | .int _ _, _ => false | _, .int _ _ => false | _, _ => true)
   (optK (eqT P 10000 t a b) fun r => @BinOp.casesOn (fun _ => Res) op .fail .fail .fail .fail .fail .fail .fail .fail .fail .fail .fail (retB r c) (retB (not r) c) .fail .fail .fail .fail)
noncomputable def binA (P : Program) (op : BinOp) (t : TypeId) (cst : Bool) (a b : AV) (c : AV → Res) : Res :=
  @AV.casesOn (fun _ => Res) a (fun _ => eqOp P op t cst a b c)
    (fun k x => asInt b fun k' y => @Bool.rec (fun _ => Res) (ifK (Nat.beq (kNum k) (kNum k')) (intOp op k x y c)) (shOp op k x y c) (isSh op))
    (fun l n => asStr b fun m p => strOp op l n m p c)
    (fun _ _ => eqOp P op t cst a b c) (eqOp P op t cst a b c) (fun _ _ _ _ _ => eqOp P op t cst a b c) (eqOp P op t cst a b c) (fun _ => eqOp P op t cst a b c) (eqOp P op t cst a b c) (fun _ _ _ => eqOp P op t cst a b c) (eqOp P op t cst a b c) (fun _ _ => eqOp P op t cst a b c) (eqOp P op t cst a b c) (fun _ => eqOp P op t cst a b c) (fun _ => eqOp P op t cst a b c)
/-- What an operator's two operands give, the test ahead of '==' included. -/
def BinRuns (P : Program) (op : BinOp) (t : TypeId) (cst : Bool) (a b v : AV) : Prop :=
  ∀ (ρ : Ren) x y w (xo yo : Operand), VR ρ a x → VR ρ b y → (cst = true → (isConst xo = true ∨ isConst yo = true)) → ∃ v', (do eqGuard op t xo yo x y; binOp op t x y : Sem Value).run P w = .ok v' w ∧ VR ρ v v'
theorem eqGuard_pass {op : BinOp} {t : TypeId} {x y : Operand} {a b : Value} {w : World} (h1 : ¬ (a = .nilIface ∧ b = .nilIface)) (h2 : ∀ l m, ¬ (a = .agg l ∧ b = .agg m)) : (eqGuard op t x y a b).run P w = .ok () w := by
  unfold eqGuard
  split
  all_goals simp only [Bool.not_true, Bool.not_false, Bool.false_eq_true, if_false, if_true, Sem.run_pure]
  all_goals
    split
    · exact absurd ⟨rfl, rfl⟩ h1
    · exact absurd ⟨rfl, rfl⟩ (h2 _ _)
    · rfl
theorem eqOp_inv {op : BinOp} {t : TypeId} {cst : Bool} {a b : AV} {c : AV → Res} (e : eqOp P op t cst a b c = r) (hr : r ≠ .fail) : ∃ v, c v = r ∧ BinRuns P op t cst a b v := by
  replace e := ifK_inv e hr; obtain ⟨hg, e⟩ := e
  replace e := optK_inv e hr; obtain ⟨q, hq, e⟩ := e
  have key : ∀ (ρ : Ren) x y w (xo yo : Operand), VR ρ a x → VR ρ b y → (cst = true → (isConst xo = true ∨ isConst yo = true)) → (eqGuard op t xo yo x y).run P w = .ok () w ∧ (Op.equalIn 10000 t x y).run P w = .ok q w ∧
      (binOp .eql t x y).run P w = ((Op.equalIn 10000 t x y).run P w).andThen (fun b w' => .ok (.bool b) w') ∧ (binOp .neq t x y).run P w = ((Op.equalIn 10000 t x y).run P w).andThen (fun b w' => .ok (.bool (!b)) w') := by
    intro ρ x y w xo yo hx hy hc
    refine ⟨?_, eqT_sound ρ 10000 t a b q x y w hq hx hy, ?_⟩
    · cases a <;> cases b <;> simp only [VR] at hx hy <;>
      first
        | (exfalso; simp at hg; done)
        | skip
      case agg.agg =>
        obtain ⟨_, rfl, _⟩ := hx
        obtain ⟨_, rfl, _⟩ := hy
        exact run_eqGuard_agg w op t xo yo _ _ (by simpa using hg)
      case nilIface.nilIface =>
        subst hx; subst hy
        have := hc hg
        cases op <;> cases xo <;> cases yo <;> simp_all [isConst, eqGuard]
      all_goals
        refine eqGuard_pass (fun hh => ?_) (fun l m hh => ?_)
        all_goals
          obtain ⟨h1, h2⟩ := hh
          subst h1; subst h2
          first
            | (cases hx; done)
            | (cases hy; done)
            | (obtain ⟨_, hx, _⟩ := hx; cases hx; done)
            | (obtain ⟨_, hy, _⟩ := hy; cases hy; done)
            | (obtain ⟨_, _, hx⟩ := hx; cases hx; done)
            | (obtain ⟨_, _, hy⟩ := hy; cases hy; done)
            | (obtain ⟨_, _, hx, _⟩ := hx; cases hx; done)
            | (obtain ⟨_, _, hy, _⟩ := hy; cases hy; done)
            | (obtain ⟨_, _, _, _, hx, _⟩ := hx; cases hx; done)
            | (obtain ⟨_, _, _, _, hy, _⟩ := hy; cases hy; done)
            | (obtain ⟨_, _, _, hx, _⟩ := hx; cases hx; done)
            | (obtain ⟨_, _, _, hy, _⟩ := hy; cases hy; done)
    · -- the two operands are no numbers and no strings
      have hsh : (∀ k n, x ≠ .int k n) ∧ (∀ s, x ≠ .string s) ∧ (∀ k n, x ≠ .float k n) ∧ (∀ k n m, x ≠ .complex k n m) := by
        cases a <;> simp only [VR] at hx <;>
        first
          | (exfalso; simp at hg; done)
          | (subst hx; simp; done)
          | (obtain ⟨_, rfl, _⟩ := hx; simp; done)
          | (obtain ⟨_, _, rfl⟩ := hx; simp; done)
          | (obtain ⟨_, _, rfl, _⟩ := hx; simp; done)
          | (obtain ⟨_, _, _, _, rfl, _⟩ := hx; simp; done)
          | (obtain ⟨_, _, _, rfl, _⟩ := hx; simp; done)
      obtain ⟨h1, h2, h3, h4⟩ := hsh
      cases x <;> first
        | exact absurd rfl (h1 _ _)
        | exact absurd rfl (h2 _)
        | exact absurd rfl (h3 _ _)
        | exact absurd rfl (h4 _ _ _)
        | (constructor <;> simp [binOp, Op.equal, Op.maxDepth])
  cases op <;> first
    | exact absurd e.symm hr
    | skip
  · have e' := e; change retB q c = r at e'; rw [retB_eq] at e'
    refine ⟨_, e', fun ρ x y w xo yo hx hy hc => ⟨.bool q, ?_, rfl⟩⟩
    obtain ⟨g1, g2, g3, _⟩ := key ρ x y w xo yo hx hy hc
    simp only [Sem.run_bind, g1, Result.andThen_ok, g3, g2]
  · have e' := e; change retB (not q) c = r at e'; rw [retB_eq] at e'
    refine ⟨_, e', fun ρ x y w xo yo hx hy hc => ⟨.bool (!q), ?_, rfl⟩⟩
    obtain ⟨g1, g2, _, g3⟩ := key ρ x y w xo yo hx hy hc
    simp only [Sem.run_bind, g1, Result.andThen_ok, g3, g2]
theorem binA_inv {op : BinOp} {t : TypeId} {cst : Bool} {a b : AV} {c : AV → Res} (e : binA P op t cst a b c = r) (hr : r ≠ .fail) : ∃ v, c v = r ∧ BinRuns P op t cst a b v := by
  cases a
  case int k n =>
    have e' : (asInt b fun k' y => @Bool.rec (fun _ => Res) (ifK (Nat.beq (kNum k) (kNum k')) (intOp op k n y c)) (shOp op k n y c) (isSh op)) = r := e
    replace e' := asInt_inv e' hr; obtain ⟨k', m, rfl, e'⟩ := e'
    rw [boolRec_ite] at e'
    have hrest : ∀ {v : AV}, (∀ w t, ∃ v', (binOp op t (.int k n) (.int k' m)).run P w = .ok v' w ∧ ∀ ρ : Ren, VR ρ v v') → BinRuns P op t cst (.int k n) (.int k' m) v := by
      intro v H ρ x y w xo yo hx hy _
      simp only [VR] at hx hy
      subst hx; subst hy
      obtain ⟨v', g1, g2⟩ := H w t
      exact ⟨v', by rw [Sem.run_bind, eqGuard_pass (by simp) (by simp)]; exact g1, g2 ρ⟩
    split at e'
    · obtain ⟨v, e2, H⟩ := shOp_inv (k' := k') (P := P) e' hr
      exact ⟨v, e2, hrest H⟩
    · obtain ⟨hk, e2⟩ := ifK_inv e' hr
      rw [beqN] at hk
      have hk := kNum_inj hk; subst hk
      obtain ⟨v, e2, H⟩ := intOp_inv (P := P) e2 hr
      exact ⟨v, e2, hrest H⟩
  case str l n =>
    have e' : (asStr b fun m p => strOp op l n m p c) = r := e
    replace e' := asStr_inv e' hr; obtain ⟨m, p, rfl, e'⟩ := e'
    obtain ⟨v, e2, H⟩ := strOp_inv (P := P) e' hr
    refine ⟨v, e2, fun ρ x y w xo yo hx hy _ => ?_⟩
    obtain ⟨s, rfl, hx⟩ := hx
    obtain ⟨s', rfl, hy⟩ := hy
    obtain ⟨v', g1, g2⟩ := H w t s s' hx hy
    exact ⟨v', by rw [Sem.run_bind, eqGuard_pass (by simp) (by simp)]; exact g1, g2 ρ⟩
  all_goals exact eqOp_inv e hr
noncomputable def doBin (P : Program) (op : BinOp) (t : TypeId) (x y : Operand) (env : T AV) (h : AH) (nx : Nat) (lg : List Nat) (k : KV) : Res :=
  evalO P.globals.size env x fun a => evalO P.globals.size env y fun b => binA P op t (or (isConst x) (isConst y)) a b fun v => k v h nx lg
theorem doBin_did {op : BinOp} {t t' : TypeId} {x y : Operand} (ho : o.op = .binOp op t x y t') (e : doBin P op t x y env h nx lg k = r) (hr : r ≠ .fail) : Did P o env D h nx lg k r := by
  replace e := evalO_inv e hr; obtain ⟨a, e1, e⟩ := e
  replace e := evalO_inv e hr; obtain ⟨b, e2, e⟩ := e
  replace e := binA_inv e hr; obtain ⟨v, e, H⟩ := e
  refine did_same e fun ρ w a hx hp => ?_
  obtain ⟨v', g1, g2⟩ := H ρ (a.eval x) (a.eval y) w x y (hx x (by simp [ho, Op.operands]) _ e1) (hx y (by simp [ho, Op.operands]) _ e2) (by simp)
  refine ⟨v', ?_, g2⟩
  simp only [execOp, ho]
  rw [Sem.run_bind, g1]; rfl
noncomputable def doUn (P : Program) (op : UnOp) (x : Operand) (env : T AV) (h : AH) (nx : Nat) (lg : List Nat) (k : KV) : Res :=
  evalO P.globals.size env x fun v => @UnOp.casesOn (fun _ => Res) op (asInt v fun kd n => wrapK kd (0 - n) fun n => k (.int kd n) h nx lg) .fail (asBool v fun b => retB (not b) fun v => k v h nx lg) .fail
theorem doUn_did {op : UnOp} {t : TypeId} {x : Operand} (ho : o.op = .unOp op t x) (e : doUn P op x env h nx lg k = r) (hr : r ≠ .fail) : Did P o env D h nx lg k r := by
  replace e := evalO_inv e hr; obtain ⟨v, e1, e⟩ := e
  cases op <;> first
    | exact absurd e.symm hr
    | skip
  · have e' : (asInt v fun kd n => wrapK kd (0 - n) fun n => k (.int kd n) h nx lg) = r := e
    replace e' := asInt_inv e' hr; obtain ⟨kd, n, rfl, e'⟩ := e'
    rw [wrapK_eq] at e'
    refine did_same e' fun ρ w a hx hp => ?_
    have h3 := hx x (by simp [ho, Op.operands]) _ e1
    simp only [VR] at h3
    exact ⟨.int kd (kd.wrap (0 - n)), by simp only [execOp, ho, Op.unary, Op.intArith, h3, Sem.run_bind, Sem.run_pure, Result.andThen_ok], rfl⟩
  · have e' : (asBool v fun b => retB (not b) fun v => k v h nx lg) = r := e
    replace e' := asBool_inv e' hr; obtain ⟨b, rfl, e'⟩ := e'
    rw [retB_eq] at e'
    refine did_same e' fun ρ w a hx hp => ?_
    have h3 := hx x (by simp [ho, Op.operands]) _ e1
    simp only [VR] at h3
    exact ⟨.bool (!b), by simp only [execOp, ho, Op.unary, h3, Sem.run_bind, Sem.run_pure, Result.andThen_ok], rfl⟩

/-! ### Conversions -/
noncomputable def asU8 (v : AV) (c : Nat → Res) : Res := asInt v fun kd i => @Int.casesOn (fun _ => Res) i (fun b => ifK (and (Nat.beq (kNum kd) 4) (Nat.blt b 256)) (c b)) (fun _ => .fail)
theorem asU8_inv {v : AV} {c : Nat → Res} (e : asU8 v c = r) (hr : r ≠ .fail) : ∃ b, b < 256 ∧ v = .int .u8 (Int.ofNat b) ∧ c b = r := by
  obtain ⟨kd, i, e1, e⟩ := asInt_inv e hr
  cases i with
  | ofNat b =>
    replace e := ifK_inv e hr; obtain ⟨hb, e⟩ := e
    simp only [Bool.and_eq_true, beqN, bltN] at hb
    have hk : kd = .u8 := kNum_inj hb.1
    subst hk
    exact ⟨b, hb.2, e1, e⟩
  | negSucc n => exact absurd e.symm hr
/-- The bytes of n rows from place i on, as a number. -/
noncomputable def gatherK (n : Nat) (rows : T (List AV)) (i : Nat) (c : Nat → Res) : Res :=
  @Nat.rec (fun _ => Nat → (Nat → Res) → Res) (fun _ c => c 0) (fun _ ih i c => getO rows (Nat.succ i) fun row => headK row fun v => asU8 v fun b => (ih (Nat.succ i) fun r => forceN (Nat.add b (Nat.mul 256 r)) c)) n i c
theorem gatherK_inv {rows : T (List AV)} : ∀ {n i : Nat} {c : Nat → Res}, gatherK n rows i c = r → r ≠ .fail →
    ∃ bs : List UInt8, bs.length = n ∧ c (bytesN bs) = r ∧ ∀ (j : Nat) b, bs[j]? = some b → ∃ row, rows.at (i + j) = some row ∧ row[0]? = some (.int .u8 (Int.ofNat b.toNat))
  | 0, i, c, e, hr => ⟨[], rfl, e, fun j b h => by simp at h⟩
  | n + 1, i, c, e, hr => by
    have e' : (getO rows (Nat.succ i) fun row => headK row fun v => asU8 v fun b => (gatherK n rows (Nat.succ i) fun r => forceN (Nat.add b (Nat.mul 256 r)) c)) = r := e
    replace e' := getO_inv e' hr; obtain ⟨row, h1, e'⟩ := e'
    replace e' := headK_inv e' hr; obtain ⟨v, vs, rfl, e'⟩ := e'
    replace e' := asU8_inv e' hr; obtain ⟨b, hb, rfl, e'⟩ := e'
    obtain ⟨bs, l1, e2, H⟩ := gatherK_inv e' hr
    rw [forceN_eq] at e2
    have hb' : (UInt8.ofNat b).toNat = b := by simp; omega
    refine ⟨UInt8.ofNat b :: bs, by simp [l1], by rw [← e2]; simp only [bytesN, hb']; rfl, fun j u hu => ?_⟩
    cases j with
    | zero => simp at hu; subst hu; exact ⟨_, h1, by simp [hb']⟩
    | succ j =>
      obtain ⟨row, g1, g2⟩ := H j u (by simpa using hu)
      exact ⟨row, by rw [← g1]; congr 1; omega, g2⟩
def intTy (P : Program) (t : TypeId) : Option IntKind := match P.underlying t with | some (.int k) => some k | _ => none
def isStrTy (P : Program) (t : TypeId) : Bool := match P.underlying t with | some .string => true | _ => false
/-- A slice of bytes. -/
def isBytesTy (P : Program) (t : TypeId) : Option TypeId := match P.underlying t with | some (.slice e) => (match P.underlying e with | some (.int .u8) => (match P.info? e with | some i => if i.size = 1 then some e else none | none => none) | _ => none) | _ => none
theorem isBytesTy_inv {t e : TypeId} (h : isBytesTy P t = some e) : ∃ i, P.underlying t = some (.slice e) ∧ P.underlying e = some (.int .u8) ∧ P.info? e = some i ∧ i.size = 1 := by
  unfold isBytesTy at h
  split at h
  · rename_i e' h1
    split at h
    · rename_i h2
      split at h
      · rename_i i h3
        split at h
        · rename_i h4; cases h; exact ⟨i, h1, h2, h3, h4⟩
        · cases h
      · cases h
    · cases h
  · cases h
/-- The cells of the bytes of a number. -/
noncomputable def spreadL (l n : Nat) (c : List AV → Res) : Res :=
  @Nat.rec (fun _ => Nat → (List AV → Res) → Res) (fun _ c => c []) (fun _ ih n c => forceN (Nat.land n 255) fun b => ih (Nat.shiftRight n 8) fun r => c (.int .u8 (Int.ofNat b) :: r)) l n c
theorem spreadL_eq : ∀ (l n : Nat) (c : List AV → Res), spreadL l n c = c ((decB l n).map fun b => .int .u8 (Int.ofNat b.toNat))
  | 0, _, _ => rfl
  | l + 1, n, c => by
    show (forceN (Nat.land n 255) fun b => spreadL l (Nat.shiftRight n 8) fun r => c (.int .u8 (Int.ofNat b) :: r)) = _
    rw [forceN_eq, spreadL_eq, land255, show Nat.shiftRight n 8 = n / 256 from sh8 n 1]
    simp [decB]
noncomputable def doConvert (P : Program) (s d : TypeId) (x : Operand) (env : T AV) (h : AH) (nx : Nat) (lg : List Nat) (k : KV) : Res :=
  evalO P.globals.size env x fun v =>
  @AV.casesOn (fun _ => Res) v (fun _ => .fail) (fun _ n => optK (intTy P s) fun _ => optK (intTy P d) fun kd => wrapK kd n fun n => k (.int kd n) h nx lg)
    (fun l n => ifK (isStrTy P s) (@Bool.rec (fun _ => Res) (optK (isBytesTy P d) fun et => ifK (and (Nat.blt 0 l) (Nat.ble l 1000000)) (spreadL l n fun cs => chunkK l 1 cs 0 .leaf fun rows => newBlk (.cells et 1 l rows false) h nx fun h nx' => k (.slice nx 0 l l false) h nx' lg)) (k v h nx lg) (isStrTy P d))) (fun _ _ => .fail) .fail
    (fun b o n _ _ => optK (isBytesTy P s) fun _ => ifK (isStrTy P d) (getBlk h b fun blk => asCells blk fun _ esz nr rows _ => ifK (and (Nat.beq esz 1) (Nat.ble (Nat.add o n) nr)) (gatherK n rows o fun q => k (.str n q) h nx lg)))
    (optK (isBytesTy P s) fun _ => ifK (isStrTy P d) (k (.str 0 0) h nx lg)) (fun _ => .fail) .fail (fun _ _ _ => .fail) .fail (fun _ _ => .fail) .fail (fun _ => .fail) (fun _ => .fail)
theorem isStrTy_inv {t : TypeId} (h : isStrTy P t = true) : P.underlying t = some .string := by
  unfold isStrTy at h
  split at h
  · assumption
  · cases h
theorem intTy_inv {t : TypeId} {kd : IntKind} (h : intTy P t = some kd) : P.underlying t = some (.int kd) := by
  unfold intTy at h
  split at h
  · rename_i hu; cases h; exact hu
  · cases h
theorem loop_bytes {f : Value → ByteArray → Sem (ForInStep ByteArray)} (hf : ∀ (b : UInt8) (s : ByteArray) (w : World), (f (.int .u8 b.toNat) s).run P w = .ok (.yield (s.push b)) w) : ∀ (bs : List UInt8) (s : ByteArray) (w : World),
    (forIn (bs.map fun b => Value.int .u8 b.toNat) s f).run P w = .ok ⟨(s.data.toList ++ bs).toArray⟩ w
  | [], s, w => by simp
  | b :: bs, s, w => by
    simp only [List.map_cons, List.forIn_cons, Sem.run_bind, hf, Result.andThen_ok]
    rw [loop_bytes hf bs _ w]
    simp [ByteArray.push]
theorem run_bytesToString {w : World} {b o n c : Nat} {bs : List UInt8} (hn : bs.length = n) (H : ∀ (j : Nat) u, bs[j]? = some u → w.cell? ⟨b, o + j, none⟩ = some (.int .u8 u.toNat)) :
    (Conv.bytesToString (.slice (some ⟨b, o, none⟩) n c)).run P w = .ok (.string ⟨bs.toArray⟩) w := by
  have h1 : (loadCells ⟨b, o, none⟩ n).run P w = .ok (bs.map fun u => Value.int .u8 u.toNat).toArray w := by
    refine run_loadCells (by simpa using hn) fun j v e => ?_
    rw [List.getElem?_map] at e
    cases hb : bs[j]? with
    | none => rw [hb] at e; cases e
    | some u => rw [hb] at e; cases e; exact H j u hb
  simp only [Conv.bytesToString, Sem.run_bind, h1, Result.andThen_ok]
  rw [← Array.forIn_toList]
  rw [loop_bytes (P := P) (fun u s w => by simp) bs .empty w]
  simp
theorem doConvert_did {s d : TypeId} {x : Operand} (ho : o.op = .convert s d x) (hD : ∀ b, FootIn P o.op env b → D b) (e : doConvert P s d x env h nx lg k = r) (hr : r ≠ .fail) : Did P o env D h nx lg k r := by
  replace e := evalO_inv e hr; obtain ⟨v, e1, e⟩ := e
  cases v <;> first
    | exact absurd e.symm hr
    | skip
  case int kd0 n =>
    replace e := optK_inv e hr; obtain ⟨ks, hs, e⟩ := e
    replace e := optK_inv e hr; obtain ⟨kd, hd, e⟩ := e
    rw [wrapK_eq] at e
    refine did_same e fun ρ w a hx hp => ?_
    have h3 := hx x (by simp [ho, Op.operands]) _ e1
    simp only [VR] at h3
    exact ⟨_, by simp [execOp, ho, convert, run_underlying' (intTy_inv hs), run_underlying' (intTy_inv hd), h3, Conv.intToInt] <;> rfl, rfl⟩
  case str l n =>
    replace e := ifK_inv e hr; obtain ⟨hs, e⟩ := e
    rw [boolRec_ite] at e
    split at e
    · rename_i hd
      refine did_same e fun ρ w a hx hp => ⟨a.eval x, ?_, hx x (by simp [ho, Op.operands]) _ e1⟩
      obtain ⟨u, h3, _⟩ := hx x (by simp [ho, Op.operands]) _ e1
      simp [execOp, ho, convert, run_underlying' (isStrTy_inv hs), run_underlying' (isStrTy_inv hd), h3]
    · replace e := optK_inv e hr; obtain ⟨et, hd, e⟩ := e
      replace e := ifK_inv e hr; obtain ⟨hl, e⟩ := e
      simp only [Bool.and_eq_true, bltN, bleN] at hl
      obtain ⟨hl0, hl1⟩ := hl
      rw [spreadL_eq] at e
      obtain ⟨rows, e', hrows, _⟩ := chunkK_inv 1 l ((decB l n).map fun b => AV.int .u8 (Int.ofNat b.toNat)) 0 .leaf (fun rows => newBlk (.cells et 1 l rows false) h nx fun h nx' => k (.slice nx 0 l l false) h nx' lg)
      have e' := e'.symm.trans e
      rw [newBlk_eq] at e'
      obtain ⟨i, hu, hue, hi, hsz⟩ := isBytesTy_inv hd
      refine did_new e' fun ρ w a hx hp => ?_
      obtain ⟨u, h3, hS⟩ := hx x (by simp [ho, Op.operands]) _ e1
      have husz := hS.size
      let c := Question.cut (.appendCap u.size 0 et) (w.tape w.drawn (.appendCap u.size 0 et))
      have hcge : u.size ≤ c := by simp only [c, Question.cut]; omega
      have hcle : c ≤ 9223372036854775807 := by
        simp only [c, Question.cut]
        have : w.tape w.drawn (.appendCap u.size 0 et) % (2 ^ 63 - u.size) < 2 ^ 63 - u.size := Nat.mod_lt _ (by omega)
        omega
      let arr : Array Value := (u.data.map fun b => Value.int .u8 b.toNat) ++ Array.replicate (c - u.size) (.int .u8 0)
      have harr : arr.size = c := by
        simp only [arr, Array.size_append, Array.size_map, Array.size_replicate]
        have : u.data.size = u.size := rfl
        omega
      refine ⟨.slice (some ⟨w.heap.size, 0, none⟩) u.size c, .cells arr et (c, c + 1), ⟨w.heap.size, 0, c, 1⟩, { w with heap := w.heap.push (.cells arr et (c, c + 1)), drawn := w.drawn + 1 }, ?_, rfl, rfl, rfl, rfl, rfl, ⟨⟨w.heap.size, 0, c, 1⟩, _, c, updR_at _ _, by rw [husz], .inl rfl, by omega, by omega, by simp, by simp, hcle⟩, ?_⟩
      · have hm : (markStringish ⟨w.heap.size, 0, none⟩).run P { w with heap := w.heap.push (.cells arr et), drawn := w.drawn + 1 } = .ok () { w with heap := w.heap.push (.cells arr et (c, c + 1)), drawn := w.drawn + 1 } := by
          simp only [markStringish, Sem.run_bind, run_shape, Result.andThen_ok]
          have h1 : ({ w with heap := w.heap.push (.cells arr et), drawn := w.drawn + 1 } : World).shape? w.heap.size = some (et, c) := by
            simp [World.shape?, harr]
          simp only [h1, run_freeze]
          congr 1
          unfold World.freeze
          rw [if_neg (by decide)]
          congr 1
          apply Array.ext_getElem?
          intro j
          simp only [Array.getElem?_modify, Array.getElem?_push]
          by_cases hj : w.heap.size = j
          · subst hj; simp
          · rw [if_neg hj]
            by_cases hj2 : j = w.heap.size
            · exact absurd hj2.symm hj
            · simp [hj2]
        simp only [execOp, ho, convert, Sem.run_bind, run_underlying' (isStrTy_inv hs), run_underlying' hu, Result.andThen_ok, h3, run_underlying' hue, Conv.stringToBytes, run_choose, Question.forced, Bool.false_eq_true, if_false, newRow, run_newObj, Sem.run_map, Sem.run_pure]
        have hm' := hm
        simp only [arr, c] at hm'
        rw [hm']; rfl
      · refine ⟨rfl, by simp; omega, arr, (c, c + 1), push_at _ _, by simp [harr], fun q hq => ?_, fun _ j hj => by simp at hj ⊢; omega⟩
        have hq' := hrows q hq
        rw [Nat.zero_add] at hq'
        refine ⟨_, hq', ?_, fun s a' hs' => ?_⟩
        · rw [List.length_take, List.length_drop, List.length_map, decB_length]; omega
        · rw [List.getElem?_take] at hs'
          split at hs'
          · rename_i hs1
            obtain rfl : s = 0 := by omega
            rw [List.getElem?_drop, List.getElem?_map] at hs'
            have hqs : q < u.data.size := by have : u.data.size = u.size := rfl; omega
            rw [← hS.1, Array.getElem?_toList, Nat.mul_one, Nat.add_zero, Array.getElem?_eq_getElem hqs] at hs'
            simp at hs'
            subst hs'
            refine ⟨.int .u8 (u.data[q].toNat), ?_, rfl⟩
            simp only [arr]
            rw [Array.getElem?_append_left (by simp; omega)]
            simp
            exact ⟨_, Array.getElem?_eq_getElem hqs, rfl⟩
          · cases hs'
  case slice b q n cp ex =>
    replace e := optK_inv e hr; obtain ⟨et, hs, e⟩ := e
    replace e := ifK_inv e hr; obtain ⟨hd, e⟩ := e
    replace e := getBlk_inv e hr; obtain ⟨blk, hb, e⟩ := e
    replace e := asCells_inv e hr; obtain ⟨ty, esz, nr, rows, ro, rfl, e⟩ := e
    replace e := ifK_inv e hr; obtain ⟨hc, e⟩ := e
    simp only [Bool.and_eq_true, beqN, bleN] at hc
    obtain ⟨rfl, hn⟩ := hc
    have hn' : q + n ≤ nr := hn
    replace e := gatherK_inv e hr; obtain ⟨bs, hl, e, H⟩ := e
    obtain ⟨i, hu, hue, hi, hsz⟩ := isBytesTy_inv hs
    refine did_same e fun ρ w a hx hp => ?_
    obtain ⟨p, q', c', h1, h2, hq', _⟩ := hx x (by simp [ho, Op.operands]) _ e1
    have hB := hp.rel b (hD b ⟨x, by simp [ho, footOps], _, e1, rfl⟩) _ p hb h1
    refine ⟨.string ⟨bs.toArray⟩, ?_, _, rfl, ?_⟩
    · have h4 := run_bytesToString (P := P) (w := w) (b := p.blk) (o := q') (c := c') hl fun j u hu => by
        obtain ⟨row, g1, g2⟩ := H j u hu
        have hj : j < n := by
          rw [← hl]
          rcases Nat.lt_or_ge j bs.length with z | z
          · exact z
          · rw [List.getElem?_eq_none z] at hu; cases hu
        obtain ⟨v, k1, k2⟩ := hB.cell (i := q + j) (q := 0) (by omega) g1 g2
        simp only [VR] at k2
        subst k2
        obtain rfl : q' = p.base + q := hq'.resolve_right (by omega)
        rw [show p.base + q + j = p.base + ((q + j) * 1 + 0) from by omega]; exact k1
      simp [execOp, ho, convert, run_underlying' hu, run_underlying' (isStrTy_inv hd), run_underlying' hue, h2, h4]
    · have := SR.of ⟨bs.toArray⟩
      simpa [hl] using this
  case nilSlice =>
    replace e := optK_inv e hr; obtain ⟨et, hs, e⟩ := e
    replace e := ifK_inv e hr; obtain ⟨hd, e⟩ := e
    obtain ⟨i, hu, hue, hi, hsz⟩ := isBytesTy_inv hs
    refine did_same e fun ρ w a hx hp => ?_
    have h3 := hx x (by simp [ho, Op.operands]) _ e1
    simp only [VR] at h3
    refine ⟨.string .empty, ?_, .empty, rfl, rfl, by simp⟩
    simp [execOp, ho, convert, run_underlying' hu, run_underlying' (isStrTy_inv hd), run_underlying' hue, h3, Conv.bytesToString]
end
end Go.CE
