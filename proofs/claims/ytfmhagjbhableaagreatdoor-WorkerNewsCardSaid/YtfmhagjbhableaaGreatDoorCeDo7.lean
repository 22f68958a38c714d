/-
  CE, part 12: cuts of strings and slices; assertions of types.
-/
import Derived.Test.YtfmhagjbhableaaGreatDoorCeDo6
namespace Go.CE
open Go
set_option linter.unusedVariables false
set_option linter.unusedSimpArgs false
section
variable {P : Program} {o : Oper} {env : T AV} {D : Nat → Prop} {h : AH} {nx : Nat} {lg : List Nat} {k : KV} {r : Res}

noncomputable def optN (NG : Nat) (env : T AV) (x : Option Operand) (d : Nat) (c : Nat → Res) : Res := @Option.rec Operand (fun _ => Res) (c d) (fun x => evalO NG env x fun v => asNat v c) x
/-- A bound of a cut: the default d, or a number. -/
def BoundA (NG : Nat) (env : T AV) (x : Option Operand) (d n : Nat) : Prop := (x = none ∧ n = d) ∨ ∃ y kd, x = some y ∧ evalA NG env y = some (.int kd (Int.ofNat n))
theorem optN_inv {NG : Nat} {x : Option Operand} {d : Nat} {c : Nat → Res} (e : optN NG env x d c = r) (hr : r ≠ .fail) : ∃ n, BoundA NG env x d n ∧ c n = r := by
  cases x with
  | none => exact ⟨d, .inl ⟨rfl, rfl⟩, e⟩
  | some y =>
    obtain ⟨v, e1, e⟩ := evalO_inv (c := fun v => asNat v c) e hr
    replace e := asNat_inv e hr; obtain ⟨kd, n, rfl, e⟩ := e
    exact ⟨n, .inr ⟨y, kd, rfl, e1⟩, e⟩
def BoundV (x : Option Value) (d n : Nat) : Prop := (x = none ∧ n = d) ∨ ∃ kd, x = some (.int kd (Int.ofNat n))
theorem BoundA.sound {ρ : Ren} {a : Act} {x : Option Operand} {d n : Nat} (H : BoundA P.globals.size env x d n) (ho : ∀ y, x = some y → ∀ v, evalA P.globals.size env y = some v → VR ρ v (a.eval y)) : BoundV (x.map a.eval) d n := by
  rcases H with ⟨rfl, rfl⟩ | ⟨y, kd, rfl, e⟩
  · exact .inl ⟨rfl, rfl⟩
  · have := ho y rfl _ e
    simp only [VR] at this
    exact .inr ⟨kd, by simp [this]⟩
theorem run_sliceBound {w : World} {kd : IntKind} {n y : Nat} {code : BoundsCode} (hn : n ≤ y) : (Instr.sliceBound (.int kd (Int.ofNat n)) y code).run P w = .ok n w := by
  have : ¬ y < n := by omega
  simp [Instr.sliceBound, asIntOf, this]
theorem run_sliceBounds2 {w : World} {b : Bool} {len cap l hh : Nat} {low high : Option Value} (hl : BoundV low 0 l) (hH : BoundV high len hh) (h1 : l ≤ hh) (h2 : hh ≤ cap) :
    (Instr.sliceBounds b len cap low high none).run P w = .ok (l, hh, cap) w := by
  rcases hH with ⟨rfl, rfl⟩ | ⟨kd, rfl⟩ <;> rcases hl with ⟨rfl, rfl⟩ | ⟨kd', rfl⟩ <;>
    simp only [Instr.sliceBounds, Sem.run_bind, Sem.run_pure, Result.andThen_ok, run_sliceBound h2, run_sliceBound h1]
theorem run_sliceBounds3 {w : World} {b : Bool} {len cap l hh m : Nat} {low high max : Option Value} (hl : BoundV low 0 l) (hH : BoundV high len hh) (hM : BoundV max cap m) (hs : high.isSome = true) (hs' : max.isSome = true) (h1 : l ≤ hh) (h2 : hh ≤ m) (h3 : m ≤ cap) :
    (Instr.sliceBounds b len cap low high max).run P w = .ok (l, hh, m) w := by
  rcases hM with ⟨rfl, rfl⟩ | ⟨kd0, rfl⟩
  · cases hs'
  rcases hH with ⟨rfl, rfl⟩ | ⟨kd, rfl⟩
  · cases hs
  rcases hl with ⟨rfl, rfl⟩ | ⟨kd', rfl⟩ <;>
    simp only [Instr.sliceBounds, Sem.run_bind, Sem.run_pure, Result.andThen_ok, run_sliceBound h2, run_sliceBound h1, run_sliceBound h3]
noncomputable def sliceK (P : Program) (t : TypeId) (b o n c : Nat) (ex : Bool) (lo hi mx : Option Operand) (env : T AV) (h : AH) (nx : Nat) (lg : List Nat) (k : KV) : Res :=
  optK (slSize P t) fun z => optN P.globals.size env mx c fun m => optN P.globals.size env hi n fun hi' => optN P.globals.size env lo 0 fun lo' =>
    ifK (and (Nat.ble lo' hi') (and (Nat.ble hi' m) (and (Nat.ble m c) (or mx.isNone hi.isSome))))
    (@Bool.rec (fun _ => Res)
      -- lo' is not 0
      (@Bool.rec (fun _ => Res) (@Bool.rec (fun _ => Res) (getBlk h b fun blk => asCells blk fun _ esz _ _ _ => ifK (Nat.beq esz z.2) (forceN (Nat.add o (Nat.mul lo' z.2)) fun o' => k (.slice b o' 0 0 false) h nx lg)) (k (.slice b o 0 0 true) h nx lg) (or ex mx.isSome))
        (getBlk h b fun blk => asCells blk fun _ esz _ _ _ => ifK (Nat.beq esz z.2) (forceN (Nat.add o (Nat.mul lo' z.2)) fun o' => forceN (Nat.sub hi' lo') fun d => forceN (Nat.sub m lo') fun cp => k (.slice b o' d cp (or ex mx.isSome)) h nx lg))
        (Nat.blt lo' m))
      (k (.slice b o hi' m (or ex mx.isSome)) h nx lg) (Nat.beq lo' 0))
noncomputable def doSlice (P : Program) (t : TypeId) (x : Operand) (lo hi mx : Option Operand) (env : T AV) (h : AH) (nx : Nat) (lg : List Nat) (k : KV) : Res :=
  evalO P.globals.size env x fun v =>
  @AV.casesOn (fun _ => Res) v (fun _ => .fail) (fun _ _ => .fail)
   (fun l n => ifK (and (isStrTy P t) mx.isNone) (optN P.globals.size env hi l fun hi => optN P.globals.size env lo 0 fun lo => ifK (and (Nat.ble lo hi) (Nat.ble hi l)) (forceN (Nat.sub hi lo) fun d => forceN (Nat.land (Nat.shiftRight n (Nat.mul 8 lo)) (Nat.sub (Nat.shiftLeft 1 (Nat.mul 8 d)) 1)) fun q => k (.str d q) h nx lg)))
   (fun _ _ => .fail) .fail
   (fun b o n c ex => sliceK P t b o n c ex lo hi mx env h nx lg k)
   (optK (slSize P t) fun _ => optN P.globals.size env mx 0 fun m => optN P.globals.size env hi 0 fun hi' => optN P.globals.size env lo 0 fun lo' => ifK (and (Nat.beq m 0) (and (Nat.beq hi' 0) (and (Nat.beq lo' 0) (or mx.isNone hi.isSome)))) (k .nilSlice h nx lg))
   (fun _ => .fail) .fail (fun _ _ _ => .fail) .fail (fun _ _ => .fail) .fail (fun _ => .fail) (fun _ => .fail)
theorem doSlice_did {t : TypeId} {x : Operand} {lo hi mx : Option Operand} (ho : o.op = .slice t x lo hi mx) (hD : ∀ b, FootIn P o.op env b → D b) (e : doSlice P t x lo hi mx env h nx lg k = r) (hr : r ≠ .fail) : Did P o env D h nx lg k r := by
  replace e := evalO_inv e hr; obtain ⟨v, e1, e⟩ := e
  have hlo : ∀ y, lo = some y → y ∈ (Op.slice t x lo hi mx).operands := fun y hy => by subst hy; simp [Op.operands]
  have hhi : ∀ y, hi = some y → y ∈ (Op.slice t x lo hi mx).operands := fun y hy => by subst hy; simp [Op.operands]
  have hmx : ∀ y, mx = some y → y ∈ (Op.slice t x lo hi mx).operands := fun y hy => by subst hy; simp [Op.operands]
  cases v <;> first
    | exact absurd e.symm hr
    | skip
  case str l n =>
    replace e := ifK_inv e hr; obtain ⟨ht, e⟩ := e
    simp only [Bool.and_eq_true] at ht
    obtain ⟨ht, hm⟩ := ht
    obtain rfl : mx = none := by cases mx <;> first | rfl | cases hm
    replace e := optN_inv e hr; obtain ⟨hh, bh, e⟩ := e
    replace e := optN_inv e hr; obtain ⟨ll, bl, e⟩ := e
    replace e := ifK_inv e hr; obtain ⟨hc, e⟩ := e
    simp only [Bool.and_eq_true, bleN] at hc
    rw [forceN_eq, forceN_eq, sh8, landMask] at e
    refine did_same e fun ρ w a hx hp => ?_
    obtain ⟨s, h3, hS⟩ := hx x (by simp [ho, Op.operands]) _ e1
    have b1 := bh.sound (ρ := ρ) (a := a) fun y hy v hv => hx y (by rw [ho]; exact hhi y hy) v hv
    have b2 := bl.sound (ρ := ρ) (a := a) fun y hy v hv => hx y (by rw [ho]; exact hlo y hy) v hv
    refine ⟨.string (s.extract ll hh), ?_, _, rfl, hS.extract hc.1 hc.2⟩
    have hsz := hS.size
    rw [← hsz] at b1
    have hb := run_sliceBounds2 (P := P) (w := w) (b := false) (cap := s.size) b2 b1 hc.1 (by omega)
    simp [execOp, ho, Instr.sliceAt, run_underlying' (isStrTy_inv ht), Instr.slice, h3, hb]
  case nilSlice =>
    replace e := optK_inv e hr; obtain ⟨⟨et, sz⟩, hz, e⟩ := e
    replace e := optN_inv e hr; obtain ⟨m, bm, e⟩ := e
    replace e := optN_inv e hr; obtain ⟨hh, bh, e⟩ := e
    replace e := optN_inv e hr; obtain ⟨ll, bl, e⟩ := e
    replace e := ifK_inv e hr; obtain ⟨hc, e⟩ := e
    simp only [Bool.and_eq_true, beqN, Bool.or_eq_true] at hc
    obtain ⟨rfl, rfl, rfl, hc⟩ := hc
    obtain ⟨i, hu, hi', hs⟩ := slSize_inv hz
    refine did_same e fun ρ w a hx hp => ?_
    have h3 := hx x (by simp [ho, Op.operands]) _ e1
    simp only [VR] at h3
    have b0 := bm.sound (ρ := ρ) (a := a) fun y hy v hv => hx y (by rw [ho]; exact hmx y hy) v hv
    have b1 := bh.sound (ρ := ρ) (a := a) fun y hy v hv => hx y (by rw [ho]; exact hhi y hy) v hv
    have b2 := bl.sound (ρ := ρ) (a := a) fun y hy v hv => hx y (by rw [ho]; exact hlo y hy) v hv
    refine ⟨.slice none 0 0, ?_, rfl⟩
    have hb : (Instr.sliceBounds true 0 0 (lo.map a.eval) (hi.map a.eval) (mx.map a.eval)).run P w = .ok (0, 0, 0) w := by
      cases mx with
      | none => exact run_sliceBounds2 b2 b1 (Nat.le_refl _) (Nat.le_refl _)
      | some y => exact run_sliceBounds3 b2 b1 b0 (by simpa using hc) rfl (Nat.le_refl _) (Nat.le_refl _) (Nat.le_refl _)
    simp [execOp, ho, Instr.sliceAt, run_underlying' hu, Instr.slice, h3, hb, run_sizeOf' hi']
  case slice b q n c ex =>
    replace e := optK_inv e hr; obtain ⟨⟨et, sz⟩, hz, e⟩ := e
    replace e := optN_inv e hr; obtain ⟨m, bm, e⟩ := e
    replace e := optN_inv e hr; obtain ⟨hh, bh, e⟩ := e
    replace e := optN_inv e hr; obtain ⟨ll, bl, e⟩ := e
    replace e := ifK_inv e hr; obtain ⟨hc, e⟩ := e
    simp only [Bool.and_eq_true, bleN, Bool.or_eq_true] at hc
    obtain ⟨c1, c2, c3, c4⟩ := hc
    obtain ⟨i, hu, hi', hs⟩ := slSize_inv hz
    -- what the run gives
    have key : ∀ ρ w (a : Act), OpsR P ρ env o a → ∃ p q' c', ρ b = some p ∧ a.eval x = .slice (some ⟨p.blk, q', none⟩) n c' ∧ (q' = p.base + q ∨ (n = 0 ∧ c' = 0)) ∧ n ≤ c' ∧ c ≤ c' ∧ (ex = true → c' = c) ∧ q + c' * p.esz ≤ p.room ∧ c' ≤ 9223372036854775807 ∧
        ∃ m', (mx.isSome = true → m' = m) ∧ (mx.isSome = false → m' = c') ∧ (execOp a.eval o).run P w = .ok (.value (.slice (if m' = ll then some ⟨p.blk, q', none⟩ else some ⟨p.blk, q' + ll * sz, none⟩) (hh - ll) (m' - ll))) w := by
      intro ρ w a hx
      obtain ⟨p, q', c', h1, h2, hq', h3, h4, h5, h6, h7⟩ := hx x (by simp [ho, Op.operands]) _ e1
      have b0 := bm.sound (ρ := ρ) (a := a) fun y hy v hv => hx y (by rw [ho]; exact hmx y hy) v hv
      have b1 := bh.sound (ρ := ρ) (a := a) fun y hy v hv => hx y (by rw [ho]; exact hhi y hy) v hv
      have b2 := bl.sound (ρ := ρ) (a := a) fun y hy v hv => hx y (by rw [ho]; exact hlo y hy) v hv
      refine ⟨p, q', c', h1, h2, hq', h3, h4, h5, h6, h7, ?_⟩
      cases mx with
      | none =>
        have hb := run_sliceBounds2 (P := P) (w := w) (b := true) (cap := c') b2 b1 c1 (by omega)
        refine ⟨c', by simp, by simp, ?_⟩
        simp only [execOp, ho, Instr.sliceAt, Sem.run_bind, run_underlying' hu, Result.andThen_ok, Instr.slice, h2, Option.map_none, hb, run_sizeOf' hi', hs, Sem.run_pure, Option.map_some, addr_add]
      | some y =>
        have b0' : BoundV ((some y).map a.eval) c' m := by
          rcases b0 with ⟨b0, _⟩ | b0
          · cases b0
          · exact .inr b0
        have hb := run_sliceBounds3 (P := P) (w := w) (b := true) (cap := c') b2 b1 b0' (by simpa using c4) rfl c1 c2 (by omega)
        rw [Option.map_some] at hb
        refine ⟨m, by simp, by simp, ?_⟩
        simp only [execOp, ho, Instr.sliceAt, Sem.run_bind, run_underlying' hu, Result.andThen_ok, Instr.slice, h2, hb, run_sizeOf' hi', hs, Sem.run_pure, Option.map_some, addr_add]
    -- the capacity that is known of the result
    have hmn : mx.isSome = false → m = c := fun hm => by
      rcases bm with ⟨_, rfl⟩ | ⟨y, _, rfl, _⟩
      · rfl
      · cases hm
    have hme : ∀ {c' m' : Nat}, (ex = true → c' = c) → (mx.isSome = true → m' = m) → (mx.isSome = false → m' = c') → (ex || mx.isSome) = true → m' = m := by
      intro c' m' g1 g2 g3 g4
      cases hm : mx.isSome with
      | true => exact g2 hm
      | false => rw [hm] at g4; simp at g4; rw [g3 hm, g1 g4, hmn hm]
    have hml : ∀ {c' m' : Nat}, c ≤ c' → (mx.isSome = true → m' = m) → (mx.isSome = false → m' = c') → m ≤ m' ∧ m' ≤ max m c' := by
      intro c' m' g1 g2 g3
      cases hm : mx.isSome with
      | true => rw [g2 hm]; omega
      | false => rw [g3 hm, hmn hm]; omega
    rw [boolRec_ite] at e
    split at e
    · rename_i h0
      rw [beqN] at h0; subst h0
      refine did_same e fun ρ w a hx hp => ?_
      obtain ⟨p, q', c', h1, h2, hq', h3, h4, h5, h6, h7, m', g1, g2, g3⟩ := key ρ w a hx
      obtain ⟨k1, k2⟩ := hml h4 g1 g2
      refine ⟨.slice (some ⟨p.blk, q', none⟩) hh m', ?_, p, q', m', h1, rfl, hq'.imp id (fun _ => by omega), by omega, k1, fun hex => hme h5 g1 g2 hex, ?_, by omega⟩
      · rw [g3]; simp
      · have : m' * p.esz ≤ c' * p.esz := Nat.mul_le_mul_right _ (by omega)
        omega
    · rename_i h0
      rw [beqN] at h0
      rw [boolRec_ite] at e
      split at e
      · rename_i h8
        rw [bltN] at h8
        replace e := getBlk_inv e hr; obtain ⟨blk, hb, e⟩ := e
        replace e := asCells_inv e hr; obtain ⟨ty, esz, nr, rows, ro, rfl, e⟩ := e
        replace e := ifK_inv e hr; obtain ⟨hes, e⟩ := e
        rw [beqN] at hes
        have hes : esz = sz := hes
        rw [forceN_eq, forceN_eq, forceN_eq] at e
        refine did_same e fun ρ w a hx hp => ?_
        obtain ⟨p, q', c', h1, h2, hq', h3, h4, h5, h6, h7, m', g1, g2, g3⟩ := key ρ w a hx
        obtain rfl : q' = p.base + q := hq'.resolve_right (by omega)
        obtain ⟨k1, k2⟩ := hml h4 g1 g2
        have hB := hp.rel b (hD b ⟨x, by simp [ho, footOps], _, e1, rfl⟩) _ p hb h1
        have hpe : p.esz = sz := hB.1.trans hes
        refine ⟨.slice (some ⟨p.blk, p.base + q + ll * sz, none⟩) (hh - ll) (m' - ll), ?_, p, _, m' - ll, h1, rfl, .inl ?_, ?_, ?_, fun hex => ?_, ?_, by omega⟩
        · rw [g3, if_neg (by omega)]
        · show p.base + q + ll * sz = p.base + (q + ll * sz); omega
        · show hh - ll ≤ m' - ll; omega
        · show m - ll ≤ m' - ll; omega
        · show m' - ll = m - ll; rw [hme h5 g1 g2 hex]
        · show q + ll * sz + (m' - ll) * p.esz ≤ p.room
          have e3 : ll * sz + (m' - ll) * p.esz = m' * p.esz := by
            rw [hpe, ← Nat.add_mul]; congr 1; omega
          have : m' * p.esz ≤ c' * p.esz := Nat.mul_le_mul_right _ (by omega)
          omega
      · rename_i h8
        rw [bltN] at h8
        rw [boolRec_ite] at e
        split at e
        · rename_i hex
          refine did_same e fun ρ w a hx hp => ?_
          obtain ⟨p, q', c', h1, h2, hq', h3, h4, h5, h6, h7, m', g1, g2, g3⟩ := key ρ w a hx
          have hm' := hme h5 g1 g2 hex
          subst hm'
          have e1 : m' = ll := by omega
          have e2 : hh = ll := by omega
          subst e2; subst e1
          refine ⟨.slice (some ⟨p.blk, q', none⟩) 0 0, ?_, p, q', 0, h1, rfl, .inr ⟨rfl, rfl⟩, Nat.le_refl _, Nat.le_refl _, fun _ => rfl, by omega, by omega⟩
          rw [g3]; simp
        · replace e := getBlk_inv e hr; obtain ⟨blk, hb, e⟩ := e
          replace e := asCells_inv e hr; obtain ⟨ty, esz, nr, rows, ro, rfl, e⟩ := e
          replace e := ifK_inv e hr; obtain ⟨hes, e⟩ := e
          rw [beqN] at hes
          have hes : esz = sz := hes
          rw [forceN_eq] at e
          refine did_same e fun ρ w a hx hp => ?_
          obtain ⟨p, q', c', h1, h2, hq', h3, h4, h5, h6, h7, m', g1, g2, g3⟩ := key ρ w a hx
          obtain ⟨k1, k2⟩ := hml h4 g1 g2
          have hB := hp.rel b (hD b ⟨x, by simp [ho, footOps], _, e1, rfl⟩) _ p hb h1
          have hpe : p.esz = sz := hB.1.trans hes
          have e2 : hh = ll := by omega
          subst e2
          have e3 : hh * sz + (m' - hh) * p.esz = m' * p.esz := by
            rw [hpe, ← Nat.add_mul]; congr 1; omega
          have e4 : m' * p.esz ≤ c' * p.esz := Nat.mul_le_mul_right _ (by omega)
          refine ⟨_, g3, p, if m' = hh then q' else q' + hh * sz, m' - hh, h1, ?_, ?_, by omega, Nat.zero_le _, fun h => (by cases h), ?_, by omega⟩
          · by_cases hm : m' = hh
            · rw [if_pos hm, if_pos hm]; simp
            · rw [if_neg hm, if_neg hm]; simp
          · by_cases hm : m' = hh
            · exact .inr ⟨rfl, by omega⟩
            · rw [if_neg hm]
              refine .inl ?_
              obtain rfl : q' = p.base + q := hq'.resolve_right (by omega)
              show p.base + q + hh * sz = p.base + (q + hh * sz); omega
          · show q + hh * sz + (m' - hh) * p.esz ≤ p.room
            omega

/-! ### Assertions -/
def concTy (P : Program) (t : TypeId) : Bool := match P.underlying t with | some (.interface _) => false | some _ => true | none => false
noncomputable def doTypeAssert (P : Program) (x : Operand) (xt t : TypeId) (ok : Bool) (env : T AV) (h : AH) (nx : Nat) (lg : List Nat) (k : KV) : Res :=
  ifK (concTy P t) (evalO P.globals.size env x fun v =>
  @AV.casesOn (fun _ => Res) v (fun _ => .fail) (fun _ _ => .fail) (fun _ _ => .fail) (fun _ _ => .fail) .fail (fun _ _ _ _ _ => .fail) .fail (fun _ => .fail) .fail (fun _ _ _ => .fail) .fail
   (fun d v => @Bool.rec (fun _ => Res) (ifK ok (optK (zeroOf P t) fun z => forceV z fun z => k (.tuple [z, .bool false]) h nx lg)) (@Bool.rec (fun _ => Res) (k v h nx lg) (k (.tuple [v, .bool true]) h nx lg) ok) (Nat.beq d t))
   (ifK ok (optK (zeroOf P t) fun z => forceV z fun z => k (.tuple [z, .bool false]) h nx lg)) (fun _ => .fail) (fun _ => .fail))
theorem doTypeAssert_did {x : Operand} {xt t : TypeId} {ok : Bool} (ho : o.op = .typeAssert x xt t ok) (e : doTypeAssert P x xt t ok env h nx lg k = r) (hr : r ≠ .fail) : Did P o env D h nx lg k r := by
  replace e := ifK_inv e hr; obtain ⟨ht, e⟩ := e
  replace e := evalO_inv e hr; obtain ⟨v, e1, e⟩ := e
  have hu : ∃ d, P.underlying t = some d ∧ ∀ ms, d ≠ .interface ms := by
    unfold concTy at ht
    cases hu : P.underlying t with
    | none => rw [hu] at ht; cases ht
    | some d => rw [hu] at ht; exact ⟨d, rfl, fun ms e => by subst e; cases ht⟩
  obtain ⟨d, hu, hd⟩ := hu
  cases v <;> first
    | exact absurd e.symm hr
    | skip
  case iface dt v =>
    have e' : @Bool.rec (fun _ => Res) (ifK ok (optK (zeroOf P t) fun z => forceV z fun z => k (.tuple [z, .bool false]) h nx lg)) (@Bool.rec (fun _ => Res) (k v h nx lg) (k (.tuple [v, .bool true]) h nx lg) ok) (Nat.beq dt t) = r := e
    rw [boolRec_ite] at e'
    split at e'
    · rename_i hdt
      rw [beqN] at hdt; subst hdt
      cases ok with
      | true =>
        refine did_same (v := .tuple [v, .bool true]) e' fun ρ w a hx hp => ?_
        obtain ⟨v', h3, h4⟩ := hx x (by simp [ho, Op.operands]) _ e1
        refine ⟨.tuple #[v', .bool true], ?_, _, rfl, VRs.cons h4 (VRs.cons rfl rfl)⟩
        simp only [execOp, ho, Instr.typeAssert, Sem.run_bind, run_underlying' hu, Result.andThen_ok, h3]
        cases d <;> first | exact absurd rfl (hd _) | simp
      | false =>
        refine did_same (v := v) e' fun ρ w a hx hp => ?_
        obtain ⟨v', h3, h4⟩ := hx x (by simp [ho, Op.operands]) _ e1
        refine ⟨v', ?_, h4⟩
        simp only [execOp, ho, Instr.typeAssert, Sem.run_bind, run_underlying' hu, Result.andThen_ok, h3]
        cases d <;> first | exact absurd rfl (hd _) | simp
    · rename_i hdt
      rw [beqN] at hdt
      replace e' := ifK_inv e' hr; obtain ⟨hok, e'⟩ := e'
      subst hok
      replace e' := optK_inv e' hr; obtain ⟨z, hz, e'⟩ := e'
      rw [forceV_eq] at e'
      obtain ⟨i, zv, hi, hv, hrun, hV⟩ := zeroOf_inv hz
      refine did_same e' fun ρ w a hx hp => ?_
      obtain ⟨v', h3, h4⟩ := hx x (by simp [ho, Op.operands]) _ e1
      refine ⟨.tuple #[zv, .bool false], ?_, _, rfl, VRs.cons (hV ρ) (VRs.cons rfl rfl)⟩
      simp only [execOp, ho, Instr.typeAssert, Sem.run_bind, run_underlying' hu, Result.andThen_ok, h3]
      cases d <;> first | exact absurd rfl (hd _) | simp [hdt, hrun]
  case nilIface =>
    have e' : (ifK ok (optK (zeroOf P t) fun z => forceV z fun z => k (.tuple [z, .bool false]) h nx lg)) = r := e
    replace e' := ifK_inv e' hr; obtain ⟨hok, e'⟩ := e'
    subst hok
    replace e' := optK_inv e' hr; obtain ⟨z, hz, e'⟩ := e'
    rw [forceV_eq] at e'
    obtain ⟨i, zv, hi, hv, hrun, hV⟩ := zeroOf_inv hz
    refine did_same e' fun ρ w a hx hp => ?_
    have h3 := hx x (by simp [ho, Op.operands]) _ e1
    simp only [VR] at h3
    refine ⟨.tuple #[zv, .bool false], ?_, _, rfl, VRs.cons (hV ρ) (VRs.cons rfl rfl)⟩
    simp only [execOp, ho, Instr.typeAssert, Sem.run_bind, run_underlying' hu, Result.andThen_ok, h3]
    cases d <;> first | exact absurd rfl (hd _) | simp [hrun]
end
end Go.CE
