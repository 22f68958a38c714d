/-
  CE, part 13: maps; ranges over maps and strings.
-/
import Derived.Test.YtfmhagjbhableaaGreatDoorCeDo7
namespace Go.CE
open Go
set_option linter.unusedVariables false
set_option linter.unusedSimpArgs false

/-! ### Keys -/
def ckFs (P : Program) (f : TypeId → AV → Bool) (xs : List AV) : List Field → Bool
  | [] => true
  | fd :: fs => if fd.name ≠ "_" then
      (match ldTy P fd.type with
      | some z => (match partA z fd.offset xs with
        | some a => f fd.type a
        | none => false)
      | none => false) && ckFs P f xs fs
    else ckFs P f xs fs
noncomputable def ckT (P : Program) : Nat → TypeId → AV → Bool
  | 0, _, _ => false
  | d + 1, t, x =>
    match P.underlying t, x with
    | some (.interface _), _ => false
    | some (.array _ _), _ => false
    | some (.struct fs), .agg xs => ckFs P (ckT P d) xs fs.toList
    | some (.struct _), _ => false
    | some _, _ => true
    | none, _ => false
section
variable {P : Program}
def CkOK (P : Program) (ρ : Ren) (d : Nat) (f : TypeId → AV → Bool) : Prop := ∀ e t a x w, f t a = true → VR ρ a x → (Instr.checkKey e d t x).run P w = .ok () w
theorem ckFs_sound {ρ : Ren} {d : Nat} {f : TypeId → AV → Bool} (hf : CkOK P ρ d f) {xs : List AV} {cs : Array Value} (hx : VRs ρ xs cs.toList) (e : Bool) (w : World) :
    ∀ (fs : List Field), ckFs P f xs fs = true → (forIn fs PUnit.unit fun f _ => (do
      if f.name ≠ "_" then Instr.checkKey e d f.type (← part f.type cs f.offset)
      pure (ForInStep.yield PUnit.unit) : Sem (ForInStep PUnit))).run P w = .ok PUnit.unit w
  | [], _ => rfl
  | fd :: fs, h => by
    simp only [ckFs] at h
    simp only [List.forIn_cons, Sem.run_bind]
    split at h
    · rename_i hn
      rw [Bool.and_eq_true] at h
      obtain ⟨h, h'⟩ := h
      split at h
      · rename_i z hz
        split at h
        · rename_i a ha
          obtain ⟨a', p1, q1⟩ := partA_sound ha hz ρ cs w hx
          have p2 := hf e _ _ _ w h q1
          rw [if_pos hn]
          simp only [Sem.run_bind, p1, p2, Result.andThen_ok, Sem.run_pure]
          exact ckFs_sound hf hx e w fs h'
        · cases h
      · cases h
    · rename_i hn
      rw [if_neg hn]
      simp only [Sem.run_bind, Result.andThen_ok, Sem.run_pure]
      exact ckFs_sound hf hx e w fs h
theorem ckT_sound (ρ : Ren) : ∀ d, CkOK P ρ d (ckT P d)
  | 0 => fun e t a x w h => by cases h
  | d + 1 => fun e t a x w h hx => by
    simp only [ckT] at h
    split at h
    · cases h
    · cases h
    · rename_i fs xs hu
      obtain ⟨cs, rfl, hx⟩ := hx
      have := ckFs_sound (P := P) (ckT_sound ρ d) hx e w fs.toList h
      simp only [Instr.checkKey, Sem.run_bind, run_underlying' hu, Result.andThen_ok]
      rw [← Array.forIn_toList]
      rw [this]; rfl
    · cases h
    · rename_i dsc h1 h2 h3 h4 h5
      simp only [Instr.checkKey, Sem.run_bind, run_underlying' h4, Result.andThen_ok]
      cases dsc <;> first
        | exact absurd rfl (h1 _)
        | exact absurd rfl (h2 _ _)
        | exact absurd rfl (h3 _)
        | rfl
    · cases h
/-- The entry of a key: its place and its value. -/
noncomputable def findE (P : Program) (kt : TypeId) (k : AV) : List (AV × AV × Nat) → Nat → Option (Option (Nat × AV))
  | [], _ => some none
  | e :: es, i => match eqT P 10000 kt k e.1 with
    | some true => some (some (i, e.2.1))
    | some false => findE P kt k es (i + 1)
    | none => none
/-- Both are found, or neither. -/
def FoundR (ρ : Ren) : Option (Nat × AV) → Option (Nat × Value) → Prop
  | none, none => True
  | some (i, a), some (j, v) => i = j ∧ VR ρ a v
  | _, _ => False
theorem findAsking_sound {ρ : Ren} {kt : TypeId} {k : AV} {x : Value} (hx : VR ρ k x) (w : World) : ∀ {as : List (AV × AV × Nat)} {es : List MapEntry} {i : Nat} {q : Option (Nat × AV)}, EsR ρ as es → findE P kt k as i = some q →
    ∃ q', (Instr.findAsking kt x es i).run P w = .ok q' w ∧ FoundR ρ q q'
  | [], es, i, q, he, h => by cases he; cases h; exact ⟨none, rfl, trivial⟩
  | a :: as, _, i, q, ⟨e, r, rfl, hk, hv, hb, hr⟩, h => by
    simp only [findE] at h
    simp only [Instr.findAsking, Sem.run_bind]
    split at h
    · rename_i hq
      cases h
      have := eqT_sound ρ 10000 kt k a.1 true x e.key w hq hx hk
      refine ⟨some (i, e.val), ?_, rfl, hv⟩
      simp only [Op.equal, Op.maxDepth, this, Result.andThen_ok, if_true, Sem.run_pure]
    · rename_i hq
      have := eqT_sound ρ 10000 kt k a.1 false x e.key w hq hx hk
      obtain ⟨q', g1, g2⟩ := findAsking_sound hx w hr h
      refine ⟨q', ?_, g2⟩
      simp only [Op.equal, Op.maxDepth, this, Result.andThen_ok, Bool.false_eq_true, if_false]
      exact g1
    · cases h
theorem sameNow_sound {ρ : Ren} {d : Nat} {t : TypeId} {ds : TypeDesc} {a b : AV} {x y : Value} {q : Bool} (hu : P.underlying t = some ds) (h : eqT P (d + 1) t a b = some q) (hx : VR ρ a x) (hy : VR ρ b y) : Instr.sameNow ds x y = some q ∨ ((∀ k, ds ≠ .int k) ∧ ds ≠ .string ∧ ds ≠ .bool) := by
  by_cases hs : (∀ k, ds ≠ .int k) ∧ ds ≠ .string ∧ ds ≠ .bool
  · exact .inr hs
  left
  simp only [eqT, hu] at h
  cases ds <;> (try (exfalso; simp at hs; done))
  case bool =>
    cases a <;> (try (simp at h; done))
    cases b <;> (try (simp at h; done))
    simp only [Option.some.injEq] at h
    simp only [VR] at hx hy; subst hx; subst hy; subst h; rfl
  case int =>
    cases a <;> (try (simp at h; done))
    cases b <;> (try (simp at h; done))
    simp only at h
    split at h
    · rename_i hk
      have hk := kNum_inj hk
      cases h; simp only [VR] at hx hy; subst hx; subst hy; subst hk
      simp [Instr.sameNow, eqI_eq]
    · cases h
  case string =>
    cases a <;> (try (simp at h; done))
    cases b <;> (try (simp at h; done))
    simp only [Option.some.injEq] at h
    obtain ⟨s, rfl, hx⟩ := hx
    obtain ⟨s', rfl, hy⟩ := hy
    simp only [Instr.sameNow, beq_toListBytes, hx.beq hy, h]
theorem findNow_sound {ρ : Ren} {kt : TypeId} {ds : TypeDesc} {k : AV} {x : Value} (hu : P.underlying kt = some ds) (hx : VR ρ k x) (hs : ¬ ((∀ k, ds ≠ .int k) ∧ ds ≠ .string ∧ ds ≠ .bool)) : ∀ {as : List (AV × AV × Nat)} {es : List MapEntry} {i : Nat} {q : Option (Nat × AV)}, EsR ρ as es → findE P kt k as i = some q →
    ∃ q', Instr.findNow ds x es i = some q' ∧ FoundR ρ q q'
  | [], es, i, q, he, h => by cases he; cases h; exact ⟨none, rfl, trivial⟩
  | a :: as, _, i, q, ⟨e, r, rfl, hk, hv, hb, hr⟩, h => by
    simp only [findE] at h
    simp only [Instr.findNow]
    split at h
    · rename_i hq
      cases h
      have := (sameNow_sound hu hq hx hk).resolve_right hs
      rw [this]
      exact ⟨some (i, e.val), rfl, rfl, hv⟩
    · rename_i hq
      have := (sameNow_sound hu hq hx hk).resolve_right hs
      rw [this]
      exact findNow_sound hu hx hs hr h
    · cases h
theorem findNow_none {ds : TypeDesc} (h : (∀ k, ds ≠ .int k) ∧ ds ≠ .string ∧ ds ≠ .bool) (x : Value) (e : MapEntry) (es : List MapEntry) (i : Nat) : Instr.findNow ds x (e :: es) i = none := by
  have : Instr.sameNow ds x e.key = none := by
    unfold Instr.sameNow
    split <;> first | exact absurd rfl (h.1 _) | exact absurd rfl h.2.1 | exact absurd rfl h.2.2 | rfl
  simp [Instr.findNow, this]
theorem findKey_sound {ρ : Ren} {kt : TypeId} {ds : TypeDesc} {k : AV} {x : Value} (hu : P.underlying kt = some ds) (hx : VR ρ k x) (w : World) {as : List (AV × AV × Nat)} {es : List MapEntry} {q : Option (Nat × AV)} (he : EsR ρ as es) (h : findE P kt k as 0 = some q) :
    ∃ q', (Instr.findKey kt x es).run P w = .ok q' w ∧ FoundR ρ q q' := by
  unfold Instr.findKey
  simp only [Sem.run_bind, run_underlying' hu, Result.andThen_ok]
  by_cases hs : (∀ k, ds ≠ .int k) ∧ ds ≠ .string ∧ ds ≠ .bool
  · cases es with
    | nil =>
      have : as = [] := by cases as with | nil => rfl | cons a as => obtain ⟨e, r, hh, _⟩ := he; cases hh
      subst this
      cases h
      exact ⟨none, rfl, trivial⟩
    | cons e es =>
      rw [findNow_none hs]
      exact findAsking_sound hx w he h
  · obtain ⟨q', g1, g2⟩ := findNow_sound hu hx hs he h
    rw [g1]
    exact ⟨q', rfl, g2⟩
def mapTy (P : Program) (t : TypeId) : Option (TypeId × TypeId) := match P.underlying t with | some (.map a b) => (match P.underlying a with | some _ => some (a, b) | none => none) | _ => none
theorem mapTy_inv {t a b : TypeId} (h : mapTy P t = some (a, b)) : P.underlying t = some (.map a b) ∧ ∃ d, P.underlying a = some d := by
  unfold mapTy at h
  split at h
  · rename_i a' b' hu
    split at h
    · rename_i d hd; cases h; exact ⟨hu, d, hd⟩
    · cases h
  · cases h
end

section
variable {P : Program} {o : Oper} {env : T AV} {D : Nat → Prop} {h : AH} {nx : Nat} {lg : List Nat} {k : KV} {r : Res}
noncomputable def asMap (v : AV) (n : Res) (c : Nat → Res) : Res := @AV.casesOn (fun _ => Res) v (fun _ => .fail) (fun _ _ => .fail) (fun _ _ => .fail) (fun _ _ => .fail) .fail (fun _ _ _ _ _ => .fail) .fail c n (fun _ _ _ => .fail) .fail (fun _ _ => .fail) .fail (fun _ => .fail) (fun _ => .fail)
theorem asMap_inv {v : AV} {n : Res} {c : Nat → Res} (e : asMap v n c = r) (hr : r ≠ .fail) : (v = .nilMap ∧ n = r) ∨ ∃ b, v = .map b ∧ c b = r := by
  cases v <;> first | exact .inr ⟨_, rfl, e⟩ | exact .inl ⟨rfl, e⟩ | exact absurd e.symm hr
noncomputable def lookupRes (ok : Bool) (z : AV) (q : Option (Nat × AV)) (c : AV → Res) : Res :=
  @Option.rec (Nat × AV) (fun _ => Res) (forceV z fun z => @Bool.rec (fun _ => Res) (c z) (c (.tuple [z, .bool false])) ok) (fun p => @Bool.rec (fun _ => Res) (c p.2) (c (.tuple [p.2, .bool true])) ok) q
noncomputable def doLookup (P : Program) (t : TypeId) (x i : Operand) (ok : Bool) (env : T AV) (h : AH) (nx : Nat) (lg : List Nat) (k : KV) : Res :=
  optK (mapTy P t) fun ty => optK (zeroOf P ty.2) fun z => evalO P.globals.size env x fun m => evalO P.globals.size env i fun i => ifK (ckT P 10000 ty.1 i)
   (asMap m (lookupRes ok z none fun v => k v h nx lg) fun b => getBlk h b fun blk => asMapB blk fun es _ => optK (findE P ty.1 i es 0) fun q => lookupRes ok z q fun v => k v h nx lg)
theorem lookupRes_inv {ok : Bool} {z : AV} {q : Option (Nat × AV)} {c : AV → Res} (e : lookupRes ok z q c = r) : ∃ v, c v = r ∧ ∀ (ρ : Ren) (q' : Option (Nat × Value)) (zv : Value), VR ρ z zv → FoundR ρ q q' →
    VR ρ v (match q' with | some (_, v) => (if ok then .tuple #[v, .bool true] else v) | none => (if ok then .tuple #[zv, .bool false] else zv)) := by
  cases q with
  | none =>
    have e' : (forceV z fun z => @Bool.rec (fun _ => Res) (c z) (c (.tuple [z, .bool false])) ok) = r := e
    rw [forceV_eq] at e'
    cases ok with
    | true => refine ⟨_, e', fun ρ q' zv hz hq => ?_⟩
              cases q' with
              | none => exact ⟨_, rfl, VRs.cons hz (VRs.cons rfl rfl)⟩
              | some q => exact hq.elim
    | false => refine ⟨_, e', fun ρ q' zv hz hq => ?_⟩
               cases q' with
              | none => exact hz
              | some q => exact hq.elim
  | some q =>
    cases ok with
    | true => refine ⟨_, e, fun ρ q' zv hz hq => ?_⟩
              cases q' with
              | none => exact hq.elim
              | some q => exact ⟨_, rfl, VRs.cons hq.2 (VRs.cons rfl rfl)⟩
    | false => refine ⟨_, e, fun ρ q' zv hz hq => ?_⟩
               cases q' with
              | none => exact hq.elim
              | some q => exact hq.2
theorem run_getObj {w : World} {b : Nat} {ob : Obj} (e : w.heap[b]? = some ob) (hc : ∀ a t f, ob ≠ .cells a t f) : (getObj b).run P w = .ok ob w := by
  simp only [getObj, Sem.run, e]
theorem run_setObj {w : World} {b : Nat} {ob ob' : Obj} (e : w.heap[b]? = some ob) (hc : ∀ a t f, ob ≠ .cells a t f) : (setObj b ob').run P w = .ok () (setBlk w b ob') := by
  simp only [setObj, Sem.run, e]
  cases ob <;> first | exact absurd rfl (hc _ _ _) | rfl
theorem doLookup_did {t : TypeId} {x i : Operand} {ok : Bool} (ho : o.op = .lookup t x i ok) (hD : ∀ b, FootIn P o.op env b → D b) (e : doLookup P t x i ok env h nx lg k = r) (hr : r ≠ .fail) : Did P o env D h nx lg k r := by
  replace e := optK_inv e hr; obtain ⟨⟨kt, et⟩, hty, e⟩ := e
  replace e := optK_inv e hr; obtain ⟨z, hz, e⟩ := e
  replace e := evalO_inv e hr; obtain ⟨m, e1, e⟩ := e
  replace e := evalO_inv e hr; obtain ⟨kv, e2, e⟩ := e
  replace e := ifK_inv e hr; obtain ⟨hck, e⟩ := e
  obtain ⟨hu, ds, hds⟩ := mapTy_inv hty
  obtain ⟨info, zv, hi, hzv, hrun, hV⟩ := zeroOf_inv hz
  replace e := asMap_inv e hr
  rcases e with ⟨rfl, e⟩ | ⟨b, rfl, e⟩
  · obtain ⟨v, e, H⟩ := lookupRes_inv e
    refine did_same e fun ρ w a hx hp => ?_
    have h3 := hx x (by simp [ho, Op.operands]) _ e1
    have h4 := hx i (by simp [ho, Op.operands]) _ e2
    simp only [VR] at h3
    have hc := fun e => ckT_sound (P := P) ρ 10000 e kt kv (a.eval i) w hck h4
    refine ⟨_, ?_, H ρ none zv (hV ρ) trivial⟩
    obtain ⟨q', g1, g2⟩ := findKey_sound (P := P) (as := []) (es := []) (q := none) hds h4 w rfl rfl
    cases q' with
    | some q => exact g2.elim
    | none => simp [execOp, ho, Instr.lookup, run_underlying' hu, h3, hc, g1, hrun]
  · replace e := getBlk_inv e hr; obtain ⟨blk, hb, e⟩ := e
    replace e := asMapB_inv e hr; obtain ⟨es, cl, rfl, e⟩ := e
    replace e := optK_inv e hr; obtain ⟨q, hq, e⟩ := e
    obtain ⟨v, e, H⟩ := lookupRes_inv e
    refine did_same e fun ρ w a hx hp => ?_
    obtain ⟨p, h1, h3⟩ := hx x (by simp [ho, Op.operands]) _ e1
    have h4 := hx i (by simp [ho, Op.operands]) _ e2
    have hc := fun e => ckT_sound (P := P) ρ 10000 e kt kv (a.eval i) w hck h4
    obtain ⟨arr, k1, k2⟩ := hp.rel b (hD b ⟨x, by simp [ho, footOps], _, e1, rfl⟩) _ p hb h1
    obtain ⟨q', g1, g2⟩ := findKey_sound (P := P) hds h4 w k2 hq
    refine ⟨_, ?_, H ρ q' zv (hV ρ) g2⟩
    have hg := run_getObj (P := P) k1 (by simp)
    cases q' with
    | none => simp [execOp, ho, Instr.lookup, run_underlying' hu, h3, hg, hc, g1, hrun]
    | some q => simp [execOp, ho, Instr.lookup, run_underlying' hu, h3, hg, hc, g1]

/-! ### Writing maps -/
def keyS : AV → Bool
  | .bool _ | .int _ _ | .str _ _ => true
  | _ => false
noncomputable def sameS (a b : AV) : Bool := match a, b with
  | .bool x, .bool y => x == y
  | .int k x, .int k' y => Nat.beq (kNum k) (kNum k') && eqI x y
  | .str l n, .str m p => Nat.beq l m && Nat.beq n p
  | _, _ => false
noncomputable def sameL : List AV → List AV → Bool
  | [], [] => true
  | a :: as, b :: bs => sameS a b && sameL as bs
  | _, _ => false
noncomputable def sameA (a b : AV) : Bool := match a, b with
  | .agg as, .agg bs => sameL as bs
  | a, b => sameS a b
theorem sameS_eq {ρ : Ren} {a b : AV} {x y : Value} (h : sameS a b = true) (hx : VR ρ a x) (hy : VR ρ b y) : x = y ∧ ∀ n, Instr.sameBits n x x = true := by
  unfold sameS at h
  split at h
  · simp only [VR] at hx hy; subst hx; subst hy; simp at h; subst h; exact ⟨rfl, fun n => by cases n <;> simp [Instr.sameBits]⟩
  · simp only [VR] at hx hy; subst hx; subst hy
    rw [Bool.and_eq_true, beqN, eqI_eq] at h
    have hk := kNum_inj h.1
    have hn := h.2
    simp at hn
    subst hk; subst hn
    exact ⟨rfl, fun n => by cases n <;> simp [Instr.sameBits]⟩
  · obtain ⟨s, rfl, hx⟩ := hx
    obtain ⟨s', rfl, hy⟩ := hy
    rw [Bool.and_eq_true, beqN, beqN] at h
    have := (hx.eq_iff hy).2 h
    subst this
    refine ⟨rfl, fun n => ?_⟩
    have hb : (s == s) = true := by rw [beq_toListBytes]; simp
    cases n <;> simp [Instr.sameBits, hb]
  · cases h
theorem sameL_eq {ρ : Ren} : ∀ {as bs : List AV} {xs ys : List Value}, sameL as bs = true → VRs ρ as xs → VRs ρ bs ys → xs = ys ∧ ∀ n, (xs.zip xs).all (fun (p : Value × Value) => Instr.sameBits n p.1 p.2) = true
  | [], [], _, _, _, hx, hy => by cases hx; cases hy; exact ⟨rfl, fun n => rfl⟩
  | a :: as, b :: bs, _, _, h, ⟨x, xs, rfl, hx, hxs⟩, ⟨y, ys, rfl, hy, hys⟩ => by
    simp only [sameL, Bool.and_eq_true] at h
    obtain ⟨e1, g1⟩ := sameS_eq h.1 hx hy
    obtain ⟨e2, g2⟩ := sameL_eq h.2 hxs hys
    subst e1; subst e2
    refine ⟨rfl, fun n => ?_⟩
    simp only [List.zip_cons_cons, List.all_cons, g1 n, Bool.true_and]
    exact g2 n
  | [], b :: bs, _, _, h, _, _ => by cases h
  | a :: as, [], _, _, h, _, _ => by cases h
theorem sameA_eq {ρ : Ren} {a b : AV} {x y : Value} (h : sameA a b = true) (hx : VR ρ a x) (hy : VR ρ b y) : x = y ∧ Instr.sameBits 10000 x x = true := by
  unfold sameA at h
  split at h
  · obtain ⟨xs, rfl, hx⟩ := hx
    obtain ⟨ys, rfl, hy⟩ := hy
    obtain ⟨e, g⟩ := sameL_eq h hx hy
    have : xs = ys := by cases xs; cases ys; simp at e; subst e; rfl
    subst this
    refine ⟨rfl, ?_⟩
    have := g 9999
    simp only [Instr.sameBits, beq_self_eq_true, Bool.true_and]
    exact this
  · obtain ⟨e, g⟩ := sameS_eq h hx hy
    exact ⟨e, g _⟩
/-- The entry number i gets another key (the same one) and another value. -/
noncomputable def setEK (i : Nat) (k v : AV) (es : List (AV × AV × Nat)) (c : List (AV × AV × Nat) → Res) : Res :=
  @List.rec (AV × AV × Nat) (fun _ => Nat → (List (AV × AV × Nat) → Res) → Res) (fun _ _ => .fail) (fun e es ih i c => @Nat.rec (fun _ => Res) (ifK (sameA e.1 k) (c ((k, v, e.2.2) :: es))) (fun j _ => ih j fun es => c (e :: es)) i) es i c
theorem setEK_inv {kk v : AV} : ∀ {es : List (AV × AV × Nat)} {i : Nat} {c : List (AV × AV × Nat) → Res}, setEK i kk v es c = r → r ≠ .fail →
    ∃ es', c es' = r ∧ ∀ (ρ : Ren) (x y : Value) (l : List MapEntry), EsR ρ es l → VR ρ kk x → VR ρ v y → ∃ e0, l[i]? = some e0 ∧ e0.key = x ∧ Instr.sameBits 10000 x x = true ∧ EsR ρ es' (l.modify i fun e => { e with key := x, val := y })
  | [], i, c, e, hr => absurd e.symm hr
  | a :: as, 0, c, e, hr => by
    have e' : ifK (sameA a.1 kk) (c ((kk, v, a.2.2) :: as)) = r := e
    replace e' := ifK_inv e' hr; obtain ⟨hs, e'⟩ := e'
    refine ⟨_, e', fun ρ x y l ⟨e0, q, hl, h1, h2, h3, h4⟩ hx hy => ?_⟩
    subst hl
    obtain ⟨g1, g2⟩ := sameA_eq hs h1 hx
    exact ⟨e0, rfl, g1, g1 ▸ g2, _, _, rfl, hx, hy, h3, h4⟩
  | a :: as, i + 1, c, e, hr => by
    have e' : (setEK i kk v as fun es => c (a :: es)) = r := e
    obtain ⟨es', e2, H⟩ := setEK_inv e' hr
    refine ⟨_, e2, fun ρ x y l ⟨e0, q, hl, h1, h2, h3, h4⟩ hx hy => ?_⟩
    subst hl
    obtain ⟨e1, g1, g2, g3, g4⟩ := H ρ x y q h4 hx hy
    exact ⟨e1, by simpa using g1, g2, g3, e0, _, rfl, h1, h2, h3, g4⟩
theorem EsR.snoc {ρ : Ren} {a : AV × AV × Nat} {e : MapEntry} (h1 : VR ρ a.1 e.key) (h2 : VR ρ a.2.1 e.val) (h3 : e.born = a.2.2) : ∀ {as : List (AV × AV × Nat)} {es : List MapEntry}, EsR ρ as es → EsR ρ (as ++ [a]) (es ++ [e])
  | [], _, h => by cases h; exact ⟨e, [], rfl, h1, h2, h3, rfl⟩
  | b :: bs, _, ⟨e0, q, hl, g1, g2, g3, g4⟩ => by subst hl; exact ⟨e0, _, rfl, g1, g2, g3, EsR.snoc h1 h2 h3 g4⟩
theorem EsR.erase {ρ : Ren} : ∀ {as : List (AV × AV × Nat)} {es : List MapEntry} (i : Nat), EsR ρ as es → EsR ρ (as.eraseIdx i) (es.eraseIdx i)
  | [], _, _, h => by cases h; exact rfl
  | b :: bs, _, 0, ⟨e0, q, hl, g1, g2, g3, g4⟩ => by subst hl; exact g4
  | b :: bs, _, i + 1, ⟨e0, q, hl, g1, g2, g3, g4⟩ => by subst hl; exact ⟨e0, _, rfl, g1, g2, g3, EsR.erase i g4⟩
theorem EsR.length {ρ : Ren} : ∀ {as : List (AV × AV × Nat)} {es : List MapEntry}, EsR ρ as es → as.length = es.length
  | [], _, h => by cases h; rfl
  | b :: bs, _, ⟨e0, q, hl, g1, g2, g3, g4⟩ => by subst hl; simp [EsR.length g4]
noncomputable def doMapUpdate (P : Program) (t : TypeId) (m kx x : Operand) (env : T AV) (h : AH) (nx : Nat) (lg : List Nat) (k : KV) : Res :=
  optK (mapTy P t) fun ty => evalO P.globals.size env m fun m => evalO P.globals.size env kx fun kv => evalO P.globals.size env x fun v => ifK (ckT P 10000 ty.1 kv)
   (asMap m .fail fun b => getBlk h b fun blk => asMapB blk fun es cl => optK (findE P ty.1 kv es 0) fun q =>
    @Option.rec (Nat × AV) (fun _ => Res) (appK es [(kv, v, cl)] fun es => T.setK h (Nat.succ b) (.map es (Nat.succ cl)) fun h => k undefA h nx (b :: lg))
      (fun p => setEK p.1 kv v es fun es => T.setK h (Nat.succ b) (.map es cl) fun h => k undefA h nx (b :: lg)) q)
/-- A map's block is written. -/
theorem did_mapWrite {b : Nat} {es es' : List (AV × AV × Nat)} {cl cl' : Nat} {v : AV} (hb : h.at b = some (.map es cl)) (hD : D b) (hn : ∀ b blk, h.at b = some blk → b < nx) (hk : k v (h.put b (.map es' cl')) nx (b :: lg) = r)
    (H : ∀ ρ w (a : Act) p arr, OpsR P ρ env o a → ρ b = some p → w.heap[p.blk]? = some (.map arr cl) → EsR ρ es arr.toList → ∃ arr' : Array MapEntry, EsR ρ es' arr'.toList ∧
      (((execOp a.eval o).run P w = .ok .skip (setBlk w p.blk (.map arr' cl')) ∧ v = undefA) ∨ ∃ v', (execOp a.eval o).run P w = .ok (.value v') (setBlk w p.blk (.map arr' cl')) ∧ VR ρ v v'))
    (hdef : ∀ (ρ : Ren) (a : Act), OpsR P ρ env o a → ∃ p, ρ b = some p) : Did P o env D h nx lg k r := by
  refine ⟨v, _, nx, [b], hk, .upd hD (hn _ _ hb) ⟨_, hb, by simp⟩, fun ρ w a hx hp => ?_⟩
  obtain ⟨p, h1⟩ := hdef ρ a hx
  obtain ⟨arr, k1, k2⟩ := hp.rel b hD _ p hb h1
  obtain ⟨arr', g1, g2⟩ := H ρ w a p arr hx h1 k1 k2
  have hpost : Post P D ρ h nx w [b] ρ (h.put b (.map es' cl')) nx (setBlk w p.blk (.map arr' cl')) :=
    .upd hp hD ⟨_, hb, by simp⟩ h1 (fun β hβ => setBlk_ne hβ) (setBlk_size _ _ _) rfl rfl rfl ⟨arr', setBlk_at k1, g1⟩
  rcases g2 with ⟨g2, rfl⟩ | ⟨v', g2, g3⟩
  · exact RunsTo.skip g2 ⟨ρ, VR_undef ρ, hpost⟩
  · exact RunsTo.value g2 ⟨ρ, g3, hpost⟩
theorem doMapUpdate_did {t : TypeId} {m kx x : Operand} (ho : o.op = .mapUpdate t m kx x ∨ o.op = .insert t m kx x) (hD : ∀ b, FootIn P o.op env b → D b) (e : doMapUpdate P t m kx x env h nx lg k = r) (hr : r ≠ .fail) (hn : ∀ b blk, h.at b = some blk → b < nx) : Did P o env D h nx lg k r := by
  replace e := optK_inv e hr; obtain ⟨⟨kt, et⟩, hty, e⟩ := e
  replace e := evalO_inv e hr; obtain ⟨mv, e1, e⟩ := e
  replace e := evalO_inv e hr; obtain ⟨kv, e2, e⟩ := e
  replace e := evalO_inv e hr; obtain ⟨v, e3, e⟩ := e
  replace e := ifK_inv e hr; obtain ⟨hck, e⟩ := e
  obtain ⟨hu, ds, hds⟩ := mapTy_inv hty
  replace e := asMap_inv e hr
  rcases e with ⟨_, e⟩ | ⟨b, rfl, e⟩
  · exact absurd e.symm hr
  replace e := getBlk_inv e hr; obtain ⟨blk, hb, e⟩ := e
  replace e := asMapB_inv e hr; obtain ⟨es, cl, rfl, e⟩ := e
  replace e := optK_inv e hr; obtain ⟨q, hq, e⟩ := e
  have ho1 : m ∈ o.op.operands := by rcases ho with ho | ho <;> simp [ho, Op.operands]
  have ho2 : kx ∈ o.op.operands := by rcases ho with ho | ho <;> simp [ho, Op.operands]
  have ho3 : x ∈ o.op.operands := by rcases ho with ho | ho <;> simp [ho, Op.operands]
  have hf : D b := hD b ⟨m, by rcases ho with ho | ho <;> simp [ho, footOps], _, e1, rfl⟩
  have hexec : ∀ (a : Act), execOp a.eval o = (do Instr.mapUpdate t (a.eval m) (a.eval kx) (a.eval x); pure .skip) := fun a => by
    rcases ho with ho | ho <;> simp only [execOp, ho]
  have hdef : ∀ (ρ : Ren) (a : Act), OpsR P ρ env o a → ∃ p, ρ b = some p := fun ρ a hx => by
    obtain ⟨p, h1, _⟩ := hx m ho1 _ e1
    exact ⟨p, h1⟩
  cases q with
  | none =>
    have e' : (appK es [(kv, v, cl)] fun es => T.setK h (Nat.succ b) (.map es (Nat.succ cl)) fun h => k undefA h nx (b :: lg)) = r := e
    rw [appK_eq, T.setK_put] at e'
    refine did_mapWrite hb hf hn e' (fun ρ w a p arr hx h1 k1 k2 => ?_) hdef
    obtain ⟨p', h1', h3⟩ := hx m ho1 _ e1
    rw [h1] at h1'; cases h1'
    have h4 := hx kx ho2 _ e2
    have h5 := hx x ho3 _ e3
    have hc := fun e => ckT_sound (P := P) ρ 10000 e kt kv (a.eval kx) w hck h4
    obtain ⟨q', g1, g2⟩ := findKey_sound (P := P) hds h4 w k2 hq
    cases q' with
    | some q => exact g2.elim
    | none =>
      refine ⟨arr.push { key := a.eval kx, val := a.eval x, born := cl }, by rw [Array.toList_push]; exact EsR.snoc h4 h5 rfl k2, .inl ⟨?_, rfl⟩⟩
      rw [hexec]
      simp only [Instr.mapUpdate, Sem.run_bind, run_underlying' hu, Result.andThen_ok, h3, run_getObj (P := P) k1 (by simp), hc, g1, run_setObj (P := P) k1 (by simp), Sem.run_pure]
  | some q =>
    obtain ⟨i, v0⟩ := q
    have e' : (setEK i kv v es fun es => T.setK h (Nat.succ b) (.map es cl) fun h => k undefA h nx (b :: lg)) = r := e
    replace e' := setEK_inv e' hr; obtain ⟨es', e', H⟩ := e'
    rw [T.setK_put] at e'
    refine did_mapWrite hb hf hn e' (fun ρ w a p arr hx h1 k1 k2 => ?_) hdef
    obtain ⟨p', h1', h3⟩ := hx m ho1 _ e1
    rw [h1] at h1'; cases h1'
    have h4 := hx kx ho2 _ e2
    have h5 := hx x ho3 _ e3
    have hc := fun e => ckT_sound (P := P) ρ 10000 e kt kv (a.eval kx) w hck h4
    obtain ⟨q', g1, g2⟩ := findKey_sound (P := P) hds h4 w k2 hq
    cases q' with
    | none => exact g2.elim
    | some q =>
      obtain ⟨j, u⟩ := q
      obtain ⟨rfl, _⟩ := g2
      obtain ⟨e0, m1, m2, m3, m4⟩ := H ρ (a.eval kx) (a.eval x) arr.toList k2 h4 h5
      rw [Array.getElem?_toList] at m1
      refine ⟨arr.modify i fun e => { e with key := a.eval kx, val := a.eval x }, by rw [Array.toList_modify]; exact m4, .inl ⟨?_, rfl⟩⟩
      rw [hexec]
      have hkey : (Instr.keyThatStays (((arr[i]?).map (·.key)).getD (a.eval kx)) (a.eval kx)).run P w = .ok (a.eval kx) w := by
        simp only [m1, Option.map_some, Option.getD_some, m2, Instr.keyThatStays, m3, if_true, Sem.run_pure]
      simp only [Instr.mapUpdate, Sem.run_bind, run_underlying' hu, Result.andThen_ok, h3, run_getObj (P := P) k1 (by simp), hc, g1, hkey, run_setObj (P := P) k1 (by simp), Sem.run_pure]
end
end Go.CE
