/-
  CE, part 10: reckoning: numbers, strings, tests, conversions.
-/
import Derived.Test.YtfmhagjbhableaaGreatDoorCeDo4
import Derived.Laws.StructEq
namespace Go.CE
open Go
set_option linter.unusedVariables false
set_option linter.unusedSimpArgs false

/-! ### Numbers -/
noncomputable def ltI (a b : Int) : Bool := @Int.casesOn (fun _ => Bool) a (fun x => @Int.casesOn (fun _ => Bool) b (fun y => Nat.blt x y) (fun _ => false)) (fun x => @Int.casesOn (fun _ => Bool) b (fun _ => true) (fun y => Nat.blt y x))
noncomputable def eqI (a b : Int) : Bool := @Int.casesOn (fun _ => Bool) a (fun x => @Int.casesOn (fun _ => Bool) b (fun y => Nat.beq x y) (fun _ => false)) (fun x => @Int.casesOn (fun _ => Bool) b (fun _ => false) (fun y => Nat.beq y x))
theorem ltI_eq (a b : Int) : ltI a b = decide (a < b) := by
  rw [Bool.eq_iff_iff, decide_eq_true_iff]
  cases a with
  | ofNat x => cases b with
    | ofNat y => show Nat.blt x y = true ↔ _; rw [bltN]; simp
    | negSucc y => show false = true ↔ _; simp; omega
  | negSucc x => cases b with
    | ofNat y => show true = true ↔ _; simp; omega
    | negSucc y => show Nat.blt y x = true ↔ _; rw [bltN]; omega
theorem eqI_eq (a b : Int) : eqI a b = (a == b) := by
  rw [Bool.eq_iff_iff, beq_iff_eq]
  cases a with
  | ofNat x => cases b with
    | ofNat y => show Nat.beq x y = true ↔ _; rw [beqN]; exact ⟨fun h => by rw [h], fun h => by cases h; rfl⟩
    | negSucc y => show false = true ↔ _; simp
  | negSucc x => cases b with
    | ofNat y => show false = true ↔ _; simp
    | negSucc y => show Nat.beq y x = true ↔ _; rw [beqN]; omega
def maxK (k : IntKind) : Nat := match k with | .i8 => 0 | .i16 => 0 | .i32 => 2147483647 | .i64 => 9223372036854775807 | .u8 => 255 | .u16 => 65535 | .u32 => 4294967295 | .u64 => 18446744073709551615
def sgK (k : IntKind) : Bool := match k with | .i8 | .i16 | .i32 | .i64 => true | _ => false
noncomputable def wrapK (k : IntKind) (n : Int) (c : Int → Res) : Res :=
  @Int.casesOn (fun _ => Res) n (fun m => @Bool.rec (fun _ => Res) (forceI (k.wrap (Int.ofNat m)) c) (forceN m fun m => c (Int.ofNat m)) (Nat.ble m (maxK k)))
    (fun m => @Bool.rec (fun _ => Res) (forceI (k.wrap (Int.negSucc m)) c) (forceN m fun m => c (Int.negSucc m)) (and (sgK k) (Nat.ble m (maxK k))))
theorem wrap_pos {k : IntKind} {m : Nat} (h : m ≤ maxK k) : k.wrap (Int.ofNat m) = Int.ofNat m := by
  change k.wrap (m : Int) = (m : Int)
  cases k <;> simp only [maxK] at h
  · obtain rfl : m = 0 := by omega
    decide
  · obtain rfl : m = 0 := by omega
    decide
  · exact IntWalk.i32_in _ ⟨by omega, by omega⟩
  · exact IntWalk.i64_in _ ⟨by omega, by omega⟩
  · exact IntWalk.u8_in _ ⟨by omega, by omega⟩
  · exact IntWalk.u16_in _ ⟨by omega, by omega⟩
  · exact IntWalk.u32_in _ ⟨by omega, by omega⟩
  · rw [IntKind.wrap_u64]; omega
theorem wrap_neg {k : IntKind} {m : Nat} (hs : sgK k = true) (h : m ≤ maxK k) : k.wrap (Int.negSucc m) = Int.negSucc m := by
  cases k <;> simp only [maxK] at h <;> simp only [sgK, Bool.false_eq_true] at hs
  · obtain rfl : m = 0 := by omega
    decide
  · obtain rfl : m = 0 := by omega
    decide
  · exact IntWalk.i32_in _ ⟨by omega, by omega⟩
  · exact IntWalk.i64_in _ ⟨by omega, by omega⟩
theorem wrapK_eq (k : IntKind) (n : Int) (c : Int → Res) : wrapK k n c = c (k.wrap n) := by
  cases n with
  | ofNat m =>
    show @Bool.rec (fun _ => Res) (forceI (k.wrap (Int.ofNat m)) c) (forceN m fun m => c (Int.ofNat m)) (Nat.ble m (maxK k)) = _
    rw [boolRec_ite, forceI_eq, forceN_eq]
    split
    · rename_i h; rw [bleN] at h; rw [wrap_pos h]
    · rfl
  | negSucc m =>
    show @Bool.rec (fun _ => Res) (forceI (k.wrap (Int.negSucc m)) c) (forceN m fun m => c (Int.negSucc m)) (and (sgK k) (Nat.ble m (maxK k))) = _
    rw [boolRec_ite, forceI_eq, forceN_eq]
    split
    · rename_i h; simp only [Bool.and_eq_true, bleN] at h; rw [wrap_neg h.1 h.2]
    · rfl
def kNum (k : IntKind) : Nat := match k with | .i8 => 0 | .i16 => 1 | .i32 => 2 | .i64 => 3 | .u8 => 4 | .u16 => 5 | .u32 => 6 | .u64 => 7
theorem kNum_inj {k k' : IntKind} (h : kNum k = kNum k') : k = k' := by cases k <;> cases k' <;> first | rfl | cases h
noncomputable def retB (b : Bool) (c : AV → Res) : Res := forceB b fun b => c (.bool b)
theorem retB_eq (b : Bool) (c : AV → Res) : retB b c = c (.bool b) := by unfold retB; rw [forceB_eq]
noncomputable def intOp (op : BinOp) (k : IntKind) (a b : Int) (c : AV → Res) : Res :=
  @BinOp.casesOn (fun _ => Res) op
    (wrapK k (Int.add a b) fun n => c (.int k n)) (wrapK k (Int.sub a b) fun n => c (.int k n)) (wrapK k (Int.mul a b) fun n => c (.int k n))
    (ifK (not (eqI b 0)) (wrapK k (Int.tdiv a b) fun n => c (.int k n))) (ifK (not (eqI b 0)) (forceI (Int.tmod a b) fun n => c (.int k n)))
    (wrapK k (BitVec.ofInt k.bits a &&& BitVec.ofInt k.bits b).toNat fun n => c (.int k n)) (wrapK k (BitVec.ofInt k.bits a ||| BitVec.ofInt k.bits b).toNat fun n => c (.int k n)) (wrapK k (BitVec.ofInt k.bits a ^^^ BitVec.ofInt k.bits b).toNat fun n => c (.int k n))
    .fail .fail (wrapK k (BitVec.ofInt k.bits a &&& ~~~ BitVec.ofInt k.bits b).toNat fun n => c (.int k n))
    (retB (eqI a b) c) (retB (not (eqI a b)) c) (retB (ltI a b) c) (retB (not (ltI b a)) c) (retB (ltI b a) c) (retB (not (ltI a b)) c)
section
variable {P : Program} {r : Res}
theorem intOp_inv {op : BinOp} {k : IntKind} {a b : Int} {c : AV → Res} (e : intOp op k a b c = r) (hr : r ≠ .fail) :
    ∃ v, c v = r ∧ ∀ w t, ∃ v', (binOp op t (.int k a) (.int k b)).run P w = .ok v' w ∧ ∀ ρ : Ren, VR ρ v v' := by
  cases op <;> first
    | exact absurd e.symm hr
    | skip
  case add => have e' := e; change wrapK k (Int.add a b) (fun n => c (.int k n)) = r at e'; rw [wrapK_eq] at e'; exact ⟨_, e', fun w t => ⟨_, by simp [binOp, Op.intArith] <;> rfl, fun ρ => rfl⟩⟩
  case sub => have e' := e; change wrapK k (Int.sub a b) (fun n => c (.int k n)) = r at e'; rw [wrapK_eq] at e'; exact ⟨_, e', fun w t => ⟨_, by simp [binOp, Op.intArith] <;> rfl, fun ρ => rfl⟩⟩
  case mul => have e' := e; change wrapK k (Int.mul a b) (fun n => c (.int k n)) = r at e'; rw [wrapK_eq] at e'; exact ⟨_, e', fun w t => ⟨_, by simp [binOp, Op.intArith] <;> rfl, fun ρ => rfl⟩⟩
  case quo =>
    have e' := e; change ifK (not (eqI b 0)) (wrapK k (Int.tdiv a b) fun n => c (.int k n)) = r at e'
    replace e' := ifK_inv e' hr; obtain ⟨hb, e'⟩ := e'
    rw [wrapK_eq] at e'; rw [eqI_eq] at hb; simp at hb
    exact ⟨_, e', fun w t => ⟨_, by simp [binOp, Op.intDiv, hb] <;> rfl, fun ρ => rfl⟩⟩
  case rem =>
    have e' := e; change ifK (not (eqI b 0)) (forceI (Int.tmod a b) fun n => c (.int k n)) = r at e'
    replace e' := ifK_inv e' hr; obtain ⟨hb, e'⟩ := e'
    rw [forceI_eq] at e'; rw [eqI_eq] at hb; simp at hb
    exact ⟨_, e', fun w t => ⟨_, by simp [binOp, Op.intDiv, hb] <;> rfl, fun ρ => rfl⟩⟩
  case and => have e' := e; change wrapK k ((BitVec.ofInt k.bits a &&& BitVec.ofInt k.bits b).toNat : Nat) (fun n => c (.int k n)) = r at e'; rw [wrapK_eq] at e'; exact ⟨_, e', fun w t => ⟨_, by simp [binOp, Op.intBits] <;> rfl, fun ρ => rfl⟩⟩
  case or => have e' := e; change wrapK k ((BitVec.ofInt k.bits a ||| BitVec.ofInt k.bits b).toNat : Nat) (fun n => c (.int k n)) = r at e'; rw [wrapK_eq] at e'; exact ⟨_, e', fun w t => ⟨_, by simp [binOp, Op.intBits] <;> rfl, fun ρ => rfl⟩⟩
  case xor => have e' := e; change wrapK k ((BitVec.ofInt k.bits a ^^^ BitVec.ofInt k.bits b).toNat : Nat) (fun n => c (.int k n)) = r at e'; rw [wrapK_eq] at e'; exact ⟨_, e', fun w t => ⟨_, by simp [binOp, Op.intBits] <;> rfl, fun ρ => rfl⟩⟩
  case andNot => have e' := e; change wrapK k ((BitVec.ofInt k.bits a &&& ~~~ BitVec.ofInt k.bits b).toNat : Nat) (fun n => c (.int k n)) = r at e'; rw [wrapK_eq] at e'; exact ⟨_, e', fun w t => ⟨_, by simp [binOp, Op.intBits] <;> rfl, fun ρ => rfl⟩⟩
  case eql => have e' := e; change retB _ c = r at e'; rw [retB_eq, eqI_eq] at e'; exact ⟨_, e', fun w t => ⟨_, by simp [binOp, Op.intCmp] <;> rfl, fun ρ => rfl⟩⟩
  case neq => have e' := e; change retB _ c = r at e'; rw [retB_eq, eqI_eq] at e'; exact ⟨_, e', fun w t => ⟨_, by simp [binOp, Op.intCmp] <;> rfl, fun ρ => rfl⟩⟩
  case lss => have e' := e; change retB _ c = r at e'; rw [retB_eq, ltI_eq] at e'; exact ⟨_, e', fun w t => ⟨_, by simp [binOp, Op.intCmp] <;> rfl, fun ρ => rfl⟩⟩
  case leq => have e' := e; change retB _ c = r at e'; rw [retB_eq, ltI_eq] at e'; exact ⟨_, e', fun w t => ⟨.bool (decide (a ≤ b)), by simp [binOp, Op.intCmp] <;> rfl, fun ρ => by simp only [VR]; congr 1; rw [Bool.eq_iff_iff]; simp⟩⟩
  case gtr => have e' := e; change retB _ c = r at e'; rw [retB_eq, ltI_eq] at e'; exact ⟨_, e', fun w t => ⟨_, by simp [binOp, Op.intCmp] <;> rfl, fun ρ => rfl⟩⟩
  case geq => have e' := e; change retB _ c = r at e'; rw [retB_eq, ltI_eq] at e'; exact ⟨_, e', fun w t => ⟨.bool (decide (a ≥ b)), by simp [binOp, Op.intCmp] <;> rfl, fun ρ => by simp only [VR]; congr 1; rw [Bool.eq_iff_iff]; simp⟩⟩
noncomputable def shOp (op : BinOp) (k : IntKind) (a b : Int) (c : AV → Res) : Res :=
  ifK (not (ltI b 0)) (@BinOp.casesOn (fun _ => Res) op .fail .fail .fail .fail .fail .fail .fail .fail
    (wrapK k (a * 2 ^ (min b.toNat k.bits)) fun n => c (.int k n)) (forceI (a.fdiv (2 ^ (min b.toNat k.bits))) fun n => c (.int k n)) .fail .fail .fail .fail .fail .fail .fail)
theorem shOp_inv {op : BinOp} {k k' : IntKind} {a b : Int} {c : AV → Res} (e : shOp op k a b c = r) (hr : r ≠ .fail) :
    ∃ v, c v = r ∧ ∀ w t, ∃ v', (binOp op t (.int k a) (.int k' b)).run P w = .ok v' w ∧ ∀ ρ : Ren, VR ρ v v' := by
  replace e := ifK_inv e hr; obtain ⟨hb, e⟩ := e
  rw [ltI_eq] at hb
  have hb' : ¬ b < 0 := by simpa using hb
  cases op <;> first
    | exact absurd e.symm hr
    | skip
  case shl => have e' := e; change wrapK k (a * 2 ^ (min b.toNat k.bits)) (fun n => c (.int k n)) = r at e'; rw [wrapK_eq] at e'; exact ⟨_, e', fun w t => ⟨_, by simp [binOp, Op.shift, hb'] <;> rfl, fun ρ => rfl⟩⟩
  case shr => have e' := e; change forceI (a.fdiv (2 ^ (min b.toNat k.bits))) (fun n => c (.int k n)) = r at e'; rw [forceI_eq] at e'; exact ⟨_, e', fun w t => ⟨_, by simp [binOp, Op.shift, hb'] <;> rfl, fun ρ => rfl⟩⟩

/-! ### Strings -/
noncomputable def strOp (op : BinOp) (l n m p : Nat) (c : AV → Res) : Res :=
  @BinOp.casesOn (fun _ => Res) op
    (forceN (Nat.add l m) fun q => ifK (Nat.ble q 1000000000) (forceN (Nat.add n (Nat.shiftLeft p (Nat.mul 8 l))) fun r => c (.str q r))) .fail .fail .fail .fail .fail .fail .fail .fail .fail .fail
    (retB (and (Nat.beq l m) (Nat.beq n p)) c) (retB (not (and (Nat.beq l m) (Nat.beq n p))) c) (retB (ltBytes (bytesOf l n) (bytesOf m p)) c) (retB (or (ltBytes (bytesOf l n) (bytesOf m p)) (and (Nat.beq l m) (Nat.beq n p))) c)
    (retB (not (or (ltBytes (bytesOf l n) (bytesOf m p)) (and (Nat.beq l m) (Nat.beq n p)))) c) (retB (not (ltBytes (bytesOf l n) (bytesOf m p))) c)
theorem SR.beq {l n m p : Nat} {s t : ByteArray} (h : SR l n s) (g : SR m p t) : (s.toList == t.toList) = (Nat.beq l m && Nat.beq n p) := by
  rw [Bool.eq_iff_iff, beq_iff_eq, Bool.and_eq_true, beqN, beqN, ← h.eq_iff g]
  constructor
  · intro e
    rw [ByteArray.toList_eq, ByteArray.toList_eq] at e
    cases s; cases t; simp at e; cases e; rfl
  · intro e; rw [e]
theorem strOp_inv {op : BinOp} {l n m p : Nat} {c : AV → Res} (e : strOp op l n m p c = r) (hr : r ≠ .fail) :
    ∃ v, c v = r ∧ ∀ w t x y, SR l n x → SR m p y → ∃ v', (binOp op t (.string x) (.string y)).run P w = .ok v' w ∧ ∀ ρ : Ren, VR ρ v v' := by
  cases op <;> first
    | exact absurd e.symm hr
    | skip
  case add =>
    have e' := e; change (forceN (Nat.add l m) fun q => ifK (Nat.ble q 1000000000) (forceN (Nat.add n (Nat.shiftLeft p (Nat.mul 8 l))) fun r => c (.str q r))) = r at e'
    rw [forceN_eq] at e'
    replace e' := ifK_inv e' hr; obtain ⟨hb, e'⟩ := e'
    rw [bleN] at hb
    rw [forceN_eq, shl8] at e'
    have hb' : l + m ≤ 1000000000 := hb
    refine ⟨_, e', fun w t x y hx hy => ⟨.string (x ++ y), ?_, fun ρ => ⟨_, rfl, hx.append hy⟩⟩⟩
    have h1 := hx.size
    have h2 := hy.size
    have h3 : ¬ ((IntKind.i64.max : Int) < (x.size : Int) + (y.size : Int)) := by
      simp [IntKind.max, IntKind.signed, IntKind.bits]; omega
    simp only [binOp, Op.stringOp, Int.natCast_add, gt_iff_lt, if_neg h3, Sem.run_pure]
  case eql => have e' := e; change retB _ c = r at e'; rw [retB_eq] at e'; exact ⟨_, e', fun w t x y hx hy => ⟨_, by simp only [binOp, Op.stringOp, Sem.run_pure, hx.beq hy], fun ρ => rfl⟩⟩
  case neq => have e' := e; change retB _ c = r at e'; rw [retB_eq] at e'; exact ⟨_, e', fun w t x y hx hy => ⟨_, by simp only [binOp, Op.stringOp, Sem.run_pure, hx.beq hy], fun ρ => rfl⟩⟩
  case lss => have e' := e; change retB _ c = r at e'; rw [retB_eq] at e'; exact ⟨_, e', fun w t x y hx hy => ⟨_, by simp only [binOp, Op.stringOp, Sem.run_pure, ← hx.less hy], fun ρ => rfl⟩⟩
  case leq => have e' := e; change retB _ c = r at e'; rw [retB_eq] at e'; exact ⟨_, e', fun w t x y hx hy => ⟨_, by simp only [binOp, Op.stringOp, Sem.run_pure, ← hx.less hy, hx.beq hy], fun ρ => rfl⟩⟩
  case gtr => have e' := e; change retB _ c = r at e'; rw [retB_eq] at e'; exact ⟨_, e', fun w t x y hx hy => ⟨_, by simp only [binOp, Op.stringOp, Sem.run_pure, ← hx.less hy, hx.beq hy], fun ρ => rfl⟩⟩
  case geq => have e' := e; change retB _ c = r at e'; rw [retB_eq] at e'; exact ⟨_, e', fun w t x y hx hy => ⟨_, by simp only [binOp, Op.stringOp, Sem.run_pure, ← hx.less hy], fun ρ => rfl⟩⟩

/-! ### Tests of equality -/
def partA (z : Option Nat) (q : Nat) (l : List AV) : Option AV :=
  match z with
  | none => l[q]?
  | some n => if q + n ≤ l.length then some (.agg ((l.drop q).take n)) else none
theorem partA_sound {t : TypeId} {z : Option Nat} {q : Nat} {l : List AV} {v : AV} (h : partA z q l = some v) (hz : ldTy P t = some z) (ρ : Ren) (cs : Array Value) (w : World) (hv : VRs ρ l cs.toList) :
    ∃ v', (part t cs q).run P w = .ok v' w ∧ VR ρ v v' := by
  have hd : ∃ d, P.underlying t = some d := by
    unfold ldTy at hz
    cases hu : P.underlying t with
    | none => rw [hu] at hz; cases hz
    | some d => exact ⟨d, rfl⟩
  obtain ⟨d, hu⟩ := hd
  cases z with
  | none =>
    obtain ⟨x, k1, k2⟩ := hv.get q v h
    rw [Array.getElem?_toList] at k1
    refine ⟨x, ?_, k2⟩
    unfold ldTy at hz
    rw [hu] at hz
    cases d <;> simp only [Option.map_eq_some_iff] at hz <;>
    first
      | (obtain ⟨_, _, h⟩ := hz; cases h)
      | simp [part, isAgg, run_underlying' hu, k1]
  | some n =>
    simp only [partA] at h
    split at h
    · cases h
      refine ⟨.agg (cs.extract q (q + n)), ?_, _, rfl, ?_⟩
      · unfold ldTy at hz
        rw [hu] at hz
        cases d <;> simp only [Option.map_eq_some_iff, Option.some.injEq, reduceCtorEq, and_false, exists_const] at hz
        all_goals
          obtain ⟨i, h1, h2⟩ := hz
          subst h2
          simp [part, isAgg, run_underlying' hu, run_sizeOf' h1]
      · rw [Array.toList_extract]
        simp only [List.extract]
        rw [show q + n - q = n from by omega]
        exact (hv.drop q).take n
    · cases h
def eqFs (P : Program) (f : TypeId → AV → AV → Option Bool) (xs ys : List AV) : List Field → Option Bool
  | [] => some true
  | fd :: fs => if fd.name ≠ "_" then
      match ldTy P fd.type with
      | some z => match partA z fd.offset xs, partA z fd.offset ys with
        | some a, some b => match f fd.type a b with
          | some true => eqFs P f xs ys fs
          | some false => some false
          | none => none
        | _, _ => none
      | none => none
    else eqFs P f xs ys fs
noncomputable def eqT (P : Program) : Nat → TypeId → AV → AV → Option Bool
  | 0, _, _, _ => none
  | d + 1, t, x, y =>
    match P.underlying t, x, y with
    | some .bool, .bool a, .bool b => some (a == b)
    | some (.int _), .int k a, .int k' b => if kNum k = kNum k' then some (eqI a b) else none
    | some .string, .str l n, .str m p => some (Nat.beq l m && Nat.beq n p)
    | some (.pointer _), .nilPtr, .nilPtr => some true
    | some (.pointer _), .nilPtr, .ptr _ _ => some false
    | some (.pointer _), .ptr _ _, .nilPtr => some false
    | some (.slice _), .nilSlice, .nilSlice => some true
    | some (.slice _), .nilSlice, .slice .. => some false
    | some (.slice _), .slice .., .nilSlice => some false
    | some (.map _ _), .nilMap, .nilMap => some true
    | some (.map _ _), .nilMap, .map _ => some false
    | some (.map _ _), .map _, .nilMap => some false
    | some (.func _ _ _), .nilFunc, .nilFunc => some true
    | some (.func _ _ _), .nilFunc, .func .. => some false
    | some (.func _ _ _), .func .., .nilFunc => some false
    | some (.interface _), .nilIface, .nilIface => some true
    | some (.interface _), .nilIface, .iface .. => some false
    | some (.interface _), .iface .., .nilIface => some false
    | some (.struct fs), .agg xs, .agg ys => if P.stoodInHeld t then none else eqFs P (eqT P d) xs ys fs.toList
    | _, _, _ => none
def EqOK (P : Program) (ρ : Ren) (d : Nat) (f : TypeId → AV → AV → Option Bool) : Prop := ∀ t a b r x y w, f t a b = some r → VR ρ a x → VR ρ b y → (Op.equalIn d t x y).run P w = .ok r w
theorem eqFs_sound {ρ : Ren} {d : Nat} {f : TypeId → AV → AV → Option Bool} (hf : EqOK P ρ d f) {xs ys : List AV} {cs ds : Array Value} (hx : VRs ρ xs cs.toList) (hy : VRs ρ ys ds.toList) (w : World) :
    ∀ (fs : List Field) (r : Bool), eqFs P f xs ys fs = some r → (Op.eqFields d cs ds fs).run P w = .ok r w
  | [], r, h => by cases h; rfl
  | fd :: fs, r, h => by
    simp only [eqFs] at h
    simp only [Op.eqFields]
    split at h
    · rename_i hn
      rw [if_pos hn]
      split at h
      · rename_i z hz
        split at h
        · rename_i a b ha hb
          obtain ⟨a', p1, q1⟩ := partA_sound ha hz ρ cs w hx
          obtain ⟨b', p2, q2⟩ := partA_sound hb hz ρ ds w hy
          split at h
          · rename_i hr
            have p3 := hf _ _ _ _ _ _ w hr q1 q2
            simp only [Sem.run_bind, p1, p2, p3, Result.andThen_ok, Bool.not_true, Bool.false_eq_true, if_false]
            exact eqFs_sound hf hx hy w fs r h
          · rename_i hr
            cases h
            have p3 := hf _ _ _ _ _ _ w hr q1 q2
            simp only [Sem.run_bind, p1, p2, p3, Result.andThen_ok, Bool.not_false, if_true, Sem.run_pure]
          · cases h
        · cases h
      · cases h
    · rename_i hn
      rw [if_neg hn]
      exact eqFs_sound hf hx hy w fs r h
theorem eqT_sound (ρ : Ren) : ∀ d, EqOK P ρ d (eqT P d)
  | 0 => fun t a b r x y w h => by cases h
  | d + 1 => fun t a b r x y w h hx hy => by
    simp only [eqT] at h
    split at h
    case h_19 fs xs ys hu =>
      split at h
      · cases h
      · rename_i hp
        obtain ⟨cs, rfl, hx⟩ := hx
        obtain ⟨ds, rfl, hy⟩ := hy
        have hp' : P.stoodInHeld t = false := by simpa using hp
        have hfo : P.fieldsOf t = fs := by simp [Program.fieldsOf, hu]
        rw [run_equalIn_struct w d t cs ds (by rw [hfo]; exact hu) hp', hfo]
        exact eqFs_sound (eqT_sound ρ d) hx hy w _ r h
    case h_2 hu =>
      split at h
      · rename_i hk
        have hk := kNum_inj hk
        cases h; simp only [VR] at hx hy; subst hx; subst hy; subst hk
        simp [Op.equalIn, run_underlying' hu, eqI_eq]
      · cases h
    case h_3 hu =>
      cases h
      obtain ⟨s, rfl, hx⟩ := hx
      obtain ⟨s', rfl, hy⟩ := hy
      simp [Op.equalIn, run_underlying' hu, beq_toListBytes, hx.beq hy]
    all_goals first
      | (cases h; done)
      | (cases h
         rename_i hu
         simp only [VR] at hx hy
         first
           | (subst hx; subst hy; simp [Op.equalIn, run_underlying' hu]; done)
           | (obtain ⟨_, _, hx⟩ := hx; subst hx; subst hy; simp [Op.equalIn, run_underlying' hu]; done)
           | (obtain ⟨_, _, hy⟩ := hy; subst hx; subst hy; simp [Op.equalIn, run_underlying' hu]; done)
           | (obtain ⟨_, _, _, _, hx, _⟩ := hx; subst hx; subst hy; simp [Op.equalIn, run_underlying' hu]; done)
           | (obtain ⟨_, _, _, _, hy, _⟩ := hy; subst hx; subst hy; simp [Op.equalIn, run_underlying' hu]; done)
           | (obtain ⟨_, _, _, hx, _⟩ := hx; subst hx; subst hy; simp [Op.equalIn, run_underlying' hu]; done)
           | (obtain ⟨_, _, _, hy, _⟩ := hy; subst hx; subst hy; simp [Op.equalIn, run_underlying' hu]; done)
           | (obtain ⟨_, _, hx, _⟩ := hx; subst hx; subst hy; simp [Op.equalIn, run_underlying' hu]; done)
           | (obtain ⟨_, _, hy, _⟩ := hy; subst hx; subst hy; simp [Op.equalIn, run_underlying' hu]; done)
           | (obtain ⟨_, hx, _⟩ := hx; subst hx; subst hy; simp [Op.equalIn, run_underlying' hu]; done)
           | (obtain ⟨_, hy, _⟩ := hy; subst hx; subst hy; simp [Op.equalIn, run_underlying' hu]; done))
end
end Go.CE
