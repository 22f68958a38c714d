/-
  CE, part 25: two functions that the model answers itself: counting and finding a byte in a string.
-/
import Derived.Test.YtfmhagjbhableaaGreatDoorCeRun
import Derived.Lib.Bytealg
namespace Go.CE
open Go
set_option linter.unusedVariables false
set_option linter.unusedSimpArgs false
noncomputable def cntR (c l n a : Nat) : Nat :=
  @Nat.rec (fun _ => Nat → Nat → Nat) (fun _ a => a) (fun _ ih n a => @Bool.rec (fun _ => Nat) (ih (Nat.shiftRight n 8) a) (ih (Nat.shiftRight n 8) (Nat.succ a)) (Nat.beq (Nat.land n 255) c)) l n a
noncomputable def idxR (c l n a : Nat) : Int :=
  @Nat.rec (fun _ => Nat → Nat → Int) (fun _ _ => .negSucc 0) (fun _ ih n a => @Bool.rec (fun _ => Int) (ih (Nat.shiftRight n 8) (Nat.succ a)) (.ofNat a) (Nat.beq (Nat.land n 255) c)) l n a
noncomputable def strByte (l : List AV) (c : Nat → Nat → Nat → Option AV) : Option AV :=
  match l with
  | [.str l n, .int .u8 (.ofNat b)] => @Bool.rec (fun _ => Option AV) none (c l n b) (Nat.blt b 256)
  | _ => none
noncomputable def cntA (l : List AV) : Option AV := strByte l fun l n b => some (.int .i64 (.ofNat (cntR b l n 0)))
noncomputable def idxA (l : List AV) : Option AV := strByte l fun l n b => some (.int .i64 (idxR b l n 0))
theorem strByte_inv {l : List AV} {c : Nat → Nat → Nat → Option AV} {v : AV} (h : strByte l c = some v) : ∃ m n b, l = [.str m n, .int .u8 (.ofNat b)] ∧ b < 256 ∧ c m n b = some v := by
  unfold strByte at h
  split at h
  · rw [boolRec_ite] at h
    split at h
    · rename_i hb
      rw [bltN] at hb
      exact ⟨_, _, _, rfl, hb, h⟩
    · cases h
  · cases h
theorem byte_eq {n c : Nat} (hc : c < 256) : (UInt8.ofNat (n % 256) = UInt8.ofNat c) ↔ n % 256 = c := by
  constructor
  · intro h
    have := congrArg UInt8.toNat h
    simp at this
    omega
  · intro h; rw [h]
theorem cntR_eq {c : Nat} (hc : c < 256) : ∀ (l n a : Nat), cntR c l n a = a + (decB l n).count (UInt8.ofNat c)
  | 0, n, a => by show a = _; simp [decB]
  | l + 1, n, a => by
    show @Bool.rec (fun _ => Nat) (cntR c l (Nat.shiftRight n 8) a) (cntR c l (Nat.shiftRight n 8) (Nat.succ a)) (Nat.beq (Nat.land n 255) c) = _
    have hs : Nat.shiftRight n 8 = n / 256 := by have := sh8 n 1; simpa using this
    rw [boolRec_ite, land255, hs, cntR_eq hc, cntR_eq hc, decB, List.count_cons]
    by_cases e : n % 256 = c
    · rw [if_pos ((beqN _ _).mpr e), if_pos (by simpa using (byte_eq hc).2 e)]; omega
    · rw [if_neg (fun h => e ((beqN _ _).mp h)), if_neg (by simpa using fun h => e ((byte_eq hc).1 h))]; omega
theorem idxR_eq {c : Nat} (hc : c < 256) : ∀ (l n a : Nat), idxR c l n a = if Lib.indexByte (decB l n) (UInt8.ofNat c) = -1 then -1 else (a : Int) + Lib.indexByte (decB l n) (UInt8.ofNat c)
  | 0, n, a => by show (Int.negSucc 0) = _; simp [decB, Lib.indexByte]
  | l + 1, n, a => by
    show @Bool.rec (fun _ => Int) (idxR c l (Nat.shiftRight n 8) (Nat.succ a)) (.ofNat a) (Nat.beq (Nat.land n 255) c) = _
    have hs : Nat.shiftRight n 8 = n / 256 := by have := sh8 n 1; simpa using this
    rw [boolRec_ite, land255, hs, idxR_eq hc, decB, Lib.indexByte]
    by_cases e : n % 256 = c
    · rw [if_pos ((beqN _ _).mpr e), if_pos (c := (UInt8.ofNat (n % 256) == UInt8.ofNat c) = true) (by simpa using (byte_eq hc).2 e)]
      simp
    · rw [if_neg (fun h => e ((beqN _ _).mp h)), if_neg (c := (UInt8.ofNat (n % 256) == UInt8.ofNat c) = true) (by simpa using fun h => e ((byte_eq hc).1 h))]
      have hge := Lib.indexByte_ge (decB l (n / 256)) (UInt8.ofNat c)
      by_cases g : Lib.indexByte (decB l (n / 256)) (UInt8.ofNat c) = -1
      · simp [g]
      · have g' : (Lib.indexByte (decB l (n / 256)) (UInt8.ofNat c) == -1) = false := by simpa using g
        simp only [g, g', if_false, Bool.false_eq_true]
        have h2 : ¬ (Lib.indexByte (decB l (n / 256)) (UInt8.ofNat c) + 1 = -1) := by omega
        rw [if_neg h2]
        push_cast
        omega
/-- The two entries, at a program's functions. -/
noncomputable def prims (fc fi : FuncId) : FuncId → Option (List AV → Option AV) := fun f =>
  @Bool.rec (fun _ => Option (List AV → Option AV)) (@Bool.rec (fun _ => Option (List AV → Option AV)) none (some idxA) (Nat.beq f fi)) (some cntA) (Nat.beq f fc)
theorem primOK {P : Program} {fc fi : FuncId} {f1 f2 : Func} {nod : FuncId → Nat → Bool} (h1 : P.funcs[fc]? = some f1) (n1 : (f1.name == "runtime.NumGoroutine") = false) (b1 : f1.body.isNone = true) (x1 : Extern.findNext f1 = none) (e1 : Extern.find f1 = some Extern.BytealgCount.count)
    (h2 : P.funcs[fi]? = some f2) (n2 : (f2.name == "runtime.NumGoroutine") = false) (b2 : f2.body.isNone = true) (x2 : Extern.findNext f2 = none) (e2 : Extern.find f2 = some Extern.BytealgIndexByte.indexByte) : PrimOK P { prim := prims fc fi, nod := nod } := by
  intro f g args v hg hv ρ vals hvals w
  replace hg : prims fc fi f = some g := hg
  unfold prims at hg
  rw [boolRec_ite] at hg
  have shape : ∀ (m n b : Nat), args = [.str m n, .int .u8 (.ofNat b)] → ∃ s, SR m n s ∧ vals = #[.string s, .int .u8 (b : Int)] := by
    rintro m n b rfl
    obtain ⟨x, xs, ex, ⟨s, rfl, hS⟩, y, ys, rfl, hy, hn⟩ := hvals
    have hn : ys = [] := hn
    subst hn
    have hy : y = .int .u8 (Int.ofNat b) := hy
    subst hy
    exact ⟨s, hS, Array.ext' ex⟩
  split at hg
  · rename_i hf
    rw [beqN] at hf; subst hf
    cases hg
    obtain ⟨m, n, b, ha, hb, hc⟩ := strByte_inv hv
    cases hc
    obtain ⟨s, hS, rfl⟩ := shape m n b ha
    refine ⟨_, by rw [run_callFunc_extern h1 n1 b1 x1 e1, Lib.run_countString]; rfl, ?_⟩
    show _ = _
    rw [cntR_eq hb, ← hS.1]
    simp [Lib.countByte]
  · rw [boolRec_ite] at hg
    split at hg
    · rename_i hf
      rw [beqN] at hf; subst hf
      cases hg
      obtain ⟨m, n, b, ha, hb, hc⟩ := strByte_inv hv
      cases hc
      obtain ⟨s, hS, rfl⟩ := shape m n b ha
      refine ⟨_, by rw [run_callFunc_extern h2 n2 b2 x2 e2, Lib.run_indexByteString]; rfl, ?_⟩
      show _ = _
      rw [idxR_eq hb, ← hS.1]
      have hbb : ((b : Int).toNat.toUInt8) = UInt8.ofNat b := by simp
      rw [hbb]
      split
      · rename_i h; rw [h]
      · simp
    · cases hg
end Go.CE
