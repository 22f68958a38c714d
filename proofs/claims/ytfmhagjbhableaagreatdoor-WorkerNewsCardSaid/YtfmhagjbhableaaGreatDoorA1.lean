/-
  The example and the row of WorkerNews, a part.
-/
import Derived.Test.YtfmhagjbhableaaGreatDoorProg
import Derived.Test.YtfmhagjbhableaaGreatDoorCeLaid
import Derived.KernelRfl
import Derived.Tactics
import Derived.Tactics2
import Derived.Recover
import Derived.Defers
import Derived.Laws.Pointers
open Go Go.CE
set_option linter.unusedSimpArgs false
namespace Go.Proofs.YtfmhagjbhableaaGreatDoor
theorem ta470 (w : World) : (Instr.typeAssert .nilIface 20 470 true).run Tryz.prog w = .ok (.tuple #[.agg #[.int .i64 0], .bool false]) w := by kernel_rfl
theorem z470 (w : World) : (zeroValue 470).run Tryz.prog w = .ok (.agg #[.int .i64 0]) w := by kernel_rfl
theorem s470 (w : World) : (sizeOf 470).run Tryz.prog w = .ok 1 w := by kernel_rfl
set_option maxRecDepth 100000 in
theorem catch334 (x0 x1 x2 : Value) (w : World) : CallsD Tryz.prog 334 #[x0, x1, x2] .returning w fun e u' w' => u' = .returning ∧ (∃ v, e = .returned v) ∧ w' = w.alloc (.cells #[.int .i64 0] 470) := by
  refine callsD_of_wpS Tryz.func334 rfl fun c₀ cs hu => ?_
  apply wpS_seq
  apply wpS_region
  simp [wpOpsS, go_sem, recoverD, hu, ta470, z470, s470, (show Tryz.f334.ntmps = 14 from rfl), Exit.thenS]
  apply wpS_seq
  apply wpS_region
  simp [wpOpsS, go_sem, Exit.thenS]
  refine wpS_cond (t := false) (by simp [Act.eval, Array.replicate]) ?_
  simp only [Bool.false_eq_true, if_false]
  refine wpS_of_wp (wp_skip ?_)
  cases c₀
  simp_all [bodyPostS, results, (show Tryz.f334.results = #[] from rfl)]
theorem nod334 (args cap : Array Value) (w : World) (h : (args ++ cap).size = 3) : (∃ n, (invoke (.fn (.func 334) cap) args).run Tryz.prog w = .ok (.enter 334 n) w ∧
  CallsD Tryz.prog 334 n .returning w fun e u' w' => u' = .returning ∧ (∃ v, e = .returned v) ∧ w.heap.size ≤ w'.heap.size ∧ (∀ β, β < w.heap.size → w'.heap[β]? = w.heap[β]?) ∧ w'.os = w.os ∧ w'.tape = w.tape ∧ w'.output = w.output) := by
  generalize hn : args ++ cap = n at h
  refine ⟨n, ?_, ?_⟩
  · simp [invoke, callFunc, Tryz.func334, hn, Tryz.f334]
  obtain ⟨x0, x1, x2, rfl⟩ : ∃ x0 x1 x2, n = #[x0, x1, x2] := ⟨n[0], n[1], n[2], by apply Array.ext (by simp [h]); intro i hi hi'; match i, hi' with | 0, _ => rfl | 1, _ => rfl | 2, _ => rfl⟩
  refine (catch334 x0 x1 x2 w).mono ?_
  rintro e u' w' ⟨rfl, hv, rfl⟩
  refine ⟨rfl, hv, ?_, fun β hβ => ?_, rfl, rfl, rfl⟩
  · show _ ≤ (w.heap.push _).size; simp
  · show (w.heap.push _)[β]? = _; rw [Array.getElem?_push, if_neg (by omega)]
/-- The nod of the one deferred function. -/
noncomputable def nod (fd m : Nat) : FuncId → Nat → Bool := fun f k => @Bool.rec (fun _ => Bool) false (Nat.beq k m) (Nat.beq f fd)
theorem nodOK {pr : FuncId → Option (List AV → Option AV)} : NodOK Tryz.prog { prim := pr, nod := nod 334 3 } := by
  intro f m h args cap w hs
  have h' : nod 334 3 f m = true := h
  unfold nod at h'
  cases e : Nat.beq f 334 with
  | false => rw [e] at h'; cases h'
  | true =>
    rw [e] at h'
    have e1 : f = 334 := Nat.eq_of_beq_eq_true e
    have e2 : m = 3 := Nat.eq_of_beq_eq_true h'
    subst e1; subst e2
    exact nod334 args cap w hs
theorem names : Tryz.prog.funcs.all (fun fn => fn.name != "runtime.NumGoroutine") = true := by kernel_rfl
theorem namesOK : NamesOK Tryz.prog := fun f fn h e => by
  have := (Array.all_eq_true_iff_forall_mem.1 names) fn (Array.mem_of_getElem? h)
  simp [e] at this
theorem primsOK {nd : FuncId → Nat → Bool} : PrimOK Tryz.prog { prim := prims 645 705, nod := nd } :=
  primOK Tryz.func645 (by kernel_rfl) (by kernel_rfl) (by kernel_rfl) (by rfl) Tryz.func705 (by kernel_rfl) (by kernel_rfl) (by kernel_rfl) (by rfl)
theorem mixedTryz : Tryz.prog.follows .mixedOrders = true := by kernel_rfl
def shapes : List (List AV) := [[.str 0 0, .bool false, .bool false, .bool false, .int .i64 (.ofNat 0), .int .i64 (.ofNat 0)], [.str 4 1819047278, .bool false, .bool false, .bool false, .int .i64 (.ofNat 0), .int .i64 (.ofNat 1)], [.str 4 1819242338, .bool true, .bool false, .bool false, .int .i64 (.ofNat 0), .int .i64 (.ofNat 1)], [.str 3 7630441, .bool true, .bool false, .bool false, .int .i64 (.ofNat 0), .int .i64 (.ofNat 1)], [.str 3 7500915, .bool false, .bool true, .bool false, .int .i64 (.ofNat 0), .int .i64 (.ofNat 1)], [.str 4 1684107116, .bool true, .bool false, .bool false, .int .i64 (.ofNat 0), .int .i64 (.ofNat 1)], [.str 5 435711603827, .bool true, .bool false, .bool false, .int .i64 (.ofNat 1), .int .i64 (.ofNat 0)], [.str 3 7368560, .bool false, .bool false, .bool false, .int .i64 (.ofNat 1), .int .i64 (.ofNat 0)], [.str 5 521610030709, .bool false, .bool true, .bool false, .int .i64 (.ofNat 1), .int .i64 (.ofNat 1)], [.str 6 133532167858530, .bool false, .bool true, .bool false, .int .i64 (.ofNat 2), .int .i64 (.ofNat 1)], [.str 5 517097156201, .bool false, .bool false, .bool false, .int .i64 (.ofNat 2), .int .i64 (.ofNat 1)], [.str 4 1953720684, .bool true, .bool false, .bool false, .int .i64 (.negSucc 0), .int .i64 (.ofNat 1)], [.str 3 7364973, .bool true, .bool false, .bool true, .int .i64 (.negSucc 0), .int .i64 (.ofNat 1)], [.str 4 1886221674, .bool true, .bool false, .bool false, .int .i64 (.ofNat 0), .int .i64 (.ofNat 0)], [.str 5 435728179558, .bool true, .bool false, .bool false, .int .i64 (.ofNat 1), .int .i64 (.ofNat 0)], [.str 4 1953719668, .bool false, .bool false, .bool false, .int .i64 (.ofNat 1), .int .i64 (.ofNat 1)], [.str 3 7370084, .bool false, .bool false, .bool false, .int .i64 (.ofNat 1), .int .i64 (.ofNat 2)], [.str 4 1819042147, .bool true, .bool false, .bool false, .int .i64 (.negSucc 0), .int .i64 (.ofNat 1)], [.str 5 500035056994, .bool true, .bool true, .bool false, .int .i64 (.negSucc 0), .int .i64 (.ofNat 1)], [.str 4 1953722216, .bool true, .bool true, .bool false, .int .i64 (.negSucc 0), .int .i64 (.ofNat 1)], [.str 6 121437875889522, .bool false, .bool false, .bool false, .int .i64 (.ofNat 1), .int .i64 (.ofNat 0)]]

noncomputable def rowsT (l : List (List AV)) (i : Nat) (t : T (List AV)) : T (List AV) := @List.rec (List AV) (fun _ => Nat → T (List AV) → T (List AV)) (fun _ t => t) (fun r _ ih i t => T.setK t (Nat.succ i) r fun t => forceN (Nat.succ i) fun i => ih i t) l i t
noncomputable def h0 (ty : TypeId) : AH := T.setK .leaf 4 (.cells ty 6 21 (rowsT shapes 0 .leaf) true) id
noncomputable def cf : Cf := { prim := prims 645 705, nod := nod 334 3 }
theorem awake_run (ty : TypeId) : goF Tryz.prog cf (run Tryz.prog cf 1000000) 9 [] (h0 ty) 11 [] wantTrue = .done undefA .leaf 0 [] := by kernel_rfl
end Go.Proofs.YtfmhagjbhableaaGreatDoor
