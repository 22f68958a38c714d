/-
  The walk of WorkerNews, a part.
-/
import Derived.Test.YtfmhagjbhableaaGreatDoorW6
set_option linter.unusedVariables false
namespace Go.Proofs.YtfmhagjbhableaaGreatDoor
open Go.RowKit
/-! ### A nil worker -/
def ValEnd (x : Value) (w : World) (e : Ending) (w' : World) : Prop := Below w.heap.size w w' ∧ e = .returned x
theorem ready_nil (w : World) : Calls Tryz.prog 41 #[.pointer none] w fun e w' => e = .returned (.bool false) ∧ w' = w := by
  go_enter Tryz.func41, Tryz.ntmps41
  go_wp2
  go_ret
  exact ⟨rfl, rfl⟩
set_option maxRecDepth 100000 in
set_option maxHeartbeats 1000000 in
theorem configure_nil (w : World) : Calls Tryz.prog 13 #[.pointer none, .agg #[.int .i64 1, .slice none 0 0]] w (ValEnd (.int .i64 5) w) := by
  go_enter Tryz.func13, Tryz.ntmps13
  go_wp2_with (go_at_call 41; (with_reducible refine (ready_nil _).mono ?_); rintro e w' ⟨rfl, rfl⟩)
  go_ret
  exact ⟨below_alloc (below_refl _) _, rfl⟩
abbrev invV (a0 a1 a2 a3 a4 : ByteArray) (a5 : Int) (a6 : ByteArray) (a7 : Value) (a8 : ByteArray) (a9 a10 : Int) (a11 : ByteArray) : Value :=
  .agg #[.string a0, .string a1, .string a2, .string a3, .string a4, .int .i64 a5, .string a6, a7, .string a8, .int .i64 a9, .int .i64 a10, .string a11]
set_option maxRecDepth 100000 in
set_option maxHeartbeats 1000000 in
theorem offer_nil (a0 a1 a2 a3 a4 : ByteArray) (a5 : Int) (a6 : ByteArray) (a7 : Value) (a8 : ByteArray) (a9 a10 : Int) (a11 : ByteArray) (w : World) : Calls Tryz.prog 14 #[.pointer none, invV a0 a1 a2 a3 a4 a5 a6 a7 a8 a9 a10 a11, .int .i64 0] w (ValEnd (.int .i64 5) w) := by
  go_enter Tryz.func14, Tryz.ntmps14
  go_wp2_with (go_at_call 41; (with_reducible refine (ready_nil _).mono ?_); rintro e w' ⟨rfl, rfl⟩)
  go_ret
  exact ⟨below_alloc (below_refl _) _, rfl⟩
set_option maxRecDepth 100000 in
set_option maxHeartbeats 1000000 in
theorem tick_nil (w : World) : Calls Tryz.prog 15 #[.pointer none, .int .i64 1, .slice none 0 0] w (ValEnd (.slice none 0 0) w) := by
  go_enter Tryz.func15, Tryz.ntmps15
  go_wp2_with (go_at_call 41; (with_reducible refine (ready_nil _).mono ?_); rintro e w' ⟨rfl, rfl⟩)
  go_ret
  exact ⟨below_refl _, rfl⟩
set_option maxRecDepth 100000 in
set_option maxHeartbeats 1000000 in
theorem running_nil (w : World) : Calls Tryz.prog 16 #[.pointer none] w (ValEnd (.slice none 0 0) w) := by
  go_enter Tryz.func16, Tryz.ntmps16
  go_wp2_with (go_at_call 41; (with_reducible refine (ready_nil _).mono ?_); rintro e w' ⟨rfl, rfl⟩)
  go_ret
  exact ⟨below_refl _, rfl⟩
set_option maxRecDepth 100000 in
set_option maxHeartbeats 1000000 in
theorem crash_nil (w : World) : Calls Tryz.prog 17 #[.pointer none] w (ValEnd (.slice none 0 0) w) := by
  go_enter Tryz.func17, Tryz.ntmps17
  go_wp2_with (go_at_call 41; (with_reducible refine (ready_nil _).mono ?_); rintro e w' ⟨rfl, rfl⟩)
  go_ret
  exact ⟨below_refl _, rfl⟩
set_option maxRecDepth 100000 in
set_option maxHeartbeats 1000000 in
theorem waiting_nil (s : ByteArray) (w : World) : Calls Tryz.prog 19 #[.pointer none, .string s] w (ValEnd (.int .i64 0) w) := by
  go_enter Tryz.func19, Tryz.ntmps19
  go_wp2_with (go_at_call 41; (with_reducible refine (ready_nil _).mono ?_); rintro e w' ⟨rfl, rfl⟩)
  go_ret
  exact ⟨below_refl _, rfl⟩
set_option maxRecDepth 100000 in
set_option maxHeartbeats 1000000 in
theorem epoch_nil (w : World) : Calls Tryz.prog 21 #[.pointer none] w (ValEnd (.int .i64 0) w) := by
  go_enter Tryz.func21, Tryz.ntmps21
  go_wp2_with (go_at_call 41; (with_reducible refine (ready_nil _).mono ?_); rintro e w' ⟨rfl, rfl⟩)
  go_ret
  exact ⟨below_refl _, rfl⟩
set_option maxRecDepth 100000 in
set_option maxHeartbeats 1000000 in
theorem colds_nil (w : World) : Calls Tryz.prog 32 #[.pointer none] w (ValEnd (.int .i64 0) w) := by
  go_enter Tryz.func32, Tryz.ntmps32
  go_wp2_with (go_at_call 41; (with_reducible refine (ready_nil _).mono ?_); rintro e w' ⟨rfl, rfl⟩)
  go_ret
  exact ⟨below_refl _, rfl⟩
end Go.Proofs.YtfmhagjbhableaaGreatDoor
