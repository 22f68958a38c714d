/-
  The walk of WorkerNews, a part.
-/
import Derived.Test.YtfmhagjbhableaaGreatDoorW5
set_option linter.unusedVariables false
namespace Go.Proofs.YtfmhagjbhableaaGreatDoor
open Go.RowKit
theorem reset_at (v : World) (n : Nat) (hn : n = v.heap.size) (x0 x1 x2 x3 x4 x5 x6 x7 x8 x9 x10 x12 x13 x14 x15 x16 x17 x18 x19 x20 x21 x22 x23 : Value) (q : Int) (h4 : FairP q) :
    Calls Tryz.prog 39 #[.pointer (some ⟨n, 0, none⟩)] (v.alloc (.cells #[x0, x1, x2, x3, x4, x5, x6, x7, x8, x9, x10, .int .i64 q, x12, x13, x14, x15, x16, x17, x18, x19, x20, x21, x22, x23] 115))
      fun e w' => e = .returned (.tuple #[]) ∧ Below v.heap.size v w' := by
  subst hn; exact reset_new v x0 x1 x2 x3 x4 x5 x6 x7 x8 x9 x10 x12 x13 x14 x15 x16 x17 x18 x19 x20 x21 x22 x23 q h4
set_option maxRecDepth 100000 in
set_option maxHeartbeats 4000000 in
theorem new_ok (s : ByteArray) (ws : Value) (a b c d e f g h q r p : Int) (w : World) (hn : NameP s) (h1 : PolP a b c d) (h2 : MetP e f) (h3 : 1 ≤ g ∧ g ≤ 20000) (h3a : 1 ≤ h ∧ h ≤ 4000) (h4 : FairP q) (h5 : 1 ≤ r ∧ r ≤ 1000) :
    Calls Tryz.prog 10 #[.string s, setupV ws a b c d e f g h q r p] w (OkEnd w) := by
  have HN := Lib.hid hn
  have H1 := Lib.hid h1
  have H2 := Lib.hid h2
  have H4 := Lib.hid h4
  clear hn h1 h2 h4
  have hmm := @run_makeMap Tryz.prog
  go_enter Tryz.func10, Tryz.ntmps10
  go_wp2_with (first
    | (go_at_call 34; (with_reducible refine (name_t _ _ HN.out).mono ?_); rintro e w' ⟨rfl, hb⟩; obtain ⟨hc0, hf0⟩ := bcell hb; have hz0 : w.heap.size < w'.heap.size := (by first | exact below_lt hb | exact Nat.lt_of_lt_of_le (by assumption) hb.size); have HB0 := Lib.hid hb; clear hb)
    | (go_at_call 35; (with_reducible refine (pool_new_t _ _ _ _ _ _ HN.out H1.out).mono ?_); rintro e w' ⟨hb, p1, rfl⟩; obtain ⟨hc1, hf1⟩ := bcell hb; have hz1 : w.heap.size < w'.heap.size := (by first | exact below_lt hb | exact Nat.lt_of_lt_of_le (by assumption) hb.size); have HB1 := Lib.hid hb; clear hb)
    | (go_at_call 36; (with_reducible refine (meter_check_t _ _ _ H2.out).mono ?_); rintro e w' ⟨hb, rfl⟩; obtain ⟨hc2, hf2⟩ := bcell hb; have hz2 : w.heap.size < w'.heap.size := (by first | exact below_lt hb | exact Nat.lt_of_lt_of_le (by assumption) hb.size); have HB2 := Lib.hid hb; clear hb)
    | (go_at_call 37; (with_reducible refine (inr_t _ h3).mono ?_); rintro e w' ⟨rfl, rfl⟩)
    | (go_at_call 37; (with_reducible refine (inr_t _ h3a).mono ?_); rintro e w' ⟨rfl, rfl⟩)
    | (go_at_call 37; (with_reducible refine (inr_t _ h5).mono ?_); rintro e w' ⟨rfl, rfl⟩)
    | (go_at_call 38; (with_reducible refine (fair_new_t _ _ H4.out).mono ?_); rintro e w' ⟨hb, p4, rfl⟩; obtain ⟨hc4, hf4⟩ := bcell hb; have hz4 : w.heap.size < w'.heap.size := (by first | exact below_lt hb | exact Nat.lt_of_lt_of_le (by assumption) hb.size); have HB4 := Lib.hid hb; clear hb)
    | (go_at_call 39; (with_reducible refine (reset_at _ _ (by simp) _ _ _ _ _ _ _ _ _ _ _ _ _ _ _ _ _ _ _ _ _ _ _ _ H4.out).mono ?_); rintro e w' ⟨rfl, hb⟩; have HB5 := Lib.hid hb; clear hb))
  go_ret2
  refine ⟨?_, _, rfl⟩
  exact below_then ((below_then (below_then (below_then (below_then (below_alloc (below_refl _) _) HB0.out) HB1.out) HB2.out) HB4.out).setCell (Nat.le_refl _) _) HB5.out
end Go.Proofs.YtfmhagjbhableaaGreatDoor
