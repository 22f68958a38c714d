/-
  The walk of WorkerNews, a part.
-/
import Derived.Test.YtfmhagjbhableaaGreatDoorW2
set_option linter.unusedVariables false
namespace Go.Proofs.YtfmhagjbhableaaGreatDoor
open Go.RowKit
/-! ### Pools, meters, queues -/
theorem bcell {W w1 : World} (hb : Below W.heap.size W w1) : (∀ b o, b < W.heap.size → w1.cell? ⟨b, o, none⟩ = W.cell? ⟨b, o, none⟩) ∧ (∀ b o, b < W.heap.size → w1.frozen? ⟨b, o, none⟩ = W.frozen? ⟨b, o, none⟩) :=
  ⟨fun b o h => hb.cell (p := ⟨b, o, none⟩) h, fun b o h => hb.frozen (p := ⟨b, o, none⟩) h⟩
theorem below_iter (w : World) (s : ByteArray) (pos : Nat) : Below w.heap.size w (w.iter s pos) := (Below.refl _ _).alloc (Nat.le_refl _) _
theorem below_then {w w1 w2 : World} (h : Below w.heap.size w w1) (g : Below w1.heap.size w1 w2) : Below w.heap.size w w2 := h.trans (g.mono h.size)
theorem below_alloc {w w1 : World} (h : Below w.heap.size w w1) (o : Obj) : Below w.heap.size w (w1.alloc o) := h.alloc h.size o
theorem below_refl (w : World) : Below w.heap.size w w := Below.refl _ _
theorem id_b (s : ByteArray) (w : World) (hn : NameP s) : Calls Tryz.prog 79 #[.string s] w fun e w' => e = .returned (.bool true) ∧ Below w.heap.size w w' :=
  (id_t s w hn).mono fun e w' ⟨h, pos, g⟩ => ⟨h, g ▸ below_iter _ _ _⟩
theorem name_b (s : ByteArray) (w : World) : Calls Tryz.prog 34 #[.string s] w fun e w' => e = .returned (.bool (nameB s)) ∧ Below w.heap.size w w' :=
  (name_any s w).mono fun e w' ⟨h, pos, g⟩ => ⟨h, g ▸ below_iter _ _ _⟩
/-- How a constructor ends: at a condition with a pointer, else with nil and an error. -/
def NewEnd (P : Prop) (k : Int) (w : World) (e : Ending) (w' : World) : Prop :=
  Below w.heap.size w w' ∧ ((P ∧ ∃ a, e = .returned (.tuple #[.pointer (some a), .int .i64 0])) ∨ (¬ P ∧ e = .returned (.tuple #[.pointer none, .int .i64 k])))
theorem instant_t {n : Int} (w : World) (h : 0 ≤ n ∧ n ≤ 1073741824) : Calls Tryz.prog 80 #[.int .i64 n] w fun e w' => e = .returned (.bool true) ∧ w' = w := by
  obtain ⟨h1, h2⟩ := h
  go_enter Tryz.func80, Tryz.ntmps80
  go_wp2
  go_ret
  exact ⟨rfl, rfl⟩
theorem instant_f {n : Int} (w : World) (h : ¬ (0 ≤ n ∧ n ≤ 1073741824)) : Calls Tryz.prog 80 #[.int .i64 n] w fun e w' => e = .returned (.bool false) ∧ w' = w := by
  go_enter Tryz.func80, Tryz.ntmps80
  go_wp2
  all_goals go_ret
  all_goals exact ⟨ret_bool (by first | rfl | (simp; omega)), rfl⟩
theorem rtime_t {n : Int} (w : World) (h : 0 ≤ n ∧ n ≤ 1073741824) : Calls Tryz.prog 119 #[.int .i64 n] w fun e w' => e = .returned (.bool true) ∧ w' = w := by
  obtain ⟨h1, h2⟩ := h
  go_enter Tryz.func119, Tryz.ntmps119
  go_wp2
  go_ret
  exact ⟨rfl, rfl⟩
theorem rtime_f {n : Int} (w : World) (h : ¬ (0 ≤ n ∧ n ≤ 1073741824)) : Calls Tryz.prog 119 #[.int .i64 n] w fun e w' => e = .returned (.bool false) ∧ w' = w := by
  go_enter Tryz.func119, Tryz.ntmps119
  go_wp2
  all_goals go_ret
  all_goals exact ⟨ret_bool (by first | rfl | (simp; omega)), rfl⟩
theorem between_t {n a b : Int} (w : World) (h : a ≤ n ∧ n ≤ b) : Calls Tryz.prog 81 #[.int .i64 n, .int .i64 a, .int .i64 b] w fun e w' => e = .returned (.bool true) ∧ w' = w := by
  have := between_any n a b w; rw [inB_true h.1 h.2] at this; exact this
theorem between_f {n a b : Int} (w : World) (h : ¬ (a ≤ n ∧ n ≤ b)) : Calls Tryz.prog 81 #[.int .i64 n, .int .i64 a, .int .i64 b] w fun e w' => e = .returned (.bool false) ∧ w' = w := by
  have := between_any n a b w; rw [inB_false h] at this; exact this
theorem inr_t {n a b : Int} (w : World) (h : a ≤ n ∧ n ≤ b) : Calls Tryz.prog 37 #[.int .i64 n, .int .i64 a, .int .i64 b] w fun e w' => e = .returned (.bool true) ∧ w' = w := by
  have := in_any n a b w; rw [inB_true h.1 h.2] at this; exact this
theorem inr_f {n a b : Int} (w : World) (h : ¬ (a ≤ n ∧ n ≤ b)) : Calls Tryz.prog 37 #[.int .i64 n, .int .i64 a, .int .i64 b] w fun e w' => e = .returned (.bool false) ∧ w' = w := by
  have := in_any n a b w; rw [inB_false h] at this; exact this
def PolP (a b c d : Int) : Prop := 1 ≤ a ∧ a ≤ 32 ∧ 1 ≤ b ∧ b ≤ 1073741824 ∧ 1 ≤ c ∧ c ≤ 1073741824 ∧ 0 ≤ d ∧ d ≤ 1073741824
set_option maxRecDepth 100000 in
set_option maxHeartbeats 1000000 in
theorem pool_new (s : ByteArray) (a b c d : Int) (w : World) (hn : NameP s) :
    Calls Tryz.prog 35 #[.string s, .agg #[.int .i64 a, .int .i64 b, .int .i64 c, .int .i64 d]] w (NewEnd (PolP a b c d) 2 w) := by
  have HN := Lib.hid hn
  clear hn
  by_cases hd : 0 ≤ d ∧ d ≤ 1073741824
  · by_cases h1 : a < 1
    · go_enter Tryz.func35, Tryz.ntmps35
      go_wp2_with (first | (go_at_call 79; refine (id_b _ _ HN.out).mono ?_; rintro e w' ⟨rfl, hb⟩; obtain ⟨hc, hf⟩ := bcell hb; have HB := Lib.hid hb; clear hb) | (go_at_call 80; refine (instant_t _ hd).mono ?_; rintro e w' ⟨rfl, rfl⟩))
      go_ret2
      exact ⟨below_then (below_alloc (below_refl _) _) HB.out, .inr ⟨by unfold PolP; omega, rfl⟩⟩
    · by_cases h2 : 32 < a
      · go_enter Tryz.func35, Tryz.ntmps35
        go_wp2_with (first | (go_at_call 79; refine (id_b _ _ HN.out).mono ?_; rintro e w' ⟨rfl, hb⟩; obtain ⟨hc, hf⟩ := bcell hb; have HB := Lib.hid hb; clear hb) | (go_at_call 80; refine (instant_t _ hd).mono ?_; rintro e w' ⟨rfl, rfl⟩))
        go_ret2
        exact ⟨below_then (below_alloc (below_refl _) _) HB.out, .inr ⟨by unfold PolP; omega, rfl⟩⟩
      · by_cases h3 : b < 1
        · go_enter Tryz.func35, Tryz.ntmps35
          go_wp2_with (first | (go_at_call 79; refine (id_b _ _ HN.out).mono ?_; rintro e w' ⟨rfl, hb⟩; obtain ⟨hc, hf⟩ := bcell hb; have HB := Lib.hid hb; clear hb) | (go_at_call 80; refine (instant_t _ hd).mono ?_; rintro e w' ⟨rfl, rfl⟩))
          go_ret2
          exact ⟨below_then (below_alloc (below_refl _) _) HB.out, .inr ⟨by unfold PolP; omega, rfl⟩⟩
        · by_cases h4 : 1073741824 < b
          · go_enter Tryz.func35, Tryz.ntmps35
            go_wp2_with (first | (go_at_call 79; refine (id_b _ _ HN.out).mono ?_; rintro e w' ⟨rfl, hb⟩; obtain ⟨hc, hf⟩ := bcell hb; have HB := Lib.hid hb; clear hb) | (go_at_call 80; refine (instant_t _ hd).mono ?_; rintro e w' ⟨rfl, rfl⟩))
            go_ret2
            exact ⟨below_then (below_alloc (below_refl _) _) HB.out, .inr ⟨by unfold PolP; omega, rfl⟩⟩
          · by_cases h5 : c < 1
            · go_enter Tryz.func35, Tryz.ntmps35
              go_wp2_with (first | (go_at_call 79; refine (id_b _ _ HN.out).mono ?_; rintro e w' ⟨rfl, hb⟩; obtain ⟨hc, hf⟩ := bcell hb; have HB := Lib.hid hb; clear hb) | (go_at_call 80; refine (instant_t _ hd).mono ?_; rintro e w' ⟨rfl, rfl⟩))
              go_ret2
              exact ⟨below_then (below_alloc (below_refl _) _) HB.out, .inr ⟨by unfold PolP; omega, rfl⟩⟩
            · by_cases h6 : 1073741824 < c
              · go_enter Tryz.func35, Tryz.ntmps35
                go_wp2_with (first | (go_at_call 79; refine (id_b _ _ HN.out).mono ?_; rintro e w' ⟨rfl, hb⟩; obtain ⟨hc, hf⟩ := bcell hb; have HB := Lib.hid hb; clear hb) | (go_at_call 80; refine (instant_t _ hd).mono ?_; rintro e w' ⟨rfl, rfl⟩))
                go_ret2
                exact ⟨below_then (below_alloc (below_refl _) _) HB.out, .inr ⟨by unfold PolP; omega, rfl⟩⟩
              · have hmm := @run_makeMap Tryz.prog
                go_enter Tryz.func35, Tryz.ntmps35
                go_wp2_with (first | (go_at_call 79; refine (id_b _ _ HN.out).mono ?_; rintro e w' ⟨rfl, hb⟩; obtain ⟨hc, hf⟩ := bcell hb; have HB := Lib.hid hb; clear hb) | (go_at_call 80; refine (instant_t _ hd).mono ?_; rintro e w' ⟨rfl, rfl⟩))
                go_ret2
                exact ⟨below_alloc (below_alloc (below_then (below_alloc (below_refl _) _) HB.out) _) _, .inl ⟨by unfold PolP; omega, _, rfl⟩⟩
  · by_cases h1 : a < 1
    · go_enter Tryz.func35, Tryz.ntmps35
      go_wp2_with (first | (go_at_call 79; refine (id_b _ _ HN.out).mono ?_; rintro e w' ⟨rfl, hb⟩; obtain ⟨hc, hf⟩ := bcell hb; have HB := Lib.hid hb; clear hb) | (go_at_call 80; refine (instant_f _ hd).mono ?_; rintro e w' ⟨rfl, rfl⟩))
      go_ret2
      exact ⟨below_then (below_alloc (below_refl _) _) HB.out, .inr ⟨by unfold PolP; omega, rfl⟩⟩
    · by_cases h2 : 32 < a
      · go_enter Tryz.func35, Tryz.ntmps35
        go_wp2_with (first | (go_at_call 79; refine (id_b _ _ HN.out).mono ?_; rintro e w' ⟨rfl, hb⟩; obtain ⟨hc, hf⟩ := bcell hb; have HB := Lib.hid hb; clear hb) | (go_at_call 80; refine (instant_f _ hd).mono ?_; rintro e w' ⟨rfl, rfl⟩))
        go_ret2
        exact ⟨below_then (below_alloc (below_refl _) _) HB.out, .inr ⟨by unfold PolP; omega, rfl⟩⟩
      · by_cases h3 : b < 1
        · go_enter Tryz.func35, Tryz.ntmps35
          go_wp2_with (first | (go_at_call 79; refine (id_b _ _ HN.out).mono ?_; rintro e w' ⟨rfl, hb⟩; obtain ⟨hc, hf⟩ := bcell hb; have HB := Lib.hid hb; clear hb) | (go_at_call 80; refine (instant_f _ hd).mono ?_; rintro e w' ⟨rfl, rfl⟩))
          go_ret2
          exact ⟨below_then (below_alloc (below_refl _) _) HB.out, .inr ⟨by unfold PolP; omega, rfl⟩⟩
        · by_cases h4 : 1073741824 < b
          · go_enter Tryz.func35, Tryz.ntmps35
            go_wp2_with (first | (go_at_call 79; refine (id_b _ _ HN.out).mono ?_; rintro e w' ⟨rfl, hb⟩; obtain ⟨hc, hf⟩ := bcell hb; have HB := Lib.hid hb; clear hb) | (go_at_call 80; refine (instant_f _ hd).mono ?_; rintro e w' ⟨rfl, rfl⟩))
            go_ret2
            exact ⟨below_then (below_alloc (below_refl _) _) HB.out, .inr ⟨by unfold PolP; omega, rfl⟩⟩
          · by_cases h5 : c < 1
            · go_enter Tryz.func35, Tryz.ntmps35
              go_wp2_with (first | (go_at_call 79; refine (id_b _ _ HN.out).mono ?_; rintro e w' ⟨rfl, hb⟩; obtain ⟨hc, hf⟩ := bcell hb; have HB := Lib.hid hb; clear hb) | (go_at_call 80; refine (instant_f _ hd).mono ?_; rintro e w' ⟨rfl, rfl⟩))
              go_ret2
              exact ⟨below_then (below_alloc (below_refl _) _) HB.out, .inr ⟨by unfold PolP; omega, rfl⟩⟩
            · by_cases h6 : 1073741824 < c
              · go_enter Tryz.func35, Tryz.ntmps35
                go_wp2_with (first | (go_at_call 79; refine (id_b _ _ HN.out).mono ?_; rintro e w' ⟨rfl, hb⟩; obtain ⟨hc, hf⟩ := bcell hb; have HB := Lib.hid hb; clear hb) | (go_at_call 80; refine (instant_f _ hd).mono ?_; rintro e w' ⟨rfl, rfl⟩))
                go_ret2
                exact ⟨below_then (below_alloc (below_refl _) _) HB.out, .inr ⟨by unfold PolP; omega, rfl⟩⟩
              · go_enter Tryz.func35, Tryz.ntmps35
                go_wp2_with (first | (go_at_call 79; refine (id_b _ _ HN.out).mono ?_; rintro e w' ⟨rfl, hb⟩; obtain ⟨hc, hf⟩ := bcell hb; have HB := Lib.hid hb; clear hb) | (go_at_call 80; refine (instant_f _ hd).mono ?_; rintro e w' ⟨rfl, rfl⟩))
                go_ret2
                exact ⟨below_then (below_alloc (below_refl _) _) HB.out, .inr ⟨by unfold PolP; omega, rfl⟩⟩
set_option maxRecDepth 100000 in
set_option maxHeartbeats 1000000 in
theorem rpool_new (s : ByteArray) (a b c d : Int) (w : World) (hn : NameP s) :
    Calls Tryz.prog 59 #[.string s, .agg #[.int .i64 a, .int .i64 b, .int .i64 c, .int .i64 d]] w (NewEnd (PolP a b c d) 2 w) := by
  have HN := Lib.hid hn
  clear hn
  by_cases h1 : a < 1
  · go_enter Tryz.func59, Tryz.ntmps59
    go_wp2_with (first | (go_at_call 118; refine (rid_t _ _ HN.out).mono ?_; rintro e w' ⟨rfl, rfl⟩) | (go_at_call 119; (with_reducible refine (rtime_t _ hb).mono ?_); rintro e w' ⟨rfl, rfl⟩) | (go_at_call 119; (with_reducible refine (rtime_f _ hb).mono ?_); rintro e w' ⟨rfl, rfl⟩) | (go_at_call 119; (with_reducible refine (rtime_t _ hc).mono ?_); rintro e w' ⟨rfl, rfl⟩) | (go_at_call 119; (with_reducible refine (rtime_f _ hc).mono ?_); rintro e w' ⟨rfl, rfl⟩) | (go_at_call 119; (with_reducible refine (rtime_t _ hd).mono ?_); rintro e w' ⟨rfl, rfl⟩) | (go_at_call 119; (with_reducible refine (rtime_f _ hd).mono ?_); rintro e w' ⟨rfl, rfl⟩))
    go_ret2
    exact ⟨below_alloc (below_refl _) _, .inr ⟨by unfold PolP; omega, rfl⟩⟩
  · by_cases h2 : 32 < a
    · go_enter Tryz.func59, Tryz.ntmps59
      go_wp2_with (first | (go_at_call 118; refine (rid_t _ _ HN.out).mono ?_; rintro e w' ⟨rfl, rfl⟩) | (go_at_call 119; (with_reducible refine (rtime_t _ hb).mono ?_); rintro e w' ⟨rfl, rfl⟩) | (go_at_call 119; (with_reducible refine (rtime_f _ hb).mono ?_); rintro e w' ⟨rfl, rfl⟩) | (go_at_call 119; (with_reducible refine (rtime_t _ hc).mono ?_); rintro e w' ⟨rfl, rfl⟩) | (go_at_call 119; (with_reducible refine (rtime_f _ hc).mono ?_); rintro e w' ⟨rfl, rfl⟩) | (go_at_call 119; (with_reducible refine (rtime_t _ hd).mono ?_); rintro e w' ⟨rfl, rfl⟩) | (go_at_call 119; (with_reducible refine (rtime_f _ hd).mono ?_); rintro e w' ⟨rfl, rfl⟩))
      go_ret2
      exact ⟨below_alloc (below_refl _) _, .inr ⟨by unfold PolP; omega, rfl⟩⟩
    · by_cases h3 : b < 1
      · go_enter Tryz.func59, Tryz.ntmps59
        go_wp2_with (first | (go_at_call 118; refine (rid_t _ _ HN.out).mono ?_; rintro e w' ⟨rfl, rfl⟩) | (go_at_call 119; (with_reducible refine (rtime_t _ hb).mono ?_); rintro e w' ⟨rfl, rfl⟩) | (go_at_call 119; (with_reducible refine (rtime_f _ hb).mono ?_); rintro e w' ⟨rfl, rfl⟩) | (go_at_call 119; (with_reducible refine (rtime_t _ hc).mono ?_); rintro e w' ⟨rfl, rfl⟩) | (go_at_call 119; (with_reducible refine (rtime_f _ hc).mono ?_); rintro e w' ⟨rfl, rfl⟩) | (go_at_call 119; (with_reducible refine (rtime_t _ hd).mono ?_); rintro e w' ⟨rfl, rfl⟩) | (go_at_call 119; (with_reducible refine (rtime_f _ hd).mono ?_); rintro e w' ⟨rfl, rfl⟩))
        go_ret2
        exact ⟨below_alloc (below_refl _) _, .inr ⟨by unfold PolP; omega, rfl⟩⟩
      · by_cases hb : ¬ (0 ≤ b ∧ b ≤ 1073741824)
        · go_enter Tryz.func59, Tryz.ntmps59
          go_wp2_with (first | (go_at_call 118; refine (rid_t _ _ HN.out).mono ?_; rintro e w' ⟨rfl, rfl⟩) | (go_at_call 119; (with_reducible refine (rtime_t _ hb).mono ?_); rintro e w' ⟨rfl, rfl⟩) | (go_at_call 119; (with_reducible refine (rtime_f _ hb).mono ?_); rintro e w' ⟨rfl, rfl⟩) | (go_at_call 119; (with_reducible refine (rtime_t _ hc).mono ?_); rintro e w' ⟨rfl, rfl⟩) | (go_at_call 119; (with_reducible refine (rtime_f _ hc).mono ?_); rintro e w' ⟨rfl, rfl⟩) | (go_at_call 119; (with_reducible refine (rtime_t _ hd).mono ?_); rintro e w' ⟨rfl, rfl⟩) | (go_at_call 119; (with_reducible refine (rtime_f _ hd).mono ?_); rintro e w' ⟨rfl, rfl⟩))
          go_ret2
          exact ⟨below_alloc (below_refl _) _, .inr ⟨by unfold PolP; omega, rfl⟩⟩
        · replace hb := Classical.not_not.1 hb
          by_cases h5 : c < 1
          · go_enter Tryz.func59, Tryz.ntmps59
            go_wp2_with (first | (go_at_call 118; refine (rid_t _ _ HN.out).mono ?_; rintro e w' ⟨rfl, rfl⟩) | (go_at_call 119; (with_reducible refine (rtime_t _ hb).mono ?_); rintro e w' ⟨rfl, rfl⟩) | (go_at_call 119; (with_reducible refine (rtime_f _ hb).mono ?_); rintro e w' ⟨rfl, rfl⟩) | (go_at_call 119; (with_reducible refine (rtime_t _ hc).mono ?_); rintro e w' ⟨rfl, rfl⟩) | (go_at_call 119; (with_reducible refine (rtime_f _ hc).mono ?_); rintro e w' ⟨rfl, rfl⟩) | (go_at_call 119; (with_reducible refine (rtime_t _ hd).mono ?_); rintro e w' ⟨rfl, rfl⟩) | (go_at_call 119; (with_reducible refine (rtime_f _ hd).mono ?_); rintro e w' ⟨rfl, rfl⟩))
            go_ret2
            exact ⟨below_alloc (below_refl _) _, .inr ⟨by unfold PolP; omega, rfl⟩⟩
          · by_cases hc : ¬ (0 ≤ c ∧ c ≤ 1073741824)
            · go_enter Tryz.func59, Tryz.ntmps59
              go_wp2_with (first | (go_at_call 118; refine (rid_t _ _ HN.out).mono ?_; rintro e w' ⟨rfl, rfl⟩) | (go_at_call 119; (with_reducible refine (rtime_t _ hb).mono ?_); rintro e w' ⟨rfl, rfl⟩) | (go_at_call 119; (with_reducible refine (rtime_f _ hb).mono ?_); rintro e w' ⟨rfl, rfl⟩) | (go_at_call 119; (with_reducible refine (rtime_t _ hc).mono ?_); rintro e w' ⟨rfl, rfl⟩) | (go_at_call 119; (with_reducible refine (rtime_f _ hc).mono ?_); rintro e w' ⟨rfl, rfl⟩) | (go_at_call 119; (with_reducible refine (rtime_t _ hd).mono ?_); rintro e w' ⟨rfl, rfl⟩) | (go_at_call 119; (with_reducible refine (rtime_f _ hd).mono ?_); rintro e w' ⟨rfl, rfl⟩))
              go_ret2
              exact ⟨below_alloc (below_refl _) _, .inr ⟨by unfold PolP; omega, rfl⟩⟩
            · replace hc := Classical.not_not.1 hc
              by_cases hd : ¬ (0 ≤ d ∧ d ≤ 1073741824)
              · go_enter Tryz.func59, Tryz.ntmps59
                go_wp2_with (first | (go_at_call 118; refine (rid_t _ _ HN.out).mono ?_; rintro e w' ⟨rfl, rfl⟩) | (go_at_call 119; (with_reducible refine (rtime_t _ hb).mono ?_); rintro e w' ⟨rfl, rfl⟩) | (go_at_call 119; (with_reducible refine (rtime_f _ hb).mono ?_); rintro e w' ⟨rfl, rfl⟩) | (go_at_call 119; (with_reducible refine (rtime_t _ hc).mono ?_); rintro e w' ⟨rfl, rfl⟩) | (go_at_call 119; (with_reducible refine (rtime_f _ hc).mono ?_); rintro e w' ⟨rfl, rfl⟩) | (go_at_call 119; (with_reducible refine (rtime_t _ hd).mono ?_); rintro e w' ⟨rfl, rfl⟩) | (go_at_call 119; (with_reducible refine (rtime_f _ hd).mono ?_); rintro e w' ⟨rfl, rfl⟩))
                go_ret2
                exact ⟨below_alloc (below_refl _) _, .inr ⟨by unfold PolP; omega, rfl⟩⟩
              · replace hd := Classical.not_not.1 hd
                go_enter Tryz.func59, Tryz.ntmps59
                go_wp2_with (first | (go_at_call 118; refine (rid_t _ _ HN.out).mono ?_; rintro e w' ⟨rfl, rfl⟩) | (go_at_call 119; (with_reducible refine (rtime_t _ hb).mono ?_); rintro e w' ⟨rfl, rfl⟩) | (go_at_call 119; (with_reducible refine (rtime_f _ hb).mono ?_); rintro e w' ⟨rfl, rfl⟩) | (go_at_call 119; (with_reducible refine (rtime_t _ hc).mono ?_); rintro e w' ⟨rfl, rfl⟩) | (go_at_call 119; (with_reducible refine (rtime_f _ hc).mono ?_); rintro e w' ⟨rfl, rfl⟩) | (go_at_call 119; (with_reducible refine (rtime_t _ hd).mono ?_); rintro e w' ⟨rfl, rfl⟩) | (go_at_call 119; (with_reducible refine (rtime_f _ hd).mono ?_); rintro e w' ⟨rfl, rfl⟩))
                go_ret2
                exact ⟨below_alloc (below_alloc (below_refl _) _) _, .inl ⟨by unfold PolP; omega, _, rfl⟩⟩
/-- How a check ends. -/
def ChkEnd (P : Prop) (k : Int) (w : World) (e : Ending) (w' : World) : Prop :=
  Below w.heap.size w w' ∧ ((P ∧ e = .returned (.int .i64 0)) ∨ (¬ P ∧ e = .returned (.int .i64 k)))
def FairP (a : Int) : Prop := 1 ≤ a ∧ a ≤ 1000000
def MetP (a b : Int) : Prop := 1 ≤ a ∧ a ≤ 1000000000 ∧ 1 ≤ b ∧ b ≤ 1000000000
set_option maxRecDepth 100000 in
set_option maxHeartbeats 1000000 in
theorem meter_check (a b : Int) (w : World) : Calls Tryz.prog 36 #[.agg #[.int .i64 a, .int .i64 b]] w (ChkEnd (MetP a b) 2 w) := by
  by_cases ha : ¬ (1 ≤ a ∧ a ≤ 1000000000)
  · go_enter Tryz.func36, Tryz.ntmps36
    go_wp2_with (first | (go_at_call 81; (with_reducible refine (between_t _ ha).mono ?_); rintro e w' ⟨rfl, rfl⟩) | (go_at_call 81; (with_reducible refine (between_f _ ha).mono ?_); rintro e w' ⟨rfl, rfl⟩) | (go_at_call 81; (with_reducible refine (between_t _ hb).mono ?_); rintro e w' ⟨rfl, rfl⟩) | (go_at_call 81; (with_reducible refine (between_f _ hb).mono ?_); rintro e w' ⟨rfl, rfl⟩))
    go_ret
    exact ⟨below_alloc (below_refl _) _, .inr ⟨by unfold MetP; omega, rfl⟩⟩
  · replace ha := Classical.not_not.1 ha
    by_cases hb : ¬ (1 ≤ b ∧ b ≤ 1000000000)
    · go_enter Tryz.func36, Tryz.ntmps36
      go_wp2_with (first | (go_at_call 81; (with_reducible refine (between_t _ ha).mono ?_); rintro e w' ⟨rfl, rfl⟩) | (go_at_call 81; (with_reducible refine (between_f _ ha).mono ?_); rintro e w' ⟨rfl, rfl⟩) | (go_at_call 81; (with_reducible refine (between_t _ hb).mono ?_); rintro e w' ⟨rfl, rfl⟩) | (go_at_call 81; (with_reducible refine (between_f _ hb).mono ?_); rintro e w' ⟨rfl, rfl⟩))
      go_ret
      exact ⟨below_alloc (below_refl _) _, .inr ⟨by unfold MetP; omega, rfl⟩⟩
    · replace hb := Classical.not_not.1 hb
      go_enter Tryz.func36, Tryz.ntmps36
      go_wp2_with (first | (go_at_call 81; (with_reducible refine (between_t _ ha).mono ?_); rintro e w' ⟨rfl, rfl⟩) | (go_at_call 81; (with_reducible refine (between_f _ ha).mono ?_); rintro e w' ⟨rfl, rfl⟩) | (go_at_call 81; (with_reducible refine (between_t _ hb).mono ?_); rintro e w' ⟨rfl, rfl⟩) | (go_at_call 81; (with_reducible refine (between_f _ hb).mono ?_); rintro e w' ⟨rfl, rfl⟩))
      go_ret
      exact ⟨below_alloc (below_refl _) _, .inl ⟨by unfold MetP; omega, rfl⟩⟩
set_option maxRecDepth 100000 in
set_option maxHeartbeats 1000000 in
theorem rmeter_check (a b : Int) (w : World) : Calls Tryz.prog 60 #[.agg #[.int .i64 a, .int .i64 b]] w (ChkEnd (MetP a b) 2 w) := by
  by_cases h1 : a < 1
  · go_enter Tryz.func60, Tryz.ntmps60
    go_wp2
    go_ret
    exact ⟨below_alloc (below_refl _) _, .inr ⟨by unfold MetP; omega, rfl⟩⟩
  · by_cases h2 : 1000000000 < a
    · go_enter Tryz.func60, Tryz.ntmps60
      go_wp2
      go_ret
      exact ⟨below_alloc (below_refl _) _, .inr ⟨by unfold MetP; omega, rfl⟩⟩
    · by_cases h3 : b < 1
      · go_enter Tryz.func60, Tryz.ntmps60
        go_wp2
        go_ret
        exact ⟨below_alloc (below_refl _) _, .inr ⟨by unfold MetP; omega, rfl⟩⟩
      · by_cases h4 : 1000000000 < b
        · go_enter Tryz.func60, Tryz.ntmps60
          go_wp2
          go_ret
          exact ⟨below_alloc (below_refl _) _, .inr ⟨by unfold MetP; omega, rfl⟩⟩
        · go_enter Tryz.func60, Tryz.ntmps60
          go_wp2
          go_ret
          exact ⟨below_alloc (below_refl _) _, .inl ⟨by unfold MetP; omega, rfl⟩⟩
set_option maxRecDepth 100000 in
set_option maxHeartbeats 1000000 in
theorem fair_new (a : Int) (w : World) : Calls Tryz.prog 38 #[.int .i64 a] w (NewEnd (FairP a) 2 w) := by
  by_cases h1 : a < 1
  · go_enter Tryz.func38, Tryz.ntmps38
    go_wp2
    go_ret2
    exact ⟨below_refl _, .inr ⟨by unfold FairP; omega, rfl⟩⟩
  · by_cases h2 : 1000000 < a
    · go_enter Tryz.func38, Tryz.ntmps38
      go_wp2
      go_ret2
      exact ⟨below_refl _, .inr ⟨by unfold FairP; omega, rfl⟩⟩
    · have hmm := @run_makeMap Tryz.prog
      go_enter Tryz.func38, Tryz.ntmps38
      go_wp2
      go_ret2
      exact ⟨below_alloc (below_alloc (below_alloc (below_alloc (below_refl _) _) _) _) _, .inl ⟨by unfold FairP; omega, _, rfl⟩⟩
set_option maxRecDepth 100000 in
set_option maxHeartbeats 1000000 in
theorem rfair_new (a : Int) (w : World) : Calls Tryz.prog 61 #[.int .i64 a] w (NewEnd (FairP a) 2 w) := by
  by_cases h1 : a < 1
  · go_enter Tryz.func61, Tryz.ntmps61
    go_wp2
    go_ret2
    exact ⟨below_refl _, .inr ⟨by unfold FairP; omega, rfl⟩⟩
  · by_cases h2 : 1000000 < a
    · go_enter Tryz.func61, Tryz.ntmps61
      go_wp2
      go_ret2
      exact ⟨below_refl _, .inr ⟨by unfold FairP; omega, rfl⟩⟩
    · have hmm := @run_makeMap Tryz.prog
      go_enter Tryz.func61, Tryz.ntmps61
      go_wp2
      go_ret2
      exact ⟨below_alloc (below_refl _) _, .inl ⟨by unfold FairP; omega, _, rfl⟩⟩
end Go.Proofs.YtfmhagjbhableaaGreatDoor
