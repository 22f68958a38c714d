/-
  The walk of WorkerNews, a part.
-/
import Derived.Test.YtfmhagjbhableaaGreatDoorW1
import Derived.Lib.Hide
namespace Go.Proofs.YtfmhagjbhableaaGreatDoor
open Go.RowKit
/-! ### The name is an identifier -/
/-- A character of a name. -/
def Ch (c : Int) : Prop := (97 ≤ c ∧ c ≤ 122) ∨ (48 ≤ c ∧ c ≤ 57) ∨ c = 45 ∨ c = 95
theorem Ch.of {s : ByteArray} (h : NameP s) (i : Nat) (g : i < s.size) : Ch (s[i]'g).toNat := by
  rcases h.2.2 i g with a | ⟨_, a⟩ <;> unfold Ch <;> omega
set_option maxHeartbeats 400000 in
theorem letter_t {n : Int} (w : World) (h : Ch n) : Calls Tryz.prog 140 #[.int .i32 n] w fun e w' => e = .returned (.bool true) ∧ w' = w := by
  by_cases h1 : 97 ≤ n ∧ n ≤ 122
  · go_enter Tryz.func140, Tryz.ntmps140
    go_wp2_with (go_at_call 77; refine (small_t _ h1).mono ?_; rintro e w' ⟨rfl, rfl⟩)
    go_ret
    exact ⟨rfl, rfl⟩
  · by_cases h2 : 48 ≤ n ∧ n ≤ 57
    · go_enter Tryz.func140, Tryz.ntmps140
      go_wp2_with (first | (go_at_call 77; refine (small_f _ h1).mono ?_; rintro e w' ⟨rfl, rfl⟩) | (go_at_call 78; refine (digit_t _ h2).mono ?_; rintro e w' ⟨rfl, rfl⟩))
      go_ret
      exact ⟨rfl, rfl⟩
    · have h3 : n = 45 ∨ n = 95 := by unfold Ch at h; omega
      rcases h3 with rfl | rfl
      · go_enter Tryz.func140, Tryz.ntmps140
        go_wp2_with (first | (go_at_call 77; refine (small_f _ h1).mono ?_; rintro e w' ⟨rfl, rfl⟩) | (go_at_call 78; refine (digit_f _ h2).mono ?_; rintro e w' ⟨rfl, rfl⟩))
        go_ret
        exact ⟨rfl, rfl⟩
      · go_enter Tryz.func140, Tryz.ntmps140
        go_wp2_with (first | (go_at_call 77; refine (small_f _ h1).mono ?_; rintro e w' ⟨rfl, rfl⟩) | (go_at_call 78; refine (digit_f _ h2).mono ?_; rintro e w' ⟨rfl, rfl⟩))
        go_ret
        exact ⟨rfl, rfl⟩
set_option maxHeartbeats 1000000 in
theorem id_t (s : ByteArray) (w : World) (hn : NameP s) : Calls Tryz.prog 79 #[.string s] w fun e w' => e = .returned (.bool true) ∧ ∃ pos, w' = w.iter s pos := by
  have l1 := hn.1
  have l2 : s.size ≤ 64 := by have := hn.2.1; omega
  go_enter Tryz.func79, Tryz.ntmps79
  go_wp2
  go_loopw [2] (fun r w' => ∃ pos : Nat, w' = w.iter s pos ∧ pos ≤ s.size) (fun _ w' => s.size - w'.iterPos w.heap.size)
  case atStart => exact ⟨0, rfl, by omega⟩
  case round =>
    obtain ⟨pos, rfl, hle⟩ := hrel
    by_cases hp : pos < s.size
    · obtain ⟨r, d, hd, hrd, hr⟩ := rune_at s pos hp
      have hnx : ∀ ty, (Instr.next (.pointer (some ⟨w.heap.size, 0, none⟩)) true ty).run Tryz.prog (w.iter s pos) = .ok (.tuple #[.bool true, .int .i64 pos, .int .i32 r]) (w.iter s (pos + d)) := fun ty => by rw [run_next_any w s pos ty hp, hd]
      clear hd
      have hc := Ch.of hn pos hp
      have hcr : Ch (r : Int) := by unfold Ch at hc ⊢; omega
      have hdd : d = 1 := by unfold Ch at hc; omega
      clear hc
      go_wp2_with (go_at_call 140; refine (letter_t _ hcr).mono ?_; rintro e w' ⟨rfl, rfl⟩)
      go_roundw
      case rel => exact ⟨pos + 1, rfl, by omega⟩
      case measure => simp; omega
    · have hnx : ∀ ty, (Instr.next (.pointer (some ⟨w.heap.size, 0, none⟩)) true ty).run Tryz.prog (w.iter s pos) = _ := fun ty => run_next_end w s pos ty hp
      go_wp2
      all_goals go_ret
      all_goals exact ⟨ret_bool (by first | rfl | (simp; omega)), _, rfl⟩
/-! ### The reference's names -/
set_option maxHeartbeats 400000 in
theorem rsmall_any (n : Int) (w : World) : Calls Tryz.prog 116 #[.int .u8 n] w fun e w' => e = .returned (.bool (inB 97 122 n)) ∧ w' = w := by
  go_enter Tryz.func116, Tryz.ntmps116
  go_wp2
  all_goals go_ret
  all_goals exact ⟨ret_bool (by first | rw [inB_true (by omega) (by omega)] | rw [inB_false (by omega)] | (simp [inB]; omega)), rfl⟩
set_option maxHeartbeats 400000 in
theorem rdigit_any (n : Int) (w : World) : Calls Tryz.prog 117 #[.int .u8 n] w fun e w' => e = .returned (.bool (inB 48 57 n)) ∧ w' = w := by
  go_enter Tryz.func117, Tryz.ntmps117
  go_wp2
  all_goals go_ret
  all_goals exact ⟨ret_bool (by first | rw [inB_true (by omega) (by omega)] | rw [inB_false (by omega)] | (simp [inB]; omega)), rfl⟩
theorem rsmall_t {n : Int} (w : World) (h : 97 ≤ n ∧ n ≤ 122) : Calls Tryz.prog 116 #[.int .u8 n] w fun e w' => e = .returned (.bool true) ∧ w' = w := by
  have := rsmall_any n w; rw [inB_true h.1 h.2] at this; exact this
theorem rsmall_f {n : Int} (w : World) (h : ¬ (97 ≤ n ∧ n ≤ 122)) : Calls Tryz.prog 116 #[.int .u8 n] w fun e w' => e = .returned (.bool false) ∧ w' = w := by
  have := rsmall_any n w; rw [inB_false h] at this; exact this
theorem rdigit_t {n : Int} (w : World) (h : 48 ≤ n ∧ n ≤ 57) : Calls Tryz.prog 117 #[.int .u8 n] w fun e w' => e = .returned (.bool true) ∧ w' = w := by
  have := rdigit_any n w; rw [inB_true h.1 h.2] at this; exact this
theorem rdigit_f {n : Int} (w : World) (h : ¬ (48 ≤ n ∧ n ≤ 57)) : Calls Tryz.prog 117 #[.int .u8 n] w fun e w' => e = .returned (.bool false) ∧ w' = w := by
  have := rdigit_any n w; rw [inB_false h] at this; exact this
set_option maxHeartbeats 400000 in
theorem part_t {n : Int} (w : World) (h : Ch n) : Calls Tryz.prog 166 #[.int .u8 n] w fun e w' => e = .returned (.bool true) ∧ w' = w := by
  by_cases h1 : 97 ≤ n ∧ n ≤ 122
  · go_enter Tryz.func166, Tryz.ntmps166
    go_wp2_with (go_at_call 116; refine (rsmall_t _ h1).mono ?_; rintro e w' ⟨rfl, rfl⟩)
    go_ret
    exact ⟨rfl, rfl⟩
  · by_cases h2 : 48 ≤ n ∧ n ≤ 57
    · have h3 : ¬ (65 ≤ n) := by omega
      go_enter Tryz.func166, Tryz.ntmps166
      go_wp2_with (first | (go_at_call 116; refine (rsmall_f _ h1).mono ?_; rintro e w' ⟨rfl, rfl⟩) | (go_at_call 117; refine (rdigit_t _ h2).mono ?_; rintro e w' ⟨rfl, rfl⟩))
      go_ret
      exact ⟨rfl, rfl⟩
    · have h3 : n = 45 ∨ n = 95 := by unfold Ch at h; omega
      rcases h3 with rfl | rfl
      · go_enter Tryz.func166, Tryz.ntmps166
        go_wp2_with (first | (go_at_call 116; refine (rsmall_f _ h1).mono ?_; rintro e w' ⟨rfl, rfl⟩) | (go_at_call 117; refine (rdigit_f _ h2).mono ?_; rintro e w' ⟨rfl, rfl⟩))
        go_ret
        exact ⟨rfl, rfl⟩
      · go_enter Tryz.func166, Tryz.ntmps166
        go_wp2_with (first | (go_at_call 116; refine (rsmall_f _ h1).mono ?_; rintro e w' ⟨rfl, rfl⟩) | (go_at_call 117; refine (rdigit_f _ h2).mono ?_; rintro e w' ⟨rfl, rfl⟩))
        go_ret
        exact ⟨rfl, rfl⟩
set_option maxHeartbeats 1000000 in
theorem rid_t (s : ByteArray) (w : World) (hn : NameP s) : Calls Tryz.prog 118 #[.string s] w fun e w' => e = .returned (.bool true) ∧ w' = w := by
  have l1 := hn.1
  have l2 : s.size ≤ 64 := by have := hn.2.1; omega
  go_enter Tryz.func118, Tryz.ntmps118
  go_wp2
  go_loop [2, 3] (fun r i => ∃ k : Nat, i = .int .i64 k ∧ k ≤ s.size) (fun _ i => s.size - (intOf i).toNat)
  case atStart => exact ⟨0, rfl, by omega⟩
  case round =>
    obtain ⟨k, rfl, hle⟩ := hrel
    by_cases hp : k < s.size
    · have hc := Ch.of hn k hp
      go_wp2_with (go_at_call 166; refine (part_t _ hc).mono ?_; rintro e w' ⟨rfl, rfl⟩)
      go_round
      case rel => exact ⟨k + 1, by go_num, by omega⟩
      case measure => simp [intOf]; omega
    · go_wp2
      go_ret
      exact ⟨rfl, rfl⟩
set_option maxHeartbeats 1000000 in
theorem rname_any (s : ByteArray) (w : World) (hs : s.size ≤ maxLen) : Calls Tryz.prog 58 #[.string s] w fun e w' => e = .returned (.bool (nameB s)) ∧ w' = w := by
  unfold maxLen at hs
  by_cases hl : 1 ≤ s.size ∧ s.size ≤ 24
  · obtain ⟨l1, l2⟩ := hl
    by_cases h0 : 97 ≤ ((s[0]'l1).toNat : Int) ∧ ((s[0]'l1).toNat : Int) ≤ 122
    · have hfst : ∀ (i : Nat) (h : i < s.size), i < 1 → Okc i (s[i]'h).toNat := by
        intro i h g
        obtain rfl : i = 0 := by omega
        exact .inl (by omega)
      go_enter Tryz.func58, Tryz.ntmps58
      go_wp2_with (go_at_call 116; refine (rsmall_t _ h0).mono ?_; rintro e w' ⟨rfl, rfl⟩)
      go_loop [2, 3] (fun r i => ∃ k : Nat, i = .int .i64 k ∧ 1 ≤ k ∧ k ≤ s.size ∧ ∀ (i : Nat) (h : i < s.size), i < k → Okc i (s[i]'h).toNat) (fun _ i => s.size - (intOf i).toNat)
      case atStart => exact ⟨1, rfl, by omega, by omega, hfst⟩
      case round =>
        obtain ⟨k, rfl, hk1, hle, hok⟩ := hrel
        have HOK := Lib.hid hok
        clear hok hfst
        by_cases hp : k < s.size
        · have hstep : Okc k (s[k]'hp).toNat → ∀ (i : Nat) (h : i < s.size), i < k + 1 → Okc i (s[i]'h).toNat := by
            intro e i h g
            by_cases e' : i < k
            · exact HOK.out i h e'
            · obtain rfl : i = k := by omega
              exact e
          have HST := Lib.hid hstep
          clear hstep
          by_cases h1 : 97 ≤ ((s[k]'hp).toNat : Int) ∧ ((s[k]'hp).toNat : Int) ≤ 122
          · go_wp2_with (go_at_call 116; refine (rsmall_t _ h1).mono ?_; rintro e w' ⟨rfl, rfl⟩)
            go_round
            case rel => exact ⟨k + 1, by go_num, by omega, by omega, HST.out (.inl (by omega))⟩
            case measure => simp [intOf]; omega
          · by_cases h2 : 48 ≤ ((s[k]'hp).toNat : Int) ∧ ((s[k]'hp).toNat : Int) ≤ 57
            · go_wp2_with (first | (go_at_call 116; refine (rsmall_f _ h1).mono ?_; rintro e w' ⟨rfl, rfl⟩) | (go_at_call 117; refine (rdigit_t _ h2).mono ?_; rintro e w' ⟨rfl, rfl⟩))
              go_round
              case rel => exact ⟨k + 1, by go_num, by omega, by omega, HST.out (.inr ⟨by omega, .inl (by omega)⟩)⟩
              case measure => simp [intOf]; omega
            · by_cases h3 : ((s[k]'hp).toNat : Int) = 45
              · have H3 := Lib.hid h3
                have h3' : (((s[k]'hp).toNat : Int) != 45) = false := by simp [h3]
                have h3'' : (((s[k]'hp).toNat : Int) == 45) = true := by simp [h3]
                clear h3
                go_wp2_with (first | (go_at_call 116; refine (rsmall_f _ h1).mono ?_; rintro e w' ⟨rfl, rfl⟩) | (go_at_call 117; refine (rdigit_f _ h2).mono ?_; rintro e w' ⟨rfl, rfl⟩))
                go_round
                case rel => exact ⟨k + 1, by go_num, by omega, by omega, HST.out (.inr ⟨by omega, .inr (.inl (by have := H3.out; omega))⟩)⟩
                case measure => simp [intOf]; omega
              · have h3' : (((s[k]'hp).toNat : Int) != 45) = true := by simpa using h3
                have h3'' : (((s[k]'hp).toNat : Int) == 45) = false := by simpa using h3
                by_cases h4 : ((s[k]'hp).toNat : Int) = 95
                · have H4 := Lib.hid h4
                  have h4' : (((s[k]'hp).toNat : Int) != 95) = false := by simp [h4]
                  have h4'' : (((s[k]'hp).toNat : Int) == 95) = true := by simp [h4]
                  clear h4
                  go_wp2_with (first | (go_at_call 116; refine (rsmall_f _ h1).mono ?_; rintro e w' ⟨rfl, rfl⟩) | (go_at_call 117; refine (rdigit_f _ h2).mono ?_; rintro e w' ⟨rfl, rfl⟩))
                  go_round
                  case rel => exact ⟨k + 1, by go_num, by omega, by omega, HST.out (.inr ⟨by omega, .inr (.inr (by have := H4.out; omega))⟩)⟩
                  case measure => simp [intOf]; omega
                · have h4' : (((s[k]'hp).toNat : Int) != 95) = true := by simpa using h4
                  have h4'' : (((s[k]'hp).toNat : Int) == 95) = false := by simpa using h4
                  have hno : ¬ NameP s := fun ⟨_, _, g⟩ => by
                    have := g k hp
                    unfold Okc at this
                    omega
                  go_wp2_with (first | (go_at_call 116; refine (rsmall_f _ h1).mono ?_; rintro e w' ⟨rfl, rfl⟩) | (go_at_call 117; refine (rdigit_f _ h2).mono ?_; rintro e w' ⟨rfl, rfl⟩))
                  go_ret
                  exact ⟨ret_bool (nameB_false hno).symm, rfl⟩
        · have hyes : NameP s := ⟨l1, l2, fun i h => HOK.out i h (by omega)⟩
          go_wp2
          go_ret
          exact ⟨ret_bool (nameB_true hyes).symm, rfl⟩
    · have hno : ¬ NameP s := fun ⟨_, _, g⟩ => by
        have := g 0 l1
        unfold Okc at this
        omega
      go_enter Tryz.func58, Tryz.ntmps58
      go_wp2_with (go_at_call 116; refine (rsmall_f _ h0).mono ?_; rintro e w' ⟨rfl, rfl⟩)
      go_ret
      exact ⟨ret_bool (nameB_false hno).symm, rfl⟩
  · have hno : ¬ NameP s := fun ⟨a, b, _⟩ => hl ⟨a, b⟩
    have hz : s.size < 1 ∨ 24 < s.size := by omega
    rcases hz with hz | hz
    · go_enter Tryz.func58, Tryz.ntmps58
      go_wp2
      go_ret
      exact ⟨ret_bool (nameB_false hno).symm, rfl⟩
    · have hz' : ¬ s.size < 1 := by omega
      go_enter Tryz.func58, Tryz.ntmps58
      go_wp2
      go_ret
      exact ⟨ret_bool (nameB_false hno).symm, rfl⟩
end Go.Proofs.YtfmhagjbhableaaGreatDoor
