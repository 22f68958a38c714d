/-
  The walk of WorkerNews, a part.
-/
import Derived.Test.YtfmhagjbhableaaGreatDoorProg
import Derived.WalkKit
import Derived.WalkSpells
import Derived.WalkLawsBesides
import Derived.Laws.RangeAny
namespace Go.Proofs.YtfmhagjbhableaaGreatDoor
open Go.RowKit
theorem ret_bool {a b : Bool} (h : a = b) : Ending.returned (.bool a) = .returned (.bool b) := by rw [h]
/-- From a to b. -/
def inB (a b n : Int) : Bool := decide (a ≤ n) && decide (n ≤ b)
theorem inB_true {a b n : Int} (h : a ≤ n) (g : n ≤ b) : inB a b n = true := by simp [inB, h, g]
theorem inB_false {a b n : Int} (h : ¬ (a ≤ n ∧ n ≤ b)) : inB a b n = false := by
  cases e : inB a b n with
  | false => rfl
  | true => simp [inB] at e; exact absurd e h
set_option maxHeartbeats 400000 in
theorem small_any (n : Int) (w : World) : Calls Tryz.prog 77 #[.int .i32 n] w fun e w' => e = .returned (.bool (inB 97 122 n)) ∧ w' = w := by
  go_enter Tryz.func77, Tryz.ntmps77
  go_wp2
  all_goals go_ret
  all_goals exact ⟨ret_bool (by first | rw [inB_true (by omega) (by omega)] | rw [inB_false (by omega)] | (simp [inB]; omega)), rfl⟩
set_option maxHeartbeats 400000 in
theorem digit_any (n : Int) (w : World) : Calls Tryz.prog 78 #[.int .i32 n] w fun e w' => e = .returned (.bool (inB 48 57 n)) ∧ w' = w := by
  go_enter Tryz.func78, Tryz.ntmps78
  go_wp2
  all_goals go_ret
  all_goals exact ⟨ret_bool (by first | rw [inB_true (by omega) (by omega)] | rw [inB_false (by omega)] | (simp [inB]; omega)), rfl⟩
set_option maxHeartbeats 400000 in
theorem in_any (n a b : Int) (w : World) : Calls Tryz.prog 37 #[.int .i64 n, .int .i64 a, .int .i64 b] w fun e w' => e = .returned (.bool (inB a b n)) ∧ w' = w := by
  go_enter Tryz.func37, Tryz.ntmps37
  go_wp2
  all_goals go_ret
  all_goals exact ⟨ret_bool (by first | rw [inB_true (by omega) (by omega)] | rw [inB_false (by omega)] | (simp [inB]; omega)), rfl⟩
set_option maxHeartbeats 400000 in
theorem between_any (n a b : Int) (w : World) : Calls Tryz.prog 81 #[.int .i64 n, .int .i64 a, .int .i64 b] w fun e w' => e = .returned (.bool (inB a b n)) ∧ w' = w := by
  go_enter Tryz.func81, Tryz.ntmps81
  go_wp2
  all_goals go_ret
  all_goals exact ⟨ret_bool (by first | rw [inB_true (by omega) (by omega)] | rw [inB_false (by omega)] | (simp [inB]; omega)), rfl⟩
/-! ### Names -/
def Okc (i : Nat) (c : Nat) : Prop := (97 ≤ c ∧ c ≤ 122) ∨ (i ≠ 0 ∧ ((48 ≤ c ∧ c ≤ 57) ∨ c = 45 ∨ c = 95))
def NameP (s : ByteArray) : Prop := 1 ≤ s.size ∧ s.size ≤ 24 ∧ ∀ (i : Nat) (h : i < s.size), Okc i (s[i]'h).toNat
noncomputable def nameB (s : ByteArray) : Bool := @decide (NameP s) (Classical.propDecidable _)
theorem nameB_true {s : ByteArray} (h : NameP s) : nameB s = true := by simp [nameB, h]
theorem nameB_false {s : ByteArray} (h : ¬ NameP s) : nameB s = false := by simp [nameB, h]
theorem small_t {n : Int} (w : World) (h : 97 ≤ n ∧ n ≤ 122) : Calls Tryz.prog 77 #[.int .i32 n] w fun e w' => e = .returned (.bool true) ∧ w' = w := by
  have := small_any n w; rw [inB_true h.1 h.2] at this; exact this
theorem small_f {n : Int} (w : World) (h : ¬ (97 ≤ n ∧ n ≤ 122)) : Calls Tryz.prog 77 #[.int .i32 n] w fun e w' => e = .returned (.bool false) ∧ w' = w := by
  have := small_any n w; rw [inB_false h] at this; exact this
theorem digit_t {n : Int} (w : World) (h : 48 ≤ n ∧ n ≤ 57) : Calls Tryz.prog 78 #[.int .i32 n] w fun e w' => e = .returned (.bool true) ∧ w' = w := by
  have := digit_any n w; rw [inB_true h.1 h.2] at this; exact this
theorem digit_f {n : Int} (w : World) (h : ¬ (48 ≤ n ∧ n ≤ 57)) : Calls Tryz.prog 78 #[.int .i32 n] w fun e w' => e = .returned (.bool false) ∧ w' = w := by
  have := digit_any n w; rw [inB_false h] at this; exact this
/-- What a rune of a range is. -/
theorem rune_at (s : ByteArray) (pos : Nat) (h : pos < s.size) : ∃ r d : Nat, Utf8.decode s pos = (r, d) ∧ ((s[pos].toNat < 128 ∧ r = s[pos].toNat ∧ d = 1) ∨ (128 ≤ s[pos].toNat ∧ 128 ≤ r ∧ 1 ≤ d)) ∧ r ≤ 2147483647 := by
  refine ⟨(Utf8.decode s pos).1, (Utf8.decode s pos).2, rfl, ?_, decode_le s pos⟩
  by_cases ha : (s[pos]'h).toNat < 128
  · rw [decode_ascii s pos h ha]; exact .inl ⟨ha, rfl, rfl⟩
  · exact .inr ⟨by omega, decode_high s pos h (by omega)⟩
set_option maxHeartbeats 1000000 in
theorem name_any (s : ByteArray) (w : World) : Calls Tryz.prog 34 #[.string s] w fun e w' => e = .returned (.bool (nameB s)) ∧ ∃ pos, w' = w.iter s pos := by
  go_enter Tryz.func34, Tryz.ntmps34
  go_wp2
  go_loopw [2] (fun r w' => ∃ pos : Nat, w' = w.iter s pos ∧ pos ≤ s.size ∧ ∀ (i : Nat) (h : i < s.size), i < pos → Okc i (s[i]'h).toNat) (fun _ w' => s.size - w'.iterPos w.heap.size)
  case atStart => exact ⟨0, rfl, by omega, fun i h g => by omega⟩
  case round =>
    obtain ⟨pos, rfl, hle, hok⟩ := hrel
    by_cases hp : pos < s.size
    · obtain ⟨r, d, hd, hrd, hr⟩ := rune_at s pos hp
      have hnx : ∀ ty, (Instr.next (.pointer (some ⟨w.heap.size, 0, none⟩)) true ty).run Tryz.prog (w.iter s pos) = .ok (.tuple #[.bool true, .int .i64 pos, .int .i32 r]) (w.iter s (pos + d)) := fun ty => by rw [run_next_any w s pos ty hp, hd]
      clear hd
      by_cases h1 : 97 ≤ (r : Int) ∧ (r : Int) ≤ 122
      · have hok' : ∀ (i : Nat) (h : i < s.size), i < pos + d → Okc i (s[i]'h).toNat := by
          intro i h g
          by_cases e : i < pos
          · exact hok i h e
          · have : i = pos := by omega
            subst this
            exact .inl (by omega)
        go_wp2_with (go_at_call 77; refine (small_t _ h1).mono ?_; rintro e w' ⟨rfl, rfl⟩)
        go_roundw
        case rel => exact ⟨pos + d, rfl, by omega, hok'⟩
        case measure => simp; omega
      · by_cases h0 : pos = 0
        · have hno : ¬ NameP s := fun ⟨_, _, g⟩ => by
            have := g pos hp
            unfold Okc at this
            omega
          subst h0
          go_wp2_with (go_at_call 77; refine (small_f _ h1).mono ?_; rintro e w' ⟨rfl, rfl⟩)
          go_ret
          exact ⟨ret_bool (nameB_false hno).symm, _, rfl⟩
        · have h0' : ((pos : Int) == 0) = false := by simp; omega
          by_cases h2 : 48 ≤ (r : Int) ∧ (r : Int) ≤ 57
          · have hok' : ∀ (i : Nat) (h : i < s.size), i < pos + d → Okc i (s[i]'h).toNat := by
              intro i h g
              by_cases e : i < pos
              · exact hok i h e
              · have : i = pos := by omega
                subst this
                exact .inr ⟨h0, .inl (by omega)⟩
            go_wp2_with (first | (go_at_call 77; refine (small_f _ h1).mono ?_; rintro e w' ⟨rfl, rfl⟩) | (go_at_call 78; refine (digit_t _ h2).mono ?_; rintro e w' ⟨rfl, rfl⟩))
            go_roundw
            case rel => exact ⟨pos + d, rfl, by omega, hok'⟩
            case measure => simp; omega
          · by_cases h3 : r = 45
            · have hok' : ∀ (i : Nat) (h : i < s.size), i < pos + d → Okc i (s[i]'h).toNat := by
                intro i h g
                by_cases e : i < pos
                · exact hok i h e
                · have : i = pos := by omega
                  subst this
                  exact .inr ⟨h0, .inr (.inl (by omega))⟩
              subst h3
              go_wp2_with (first | (go_at_call 77; refine (small_f _ h1).mono ?_; rintro e w' ⟨rfl, rfl⟩) | (go_at_call 78; refine (digit_f _ h2).mono ?_; rintro e w' ⟨rfl, rfl⟩))
              go_roundw
              case rel => exact ⟨pos + d, rfl, by omega, hok'⟩
              case measure => simp; omega
            · by_cases h4 : r = 95
              · have hok' : ∀ (i : Nat) (h : i < s.size), i < pos + d → Okc i (s[i]'h).toNat := by
                  intro i h g
                  by_cases e : i < pos
                  · exact hok i h e
                  · have : i = pos := by omega
                    subst this
                    exact .inr ⟨h0, .inr (.inr (by omega))⟩
                subst h4
                go_wp2_with (first | (go_at_call 77; refine (small_f _ h1).mono ?_; rintro e w' ⟨rfl, rfl⟩) | (go_at_call 78; refine (digit_f _ h2).mono ?_; rintro e w' ⟨rfl, rfl⟩))
                go_roundw
                case rel => exact ⟨pos + d, rfl, by omega, hok'⟩
                case measure => simp; omega
              · have hno : ¬ NameP s := fun ⟨_, _, g⟩ => by
                  have := g pos hp
                  unfold Okc at this
                  omega
                have h3' : ((r : Int) == 45) = false := by simp; omega
                have h4' : ((r : Int) == 95) = false := by simp; omega
                have h3'' : ((r : Int) != 45) = true := by simp; omega
                have h4'' : ((r : Int) != 95) = true := by simp; omega
                go_wp2_with (first | (go_at_call 77; refine (small_f _ h1).mono ?_; rintro e w' ⟨rfl, rfl⟩) | (go_at_call 78; refine (digit_f _ h2).mono ?_; rintro e w' ⟨rfl, rfl⟩))
                go_ret
                exact ⟨ret_bool (nameB_false hno).symm, _, rfl⟩
    · have hnx : ∀ ty, (Instr.next (.pointer (some ⟨w.heap.size, 0, none⟩)) true ty).run Tryz.prog (w.iter s pos) = _ := fun ty => run_next_end w s pos ty hp
      have hall : ∀ (i : Nat) (h : i < s.size), Okc i (s[i]'h).toNat := fun i h => hok i h (by omega)
      by_cases hl : 1 ≤ s.size ∧ s.size ≤ 24
      · obtain ⟨l1, l2⟩ := hl
        have hyes : NameP s := ⟨l1, l2, hall⟩
        go_wp2
        go_ret
        exact ⟨ret_bool (by rw [nameB_true hyes]; simp; omega), _, rfl⟩
      · have hno : ¬ NameP s := fun ⟨a, b, _⟩ => hl ⟨a, b⟩
        go_wp2
        all_goals go_ret
        all_goals exact ⟨ret_bool (by rw [nameB_false hno]; try (simp; omega)), _, rfl⟩
end Go.Proofs.YtfmhagjbhableaaGreatDoor
