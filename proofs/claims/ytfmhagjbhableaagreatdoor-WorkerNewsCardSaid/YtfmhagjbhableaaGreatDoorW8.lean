/-
  The walk of WorkerNews, a part.
-/
import Derived.Test.YtfmhagjbhableaaGreatDoorW7
set_option linter.unusedVariables false
namespace Go.Proofs.YtfmhagjbhableaaGreatDoor
open Go.RowKit
/-- What the example's function is known to do, in worlds that have grown out of w. -/
def AwakeOK (w : World) : Prop := ∀ w1, Below w.heap.size w w1 → Calls Tryz.prog 9 #[] w1 (ValEnd (.bool true) w1)
theorem AwakeOK.go {w : World} (h : AwakeOK w) {w1 : World} (hb : Below w.heap.size w w1) : Calls Tryz.prog 9 #[] w1 (ValEnd (.bool true) w1) := h w1 hb
theorem new_bad (s : ByteArray) (ws : Value) (a b c d e f g h q r p : Int) (w : World) (hn : NameP s) (hp : ¬ SetP a b c d e f g h q r) :
    Calls Tryz.prog 10 #[.string s, setupV ws a b c d e f g h q r p] w (NoEnd 2 w) := by
  by_cases h1 : PolP a b c d
  · by_cases h2 : MetP e f
    · by_cases h3 : 1 ≤ g ∧ g ≤ 20000
      · by_cases h3a : 1 ≤ h ∧ h ≤ 4000
        · by_cases h4 : FairP q
          · by_cases h5 : 1 ≤ r ∧ r ≤ 1000
            · exact absurd ⟨h1, h2, ⟨h3, h3a⟩, h4, h5⟩ hp
            · exact new_noroom1 s ws a b c d e f g h q r p w hn h1 h2 h3 h3a h4 h5
          · exact new_nofair s ws a b c d e f g h q r p w hn h1 h2 h3 h3a h4
        · exact new_nolim3 s ws a b c d e f g h q r p w hn h1 h2 h3 h3a
      · exact new_nolim1 s ws a b c d e f g h q r p w hn h1 h2 h3
    · exact new_nometer s ws a b c d e f g h q r p w hn h1 h2
  · exact new_nopool s ws a b c d e f g h q r p w hn h1
theorem rnew_bad (s : ByteArray) (ws : Value) (a b c d e f g h q r p : Int) (w : World) (hs : s.size ≤ maxLen) (hn : NameP s) (hp : ¬ SetP a b c d e f g h q r) :
    Calls Tryz.prog 22 #[.string s, setupV ws a b c d e f g h q r p] w (NoEnd 2 w) := by
  by_cases h1 : PolP a b c d
  · by_cases h2 : MetP e f
    · by_cases g1 : g < 1
      · exact rnew_nolim1 s ws a b c d e f g h q r p w hs hn h1 h2 g1
      · by_cases g2 : 20000 < g
        · exact rnew_nolim2 s ws a b c d e f g h q r p w hs hn h1 h2 g2
        · by_cases g3 : h < 1
          · exact rnew_nolim3 s ws a b c d e f g h q r p w hs hn h1 h2 (by omega) (by omega) g3
          · by_cases g4 : 4000 < h
            · exact rnew_nolim4 s ws a b c d e f g h q r p w hs hn h1 h2 (by omega) (by omega) g4
            · by_cases h4 : FairP q
              · by_cases r1 : r < 1
                · exact rnew_noroom1 s ws a b c d e f g h q r p w hs hn h1 h2 (by omega) (by omega) (by omega) (by omega) h4 r1
                · by_cases r2 : 1000 < r
                  · exact rnew_noroom2 s ws a b c d e f g h q r p w hs hn h1 h2 (by omega) (by omega) (by omega) (by omega) h4 r2
                  · exact absurd ⟨h1, h2, ⟨⟨by omega, by omega⟩, by omega, by omega⟩, h4, by omega, by omega⟩ hp
              · exact rnew_nofair s ws a b c d e f g h q r p w hs hn h1 h2 (by omega) (by omega) (by omega) (by omega) h4
    · exact rnew_nometer s ws a b c d e f g h q r p w hs hn h1 h2
  · exact rnew_nopool s ws a b c d e f g h q r p w hs hn h1
theorem new_good (s : ByteArray) (ws : Value) (a b c d e f g h q r p : Int) (w : World) (hn : NameP s) (hp : SetP a b c d e f g h q r) :
    Calls Tryz.prog 10 #[.string s, setupV ws a b c d e f g h q r p] w (OkEnd w) := by
  obtain ⟨h1, h2, ⟨h3, h3a⟩, h4, h5⟩ := hp
  exact new_ok s ws a b c d e f g h q r p w hn h1 h2 h3 h3a h4 h5
theorem rnew_good (s : ByteArray) (ws : Value) (a b c d e f g h q r p : Int) (w : World) (hs : s.size ≤ maxLen) (hn : NameP s) (hp : SetP a b c d e f g h q r) :
    Calls Tryz.prog 22 #[.string s, setupV ws a b c d e f g h q r p] w (OkEnd w) := by
  obtain ⟨h1, h2, ⟨h3, h3a⟩, h4, h5⟩ := hp
  exact rnew_ok s ws a b c d e f g h q r p w hs hn h1 h2 h3.1 h3.2 h3a.1 h3a.2 h4 h5.1 h5.2
theorem below_lt2 {w w1 : World} {o o' : Obj} (h : Below ((w.alloc o).alloc o').heap.size ((w.alloc o).alloc o') w1) : w.heap.size + 1 < w1.heap.size := by
  have := h.size
  simp at this
  omega
set_option maxRecDepth 100000 in
set_option maxHeartbeats 4000000 in
theorem news_noname (s : ByteArray) (ws : Value) (a b c d e f g h q r p : Int) (a0 a1 a2 a3 a4 : ByteArray) (a5 : Int) (a6 : ByteArray) (a7 : Value) (a8 : ByteArray) (a9 a10 : Int) (a11 : ByteArray) (w : World)
    (hs : s.size ≤ maxLen) (hn : ¬ NameP s) (haw : AwakeOK w) :
    Calls Tryz.prog 8 #[.string s, setupV ws a b c d e f g h q r p, invV a0 a1 a2 a3 a4 a5 a6 a7 a8 a9 a10 a11] w (ValEnd (.bool true) w) := by
  have HS := Lib.hid hs
  have HA := Lib.hid haw
  clear hs haw
  have HN := Lib.hid hn
  clear hn
  go_enter Tryz.func8, Tryz.ntmps8
  go_wp2_with (first
    | (go_at_call 10; (with_reducible refine (new_noname _ _ _ _ _ _ _ _ _ _ _ _ _ _ HN.out).mono ?_); rintro e w' ⟨hb, rfl⟩; obtain ⟨hc0, hf0⟩ := bcell hb; have hz0 : w.heap.size + 1 < w'.heap.size := (by first | exact below_lt2 hb | exact Nat.lt_of_lt_of_le (by assumption) hb.size); have HB0 := Lib.hid hb; clear hb)
    | (go_at_call 22; (with_reducible refine (rnew_noname _ _ _ _ _ _ _ _ _ _ _ _ _ _ HS.out HN.out).mono ?_); rintro e w' ⟨hb, rfl⟩; obtain ⟨hc1, hf1⟩ := bcell hb; have hz1 : w.heap.size + 1 < w'.heap.size := (by first | exact below_lt2 hb | exact Nat.lt_of_lt_of_le (by assumption) hb.size); have HB1 := Lib.hid hb; clear hb)
    | (go_at_call 13; (with_reducible refine (configure_nil _).mono ?_); rintro e w' ⟨hb, rfl⟩; obtain ⟨hc2, hf2⟩ := bcell hb; have hz2 : w.heap.size + 1 < w'.heap.size := (by first | exact below_lt2 hb | exact Nat.lt_of_lt_of_le (by assumption) hb.size); have HB2 := Lib.hid hb; clear hb)
    | (go_at_call 14; (with_reducible refine (offer_nil _ _ _ _ _ _ _ _ _ _ _ _ _).mono ?_); rintro e w' ⟨hb, rfl⟩; obtain ⟨hc3, hf3⟩ := bcell hb; have hz3 : w.heap.size + 1 < w'.heap.size := (by first | exact below_lt2 hb | exact Nat.lt_of_lt_of_le (by assumption) hb.size); have HB3 := Lib.hid hb; clear hb)
    | (go_at_call 15; (with_reducible refine (tick_nil _).mono ?_); rintro e w' ⟨hb, rfl⟩; obtain ⟨hc4, hf4⟩ := bcell hb; have hz4 : w.heap.size + 1 < w'.heap.size := (by first | exact below_lt2 hb | exact Nat.lt_of_lt_of_le (by assumption) hb.size); have HB4 := Lib.hid hb; clear hb)
    | (go_at_call 17; (with_reducible refine (crash_nil _).mono ?_); rintro e w' ⟨hb, rfl⟩; obtain ⟨hc5, hf5⟩ := bcell hb; have hz5 : w.heap.size + 1 < w'.heap.size := (by first | exact below_lt2 hb | exact Nat.lt_of_lt_of_le (by assumption) hb.size); have HB5 := Lib.hid hb; clear hb)
    | (go_at_call 16; (with_reducible refine (running_nil _).mono ?_); rintro e w' ⟨hb, rfl⟩; obtain ⟨hc6, hf6⟩ := bcell hb; have hz6 : w.heap.size + 1 < w'.heap.size := (by first | exact below_lt2 hb | exact Nat.lt_of_lt_of_le (by assumption) hb.size); have HB6 := Lib.hid hb; clear hb)
    | (go_at_call 19; (with_reducible refine (waiting_nil _ _).mono ?_); rintro e w' ⟨hb, rfl⟩; obtain ⟨hc7, hf7⟩ := bcell hb; have hz7 : w.heap.size + 1 < w'.heap.size := (by first | exact below_lt2 hb | exact Nat.lt_of_lt_of_le (by assumption) hb.size); have HB7 := Lib.hid hb; clear hb)
    | (go_at_call 21; (with_reducible refine (epoch_nil _).mono ?_); rintro e w' ⟨hb, rfl⟩; obtain ⟨hc8, hf8⟩ := bcell hb; have hz8 : w.heap.size + 1 < w'.heap.size := (by first | exact below_lt2 hb | exact Nat.lt_of_lt_of_le (by assumption) hb.size); have HB8 := Lib.hid hb; clear hb)
    | (go_at_call 32; (with_reducible refine (colds_nil _).mono ?_); rintro e w' ⟨hb, rfl⟩; obtain ⟨hc9, hf9⟩ := bcell hb; have hz9 : w.heap.size + 1 < w'.heap.size := (by first | exact below_lt2 hb | exact Nat.lt_of_lt_of_le (by assumption) hb.size); have HB9 := Lib.hid hb; clear hb)
    | (go_at_call 9; (with_reducible refine (AwakeOK.go HA.out (below_then (below_then (below_then (below_then (below_then (below_then (below_then (below_then (below_then (below_then (below_alloc (below_alloc (below_refl _) _) _) HB0.out) HB1.out) HB2.out) HB3.out) HB4.out) HB5.out) HB6.out) HB7.out) HB8.out) HB9.out)).mono ?_); rintro e w' ⟨hb, rfl⟩; obtain ⟨hc10, hf10⟩ := bcell hb; have hz10 : w.heap.size + 1 < w'.heap.size := (by first | exact below_lt2 hb | exact Nat.lt_of_lt_of_le (by assumption) hb.size); have HB10 := Lib.hid hb; clear hb))
  go_ret
  exact ⟨below_then (below_then (below_then (below_then (below_then (below_then (below_then (below_then (below_then (below_then (below_then (below_alloc (below_alloc (below_refl _) _) _) HB0.out) HB1.out) HB2.out) HB3.out) HB4.out) HB5.out) HB6.out) HB7.out) HB8.out) HB9.out) HB10.out, rfl⟩
set_option maxRecDepth 100000 in
set_option maxHeartbeats 4000000 in
theorem news_bad (s : ByteArray) (ws : Value) (a b c d e f g h q r p : Int) (a0 a1 a2 a3 a4 : ByteArray) (a5 : Int) (a6 : ByteArray) (a7 : Value) (a8 : ByteArray) (a9 a10 : Int) (a11 : ByteArray) (w : World)
    (hs : s.size ≤ maxLen) (hn : NameP s) (hp : ¬ SetP a b c d e f g h q r) (haw : AwakeOK w) :
    Calls Tryz.prog 8 #[.string s, setupV ws a b c d e f g h q r p, invV a0 a1 a2 a3 a4 a5 a6 a7 a8 a9 a10 a11] w (ValEnd (.bool true) w) := by
  have HS := Lib.hid hs
  have HA := Lib.hid haw
  clear hs haw
  have HN := Lib.hid hn
  clear hn
  have HP := Lib.hid hp
  clear hp
  go_enter Tryz.func8, Tryz.ntmps8
  go_wp2_with (first
    | (go_at_call 10; (with_reducible refine (new_bad _ _ _ _ _ _ _ _ _ _ _ _ _ _ HN.out HP.out).mono ?_); rintro e w' ⟨hb, rfl⟩; obtain ⟨hc0, hf0⟩ := bcell hb; have hz0 : w.heap.size + 1 < w'.heap.size := (by first | exact below_lt2 hb | exact Nat.lt_of_lt_of_le (by assumption) hb.size); have HB0 := Lib.hid hb; clear hb)
    | (go_at_call 22; (with_reducible refine (rnew_bad _ _ _ _ _ _ _ _ _ _ _ _ _ _ HS.out HN.out HP.out).mono ?_); rintro e w' ⟨hb, rfl⟩; obtain ⟨hc1, hf1⟩ := bcell hb; have hz1 : w.heap.size + 1 < w'.heap.size := (by first | exact below_lt2 hb | exact Nat.lt_of_lt_of_le (by assumption) hb.size); have HB1 := Lib.hid hb; clear hb)
    | (go_at_call 13; (with_reducible refine (configure_nil _).mono ?_); rintro e w' ⟨hb, rfl⟩; obtain ⟨hc2, hf2⟩ := bcell hb; have hz2 : w.heap.size + 1 < w'.heap.size := (by first | exact below_lt2 hb | exact Nat.lt_of_lt_of_le (by assumption) hb.size); have HB2 := Lib.hid hb; clear hb)
    | (go_at_call 14; (with_reducible refine (offer_nil _ _ _ _ _ _ _ _ _ _ _ _ _).mono ?_); rintro e w' ⟨hb, rfl⟩; obtain ⟨hc3, hf3⟩ := bcell hb; have hz3 : w.heap.size + 1 < w'.heap.size := (by first | exact below_lt2 hb | exact Nat.lt_of_lt_of_le (by assumption) hb.size); have HB3 := Lib.hid hb; clear hb)
    | (go_at_call 15; (with_reducible refine (tick_nil _).mono ?_); rintro e w' ⟨hb, rfl⟩; obtain ⟨hc4, hf4⟩ := bcell hb; have hz4 : w.heap.size + 1 < w'.heap.size := (by first | exact below_lt2 hb | exact Nat.lt_of_lt_of_le (by assumption) hb.size); have HB4 := Lib.hid hb; clear hb)
    | (go_at_call 17; (with_reducible refine (crash_nil _).mono ?_); rintro e w' ⟨hb, rfl⟩; obtain ⟨hc5, hf5⟩ := bcell hb; have hz5 : w.heap.size + 1 < w'.heap.size := (by first | exact below_lt2 hb | exact Nat.lt_of_lt_of_le (by assumption) hb.size); have HB5 := Lib.hid hb; clear hb)
    | (go_at_call 16; (with_reducible refine (running_nil _).mono ?_); rintro e w' ⟨hb, rfl⟩; obtain ⟨hc6, hf6⟩ := bcell hb; have hz6 : w.heap.size + 1 < w'.heap.size := (by first | exact below_lt2 hb | exact Nat.lt_of_lt_of_le (by assumption) hb.size); have HB6 := Lib.hid hb; clear hb)
    | (go_at_call 19; (with_reducible refine (waiting_nil _ _).mono ?_); rintro e w' ⟨hb, rfl⟩; obtain ⟨hc7, hf7⟩ := bcell hb; have hz7 : w.heap.size + 1 < w'.heap.size := (by first | exact below_lt2 hb | exact Nat.lt_of_lt_of_le (by assumption) hb.size); have HB7 := Lib.hid hb; clear hb)
    | (go_at_call 21; (with_reducible refine (epoch_nil _).mono ?_); rintro e w' ⟨hb, rfl⟩; obtain ⟨hc8, hf8⟩ := bcell hb; have hz8 : w.heap.size + 1 < w'.heap.size := (by first | exact below_lt2 hb | exact Nat.lt_of_lt_of_le (by assumption) hb.size); have HB8 := Lib.hid hb; clear hb)
    | (go_at_call 32; (with_reducible refine (colds_nil _).mono ?_); rintro e w' ⟨hb, rfl⟩; obtain ⟨hc9, hf9⟩ := bcell hb; have hz9 : w.heap.size + 1 < w'.heap.size := (by first | exact below_lt2 hb | exact Nat.lt_of_lt_of_le (by assumption) hb.size); have HB9 := Lib.hid hb; clear hb)
    | (go_at_call 9; (with_reducible refine (AwakeOK.go HA.out (below_then (below_then (below_then (below_then (below_then (below_then (below_then (below_then (below_then (below_then (below_alloc (below_alloc (below_refl _) _) _) HB0.out) HB1.out) HB2.out) HB3.out) HB4.out) HB5.out) HB6.out) HB7.out) HB8.out) HB9.out)).mono ?_); rintro e w' ⟨hb, rfl⟩; obtain ⟨hc10, hf10⟩ := bcell hb; have hz10 : w.heap.size + 1 < w'.heap.size := (by first | exact below_lt2 hb | exact Nat.lt_of_lt_of_le (by assumption) hb.size); have HB10 := Lib.hid hb; clear hb))
  go_ret
  exact ⟨below_then (below_then (below_then (below_then (below_then (below_then (below_then (below_then (below_then (below_then (below_then (below_alloc (below_alloc (below_refl _) _) _) HB0.out) HB1.out) HB2.out) HB3.out) HB4.out) HB5.out) HB6.out) HB7.out) HB8.out) HB9.out) HB10.out, rfl⟩
set_option maxRecDepth 100000 in
set_option maxHeartbeats 4000000 in
theorem news_good (s : ByteArray) (ws : Value) (a b c d e f g h q r p : Int) (a0 a1 a2 a3 a4 : ByteArray) (a5 : Int) (a6 : ByteArray) (a7 : Value) (a8 : ByteArray) (a9 a10 : Int) (a11 : ByteArray) (w : World)
    (hs : s.size ≤ maxLen) (hn : NameP s) (hp : SetP a b c d e f g h q r) (haw : AwakeOK w) :
    Calls Tryz.prog 8 #[.string s, setupV ws a b c d e f g h q r p, invV a0 a1 a2 a3 a4 a5 a6 a7 a8 a9 a10 a11] w (ValEnd (.bool true) w) := by
  have HS := Lib.hid hs
  have HA := Lib.hid haw
  clear hs haw
  have HN := Lib.hid hn
  clear hn
  have HP := Lib.hid hp
  clear hp
  go_enter Tryz.func8, Tryz.ntmps8
  go_wp2_with (first
    | (go_at_call 10; (with_reducible refine (new_good _ _ _ _ _ _ _ _ _ _ _ _ _ _ HN.out HP.out).mono ?_); rintro e w' ⟨hb, p0, rfl⟩; obtain ⟨hc0, hf0⟩ := bcell hb; have hz0 : w.heap.size + 1 < w'.heap.size := (by first | exact below_lt2 hb | exact Nat.lt_of_lt_of_le (by assumption) hb.size); have HB0 := Lib.hid hb; clear hb)
    | (go_at_call 22; (with_reducible refine (rnew_good _ _ _ _ _ _ _ _ _ _ _ _ _ _ HS.out HN.out HP.out).mono ?_); rintro e w' ⟨hb, p1, rfl⟩; obtain ⟨hc1, hf1⟩ := bcell hb; have hz1 : w.heap.size + 1 < w'.heap.size := (by first | exact below_lt2 hb | exact Nat.lt_of_lt_of_le (by assumption) hb.size); have HB1 := Lib.hid hb; clear hb)
    | (go_at_call 13; (with_reducible refine (configure_nil _).mono ?_); rintro e w' ⟨hb, rfl⟩; obtain ⟨hc2, hf2⟩ := bcell hb; have hz2 : w.heap.size + 1 < w'.heap.size := (by first | exact below_lt2 hb | exact Nat.lt_of_lt_of_le (by assumption) hb.size); have HB2 := Lib.hid hb; clear hb)
    | (go_at_call 14; (with_reducible refine (offer_nil _ _ _ _ _ _ _ _ _ _ _ _ _).mono ?_); rintro e w' ⟨hb, rfl⟩; obtain ⟨hc3, hf3⟩ := bcell hb; have hz3 : w.heap.size + 1 < w'.heap.size := (by first | exact below_lt2 hb | exact Nat.lt_of_lt_of_le (by assumption) hb.size); have HB3 := Lib.hid hb; clear hb)
    | (go_at_call 15; (with_reducible refine (tick_nil _).mono ?_); rintro e w' ⟨hb, rfl⟩; obtain ⟨hc4, hf4⟩ := bcell hb; have hz4 : w.heap.size + 1 < w'.heap.size := (by first | exact below_lt2 hb | exact Nat.lt_of_lt_of_le (by assumption) hb.size); have HB4 := Lib.hid hb; clear hb)
    | (go_at_call 17; (with_reducible refine (crash_nil _).mono ?_); rintro e w' ⟨hb, rfl⟩; obtain ⟨hc5, hf5⟩ := bcell hb; have hz5 : w.heap.size + 1 < w'.heap.size := (by first | exact below_lt2 hb | exact Nat.lt_of_lt_of_le (by assumption) hb.size); have HB5 := Lib.hid hb; clear hb)
    | (go_at_call 16; (with_reducible refine (running_nil _).mono ?_); rintro e w' ⟨hb, rfl⟩; obtain ⟨hc6, hf6⟩ := bcell hb; have hz6 : w.heap.size + 1 < w'.heap.size := (by first | exact below_lt2 hb | exact Nat.lt_of_lt_of_le (by assumption) hb.size); have HB6 := Lib.hid hb; clear hb)
    | (go_at_call 19; (with_reducible refine (waiting_nil _ _).mono ?_); rintro e w' ⟨hb, rfl⟩; obtain ⟨hc7, hf7⟩ := bcell hb; have hz7 : w.heap.size + 1 < w'.heap.size := (by first | exact below_lt2 hb | exact Nat.lt_of_lt_of_le (by assumption) hb.size); have HB7 := Lib.hid hb; clear hb)
    | (go_at_call 21; (with_reducible refine (epoch_nil _).mono ?_); rintro e w' ⟨hb, rfl⟩; obtain ⟨hc8, hf8⟩ := bcell hb; have hz8 : w.heap.size + 1 < w'.heap.size := (by first | exact below_lt2 hb | exact Nat.lt_of_lt_of_le (by assumption) hb.size); have HB8 := Lib.hid hb; clear hb)
    | (go_at_call 32; (with_reducible refine (colds_nil _).mono ?_); rintro e w' ⟨hb, rfl⟩; obtain ⟨hc9, hf9⟩ := bcell hb; have hz9 : w.heap.size + 1 < w'.heap.size := (by first | exact below_lt2 hb | exact Nat.lt_of_lt_of_le (by assumption) hb.size); have HB9 := Lib.hid hb; clear hb)
    | (go_at_call 9; (with_reducible refine (AwakeOK.go HA.out (below_then (below_then (below_then (below_then (below_then (below_then (below_then (below_then (below_then (below_then (below_alloc (below_alloc (below_refl _) _) _) HB0.out) HB1.out) HB2.out) HB3.out) HB4.out) HB5.out) HB6.out) HB7.out) HB8.out) HB9.out)).mono ?_); rintro e w' ⟨hb, rfl⟩; obtain ⟨hc10, hf10⟩ := bcell hb; have hz10 : w.heap.size + 1 < w'.heap.size := (by first | exact below_lt2 hb | exact Nat.lt_of_lt_of_le (by assumption) hb.size); have HB10 := Lib.hid hb; clear hb))
  go_ret
  exact ⟨below_then (below_then (below_then (below_then (below_then (below_then (below_then (below_then (below_then (below_then (below_then (below_alloc (below_alloc (below_refl _) _) _) HB0.out) HB1.out) HB2.out) HB3.out) HB4.out) HB5.out) HB6.out) HB7.out) HB8.out) HB9.out) HB10.out, rfl⟩
end Go.Proofs.YtfmhagjbhableaaGreatDoor
