/-
  The walk of WorkerNews, a part.
-/
import Derived.Test.YtfmhagjbhableaaGreatDoorW3
set_option linter.unusedVariables false
namespace Go.Proofs.YtfmhagjbhableaaGreatDoor
open Go.RowKit
/-! ### New -/
theorem below_lt {w w1 : World} {o : Obj} (h : Below (w.alloc o).heap.size (w.alloc o) w1) : w.heap.size < w1.heap.size := by
  have := h.size
  simp at this
  omega
def OkEnd (w : World) (e : Ending) (w' : World) : Prop := Below w.heap.size w w' ∧ ∃ a, e = .returned (.tuple #[.pointer (some a), .int .i64 0])
def NoEnd (k : Int) (w : World) (e : Ending) (w' : World) : Prop := Below w.heap.size w w' ∧ e = .returned (.tuple #[.pointer none, .int .i64 k])
def IntEnd (k : Int) (w : World) (e : Ending) (w' : World) : Prop := Below w.heap.size w w' ∧ e = .returned (.int .i64 k)
theorem NewEnd.yes {P : Prop} {k : Int} {w w' : World} {e : Ending} (h : P) (g : NewEnd P k w e w') : OkEnd w e w' := by
  rcases g with ⟨a, ⟨_, b⟩ | ⟨n, _⟩⟩
  · exact ⟨a, b⟩
  · exact absurd h n
theorem NewEnd.no {P : Prop} {k : Int} {w w' : World} {e : Ending} (h : ¬ P) (g : NewEnd P k w e w') : NoEnd k w e w' := by
  rcases g with ⟨a, ⟨n, _⟩ | ⟨_, b⟩⟩
  · exact absurd n h
  · exact ⟨a, b⟩
theorem ChkEnd.yes {P : Prop} {k : Int} {w w' : World} {e : Ending} (h : P) (g : ChkEnd P k w e w') : IntEnd 0 w e w' := by
  rcases g with ⟨a, ⟨_, b⟩ | ⟨n, _⟩⟩
  · exact ⟨a, b⟩
  · exact absurd h n
theorem ChkEnd.no {P : Prop} {k : Int} {w w' : World} {e : Ending} (h : ¬ P) (g : ChkEnd P k w e w') : IntEnd k w e w' := by
  rcases g with ⟨a, ⟨n, _⟩ | ⟨_, b⟩⟩
  · exact absurd n h
  · exact ⟨a, b⟩
theorem name_t (s : ByteArray) (w : World) (h : NameP s) : Calls Tryz.prog 34 #[.string s] w fun e w' => e = .returned (.bool true) ∧ Below w.heap.size w w' := by
  have := name_b s w; rw [nameB_true h] at this; exact this
theorem name_f (s : ByteArray) (w : World) (h : ¬ NameP s) : Calls Tryz.prog 34 #[.string s] w fun e w' => e = .returned (.bool false) ∧ Below w.heap.size w w' := by
  have := name_b s w; rw [nameB_false h] at this; exact this
theorem rname_t (s : ByteArray) (w : World) (hs : s.size ≤ maxLen) (h : NameP s) : Calls Tryz.prog 58 #[.string s] w fun e w' => e = .returned (.bool true) ∧ w' = w := by
  have := rname_any s w hs; rw [nameB_true h] at this; exact this
theorem rname_f (s : ByteArray) (w : World) (hs : s.size ≤ maxLen) (h : ¬ NameP s) : Calls Tryz.prog 58 #[.string s] w fun e w' => e = .returned (.bool false) ∧ w' = w := by
  have := rname_any s w hs; rw [nameB_false h] at this; exact this
theorem pool_new_t (s : ByteArray) (a b c d : Int) (w : World) (hn : NameP s) (h : PolP a b c d) : Calls Tryz.prog 35 #[.string s, .agg #[.int .i64 a, .int .i64 b, .int .i64 c, .int .i64 d]] w (OkEnd w) := (pool_new s a b c d w hn).mono fun _ _ g => g.yes h
theorem pool_new_f (s : ByteArray) (a b c d : Int) (w : World) (hn : NameP s) (h : ¬ PolP a b c d) : Calls Tryz.prog 35 #[.string s, .agg #[.int .i64 a, .int .i64 b, .int .i64 c, .int .i64 d]] w (NoEnd 2 w) := (pool_new s a b c d w hn).mono fun _ _ g => g.no h
theorem rpool_new_t (s : ByteArray) (a b c d : Int) (w : World) (hn : NameP s) (h : PolP a b c d) : Calls Tryz.prog 59 #[.string s, .agg #[.int .i64 a, .int .i64 b, .int .i64 c, .int .i64 d]] w (OkEnd w) := (rpool_new s a b c d w hn).mono fun _ _ g => g.yes h
theorem rpool_new_f (s : ByteArray) (a b c d : Int) (w : World) (hn : NameP s) (h : ¬ PolP a b c d) : Calls Tryz.prog 59 #[.string s, .agg #[.int .i64 a, .int .i64 b, .int .i64 c, .int .i64 d]] w (NoEnd 2 w) := (rpool_new s a b c d w hn).mono fun _ _ g => g.no h
theorem meter_check_t (a b : Int) (w : World) (h : MetP a b) : Calls Tryz.prog 36 #[.agg #[.int .i64 a, .int .i64 b]] w (IntEnd 0 w) := (meter_check a b w).mono fun _ _ g => g.yes h
theorem meter_check_f (a b : Int) (w : World) (h : ¬ MetP a b) : Calls Tryz.prog 36 #[.agg #[.int .i64 a, .int .i64 b]] w (IntEnd 2 w) := (meter_check a b w).mono fun _ _ g => g.no h
theorem rmeter_check_t (a b : Int) (w : World) (h : MetP a b) : Calls Tryz.prog 60 #[.agg #[.int .i64 a, .int .i64 b]] w (IntEnd 0 w) := (rmeter_check a b w).mono fun _ _ g => g.yes h
theorem rmeter_check_f (a b : Int) (w : World) (h : ¬ MetP a b) : Calls Tryz.prog 60 #[.agg #[.int .i64 a, .int .i64 b]] w (IntEnd 2 w) := (rmeter_check a b w).mono fun _ _ g => g.no h
theorem fair_new_t (a : Int) (w : World) (h : FairP a) : Calls Tryz.prog 38 #[.int .i64 a] w (OkEnd w) := (fair_new a w).mono fun _ _ g => g.yes h
theorem fair_new_f (a : Int) (w : World) (h : ¬ FairP a) : Calls Tryz.prog 38 #[.int .i64 a] w (NoEnd 2 w) := (fair_new a w).mono fun _ _ g => g.no h
theorem rfair_new_t (a : Int) (w : World) (h : FairP a) : Calls Tryz.prog 61 #[.int .i64 a] w (OkEnd w) := (rfair_new a w).mono fun _ _ g => g.yes h
theorem rfair_new_f (a : Int) (w : World) (h : ¬ FairP a) : Calls Tryz.prog 61 #[.int .i64 a] w (NoEnd 2 w) := (rfair_new a w).mono fun _ _ g => g.no h
def LimP (g h : Int) : Prop := (1 ≤ g ∧ g ≤ 20000) ∧ (1 ≤ h ∧ h ≤ 4000)
/-- A setup is one. -/
def SetP (a b c d e f g h q r : Int) : Prop := PolP a b c d ∧ MetP e f ∧ LimP g h ∧ FairP q ∧ (1 ≤ r ∧ r ≤ 1000)
/-- A setup as a value. -/
abbrev setupV (ws : Value) (a b c d e f g h q r p : Int) : Value := .agg #[ws, .int .i64 a, .int .i64 b, .int .i64 c, .int .i64 d, .int .i64 e, .int .i64 f, .int .i64 g, .int .i64 h, .int .i64 q, .int .i64 r, .int .i64 p]
set_option maxRecDepth 100000 in
set_option maxHeartbeats 2000000 in
theorem rnew_noname (s : ByteArray) (ws : Value) (a b c d e f g h q r p : Int) (w : World) (hs : s.size ≤ maxLen) (hn : ¬ NameP s) :
    Calls Tryz.prog 22 #[.string s, setupV ws a b c d e f g h q r p] w (NoEnd 4 w) := by
  have HS := Lib.hid hs
  clear hs
  have HN := Lib.hid hn
  clear hn
  go_enter Tryz.func22, Tryz.ntmps22
  go_wp2_with (first
    | (go_at_call 58; (with_reducible refine (rname_f _ _ HS.out HN.out).mono ?_); rintro e w' ⟨rfl, rfl⟩))
  go_ret2
  exact ⟨(below_alloc (below_refl _) _), rfl⟩
set_option maxRecDepth 100000 in
set_option maxHeartbeats 2000000 in
theorem rnew_nopool (s : ByteArray) (ws : Value) (a b c d e f g h q r p : Int) (w : World) (hs : s.size ≤ maxLen) (hn : NameP s) (h1 : ¬ PolP a b c d) :
    Calls Tryz.prog 22 #[.string s, setupV ws a b c d e f g h q r p] w (NoEnd 2 w) := by
  have HS := Lib.hid hs
  clear hs
  have HN := Lib.hid hn
  clear hn
  have H1 := Lib.hid h1
  clear h1
  go_enter Tryz.func22, Tryz.ntmps22
  go_wp2_with (first
    | (go_at_call 58; (with_reducible refine (rname_t _ _ HS.out HN.out).mono ?_); rintro e w' ⟨rfl, rfl⟩)
    | (go_at_call 59; (with_reducible refine (rpool_new_f _ _ _ _ _ _ HN.out H1.out).mono ?_); rintro e w' ⟨hb, rfl⟩; obtain ⟨hc1, hf1⟩ := bcell hb; have hz1 : w.heap.size < w'.heap.size := (by first | exact below_lt hb | exact Nat.lt_of_lt_of_le (by assumption) hb.size); have HB1 := Lib.hid hb; clear hb))
  go_ret2
  exact ⟨(below_then (below_alloc (below_refl _) _) HB1.out), rfl⟩
set_option maxRecDepth 100000 in
set_option maxHeartbeats 2000000 in
theorem rnew_nometer (s : ByteArray) (ws : Value) (a b c d e f g h q r p : Int) (w : World) (hs : s.size ≤ maxLen) (hn : NameP s) (h1 : PolP a b c d) (h2 : ¬ MetP e f) :
    Calls Tryz.prog 22 #[.string s, setupV ws a b c d e f g h q r p] w (NoEnd 2 w) := by
  have HS := Lib.hid hs
  clear hs
  have HN := Lib.hid hn
  clear hn
  have H1 := Lib.hid h1
  clear h1
  have H2 := Lib.hid h2
  clear h2
  go_enter Tryz.func22, Tryz.ntmps22
  go_wp2_with (first
    | (go_at_call 58; (with_reducible refine (rname_t _ _ HS.out HN.out).mono ?_); rintro e w' ⟨rfl, rfl⟩)
    | (go_at_call 59; (with_reducible refine (rpool_new_t _ _ _ _ _ _ HN.out H1.out).mono ?_); rintro e w' ⟨hb, ⟨p1, rfl⟩⟩; obtain ⟨hc1, hf1⟩ := bcell hb; have hz1 : w.heap.size < w'.heap.size := (by first | exact below_lt hb | exact Nat.lt_of_lt_of_le (by assumption) hb.size); have HB1 := Lib.hid hb; clear hb)
    | (go_at_call 60; (with_reducible refine (rmeter_check_f _ _ _ H2.out).mono ?_); rintro e w' ⟨hb, rfl⟩; obtain ⟨hc2, hf2⟩ := bcell hb; have hz2 : w.heap.size < w'.heap.size := (by first | exact below_lt hb | exact Nat.lt_of_lt_of_le (by assumption) hb.size); have HB2 := Lib.hid hb; clear hb))
  go_ret2
  exact ⟨(below_then (below_then (below_alloc (below_refl _) _) HB1.out) HB2.out), rfl⟩
set_option maxRecDepth 100000 in
set_option maxHeartbeats 2000000 in
theorem rnew_nolim1 (s : ByteArray) (ws : Value) (a b c d e f g h q r p : Int) (w : World) (hs : s.size ≤ maxLen) (hn : NameP s) (h1 : PolP a b c d) (h2 : MetP e f) (h3 : g < 1) :
    Calls Tryz.prog 22 #[.string s, setupV ws a b c d e f g h q r p] w (NoEnd 2 w) := by
  have HS := Lib.hid hs
  clear hs
  have HN := Lib.hid hn
  clear hn
  have H1 := Lib.hid h1
  clear h1
  have H2 := Lib.hid h2
  clear h2
  go_enter Tryz.func22, Tryz.ntmps22
  go_wp2_with (first
    | (go_at_call 58; (with_reducible refine (rname_t _ _ HS.out HN.out).mono ?_); rintro e w' ⟨rfl, rfl⟩)
    | (go_at_call 59; (with_reducible refine (rpool_new_t _ _ _ _ _ _ HN.out H1.out).mono ?_); rintro e w' ⟨hb, ⟨p1, rfl⟩⟩; obtain ⟨hc1, hf1⟩ := bcell hb; have hz1 : w.heap.size < w'.heap.size := (by first | exact below_lt hb | exact Nat.lt_of_lt_of_le (by assumption) hb.size); have HB1 := Lib.hid hb; clear hb)
    | (go_at_call 60; (with_reducible refine (rmeter_check_t _ _ _ H2.out).mono ?_); rintro e w' ⟨hb, rfl⟩; obtain ⟨hc2, hf2⟩ := bcell hb; have hz2 : w.heap.size < w'.heap.size := (by first | exact below_lt hb | exact Nat.lt_of_lt_of_le (by assumption) hb.size); have HB2 := Lib.hid hb; clear hb))
  go_ret2
  exact ⟨(below_then (below_then (below_alloc (below_refl _) _) HB1.out) HB2.out), rfl⟩
set_option maxRecDepth 100000 in
set_option maxHeartbeats 2000000 in
theorem rnew_nolim2 (s : ByteArray) (ws : Value) (a b c d e f g h q r p : Int) (w : World) (hs : s.size ≤ maxLen) (hn : NameP s) (h1 : PolP a b c d) (h2 : MetP e f) (h3 : 20000 < g) :
    Calls Tryz.prog 22 #[.string s, setupV ws a b c d e f g h q r p] w (NoEnd 2 w) := by
  have HS := Lib.hid hs
  clear hs
  have HN := Lib.hid hn
  clear hn
  have H1 := Lib.hid h1
  clear h1
  have H2 := Lib.hid h2
  clear h2
  go_enter Tryz.func22, Tryz.ntmps22
  go_wp2_with (first
    | (go_at_call 58; (with_reducible refine (rname_t _ _ HS.out HN.out).mono ?_); rintro e w' ⟨rfl, rfl⟩)
    | (go_at_call 59; (with_reducible refine (rpool_new_t _ _ _ _ _ _ HN.out H1.out).mono ?_); rintro e w' ⟨hb, ⟨p1, rfl⟩⟩; obtain ⟨hc1, hf1⟩ := bcell hb; have hz1 : w.heap.size < w'.heap.size := (by first | exact below_lt hb | exact Nat.lt_of_lt_of_le (by assumption) hb.size); have HB1 := Lib.hid hb; clear hb)
    | (go_at_call 60; (with_reducible refine (rmeter_check_t _ _ _ H2.out).mono ?_); rintro e w' ⟨hb, rfl⟩; obtain ⟨hc2, hf2⟩ := bcell hb; have hz2 : w.heap.size < w'.heap.size := (by first | exact below_lt hb | exact Nat.lt_of_lt_of_le (by assumption) hb.size); have HB2 := Lib.hid hb; clear hb))
  go_ret2
  exact ⟨(below_then (below_then (below_alloc (below_refl _) _) HB1.out) HB2.out), rfl⟩
set_option maxRecDepth 100000 in
set_option maxHeartbeats 2000000 in
theorem rnew_nolim3 (s : ByteArray) (ws : Value) (a b c d e f g h q r p : Int) (w : World) (hs : s.size ≤ maxLen) (hn : NameP s) (h1 : PolP a b c d) (h2 : MetP e f) (h3 : 1 ≤ g) (h3' : g ≤ 20000) (h3'' : h < 1) :
    Calls Tryz.prog 22 #[.string s, setupV ws a b c d e f g h q r p] w (NoEnd 2 w) := by
  have HS := Lib.hid hs
  clear hs
  have HN := Lib.hid hn
  clear hn
  have H1 := Lib.hid h1
  clear h1
  have H2 := Lib.hid h2
  clear h2
  go_enter Tryz.func22, Tryz.ntmps22
  go_wp2_with (first
    | (go_at_call 58; (with_reducible refine (rname_t _ _ HS.out HN.out).mono ?_); rintro e w' ⟨rfl, rfl⟩)
    | (go_at_call 59; (with_reducible refine (rpool_new_t _ _ _ _ _ _ HN.out H1.out).mono ?_); rintro e w' ⟨hb, ⟨p1, rfl⟩⟩; obtain ⟨hc1, hf1⟩ := bcell hb; have hz1 : w.heap.size < w'.heap.size := (by first | exact below_lt hb | exact Nat.lt_of_lt_of_le (by assumption) hb.size); have HB1 := Lib.hid hb; clear hb)
    | (go_at_call 60; (with_reducible refine (rmeter_check_t _ _ _ H2.out).mono ?_); rintro e w' ⟨hb, rfl⟩; obtain ⟨hc2, hf2⟩ := bcell hb; have hz2 : w.heap.size < w'.heap.size := (by first | exact below_lt hb | exact Nat.lt_of_lt_of_le (by assumption) hb.size); have HB2 := Lib.hid hb; clear hb))
  go_ret2
  exact ⟨(below_then (below_then (below_alloc (below_refl _) _) HB1.out) HB2.out), rfl⟩
set_option maxRecDepth 100000 in
set_option maxHeartbeats 2000000 in
theorem rnew_nolim4 (s : ByteArray) (ws : Value) (a b c d e f g h q r p : Int) (w : World) (hs : s.size ≤ maxLen) (hn : NameP s) (h1 : PolP a b c d) (h2 : MetP e f) (h3 : 1 ≤ g) (h3' : g ≤ 20000) (h3'' : 4000 < h) :
    Calls Tryz.prog 22 #[.string s, setupV ws a b c d e f g h q r p] w (NoEnd 2 w) := by
  have HS := Lib.hid hs
  clear hs
  have HN := Lib.hid hn
  clear hn
  have H1 := Lib.hid h1
  clear h1
  have H2 := Lib.hid h2
  clear h2
  go_enter Tryz.func22, Tryz.ntmps22
  go_wp2_with (first
    | (go_at_call 58; (with_reducible refine (rname_t _ _ HS.out HN.out).mono ?_); rintro e w' ⟨rfl, rfl⟩)
    | (go_at_call 59; (with_reducible refine (rpool_new_t _ _ _ _ _ _ HN.out H1.out).mono ?_); rintro e w' ⟨hb, ⟨p1, rfl⟩⟩; obtain ⟨hc1, hf1⟩ := bcell hb; have hz1 : w.heap.size < w'.heap.size := (by first | exact below_lt hb | exact Nat.lt_of_lt_of_le (by assumption) hb.size); have HB1 := Lib.hid hb; clear hb)
    | (go_at_call 60; (with_reducible refine (rmeter_check_t _ _ _ H2.out).mono ?_); rintro e w' ⟨hb, rfl⟩; obtain ⟨hc2, hf2⟩ := bcell hb; have hz2 : w.heap.size < w'.heap.size := (by first | exact below_lt hb | exact Nat.lt_of_lt_of_le (by assumption) hb.size); have HB2 := Lib.hid hb; clear hb))
  go_ret2
  exact ⟨(below_then (below_then (below_alloc (below_refl _) _) HB1.out) HB2.out), rfl⟩
set_option maxRecDepth 100000 in
set_option maxHeartbeats 2000000 in
theorem rnew_nofair (s : ByteArray) (ws : Value) (a b c d e f g h q r p : Int) (w : World) (hs : s.size ≤ maxLen) (hn : NameP s) (h1 : PolP a b c d) (h2 : MetP e f) (h3 : 1 ≤ g) (h3' : g ≤ 20000) (h3a : 1 ≤ h) (h3b : h ≤ 4000) (h4 : ¬ FairP q) :
    Calls Tryz.prog 22 #[.string s, setupV ws a b c d e f g h q r p] w (NoEnd 2 w) := by
  have HS := Lib.hid hs
  clear hs
  have HN := Lib.hid hn
  clear hn
  have H1 := Lib.hid h1
  clear h1
  have H2 := Lib.hid h2
  clear h2
  have H4 := Lib.hid h4
  clear h4
  go_enter Tryz.func22, Tryz.ntmps22
  go_wp2_with (first
    | (go_at_call 58; (with_reducible refine (rname_t _ _ HS.out HN.out).mono ?_); rintro e w' ⟨rfl, rfl⟩)
    | (go_at_call 59; (with_reducible refine (rpool_new_t _ _ _ _ _ _ HN.out H1.out).mono ?_); rintro e w' ⟨hb, ⟨p1, rfl⟩⟩; obtain ⟨hc1, hf1⟩ := bcell hb; have hz1 : w.heap.size < w'.heap.size := (by first | exact below_lt hb | exact Nat.lt_of_lt_of_le (by assumption) hb.size); have HB1 := Lib.hid hb; clear hb)
    | (go_at_call 60; (with_reducible refine (rmeter_check_t _ _ _ H2.out).mono ?_); rintro e w' ⟨hb, rfl⟩; obtain ⟨hc2, hf2⟩ := bcell hb; have hz2 : w.heap.size < w'.heap.size := (by first | exact below_lt hb | exact Nat.lt_of_lt_of_le (by assumption) hb.size); have HB2 := Lib.hid hb; clear hb)
    | (go_at_call 61; (with_reducible refine (rfair_new_f _ _ H4.out).mono ?_); rintro e w' ⟨hb, rfl⟩; obtain ⟨hc4, hf4⟩ := bcell hb; have hz4 : w.heap.size < w'.heap.size := (by first | exact below_lt hb | exact Nat.lt_of_lt_of_le (by assumption) hb.size); have HB4 := Lib.hid hb; clear hb))
  go_ret2
  exact ⟨(below_then (below_then (below_then (below_alloc (below_refl _) _) HB1.out) HB2.out) HB4.out), rfl⟩
set_option maxRecDepth 100000 in
set_option maxHeartbeats 2000000 in
theorem rnew_noroom1 (s : ByteArray) (ws : Value) (a b c d e f g h q r p : Int) (w : World) (hs : s.size ≤ maxLen) (hn : NameP s) (h1 : PolP a b c d) (h2 : MetP e f) (h3 : 1 ≤ g) (h3' : g ≤ 20000) (h3a : 1 ≤ h) (h3b : h ≤ 4000) (h4 : FairP q) (h5 : r < 1) :
    Calls Tryz.prog 22 #[.string s, setupV ws a b c d e f g h q r p] w (NoEnd 2 w) := by
  have HS := Lib.hid hs
  clear hs
  have HN := Lib.hid hn
  clear hn
  have H1 := Lib.hid h1
  clear h1
  have H2 := Lib.hid h2
  clear h2
  have H4 := Lib.hid h4
  clear h4
  go_enter Tryz.func22, Tryz.ntmps22
  go_wp2_with (first
    | (go_at_call 58; (with_reducible refine (rname_t _ _ HS.out HN.out).mono ?_); rintro e w' ⟨rfl, rfl⟩)
    | (go_at_call 59; (with_reducible refine (rpool_new_t _ _ _ _ _ _ HN.out H1.out).mono ?_); rintro e w' ⟨hb, ⟨p1, rfl⟩⟩; obtain ⟨hc1, hf1⟩ := bcell hb; have hz1 : w.heap.size < w'.heap.size := (by first | exact below_lt hb | exact Nat.lt_of_lt_of_le (by assumption) hb.size); have HB1 := Lib.hid hb; clear hb)
    | (go_at_call 60; (with_reducible refine (rmeter_check_t _ _ _ H2.out).mono ?_); rintro e w' ⟨hb, rfl⟩; obtain ⟨hc2, hf2⟩ := bcell hb; have hz2 : w.heap.size < w'.heap.size := (by first | exact below_lt hb | exact Nat.lt_of_lt_of_le (by assumption) hb.size); have HB2 := Lib.hid hb; clear hb)
    | (go_at_call 61; (with_reducible refine (rfair_new_t _ _ H4.out).mono ?_); rintro e w' ⟨hb, ⟨p4, rfl⟩⟩; obtain ⟨hc4, hf4⟩ := bcell hb; have hz4 : w.heap.size < w'.heap.size := (by first | exact below_lt hb | exact Nat.lt_of_lt_of_le (by assumption) hb.size); have HB4 := Lib.hid hb; clear hb))
  go_ret2
  exact ⟨(below_then (below_then (below_then (below_alloc (below_refl _) _) HB1.out) HB2.out) HB4.out), rfl⟩
set_option maxRecDepth 100000 in
set_option maxHeartbeats 2000000 in
theorem rnew_noroom2 (s : ByteArray) (ws : Value) (a b c d e f g h q r p : Int) (w : World) (hs : s.size ≤ maxLen) (hn : NameP s) (h1 : PolP a b c d) (h2 : MetP e f) (h3 : 1 ≤ g) (h3' : g ≤ 20000) (h3a : 1 ≤ h) (h3b : h ≤ 4000) (h4 : FairP q) (h5 : 1000 < r) :
    Calls Tryz.prog 22 #[.string s, setupV ws a b c d e f g h q r p] w (NoEnd 2 w) := by
  have HS := Lib.hid hs
  clear hs
  have HN := Lib.hid hn
  clear hn
  have H1 := Lib.hid h1
  clear h1
  have H2 := Lib.hid h2
  clear h2
  have H4 := Lib.hid h4
  clear h4
  go_enter Tryz.func22, Tryz.ntmps22
  go_wp2_with (first
    | (go_at_call 58; (with_reducible refine (rname_t _ _ HS.out HN.out).mono ?_); rintro e w' ⟨rfl, rfl⟩)
    | (go_at_call 59; (with_reducible refine (rpool_new_t _ _ _ _ _ _ HN.out H1.out).mono ?_); rintro e w' ⟨hb, ⟨p1, rfl⟩⟩; obtain ⟨hc1, hf1⟩ := bcell hb; have hz1 : w.heap.size < w'.heap.size := (by first | exact below_lt hb | exact Nat.lt_of_lt_of_le (by assumption) hb.size); have HB1 := Lib.hid hb; clear hb)
    | (go_at_call 60; (with_reducible refine (rmeter_check_t _ _ _ H2.out).mono ?_); rintro e w' ⟨hb, rfl⟩; obtain ⟨hc2, hf2⟩ := bcell hb; have hz2 : w.heap.size < w'.heap.size := (by first | exact below_lt hb | exact Nat.lt_of_lt_of_le (by assumption) hb.size); have HB2 := Lib.hid hb; clear hb)
    | (go_at_call 61; (with_reducible refine (rfair_new_t _ _ H4.out).mono ?_); rintro e w' ⟨hb, ⟨p4, rfl⟩⟩; obtain ⟨hc4, hf4⟩ := bcell hb; have hz4 : w.heap.size < w'.heap.size := (by first | exact below_lt hb | exact Nat.lt_of_lt_of_le (by assumption) hb.size); have HB4 := Lib.hid hb; clear hb))
  go_ret2
  exact ⟨(below_then (below_then (below_then (below_alloc (below_refl _) _) HB1.out) HB2.out) HB4.out), rfl⟩
set_option maxRecDepth 100000 in
set_option maxHeartbeats 2000000 in
theorem rnew_ok (s : ByteArray) (ws : Value) (a b c d e f g h q r p : Int) (w : World) (hs : s.size ≤ maxLen) (hn : NameP s) (h1 : PolP a b c d) (h2 : MetP e f) (h3 : 1 ≤ g) (h3' : g ≤ 20000) (h3a : 1 ≤ h) (h3b : h ≤ 4000) (h4 : FairP q) (h5 : 1 ≤ r) (h5a : r ≤ 1000) :
    Calls Tryz.prog 22 #[.string s, setupV ws a b c d e f g h q r p] w (OkEnd w) := by
  have HS := Lib.hid hs
  clear hs
  have HN := Lib.hid hn
  clear hn
  have H1 := Lib.hid h1
  clear h1
  have H2 := Lib.hid h2
  clear h2
  have H4 := Lib.hid h4
  clear h4
  go_enter Tryz.func22, Tryz.ntmps22
  go_wp2_with (first
    | (go_at_call 58; (with_reducible refine (rname_t _ _ HS.out HN.out).mono ?_); rintro e w' ⟨rfl, rfl⟩)
    | (go_at_call 59; (with_reducible refine (rpool_new_t _ _ _ _ _ _ HN.out H1.out).mono ?_); rintro e w' ⟨hb, ⟨p1, rfl⟩⟩; obtain ⟨hc1, hf1⟩ := bcell hb; have hz1 : w.heap.size < w'.heap.size := (by first | exact below_lt hb | exact Nat.lt_of_lt_of_le (by assumption) hb.size); have HB1 := Lib.hid hb; clear hb)
    | (go_at_call 60; (with_reducible refine (rmeter_check_t _ _ _ H2.out).mono ?_); rintro e w' ⟨hb, rfl⟩; obtain ⟨hc2, hf2⟩ := bcell hb; have hz2 : w.heap.size < w'.heap.size := (by first | exact below_lt hb | exact Nat.lt_of_lt_of_le (by assumption) hb.size); have HB2 := Lib.hid hb; clear hb)
    | (go_at_call 61; (with_reducible refine (rfair_new_t _ _ H4.out).mono ?_); rintro e w' ⟨hb, ⟨p4, rfl⟩⟩; obtain ⟨hc4, hf4⟩ := bcell hb; have hz4 : w.heap.size < w'.heap.size := (by first | exact below_lt hb | exact Nat.lt_of_lt_of_le (by assumption) hb.size); have HB4 := Lib.hid hb; clear hb))
  go_ret2
  exact ⟨below_alloc (below_then (below_then (below_then (below_alloc (below_refl _) _) HB1.out) HB2.out) HB4.out) _, _, rfl⟩
set_option maxRecDepth 100000 in
set_option maxHeartbeats 2000000 in
theorem new_noname (s : ByteArray) (ws : Value) (a b c d e f g h q r p : Int) (w : World) (hn : ¬ NameP s) :
    Calls Tryz.prog 10 #[.string s, setupV ws a b c d e f g h q r p] w (NoEnd 4 w) := by
  have HN := Lib.hid hn
  clear hn
  go_enter Tryz.func10, Tryz.ntmps10
  go_wp2_with (first
    | (go_at_call 34; (with_reducible refine (name_f _ _ HN.out).mono ?_); rintro e w' ⟨rfl, hb⟩; obtain ⟨hc0, hf0⟩ := bcell hb; have hz0 : w.heap.size < w'.heap.size := (by first | exact below_lt hb | exact Nat.lt_of_lt_of_le (by assumption) hb.size); have HB0 := Lib.hid hb; clear hb))
  go_ret2
  exact ⟨(below_then (below_alloc (below_refl _) _) HB0.out), rfl⟩
set_option maxRecDepth 100000 in
set_option maxHeartbeats 2000000 in
theorem new_nopool (s : ByteArray) (ws : Value) (a b c d e f g h q r p : Int) (w : World) (hn : NameP s) (h1 : ¬ PolP a b c d) :
    Calls Tryz.prog 10 #[.string s, setupV ws a b c d e f g h q r p] w (NoEnd 2 w) := by
  have HN := Lib.hid hn
  clear hn
  have H1 := Lib.hid h1
  clear h1
  go_enter Tryz.func10, Tryz.ntmps10
  go_wp2_with (first
    | (go_at_call 34; (with_reducible refine (name_t _ _ HN.out).mono ?_); rintro e w' ⟨rfl, hb⟩; obtain ⟨hc0, hf0⟩ := bcell hb; have hz0 : w.heap.size < w'.heap.size := (by first | exact below_lt hb | exact Nat.lt_of_lt_of_le (by assumption) hb.size); have HB0 := Lib.hid hb; clear hb)
    | (go_at_call 35; (with_reducible refine (pool_new_f _ _ _ _ _ _ HN.out H1.out).mono ?_); rintro e w' ⟨hb, rfl⟩; obtain ⟨hc1, hf1⟩ := bcell hb; have hz1 : w.heap.size < w'.heap.size := (by first | exact below_lt hb | exact Nat.lt_of_lt_of_le (by assumption) hb.size); have HB1 := Lib.hid hb; clear hb))
  go_ret2
  exact ⟨(below_then (below_then (below_alloc (below_refl _) _) HB0.out) HB1.out), rfl⟩
set_option maxRecDepth 100000 in
set_option maxHeartbeats 2000000 in
theorem new_nometer (s : ByteArray) (ws : Value) (a b c d e f g h q r p : Int) (w : World) (hn : NameP s) (h1 : PolP a b c d) (h2 : ¬ MetP e f) :
    Calls Tryz.prog 10 #[.string s, setupV ws a b c d e f g h q r p] w (NoEnd 2 w) := by
  have HN := Lib.hid hn
  clear hn
  have H1 := Lib.hid h1
  clear h1
  have H2 := Lib.hid h2
  clear h2
  go_enter Tryz.func10, Tryz.ntmps10
  go_wp2_with (first
    | (go_at_call 34; (with_reducible refine (name_t _ _ HN.out).mono ?_); rintro e w' ⟨rfl, hb⟩; obtain ⟨hc0, hf0⟩ := bcell hb; have hz0 : w.heap.size < w'.heap.size := (by first | exact below_lt hb | exact Nat.lt_of_lt_of_le (by assumption) hb.size); have HB0 := Lib.hid hb; clear hb)
    | (go_at_call 35; (with_reducible refine (pool_new_t _ _ _ _ _ _ HN.out H1.out).mono ?_); rintro e w' ⟨hb, ⟨p1, rfl⟩⟩; obtain ⟨hc1, hf1⟩ := bcell hb; have hz1 : w.heap.size < w'.heap.size := (by first | exact below_lt hb | exact Nat.lt_of_lt_of_le (by assumption) hb.size); have HB1 := Lib.hid hb; clear hb)
    | (go_at_call 36; (with_reducible refine (meter_check_f _ _ _ H2.out).mono ?_); rintro e w' ⟨hb, rfl⟩; obtain ⟨hc2, hf2⟩ := bcell hb; have hz2 : w.heap.size < w'.heap.size := (by first | exact below_lt hb | exact Nat.lt_of_lt_of_le (by assumption) hb.size); have HB2 := Lib.hid hb; clear hb))
  go_ret2
  exact ⟨(below_then (below_then (below_then (below_alloc (below_refl _) _) HB0.out) HB1.out) HB2.out), rfl⟩
set_option maxRecDepth 100000 in
set_option maxHeartbeats 2000000 in
theorem new_nolim1 (s : ByteArray) (ws : Value) (a b c d e f g h q r p : Int) (w : World) (hn : NameP s) (h1 : PolP a b c d) (h2 : MetP e f) (h3 : ¬ (1 ≤ g ∧ g ≤ 20000)) :
    Calls Tryz.prog 10 #[.string s, setupV ws a b c d e f g h q r p] w (NoEnd 2 w) := by
  have HN := Lib.hid hn
  clear hn
  have H1 := Lib.hid h1
  clear h1
  have H2 := Lib.hid h2
  clear h2
  go_enter Tryz.func10, Tryz.ntmps10
  go_wp2_with (first
    | (go_at_call 34; (with_reducible refine (name_t _ _ HN.out).mono ?_); rintro e w' ⟨rfl, hb⟩; obtain ⟨hc0, hf0⟩ := bcell hb; have hz0 : w.heap.size < w'.heap.size := (by first | exact below_lt hb | exact Nat.lt_of_lt_of_le (by assumption) hb.size); have HB0 := Lib.hid hb; clear hb)
    | (go_at_call 35; (with_reducible refine (pool_new_t _ _ _ _ _ _ HN.out H1.out).mono ?_); rintro e w' ⟨hb, ⟨p1, rfl⟩⟩; obtain ⟨hc1, hf1⟩ := bcell hb; have hz1 : w.heap.size < w'.heap.size := (by first | exact below_lt hb | exact Nat.lt_of_lt_of_le (by assumption) hb.size); have HB1 := Lib.hid hb; clear hb)
    | (go_at_call 36; (with_reducible refine (meter_check_t _ _ _ H2.out).mono ?_); rintro e w' ⟨hb, rfl⟩; obtain ⟨hc2, hf2⟩ := bcell hb; have hz2 : w.heap.size < w'.heap.size := (by first | exact below_lt hb | exact Nat.lt_of_lt_of_le (by assumption) hb.size); have HB2 := Lib.hid hb; clear hb)
    | (go_at_call 37; (with_reducible refine (inr_f _ h3).mono ?_); rintro e w' ⟨rfl, rfl⟩))
  go_ret2
  exact ⟨(below_then (below_then (below_then (below_alloc (below_refl _) _) HB0.out) HB1.out) HB2.out), rfl⟩
set_option maxRecDepth 100000 in
set_option maxHeartbeats 2000000 in
theorem new_nolim3 (s : ByteArray) (ws : Value) (a b c d e f g h q r p : Int) (w : World) (hn : NameP s) (h1 : PolP a b c d) (h2 : MetP e f) (h3 : 1 ≤ g ∧ g ≤ 20000) (h3a : ¬ (1 ≤ h ∧ h ≤ 4000)) :
    Calls Tryz.prog 10 #[.string s, setupV ws a b c d e f g h q r p] w (NoEnd 2 w) := by
  have HN := Lib.hid hn
  clear hn
  have H1 := Lib.hid h1
  clear h1
  have H2 := Lib.hid h2
  clear h2
  go_enter Tryz.func10, Tryz.ntmps10
  go_wp2_with (first
    | (go_at_call 34; (with_reducible refine (name_t _ _ HN.out).mono ?_); rintro e w' ⟨rfl, hb⟩; obtain ⟨hc0, hf0⟩ := bcell hb; have hz0 : w.heap.size < w'.heap.size := (by first | exact below_lt hb | exact Nat.lt_of_lt_of_le (by assumption) hb.size); have HB0 := Lib.hid hb; clear hb)
    | (go_at_call 35; (with_reducible refine (pool_new_t _ _ _ _ _ _ HN.out H1.out).mono ?_); rintro e w' ⟨hb, ⟨p1, rfl⟩⟩; obtain ⟨hc1, hf1⟩ := bcell hb; have hz1 : w.heap.size < w'.heap.size := (by first | exact below_lt hb | exact Nat.lt_of_lt_of_le (by assumption) hb.size); have HB1 := Lib.hid hb; clear hb)
    | (go_at_call 36; (with_reducible refine (meter_check_t _ _ _ H2.out).mono ?_); rintro e w' ⟨hb, rfl⟩; obtain ⟨hc2, hf2⟩ := bcell hb; have hz2 : w.heap.size < w'.heap.size := (by first | exact below_lt hb | exact Nat.lt_of_lt_of_le (by assumption) hb.size); have HB2 := Lib.hid hb; clear hb)
    | (go_at_call 37; (with_reducible refine (inr_t _ h3).mono ?_); rintro e w' ⟨rfl, rfl⟩)
    | (go_at_call 37; (with_reducible refine (inr_f _ h3a).mono ?_); rintro e w' ⟨rfl, rfl⟩))
  go_ret2
  exact ⟨(below_then (below_then (below_then (below_alloc (below_refl _) _) HB0.out) HB1.out) HB2.out), rfl⟩
set_option maxRecDepth 100000 in
set_option maxHeartbeats 2000000 in
theorem new_nofair (s : ByteArray) (ws : Value) (a b c d e f g h q r p : Int) (w : World) (hn : NameP s) (h1 : PolP a b c d) (h2 : MetP e f) (h3 : 1 ≤ g ∧ g ≤ 20000) (h3a : 1 ≤ h ∧ h ≤ 4000) (h4 : ¬ FairP q) :
    Calls Tryz.prog 10 #[.string s, setupV ws a b c d e f g h q r p] w (NoEnd 2 w) := by
  have HN := Lib.hid hn
  clear hn
  have H1 := Lib.hid h1
  clear h1
  have H2 := Lib.hid h2
  clear h2
  have H4 := Lib.hid h4
  clear h4
  go_enter Tryz.func10, Tryz.ntmps10
  go_wp2_with (first
    | (go_at_call 34; (with_reducible refine (name_t _ _ HN.out).mono ?_); rintro e w' ⟨rfl, hb⟩; obtain ⟨hc0, hf0⟩ := bcell hb; have hz0 : w.heap.size < w'.heap.size := (by first | exact below_lt hb | exact Nat.lt_of_lt_of_le (by assumption) hb.size); have HB0 := Lib.hid hb; clear hb)
    | (go_at_call 35; (with_reducible refine (pool_new_t _ _ _ _ _ _ HN.out H1.out).mono ?_); rintro e w' ⟨hb, ⟨p1, rfl⟩⟩; obtain ⟨hc1, hf1⟩ := bcell hb; have hz1 : w.heap.size < w'.heap.size := (by first | exact below_lt hb | exact Nat.lt_of_lt_of_le (by assumption) hb.size); have HB1 := Lib.hid hb; clear hb)
    | (go_at_call 36; (with_reducible refine (meter_check_t _ _ _ H2.out).mono ?_); rintro e w' ⟨hb, rfl⟩; obtain ⟨hc2, hf2⟩ := bcell hb; have hz2 : w.heap.size < w'.heap.size := (by first | exact below_lt hb | exact Nat.lt_of_lt_of_le (by assumption) hb.size); have HB2 := Lib.hid hb; clear hb)
    | (go_at_call 37; (with_reducible refine (inr_t _ h3).mono ?_); rintro e w' ⟨rfl, rfl⟩)
    | (go_at_call 37; (with_reducible refine (inr_t _ h3a).mono ?_); rintro e w' ⟨rfl, rfl⟩)
    | (go_at_call 38; (with_reducible refine (fair_new_f _ _ H4.out).mono ?_); rintro e w' ⟨hb, rfl⟩; obtain ⟨hc4, hf4⟩ := bcell hb; have hz4 : w.heap.size < w'.heap.size := (by first | exact below_lt hb | exact Nat.lt_of_lt_of_le (by assumption) hb.size); have HB4 := Lib.hid hb; clear hb))
  go_ret2
  exact ⟨(below_then (below_then (below_then (below_then (below_alloc (below_refl _) _) HB0.out) HB1.out) HB2.out) HB4.out), rfl⟩
set_option maxRecDepth 100000 in
set_option maxHeartbeats 2000000 in
theorem new_noroom1 (s : ByteArray) (ws : Value) (a b c d e f g h q r p : Int) (w : World) (hn : NameP s) (h1 : PolP a b c d) (h2 : MetP e f) (h3 : 1 ≤ g ∧ g ≤ 20000) (h3a : 1 ≤ h ∧ h ≤ 4000) (h4 : FairP q) (h5 : ¬ (1 ≤ r ∧ r ≤ 1000)) :
    Calls Tryz.prog 10 #[.string s, setupV ws a b c d e f g h q r p] w (NoEnd 2 w) := by
  have HN := Lib.hid hn
  clear hn
  have H1 := Lib.hid h1
  clear h1
  have H2 := Lib.hid h2
  clear h2
  have H4 := Lib.hid h4
  clear h4
  go_enter Tryz.func10, Tryz.ntmps10
  go_wp2_with (first
    | (go_at_call 34; (with_reducible refine (name_t _ _ HN.out).mono ?_); rintro e w' ⟨rfl, hb⟩; obtain ⟨hc0, hf0⟩ := bcell hb; have hz0 : w.heap.size < w'.heap.size := (by first | exact below_lt hb | exact Nat.lt_of_lt_of_le (by assumption) hb.size); have HB0 := Lib.hid hb; clear hb)
    | (go_at_call 35; (with_reducible refine (pool_new_t _ _ _ _ _ _ HN.out H1.out).mono ?_); rintro e w' ⟨hb, ⟨p1, rfl⟩⟩; obtain ⟨hc1, hf1⟩ := bcell hb; have hz1 : w.heap.size < w'.heap.size := (by first | exact below_lt hb | exact Nat.lt_of_lt_of_le (by assumption) hb.size); have HB1 := Lib.hid hb; clear hb)
    | (go_at_call 36; (with_reducible refine (meter_check_t _ _ _ H2.out).mono ?_); rintro e w' ⟨hb, rfl⟩; obtain ⟨hc2, hf2⟩ := bcell hb; have hz2 : w.heap.size < w'.heap.size := (by first | exact below_lt hb | exact Nat.lt_of_lt_of_le (by assumption) hb.size); have HB2 := Lib.hid hb; clear hb)
    | (go_at_call 37; (with_reducible refine (inr_t _ h3).mono ?_); rintro e w' ⟨rfl, rfl⟩)
    | (go_at_call 37; (with_reducible refine (inr_t _ h3a).mono ?_); rintro e w' ⟨rfl, rfl⟩)
    | (go_at_call 38; (with_reducible refine (fair_new_t _ _ H4.out).mono ?_); rintro e w' ⟨hb, ⟨p4, rfl⟩⟩; obtain ⟨hc4, hf4⟩ := bcell hb; have hz4 : w.heap.size < w'.heap.size := (by first | exact below_lt hb | exact Nat.lt_of_lt_of_le (by assumption) hb.size); have HB4 := Lib.hid hb; clear hb)
    | (go_at_call 37; (with_reducible refine (inr_f _ h5).mono ?_); rintro e w' ⟨rfl, rfl⟩))
  go_ret2
  exact ⟨(below_then (below_then (below_then (below_then (below_alloc (below_refl _) _) HB0.out) HB1.out) HB2.out) HB4.out), rfl⟩
end Go.Proofs.YtfmhagjbhableaaGreatDoor
