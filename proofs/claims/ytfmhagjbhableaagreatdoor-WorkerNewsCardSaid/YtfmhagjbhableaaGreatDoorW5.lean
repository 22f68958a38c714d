/-
  The walk of WorkerNews, a part.
-/
import Derived.Test.YtfmhagjbhableaaGreatDoorW4
import Derived.Deep.DeepCutAuto
set_option linter.unusedVariables false
namespace Go.Proofs.YtfmhagjbhableaaGreatDoor
open Go.RowKit
/-- A world in which the block behind v's is whole, and v's own blocks are as they were. -/
structure RS (v wx : World) : Prop where
  below : Below v.heap.size v wx
  at' : ∃ arr t, wx.heap[v.heap.size]? = some (.cells arr t (0, 0)) ∧ arr.size = 24
theorem RS.size {v wx : World} (h : RS v wx) : v.heap.size < wx.heap.size := by
  obtain ⟨arr, t, e, _⟩ := h.at'
  exact (Array.getElem?_eq_some_iff.1 e).1
theorem RS.cell {v wx : World} (h : RS v wx) {o : Nat} (ho : o < 24) : ∃ x, wx.cell? ⟨v.heap.size, o, none⟩ = some x := by
  obtain ⟨arr, t, e, hs⟩ := h.at'
  refine ⟨arr[o]'(by omega), ?_⟩
  unfold World.cell?
  simp [e, hs, ho]
theorem RS.frozen {v wx : World} (h : RS v wx) (o : Nat) : wx.frozen? ⟨v.heap.size, o, none⟩ = false := by
  obtain ⟨arr, t, e, hs⟩ := h.at'
  unfold World.frozen?
  simp [e]
theorem RS.alloc {v wx : World} (h : RS v wx) (o : Obj) : RS v (wx.alloc o) := by
  refine ⟨below_alloc h.below o, ?_⟩
  obtain ⟨arr, t, e, hs⟩ := h.at'
  refine ⟨arr, t, ?_, hs⟩
  have := h.size
  show (wx.heap.push o)[v.heap.size]? = _
  rw [Array.getElem?_push, if_neg (by omega), e]
theorem RS.setCell {v wx : World} (h : RS v wx) (o : Nat) (x : Value) : RS v (wx.setCell ⟨v.heap.size, o, none⟩ x) := by
  refine ⟨h.below.setCell (Nat.le_refl _) x, ?_⟩
  obtain ⟨arr, t, e, hs⟩ := h.at'
  refine ⟨arr.setIfInBounds o x, t, ?_, by simp [hs]⟩
  show (wx.heap.modify v.heap.size _)[v.heap.size]? = _
  rw [Array.getElem?_modify, if_pos rfl, e]
  rfl
theorem RS.then {v w1 w2 : World} (h : RS v w1) (g : Below w1.heap.size w1 w2) : RS v w2 := by
  refine ⟨below_then h.below g, ?_⟩
  obtain ⟨arr, t, e, hs⟩ := h.at'
  exact ⟨arr, t, by rw [g.block _ h.size]; exact e, hs⟩
theorem RS.new (v : World) (arr : Array Value) (t : TypeId) (h : arr.size = 24) : RS v (v.alloc (.cells arr t)) :=
  ⟨below_alloc (below_refl _) _, arr, t, by show (v.heap.push _)[v.heap.size]? = _; simp, h⟩
set_option maxRecDepth 100000 in
set_option maxHeartbeats 1000000 in
theorem reset_new (v : World) (x0 x1 x2 x3 x4 x5 x6 x7 x8 x9 x10 x12 x13 x14 x15 x16 x17 x18 x19 x20 x21 x22 x23 : Value) (q : Int) (h4 : FairP q) :
    Calls Tryz.prog 39 #[.pointer (some ⟨v.heap.size, 0, none⟩)] (v.alloc (.cells #[x0, x1, x2, x3, x4, x5, x6, x7, x8, x9, x10, .int .i64 q, x12, x13, x14, x15, x16, x17, x18, x19, x20, x21, x22, x23] 115))
      fun e w' => e = .returned (.tuple #[]) ∧ Below v.heap.size v w' := by
  have H4 := Lib.hid h4
  clear h4
  have hmm := @run_makeMap Tryz.prog
  have HL : ∀ w' : World, Below (v.alloc (.cells #[x0, x1, x2, x3, x4, x5, x6, x7, x8, x9, x10, .int .i64 q, x12, x13, x14, .int .i64 0, .slice none 0 0, x17, x18, x19, x20, x21, x22, x23] 115)).heap.size (v.alloc (.cells #[x0, x1, x2, x3, x4, x5, x6, x7, x8, x9, x10, .int .i64 q, x12, x13, x14, .int .i64 0, .slice none 0 0, x17, x18, x19, x20, x21, x22, x23] 115)) w' → RS v w' := fun w' hb => (RS.new v _ 115 rfl).then hb
  go_enter Tryz.func39, Tryz.ntmps39
  go_upto_region 1 with fail
  go_cut [0] (fun s0 wx => s0 = .pointer (some ⟨v.heap.size, 0, none⟩) ∧ RS v wx)
  case first =>
    go_wp2_with (go_at_call 38; (with_reducible refine (fair_new_t _ _ H4.out).mono ?_); rintro e w' ⟨hb, p4, rfl⟩; have hrs := HL _ hb; have f17 := hrs.frozen 17; obtain ⟨y17, c17⟩ := hrs.cell (o := 17) (by omega); obtain ⟨y0, c0⟩ := hrs.cell (o := 0) (by omega); have HRS := Lib.hid hrs; clear hrs hb)
    go_meet
    exact ⟨rfl, HRS.out.setCell 17 _⟩
  case rest =>
    obtain ⟨rfl, hrs⟩ := hcut
    have hz := hrs.size
    have f1 := hrs.frozen 18
    obtain ⟨y1, c1⟩ := hrs.cell (o := 18) (by omega)
    obtain ⟨y0, c0⟩ := hrs.cell (o := 0) (by omega)
    have HRS := Lib.hid hrs
    clear hrs
    go_upto_region 2 with fail
    go_cut [0] (fun s0 wx => s0 = .pointer (some ⟨v.heap.size, 0, none⟩) ∧ RS v wx)
    case first =>
      go_wp2_with fail
      go_meet
      exact ⟨rfl, (HRS.out.setCell 18 _).alloc _⟩
    case rest =>
      clear HRS hz f1 c1 c0
      obtain ⟨rfl, hrs⟩ := hcut
      have hz := hrs.size
      have f1 := hrs.frozen 19
      obtain ⟨y1, c1⟩ := hrs.cell (o := 19) (by omega)
      obtain ⟨y0, c0⟩ := hrs.cell (o := 0) (by omega)
      have HRS := Lib.hid hrs
      clear hrs
      go_upto_region 3 with fail
      go_cut [0] (fun s0 wx => s0 = .pointer (some ⟨v.heap.size, 0, none⟩) ∧ RS v wx)
      case first =>
        go_wp2_with fail
        go_meet
        exact ⟨rfl, (HRS.out.setCell 19 _).alloc _⟩
      case rest =>
        clear HRS hz f1 c1 c0
        obtain ⟨rfl, hrs⟩ := hcut
        have hz := hrs.size
        have f1 := hrs.frozen 20
        obtain ⟨y1, c1⟩ := hrs.cell (o := 20) (by omega)
        obtain ⟨y0, c0⟩ := hrs.cell (o := 0) (by omega)
        have HRS := Lib.hid hrs
        clear hrs
        go_upto_region 4 with fail
        go_cut [0] (fun s0 wx => s0 = .pointer (some ⟨v.heap.size, 0, none⟩) ∧ RS v wx)
        case first =>
          go_wp2_with fail
          go_meet
          exact ⟨rfl, (HRS.out.setCell 20 _).alloc _⟩
        case rest =>
          clear HRS hz f1 c1 c0
          obtain ⟨rfl, hrs⟩ := hcut
          have hz := hrs.size
          have f1 := hrs.frozen 21
          obtain ⟨y1, c1⟩ := hrs.cell (o := 21) (by omega)
          have f2 := hrs.frozen 23
          obtain ⟨y2, c2⟩ := hrs.cell (o := 23) (by omega)
          obtain ⟨y0, c0⟩ := hrs.cell (o := 0) (by omega)
          have HRS := Lib.hid hrs
          clear hrs
          go_wp2_with fail
          go_end0
          exact ⟨rfl, ((HRS.out.setCell 21 _).setCell 23 _).below⟩
end Go.Proofs.YtfmhagjbhableaaGreatDoor
