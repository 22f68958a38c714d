/-
  The example and the row of WorkerNews, a part.
-/
import Derived.Test.YtfmhagjbhableaaGreatDoorA4
import Derived.Test.YtfmhagjbhableaaGreatDoorWi
import Derived.Test.YtfmhagjbhableaaGreatDoorM2
import Derived.Stop.Joined
set_option linter.unusedVariables false
set_option maxRecDepth 100000
namespace Go.Proofs.YtfmhagjbhableaaGreatDoor
open Go Go.ChangeShapes Go.WideShapes Go.ChangeAt Go.RowKit
/-- 'post' behind a call that has only made memory. -/
theorem post_grown {H : Type} {enc : TypeId × Value → H} {P : Program} {f : Func} {s : ChangeSpec} {apart fresh handsOn again : Bool} {W W' : World} {args : Array Value} {v : Value} {ds gs : List (DataW H)} {before pa pv : List MemPlace}
    (hW : DataW.Whole enc P f.params.toList s.vars apart W args.toList ds gs before)
    (hres : ∀ (b : Nat) (sp : Nat → Bool) (hd : Bool), DataW.TrodAll enc P W' b sp hd f.resultTypes.toList (v.resultList f.resultTypes.size) (s.fn H (ds ++ gs)).results [])
    (hargs : ∀ sp : Nat → Bool, (∀ p ∈ before, sp p.block = true) → DataW.TrodAll enc P W' 0 sp true f.params.toList args.toList (s.fn H (ds ++ gs)).args pa)
    (hvars : ∀ sp : Nat → Bool, (∀ p ∈ before, sp p.block = true) → DataW.TrodVars enc P W' sp s.vars (s.fn H (ds ++ gs)).vars pv)
    (hps : before = pa ++ pv) (hb : Below W.heap.size W W')
    (hok : ∀ (j : Nat) (t : TypeId) (r : Value), f.resultTypes[j]? = some t → (v.resultList f.resultTypes.size)[j]? = some r → Value.okWide P W' .any 0 t r) :
    s.post enc P f apart fresh handsOn again W args v W' := by
  have hlt : ∀ p ∈ before, p.block < W.heap.size := fun p hp => hW.lt p hp
  have hold : ∀ p ∈ before, (fun b => decide (b < W.heap.size)) p.block = true := fun p hp => by simpa using hlt p hp
  refine ⟨ds, gs, before, [], pa, pv, hW, hres _ _ _, hargs _ hold, hvars _ hold, World.keptBut_mono (fun p hp => ⟨hp, ?_⟩) (hb.frame (· ∈ before)), fun _ => ?_⟩
  · rw [hps, List.mem_append] at hp
    exact Or.inr hp
  · obtain ⟨_, _, _, _, _, hz, hn⟩ := hW
    refine ⟨hok, _, _, ([] ++ pa) ++ pv, ⟨[] ++ pa, pv, trodAll_append (hargs _ (fun _ _ => rfl)) (hres _ _ _), hvars _ (fun _ _ => rfl), rfl, ?_, ?_⟩, ?_⟩
    · intro b off hp
      have hin : MemPlace.cell b off ∈ before := by rw [hps]; simpa using hp
      rw [hb.frozen (hlt _ hin)]
      exact hz b off hin
    · intro ha
      have := hn ha
      rw [hps] at this
      simpa using this
    · intro p hp _
      rw [hps]
      simpa using hp
theorem news_any (s : ByteArray) (ws : Value) (a b c d e f g h q r p : Int) (a0 a1 a2 a3 a4 : ByteArray) (a5 : Int) (a6 : ByteArray) (a7 : Value) (a8 : ByteArray) (a9 a10 : Int) (a11 : ByteArray) (w : World)
    (hs : s.size ≤ maxLen) (haw : AwakeOK w) :
    Calls Tryz.prog 8 #[.string s, setupV ws a b c d e f g h q r p, invV a0 a1 a2 a3 a4 a5 a6 a7 a8 a9 a10 a11] w (ValEnd (.bool true) w) := by
  by_cases hn : NameP s
  · by_cases hp : SetP a b c d e f g h q r
    · exact news_good s ws a b c d e f g h q r p a0 a1 a2 a3 a4 a5 a6 a7 a8 a9 a10 a11 w hs hn hp haw
    · exact news_bad s ws a b c d e f g h q r p a0 a1 a2 a3 a4 a5 a6 a7 a8 a9 a10 a11 w hs hn hp haw
  · exact news_noname s ws a b c d e f g h q r p a0 a1 a2 a3 a4 a5 a6 a7 a8 a9 a10 a11 w hs hn haw
theorem noH (w : World) : laidMetH Tryz.prog Rows.workerNewsRow.laid w = laidMet Tryz.prog Rows.workerNewsRow.laid w := by
  unfold laidMetH
  rw [noHandles]
theorem isI8 : Tryz.f8.isInstance Tryz.prog Rows.workerNewsRow.origin Rows.workerNewsRow.targs := of_decide_eq_true (by kernel_rfl)
theorem isW8 : Tryz.f8.isWrapper Tryz.prog Rows.workerNewsRow.wrapper Rows.workerNewsRow.mainSum := by
  unfold Func.isWrapper; first | (rw [if_pos (by decide +kernel)]; kernel_rfl) | (rw [if_neg (by decide +kernel)]; exact ⟨rfl, rfl⟩)
theorem named8' : Tryz.prog.funcNamed "faas/faaslaw56.WorkerNews" = some 8 := by kernel_rfl
theorem readable9 : Tryz.prog.readableRec 9 = true := by kernel_rfl
theorem readable39 : Tryz.prog.readableRec 39 = true := by kernel_rfl
theorem readable59 : Tryz.prog.readableRec 59 = true := by kernel_rfl
theorem news_lifted (os : Os) (started : os.Started) (H : Type) (enc : TypeId × Value → H) :
    ReturnsInHanded {} Tryz.checked os 8 .any (fun w args => (Rows.workerNewsSpec.pre enc Tryz.prog Tryz.f8 Rows.workerNewsRow.domain false w args ∧ laidMetH Tryz.prog Rows.workerNewsRow.laid w) ∧ sizedMet enc Tryz.prog Tryz.f8 (OpenSpec.ofChange Rows.workerNewsSpec) false w args)
      (Rows.workerNewsSpec.post enc Tryz.prog Tryz.f8 false true false false) := by
  refine returnsInHanded_of_change_and (C := Tryz.checked) (X := fun w _ => laidMetH Tryz.prog Rows.workerNewsRow.laid w) (fun _ _ _ hh h => h.of_heap hh) ownTryz started (by kernel_rfl) Tryz.func8
    (ChangeSpec.witness_shaped (enc := enc) (C := Tryz.checked) (os := os) (X := fun w _ => laidMetH Tryz.prog Rows.workerNewsRow.laid w) false (wit os) witArgs 8 (wit_os os)
      (World.shaped_of_ZipB (wit_zip os) (wit_rest os)) (wit_ok os) (wit_pre enc os) (wit_sized enc os) (by rw [noH]; exact wit_laid os)) ?_
  intro W base args ds gs before hval0 hW _ _ hL _
  have hval : ∀ (j : Nat) t v, Tryz.f8.params[j]? = some t → args[j]? = some v → Value.okWide Tryz.prog W .any base t v := hval0
  have hW' := hW
  obtain ⟨p, q, hA0, hV, rfl, _, _⟩ := hW
  have hA : DataW.TrodAll enc Tryz.prog W 0 (fun _ => true) true Tryz.f8.params.toList args.toList ds p := hA0
  rw [Tryz.params8] at hA hval
  obtain ⟨v0, v1, v2, d0, d1, d2, p0, p1, p2, rfl, rfl, rfl, t0, t1, t2⟩ := trodAll_three hA
  obtain ⟨rfl, rfl⟩ := trodVars_none hV
  have k0 := t0
  obtain ⟨s, rfl, rfl, rfl, hs⟩ := ChangeMaps.open_string Tryz.underlying9 (hval 0 9 v0 rfl rfl) t0
  obtain ⟨ws, a, b, c, d, e, f, g, h, q, r, pp, rfl⟩ := open39 (hval 1 39 v1 rfl rfl)
  obtain ⟨a0, a1, a2, a3, a4, a5, a6, a7, a8, a9, a10, a11, rfl⟩ := open59 (hval 2 59 v2 rfl rfl)
  have hlt : ∀ x ∈ ([] ++ p1 ++ p2 ++ [] : List MemPlace), x.block < W.heap.size := fun x hx => hW'.lt x hx
  refine (news_any s ws a b c d e f g h q r pp a0 a1 a2 a3 a4 a5 a6 a7 a8 a9 a10 a11 W hs (awakeOK (shapesIn_of_laid hL))).mono fun e' W' ⟨hb, he⟩ => ?_
  subst he
  have r0 : 9 < Tryz.prog.types.size := of_decide_eq_true (by kernel_rfl)
  have r1 : 39 < Tryz.prog.types.size := of_decide_eq_true (by kernel_rfl)
  have r2 : 59 < Tryz.prog.types.size := of_decide_eq_true (by kernel_rfl)
  refine ⟨.bool true, rfl, post_grown (pa := [] ++ p1 ++ p2) (pv := []) hW' (fun _ _ _ => trodAll_mk1 (shut_bool Tryz.underlying4 true)) (fun sp hsp => ?_) (fun _ _ => rfl) rfl hb (ok_one (by kernel_rfl) rfl (okWide_bool_mk Tryz.underlying4 true))⟩
  have q0 := WideElems.Trod_stays (W' := W') (sp' := sp) laidOutTryz readable9 r0 k0 (fun x hx => by cases hx) (fun x hx => by cases hx)
  have q1 := WideElems.Trod_stays (W' := W') (sp' := sp) laidOutTryz readable39 r1 t1 (fun x hx => hb.same (hlt x (by simp [hx]))) (fun x hx => hsp x (by simp [hx]))
  have q2 := WideElems.Trod_stays (W' := W') (sp' := sp) laidOutTryz readable59 r2 t2 (fun x hx => hb.same (hlt x (by simp [hx]))) (fun x hx => hsp x (by simp [hx]))
  exact trodAll_mk3 q0 q1 q2
theorem workerNews_holds : Rows.WorkerNewsSaid :=
  OpenClaim.holds_of_wide 8 Tryz.f8 rfl rfl rfl rfl rfl rfl rfl ⟨rfl, rfl, rfl, rfl, rfl⟩ rfl rfl rfl rfl rfl named8' Tryz.func8 joined8 isI8 isW8
    (fun os started H enc _ => news_lifted os started H enc)
end Go.Proofs.YtfmhagjbhableaaGreatDoor
