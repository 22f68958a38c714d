/-
  CE, part 26: a function of no result but true: what its evaluation shows.
-/
import Derived.Test.YtfmhagjbhableaaGreatDoorCePrim
namespace Go.CE
open Go
set_option linter.unusedVariables false
set_option linter.unusedSimpArgs false
/-- The evaluation has to end so: true, and no block that was there is written. -/
noncomputable def wantTrue (v : AV) (h : AH) (nx : Nat) (W : List Nat) : Res := CE.asBool v fun b => ifK b (ifK W.isEmpty (.done undefA .leaf 0 []))
/-- Only new blocks. -/
structure Apart (w w' : World) : Prop where
  size : w.heap.size ≤ w'.heap.size
  keep : ∀ β, β < w.heap.size → w'.heap[β]? = w.heap[β]?
  os : w'.os = w.os
  tape : w'.tape = w.tape
  output : w'.output = w.output
theorem goF_true {P : Program} {cf : Cf} (hP : PrimOK P cf) (hN : NodOK P cf) (hM : NamesOK P) (hm : P.follows .mixedOrders = true) {n : Nat} {f : FuncId} {args : List AV} {h : AH} {nx : Nat} (hf : cf.prim f = none) (hd : HD h nx)
    (e : goF P cf (run P cf n) f args h nx [] wantTrue = .done undefA .leaf 0 []) {ρ : Ren} {w : World} {vals : Array Value} (hp : Pre P all' ρ h nx w) (ha : VRs ρ args vals.toList) :
    Calls P f vals w fun e w' => e = .returned (.bool true) ∧ Apart w w' := by
  have e0 := e
  obtain ⟨v, h1, nx1, W, e1, haf, H⟩ := goF_inv hP hN hM (run_sound hP hN hM hm n) hd e (by intro h; cases h)
  rw [List.append_nil] at e1
  obtain ⟨b, rfl, e1⟩ := asBool_inv e1 (by intro h; cases h)
  obtain ⟨rfl, e1⟩ := ifK_inv e1 (by intro h; cases h)
  obtain ⟨hW, _⟩ := ifK_inv e1 (by intro h; cases h)
  rw [List.isEmpty_iff] at hW
  subst hW
  rcases H ρ w vals hp ha with ⟨v', g1, _⟩ | ⟨_, g2⟩
  · exfalso
    unfold goF at e0
    rw [hf] at e0
    replace e0 := optK_inv e0 (by intro h; cases h); obtain ⟨fn, hfn, e0⟩ := e0
    replace e0 := optK_inv e0 (by intro h; cases h); obtain ⟨body, hbody, e0⟩ := e0
    unfold callFunc at g1
    have hn : ¬ fn.name = "runtime.NumGoroutine" := hM f fn hfn
    simp [hfn, hn, hbody] at g1
  · refine Calls.mono g2 ?_
    rintro e w' ⟨v, rfl, ρ', hv, hpost⟩
    have hv : v = .bool true := hv
    subst hv
    exact ⟨rfl, hpost.size, fun β hβ => hpost.keep β hβ fun _ _ h => (by cases h), hpost.os, hpost.tape, hpost.output⟩
end Go.CE
