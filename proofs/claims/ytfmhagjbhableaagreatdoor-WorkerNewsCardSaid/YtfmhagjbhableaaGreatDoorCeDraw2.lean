/-
  CE, part 22: every order of a region.
-/
import Derived.Test.YtfmhagjbhableaaGreatDoorCeDraw
namespace Go.CE
open Go
set_option linter.unusedVariables false
set_option linter.unusedSimpArgs false
section
variable {P : Program} {ops : List Oper} {nt : Nat} {en : Nat → T AV} {hh : Nat → AH} {nn : Nat → Nat} {vv : Nat → AV} {WW : Nat → List Nat} {DD : Nat → Nat → Prop} {Prec : Nat → Nat → Prop}
theorem getD_true {listed : Array Bool} {i : Nat} (h : i < listed.size) (b : Bool) : listed.getD i b = listed[i] := by simp [Array.getD, h]
theorem Trace.all_listed (T : Trace P ops nt en hh nn vv WW DD Prec) {listed : Array Bool} (hs : listed.size = ops.length) (hr : Region.ready .any ops.toArray listed = []) : ∀ i, i < ops.length → listed.getD i false = true := by
  intro i
  induction i using Nat.strongRecOn with
  | _ i ih =>
    intro hi
    cases hl : listed.getD i false with
    | true => rfl
    | false =>
      exfalso
      obtain ⟨o, ho⟩ := get_of hi
      have hm : i ∈ Region.ready .any ops.toArray listed := by
        refine mem_ready.2 ⟨by rw [getD_true (by omega)] at *; exact hl, o, by simpa using ho, fun e he hb => ?_⟩
        have := T.lt i o ho e he hb
        exact ih e.on this (by omega)
      rw [hr] at hm; cases hm
theorem Trace.any (T : Trace P ops nt en hh nn vv WW DD Prec) {ρ0 : Ren} {w0 : World} {a0 : Act} (hdom0 : ∀ b p, ρ0 b = some p → b < nn 0) {Q : Exit → Act → World → Prop}
    (hQ : ∀ S ρ w a, (∀ i, i < ops.length → S i) → Inv P ops nt en hh nn WW S ρ0 w0 a0 ρ w a → Q .normal a w) :
    ∀ (fuel : Nat) (listed : Array Bool) (L : List Nat) (ρ : Ren) (w : World) (a : Act), listed.size = ops.length → L.Nodup → (∀ i, i < ops.length → (listed.getD i false = false ↔ i ∈ L)) → L.length ≤ fuel →
      Dn ops (fun i => listed.getD i false = true) → Inv P ops nt en hh nn WW (fun i => listed.getD i false = true) ρ0 w0 a0 ρ w a → wpAny P .any ops.toArray Q fuel listed a w
  | 0, listed, L, ρ, w, a, hs, hN, hL, hf, hdn, I => by
    have hl : L = [] := List.length_eq_zero_iff.1 (by omega)
    subst hl
    have hall : ∀ i, i < ops.length → listed.getD i false = true := fun i hi => by
      cases h : listed.getD i false with
      | true => rfl
      | false => cases (hL i hi).1 h
    refine ⟨?_, hQ _ ρ w a hall I⟩
    cases hr : Region.ready .any ops.toArray listed with
    | nil => rfl
    | cons x xs =>
      have hx : x ∈ Region.ready .any ops.toArray listed := by rw [hr]; simp
      obtain ⟨h1, o, h2, _⟩ := mem_ready.1 hx
      have hx' : x < ops.length := lt_of (by simpa using h2)
      have := hall x hx'
      rw [getD_true (by omega)] at *
      rw [h1] at this; cases this
  | fuel + 1, listed, L, ρ, w, a, hs, hN, hL, hf, hdn, I => by
    refine ⟨fun hr => hQ _ ρ w a (T.all_listed hs hr) I, fun j hj => ?_⟩
    obtain ⟨h1, oj, h2, h3⟩ := mem_ready.1 hj
    have hoj : ops[j]? = some oj := by simpa using h2
    have hjn := lt_of hoj
    have h1' : listed.getD j false = false := by rw [getD_true (by omega)] at *; exact h1
    have hset : ∀ i, i < ops.length → (listed.setIfInBounds j true).getD i false = (if i = j then true else listed.getD i false) := by
      intro i hi
      rw [Array.getD_eq_getD_getElem?, Array.getElem?_setIfInBounds]
      by_cases e : i = j
      · subst e; simp [hs, hi]
      · rw [if_neg (Ne.symm e), if_neg e, Array.getD_eq_getD_getElem?]
    have hsz : ∀ i, ¬ i < ops.length → listed.getD i false = false := fun i hi => by simp [Array.getD, hs, hi]
    have hS : (fun i => (listed.setIfInBounds j true).getD i false = true) = fun i => listed.getD i false = true ∨ i = j := by
      funext i
      apply propext
      by_cases hi : i < ops.length
      · rw [hset i hi]
        by_cases e : i = j
        · simp [e]
        · simp [e]
      · have : (listed.setIfInBounds j true).getD i false = false := by simp [Array.getD, hs, hi]
        rw [this, hsz i hi]
        simp; omega
    refine T.next hdn hdom0 I hoj (by rw [h1']; simp) (fun e he hb => h3 e he hb) fun ρ' w' a' I' => ?_
    refine Trace.any T hdom0 hQ fuel (listed.setIfInBounds j true) (L.erase j) ρ' w' a' (by simpa using hs) (hN.erase j) (fun i hi => ?_) ?_ ?_ (by rw [hS]; exact I')
    · rw [hset i hi, hN.mem_erase_iff, ← hL i hi]
      by_cases e : i = j
      · simp [e]
      · simp [e]
    · have hjL := (hL j hjn).1 h1'
      rw [List.length_erase_of_mem hjL]
      omega
    · rw [hS]
      intro k o hk ho e he hb
      rcases hk with hk | hk
      · exact .inl (hdn k o hk ho e he hb)
      · subst hk
        rw [hoj] at ho; cases ho
        exact .inl (h3 e he hb)
theorem Post.drawn {D : Nat → Prop} {ρ ρ' : Ren} {h h' : AH} {nx nx' d : Nat} {w w' : World} {W : List Nat} (p : Post P D ρ h nx { w with drawn := d } W ρ' h' nx' w') : Post P D ρ h nx w W ρ' h' nx' w' :=
  ⟨p.ext, p.new, p.pre, p.keep, p.size, p.os, p.tape, p.output⟩
/-- A region whose order is drawn. -/
theorem Trace.region (T : Trace P ops nt en hh nn vv WW DD Prec) (hm : P.follows .mixedOrders = true) {id : Nat} {ρ : Ren} {w : World} {a : Act} {ds : Ds} {W : List Nat} (hW : ∀ b i, i < ops.length → b ∈ WW i → b ∈ W)
    (hE : ER ρ (en 0) nt ds a) (hp : Pre P all' ρ (hh 0) (nn 0) w) {Q : Exit → Act → World → Prop}
    (hQ : ∀ ρ' w' a', ER ρ' (en ops.length) nt ds a' → Post P all' ρ (hh 0) (nn 0) w W ρ' (hh ops.length) (nn ops.length) w' → Q .normal a' w') : (Code.region id ops.toArray true).wp P Q a w := by
  refine wp_region_any hm ?_
  have hp' : Pre P all' ρ (hh 0) (nn 0) { w with drawn := w.drawn + 1 } := hp.same rfl
  have hrep : ∀ i, (Array.replicate ops.toArray.size false).getD i false = false := fun i => by simp [Array.getD]
  refine Trace.any T (w0 := { w with drawn := w.drawn + 1 }) (a0 := a) hp.dom (fun S ρ' w' a' hS I => ?_) _ _ (List.range ops.length) ρ _ a (by simp) List.nodup_range (fun i hi => ?_) (by simp) ?_ ?_
  · obtain ⟨h1, h2⟩ := T.final (ds := ds) hS hW hE.defs I
    exact hQ ρ' w' a' h1 h2.drawn
  · rw [hrep]; simp [hi]
  · intro k o hk
    rw [hrep] at hk; cases hk
  · have : (fun i => (Array.replicate ops.toArray.size false).getD i false = true) = fun _ => False := by
      funext i; rw [hrep]; simp
    rw [this]
    exact T.init hE hp'
end
end Go.CE
