/-
  CE, part 21: regions whose order is drawn: run in one order, and shown alike in every other.
-/
import Derived.Test.YtfmhagjbhableaaGreatDoorCeEval3
namespace Go.CE
open Go
set_option linter.unusedVariables false
set_option linter.unusedSimpArgs false

def cut (ρ : Ren) (k : Nat) : Ren := fun b => if b < k then ρ b else none
theorem cut_some {ρ : Ren} {k b : Nat} {p : Pl} : cut ρ k b = some p ↔ b < k ∧ ρ b = some p := by
  unfold cut; split <;> simp [*]
theorem cut_ext {ρ ρ' : Ren} {k k' : Nat} (h : Ext ρ ρ') (hk : k ≤ k') : Ext (cut ρ k) (cut ρ' k') := fun b p e => by
  rw [cut_some] at *; exact ⟨by omega, h _ _ e.2⟩
theorem ext_cut {ρ : Ren} {k : Nat} : Ext (cut ρ k) ρ := fun b p e => (cut_some.1 e).2

section
variable (P : Program) (ops : List Oper) (nt : Nat)
def LooksR (ρ : Ren) (env : T AV) (o : Oper) (a : Act) : Prop := ∀ t ∈ o.looksAt ops.toArray, VR ρ (envGet env t) (a.tmps.getD t undef)
structure StepR (o : Oper) (D : Nat → Prop) (env env' : T AV) (h h' : AH) (nx nx' : Nat) (v : AV) (W : List Nat) : Prop where
  af : AF D h nx h' nx' W
  put : ∀ t, envGet env' t = if o.dst = some t then v else envGet env t
  dst : ∀ d, o.dst = some d → d < nt
  run : ∀ ρ w (a : Act), a.tmps.size = nt → LooksR ops ρ env o a → Pre P D ρ h nx w →
    (Region.wanted o (yielded ops.toArray a.tmps) = true ∧ RunsTo P o a w fun v' w' => ∃ ρ', VR ρ' v v' ∧ Post P D ρ h nx w W ρ' h' nx' w') ∨
    (Region.wanted o (yielded ops.toArray a.tmps) = false ∧ ∃ ρ', VR ρ' v undef ∧ Post P D ρ h nx w W ρ' h' nx' w)
def Dn (S : Nat → Prop) : Prop := ∀ k o, S k → ops[k]? = some o → ∀ e ∈ o.after, Region.binds .any e = true → S e.on
/-- What a run in one order has shown. -/
structure Trace (en : Nat → T AV) (hh : Nat → AH) (nn : Nat → Nat) (vv : Nat → AV) (WW : Nat → List Nat) (DD : Nat → Nat → Prop) (Prec : Nat → Nat → Prop) : Prop where
  step : ∀ i o, ops[i]? = some o → StepR P ops nt o (DD i) (en i) (en (i + 1)) (hh i) (hh (i + 1)) (nn i) (nn (i + 1)) (vv i) (WW i)
  lt : ∀ i o, ops[i]? = some o → ∀ e ∈ o.after, Region.binds .any e = true → e.on < i
  prec : ∀ i j oi oj, i < j → ops[i]? = some oi → ops[j]? = some oj → Prec i j ∨ (oi.apart ops.toArray oj = true ∧ (∀ b ∈ WW i, ¬ DD j b) ∧ (∀ b ∈ WW j, ¬ DD i b) ∧ (∀ b ∈ WW j, b < nn i ∨ nn (i + 1) ≤ b))
  closed : ∀ S : Nat → Prop, Dn ops S → ∀ i j oj, ops[j]? = some oj → (∀ e ∈ oj.after, Region.binds .any e = true → S e.on) → Prec i j → S i
end

section
variable {P : Program} {ops : List Oper} {nt : Nat} {en : Nat → T AV} {hh : Nat → AH} {nn : Nat → Nat} {vv : Nat → AV} {WW : Nat → List Nat} {DD : Nat → Nat → Prop} {Prec : Nat → Nat → Prop}
def Cut (ops : List Oper) (WW : Nat → List Nat) (S : Nat → Prop) (b m : Nat) : Prop := ∀ i, i < ops.length → b ∈ WW i → (S i ↔ i < m)
theorem get_of {i : Nat} (h : i < ops.length) : ∃ o, ops[i]? = some o := ⟨ops[i], List.getElem?_eq_getElem h⟩
theorem lt_of {i : Nat} {o : Oper} (h : ops[i]? = some o) : i < ops.length := (List.getElem?_eq_some_iff.1 h).1
theorem Trace.mono (T : Trace P ops nt en hh nn vv WW DD Prec) {i m : Nat} (h : i ≤ m) (hm : m ≤ ops.length) : nn i ≤ nn m := by
  induction m with
  | zero => obtain rfl : i = 0 := by omega
            exact Nat.le_refl _
  | succ m ih =>
    by_cases e : i = m + 1
    · subst e; exact Nat.le_refl _
    · obtain ⟨o, ho⟩ := get_of (ops := ops) (i := m) (by omega)
      exact Nat.le_trans (ih (by omega) (by omega)) (T.step m o ho).af.le
theorem Trace.same (T : Trace P ops nt en hh nn vv WW DD Prec) {b i m : Nat} (h : i ≤ m) (hm : m ≤ ops.length) (hb : b < nn i) (hw : ∀ k, i ≤ k → k < m → b ∉ WW k) : (hh m).at b = (hh i).at b := by
  induction m with
  | zero => obtain rfl : i = 0 := by omega
            rfl
  | succ m ih =>
    by_cases e : i = m + 1
    · subst e; rfl
    · obtain ⟨o, ho⟩ := get_of (ops := ops) (i := m) (by omega)
      rw [(T.step m o ho).af.out b (hw m (by omega) (by omega)) (Nat.lt_of_lt_of_le hb (T.mono (by omega) (by omega)))]
      exact ih (by omega) (by omega) fun k h1 h2 => hw k h1 (by omega)
theorem Trace.alive (T : Trace P ops nt en hh nn vv WW DD Prec) {b i m : Nat} (h : i ≤ m) (hm : m ≤ ops.length) (hb : b < nn i) (hl : live (hh m) b) : live (hh i) b := by
  induction m with
  | zero => obtain rfl : i = 0 := by omega
            exact hl
  | succ m ih =>
    by_cases e : i = m + 1
    · subst e; exact hl
    · obtain ⟨o, ho⟩ := get_of (ops := ops) (i := m) (by omega)
      exact ih (by omega) (by omega) ((T.step m o ho).af.alive b (Nat.lt_of_lt_of_le hb (T.mono (by omega) (by omega))) hl)
theorem Trace.envs (T : Trace P ops nt en hh nn vv WW DD Prec) {t i m : Nat} (h : i ≤ m) (hm : m ≤ ops.length) (hw : ∀ k o, i ≤ k → k < m → ops[k]? = some o → o.dst ≠ some t) : envGet (en m) t = envGet (en i) t := by
  induction m with
  | zero => obtain rfl : i = 0 := by omega
            rfl
  | succ m ih =>
    by_cases e : i = m + 1
    · subst e; rfl
    · obtain ⟨o, ho⟩ := get_of (ops := ops) (i := m) (by omega)
      rw [(T.step m o ho).put, if_neg (hw m o (by omega) (by omega) ho)]
      exact ih (by omega) (by omega) fun k o h1 h2 => hw k o h1 (by omega)

/-- What holds when the operations of S have been carried out, in whatever order. -/
structure Inv (P : Program) (ops : List Oper) (nt : Nat) (en : Nat → T AV) (hh : Nat → AH) (nn : Nat → Nat) (WW : Nat → List Nat) (S : Nat → Prop) (ρ0 : Ren) (w0 : World) (a0 : Act) (ρ : Ren) (w : World) (a : Act) : Prop where
  size : a.tmps.size = nt
  defs : a.defers = a0.defers
  tmps : ∀ t m, m ≤ ops.length → (∀ i o, ops[i]? = some o → o.dst = some t → (S i ↔ i < m)) → VR (cut ρ (nn m)) (envGet (en m) t) (a.tmps.getD t undef)
  dom : ∀ b p, ρ b = some p → b < nn 0 ∨ ∃ i, i < ops.length ∧ S i ∧ nn i ≤ b ∧ b < nn (i + 1)
  bnd : ∀ b p, ρ b = some p → p.blk < w.heap.size
  rel : ∀ b m p blk, m ≤ ops.length → ρ b = some p → b < nn m → Cut ops WW S b m → (hh m).at b = some blk → BR (cut ρ (nn m)) blk p w
  inj : ∀ b b' m m' p p', m ≤ ops.length → m' ≤ ops.length → Cut ops WW S b m → Cut ops WW S b' m' → b < nn m → b' < nn m' → live (hh m) b → live (hh m') b' → ρ b = some p → ρ b' = some p' → p.blk = p'.blk → b = b'
  glob : ∀ g, g < P.globals.size → g < nn 0 ∧ ∃ p, ρ g = some p ∧ p.blk = g ∧ p.base = 0
  ext : Ext ρ0 ρ
  new : ∀ b p, ρ b = some p → ρ0 b = none → nn 0 ≤ b ∧ (w0.heap.size ≤ p.blk ∨ ∃ b0 p0, (∃ i, i < ops.length ∧ b0 ∈ WW i) ∧ ρ0 b0 = some p0 ∧ p0.blk = p.blk ∧ live (hh 0) b0 ∧ ¬ live (hh ops.length) b0)
  keep : ∀ β, β < w0.heap.size → (∀ b p, (∃ i, i < ops.length ∧ b ∈ WW i) → ρ0 b = some p → p.blk ≠ β) → w.heap[β]? = w0.heap[β]?
  hs : w0.heap.size ≤ w.heap.size
  os : w.os = w0.os
  tape : w.tape = w0.tape
  output : w.output = w0.output

theorem Trace.init (T : Trace P ops nt en hh nn vv WW DD Prec) {ρ0 : Ren} {w0 : World} {a0 : Act} {ds : Ds} (hE : ER ρ0 (en 0) nt ds a0) (hp : Pre P all' ρ0 (hh 0) (nn 0) w0) :
    Inv P ops nt en hh nn WW (fun _ => False) ρ0 w0 a0 ρ0 w0 a0 := by
  have hc : ∀ m, m ≤ ops.length → Ext ρ0 (cut ρ0 (nn m)) := fun m hm b p e => cut_some.2 ⟨Nat.lt_of_lt_of_le (hp.dom b p e) (T.mono (Nat.zero_le _) hm), e⟩
  have hsame : ∀ b m p, m ≤ ops.length → ρ0 b = some p → Cut ops WW (fun _ => False) b m → (hh m).at b = (hh 0).at b := fun b m p hm e hcut =>
    T.same (Nat.zero_le _) hm (hp.dom b p e) fun k _ hk hW => (hcut k (by omega) hW).2 hk
  refine ⟨hE.size, rfl, fun t m hm hw => ?_, fun b p e => .inl (hp.dom b p e), hp.bnd, fun b m p blk hm e hb hcut hblk => ?_, fun b b' m m' p p' hm hm' c c' hb hb' l l' e e' i => ?_,
    fun g hg => ?_, .refl _, fun b p e e' => (by rw [e] at e'; cases e'), fun _ _ _ => rfl, Nat.le_refl _, rfl, rfl, rfl⟩
  · rw [T.envs (Nat.zero_le _) hm fun k o _ hk ho hd => (hw k o ho hd).2 hk]
    exact (hE.tmps t).ext (hc m hm)
  · rw [hsame b m p hm e hcut] at hblk
    exact (hp.rel b trivial blk p hblk e).ext (hc m hm)
  · unfold live at l l'
    rw [hsame b m p hm e c] at l
    rw [hsame b' m' p' hm' e' c'] at l'
    exact hp.inj b b' p p' trivial trivial l l' e e' i
  · obtain ⟨p, h1, h2⟩ := hp.glob g hg
    exact ⟨hp.dom _ _ h1, p, h1, h2⟩

theorem Trace.final (T : Trace P ops nt en hh nn vv WW DD Prec) {S : Nat → Prop} {ρ0 ρ : Ren} {w0 w : World} {a0 a : Act} {ds : Ds} {W : List Nat} (hS : ∀ i, i < ops.length → S i) (hW : ∀ b i, i < ops.length → b ∈ WW i → b ∈ W) (hds : DsR ρ0 ds a0.defers)
    (I : Inv P ops nt en hh nn WW S ρ0 w0 a0 ρ w a) : ER ρ (en ops.length) nt ds a ∧ Post P all' ρ0 (hh 0) (nn 0) w0 W ρ (hh ops.length) (nn ops.length) w := by
  have hcut : ∀ b, Cut ops WW S b ops.length := fun b i hi _ => ⟨fun _ => hi, fun _ => hS i hi⟩
  have hdom : ∀ b p, ρ b = some p → b < nn ops.length := fun b p e => by
    rcases I.dom b p e with h | ⟨i, h1, _, _, h4⟩
    · exact Nat.lt_of_lt_of_le h (T.mono (Nat.zero_le _) (Nat.le_refl _))
    · exact Nat.lt_of_lt_of_le h4 (T.mono (by omega) (Nat.le_refl _))
  refine ⟨⟨I.size, fun t => (I.tmps t _ (Nat.le_refl _) fun i o ho _ => ⟨fun _ => lt_of ho, fun _ => hS i (lt_of ho)⟩).ext ext_cut, by rw [I.defs]; exact hds.ext⟩, I.ext, fun b p e e' => ?_,
    ⟨hdom, I.bnd, fun b _ blk p hb e => (I.rel b _ p blk (Nat.le_refl _) e (hdom _ _ e) (hcut b) hb).ext ext_cut,
      fun b b' p p' _ _ l l' e e' i => I.inj b b' _ _ p p' (Nat.le_refl _) (Nat.le_refl _) (hcut b) (hcut b') (hdom _ _ e) (hdom _ _ e') l l' e e' i, fun g hg => (I.glob g hg).2⟩,
    fun β hβ hk => I.keep β hβ fun b p ⟨i, h1, h2⟩ e => hk b p (hW b i h1 h2) e, I.hs, I.os, I.tape, I.output⟩
  obtain ⟨h1, h2⟩ := I.new b p e e'
  exact ⟨h1, h2.imp id fun ⟨b0, p0, ⟨i, k1, k2⟩, k3⟩ => ⟨b0, p0, hW b0 i k1 k2, k3⟩⟩

theorem put_getD {a : Act} {dst : Option Tmp} {v : Value} (hd : ∀ d, dst = some d → d < a.tmps.size) (t : Nat) : (a.put dst v).tmps.getD t undef = if dst = some t then v else a.tmps.getD t undef := by
  cases dst with
  | none => simp [Act.put]
  | some d =>
    have := hd d rfl
    by_cases e : d = t
    · subst e; simp [Act.put, Array.getD_eq_getD_getElem?, this]
    · simp only [Act.put, Array.getD_eq_getD_getElem?, Option.some.injEq, e, if_false]
      rw [Array.getElem?_setIfInBounds_ne e]
theorem put_size {a : Act} {dst : Option Tmp} {v : Value} : (a.put dst v).tmps.size = a.tmps.size := by cases dst <;> simp [Act.put]
theorem put_defs {a : Act} {dst : Option Tmp} {v : Value} : (a.put dst v).defers = a.defers := by cases dst <;> simp [Act.put]

/-- One more operation. -/
theorem Trace.next (T : Trace P ops nt en hh nn vv WW DD Prec) {S : Nat → Prop} {ρ0 ρ : Ren} {w0 w : World} {a0 a : Act} (hdn : Dn ops S) (hdom0 : ∀ b p, ρ0 b = some p → b < nn 0) (I : Inv P ops nt en hh nn WW S ρ0 w0 a0 ρ w a)
    {j : Nat} {oj : Oper} (hj : ops[j]? = some oj) (hSj : ¬ S j) (hpre : ∀ e ∈ oj.after, Region.binds .any e = true → S e.on) {Q : Exit → Act → World → Prop} {K : Act → World → Prop}
    (hK : ∀ ρ' w' a', Inv P ops nt en hh nn WW (fun i => S i ∨ i = j) ρ0 w0 a0 ρ' w' a' → K a' w') : wpOp P ops.toArray Q j K a w := by
  have hjn := lt_of hj
  have st := T.step j oj hj
  -- who stands where to j
  have side : ∀ i oi, ops[i]? = some oi → i ≠ j → (S i ↔ i < j) ∨ ((∀ d, oi.dst = some d → d ∉ oj.looksAt ops.toArray) ∧ (∀ d, oi.dst = some d → oj.dst ≠ some d) ∧ (∀ b ∈ WW i, ¬ DD j b) ∧ (∀ b ∈ WW j, ¬ DD i b) ∧
      (j < i → ∀ b ∈ WW i, b < nn j ∨ nn (j + 1) ≤ b)) := by
    intro i oi hi hne
    rcases Nat.lt_or_ge i j with hlt | hge
    · rcases T.prec i j oi oj hlt hi hj with h | ⟨h1, h2, h3, h4⟩
      · exact .inl ⟨fun _ => hlt, fun _ => T.closed S hdn i j oj hj hpre h⟩
      · obtain ⟨k1, k2, k3⟩ := Oper.apart_spec h1
        exact .inr ⟨k1, fun d hd => k2 d hd, h2, h3, fun h => by omega⟩
    · rcases T.prec j i oj oi (by omega) hj hi with h | ⟨h1, h2, h3, h4⟩
      · exact .inl ⟨fun hS => absurd (T.closed S hdn j i oi hi (hdn i oi hS hi) h) hSj, fun h => by omega⟩
      · obtain ⟨k1, k2, k3⟩ := Oper.apart_spec h1
        exact .inr ⟨k3, fun d hd e => k2 d e hd, h3, h2, fun _ => h4⟩
  have hcutD : ∀ b, DD j b → Cut ops WW S b j := by
    intro b hb i hi hW
    by_cases e : i = j
    · subst e; exact ⟨fun h => absurd h hSj, fun h => by omega⟩
    · obtain ⟨oi, hoi⟩ := get_of hi
      rcases side i oi hoi e with h | ⟨_, _, h, _⟩
      · exact h
      · exact absurd hb (h b hW)
  have hlooks : LooksR ops (cut ρ (nn j)) (en j) oj a := by
    intro t ht
    refine I.tmps t j (by omega) fun i oi hoi hd => ?_
    by_cases e : i = j
    · subst e; exact ⟨fun h => absurd h hSj, fun h => by omega⟩
    · rcases side i oi hoi e with h | ⟨h, _⟩
      · exact h
      · exact absurd ht (h t hd)
  have hPre : Pre P (DD j) (cut ρ (nn j)) (hh j) (nn j) w := by
    refine ⟨fun b p e => (cut_some.1 e).1, fun b p e => I.bnd b p (cut_some.1 e).2, fun b hb blk p hblk e => ?_, fun b b' p p' hb hb' l l' e e' i => ?_, fun g hg => ?_⟩
    · exact I.rel b j p blk (by omega) (cut_some.1 e).2 (cut_some.1 e).1 (hcutD b hb) hblk
    · exact I.inj b b' j j p p' (by omega) (by omega) (hcutD b hb) (hcutD b' hb') (cut_some.1 e).1 (cut_some.1 e').1 l l' (cut_some.1 e).2 (cut_some.1 e').2 i
    · obtain ⟨h1, p, h2, h3⟩ := I.glob g hg
      exact ⟨p, cut_some.2 ⟨Nat.lt_of_lt_of_le h1 (T.mono (Nat.zero_le _) (by omega)), h2⟩, h3⟩
  -- what comes behind
  have after : ∀ v' w', (∃ ρ', VR ρ' (vv j) v' ∧ Post P (DD j) (cut ρ (nn j)) (hh j) (nn j) w (WW j) ρ' (hh (j + 1)) (nn (j + 1)) w') → K (a.put oj.dst v') w' := by
    rintro v' w' ⟨ρj, hv, hpost⟩
    have hle : nn j ≤ nn (j + 1) := st.af.le
    have none_in : ∀ b, nn j ≤ b → b < nn (j + 1) → ρ b = none := by
      intro b h1 h2
      cases e : ρ b with
      | none => rfl
      | some p =>
        exfalso
        rcases I.dom b p e with h | ⟨i, h3, h4, h5, h6⟩
        · have := T.mono (Nat.zero_le j) (by omega); omega
        · have hij : i ≠ j := fun e => hSj (e ▸ h4)
          rcases Nat.lt_or_ge i j with hlt | hge
          · have := T.mono (i := i + 1) (m := j) (by omega) (by omega); omega
          · have := T.mono (i := j + 1) (m := i) (by omega) (by omega); omega
    let ρ' : Ren := fun b => if nn j ≤ b ∧ b < nn (j + 1) then ρj b else ρ b
    have in_ : ∀ b, nn j ≤ b → b < nn (j + 1) → ρ' b = ρj b := fun b h1 h2 => if_pos ⟨h1, h2⟩
    have out_ : ∀ b, ¬ (nn j ≤ b ∧ b < nn (j + 1)) → ρ' b = ρ b := fun b h => if_neg h
    have ext1 : Ext ρ ρ' := fun b p e => by
      rw [out_ b fun ⟨h1, h2⟩ => by rw [none_in b h1 h2] at e; cases e]; exact e
    have old_ : ∀ b p, b < nn j → ρj b = some p → ρ b = some p := fun b p hb e => by
      cases h : cut ρ (nn j) b with
      | none => have := (hpost.new b p e h).1; omega
      | some q => have := hpost.ext b q h; rw [e] at this; cases this; exact (cut_some.1 h).2
    have ext2 : Ext ρj (cut ρ' (nn (j + 1))) := fun b p e => by
      have hlt := hpost.pre.dom b p e
      refine cut_some.2 ⟨hlt, ?_⟩
      by_cases h : nn j ≤ b
      · rw [in_ b h hlt]; exact e
      · rw [out_ b (by omega)]; exact old_ b p (by omega) e
    have which : ∀ b p, ρ' b = some p → ρ b = some p ∨ (nn j ≤ b ∧ b < nn (j + 1) ∧ ρ b = none ∧ ρj b = some p) := fun b p e => by
      by_cases h : nn j ≤ b ∧ b < nn (j + 1)
      · rw [in_ b h.1 h.2] at e; exact .inr ⟨h.1, h.2, none_in b h.1 h.2, e⟩
      · rw [out_ b h] at e; exact .inl e
    -- a touched block
    have touched : ∀ b m p, m ≤ ops.length → Cut ops WW (fun i => S i ∨ i = j) b m → b < nn m → ρ' b = some p → (b ∈ WW j ∨ ρ b = none) → ρj b = some p ∧ (DD j b ∨ nn j ≤ b) ∧ j < m ∧ (hh m).at b = (hh (j + 1)).at b := by
      intro b m p hm hc hb e ht
      have hlt : b < nn (j + 1) := by
        rcases ht with ht | ht
        · exact st.af.wlt b ht
        · rcases which b p e with h | h
          · rw [ht] at h; cases h
          · exact h.2.1
      have hρj : ρj b = some p := by
        rcases which b p e with h | h
        · by_cases hn : nn j ≤ b
          · rw [none_in b hn hlt] at h; cases h
          · exact hpost.ext b p (cut_some.2 ⟨by omega, h⟩)
        · exact h.2.2.2
      have hD : DD j b ∨ nn j ≤ b := by
        rcases ht with ht | ht
        · exact st.af.sub b ht
        · rcases which b p e with h | h
          · rw [ht] at h; cases h
          · exact .inr h.1
      have hjm : j < m := by
        rcases ht with ht | ht
        · exact (hc j hjn ht).1 (.inr rfl)
        · rcases which b p e with h | h
          · rw [ht] at h; cases h
          · rcases Nat.lt_or_ge j m with h' | h'
            · exact h'
            · have := T.mono h' (by omega); omega
      refine ⟨hρj, hD, hjm, T.same (by omega) hm hlt fun k hk1 hk2 hW => ?_⟩
      have hSk : S k := by
        rcases (hc k (by omega) hW).2 hk2 with h | h
        · exact h
        · omega
      obtain ⟨ok, hok⟩ := get_of (ops := ops) (i := k) (by omega)
      rcases side k ok hok (by omega) with h | ⟨_, _, h3, h4, h5⟩
      · have := h.1 hSk; omega
      · have hle2 := T.mono (i := j + 1) (m := k) (by omega) (by omega)
        rcases ht with ht | ht
        · rcases (T.step k ok hok).af.sub b hW with g | g
          · exact h4 b ht g
          · omega
        · rcases which b p e with g | g
          · rw [ht] at g; cases g
          · rcases h5 (by omega) b hW with g' | g'
            · omega
            · omega
    have cutS : ∀ b m, b ∉ WW j → Cut ops WW (fun i => S i ∨ i = j) b m → Cut ops WW S b m := by
      intro b m hb hc i hi hW
      have hne : i ≠ j := fun e => hb (e ▸ hW)
      rw [← hc i hi hW]
      exact ⟨.inl, fun h => h.resolve_right hne⟩
    -- what is written was alive, and alone in its place
    have alone : ∀ b m p b0 p0, m ≤ ops.length → Cut ops WW S b m → b < nn m → live (hh m) b → ρ b = some p → b0 ∈ WW j → cut ρ (nn j) b0 = some p0 → p0.blk = p.blk → b = b0 := by
      intro b m p b0 p0 hm hc hb hl e h0 e0 hq
      obtain ⟨h1, h2⟩ := cut_some.1 e0
      have hD0 : DD j b0 := (st.af.sub b0 h0).resolve_right (by omega)
      exact I.inj b b0 m j p p0 hm (by omega) hc (hcutD b0 hD0) hb h1 hl (st.af.wl b0 h0 h1) e h2 hq.symm
    have unlike : ∀ b b' m m' p p', m ≤ ops.length → m' ≤ ops.length → Cut ops WW (fun i => S i ∨ i = j) b m → Cut ops WW (fun i => S i ∨ i = j) b' m' → b < nn m → b' < nn m' → live (hh m) b → live (hh m') b' → ρ' b = some p → ρ' b' = some p' → p.blk = p'.blk →
        b ∉ WW j → ρ b = some p → (b' ∈ WW j ∨ ρ b' = none) → False := by
      intro b b' m m' p p' hm hm' c c' hb hb' l l' e e' hq hnW hρ ht
      obtain ⟨k1, k2, k3, k4⟩ := touched b' m' p' hm' c' hb' e' ht
      have hl' : live (hh (j + 1)) b' := by unfold live at *; rw [k4] at l'; exact l'
      by_cases hold : b' < nn j
      · rcases ht with ht | ht
        · exact hnW (alone b m p b' p' hm (cutS b m hnW c) hb l hρ ht (cut_some.2 ⟨hold, old_ b' p' hold k1⟩) hq.symm ▸ ht)
        · have := old_ b' p' hold k1; rw [ht] at this; cases this
      · have hc0 : cut ρ (nn j) b' = none := by unfold cut; rw [if_neg hold]
        rcases (hpost.new b' p' k1 hc0).2 with g | ⟨b0, p0, g1, g2, g3, g4, g5⟩
        · have := I.bnd b p hρ; omega
        · exact hnW (alone b m p b0 p0 hm (cutS b m hnW c) hb l hρ g1 g2 (g3.trans hq.symm) ▸ g1)
    refine hK ρ' w' _ ⟨by rw [put_size]; exact I.size, by rw [put_defs]; exact I.defs, fun t m hm hw => ?_, fun b p e => ?_, fun b p e => ?_, fun b m p blk hm e hb hc hblk => ?_, fun b b' m m' p p' hm hm' c c' hb hb' l l' e e' i => ?_,
      fun g hg => ?_, I.ext.trans ext1, fun b p e e' => ?_, fun β hβ hk => ?_, Nat.le_trans I.hs hpost.size, hpost.os.trans I.os, hpost.tape.trans I.tape, hpost.output.trans I.output⟩
    · rw [put_getD (by rw [I.size]; exact st.dst)]
      by_cases hd : oj.dst = some t
      · rw [if_pos hd]
        have hjm : j < m := (hw j oj hj hd).1 (.inr rfl)
        rw [T.envs (i := j + 1) (by omega) hm fun k ok h1 h2 hok hdk => ?_, st.put, if_pos hd]
        · exact (hv.ext ext2).ext (cut_ext (.refl _) (T.mono (by omega) hm))
        · have hSk : S k := ((hw k ok hok hdk).2 h2).resolve_right (by omega)
          rcases side k ok hok (by omega) with h | ⟨_, h, _⟩
          · have := h.1 hSk; omega
          · exact h t hdk hd
      · rw [if_neg hd]
        refine (I.tmps t m hm fun i oi hoi hdi => ?_).ext (cut_ext ext1 (Nat.le_refl _))
        have hne : i ≠ j := fun e => by subst e; rw [hj] at hoi; cases hoi; exact hd hdi
        rw [← hw i oi hoi hdi]
        exact ⟨.inl, fun h => h.resolve_right hne⟩
    · rcases which b p e with h | ⟨h1, h2, _⟩
      · exact (I.dom b p h).imp id fun ⟨i, k1, k2, k3⟩ => ⟨i, k1, .inl k2, k3⟩
      · exact .inr ⟨j, hjn, .inr rfl, h1, h2⟩
    · rcases which b p e with h | ⟨_, _, _, h⟩
      · exact Nat.lt_of_lt_of_le (I.bnd b p h) hpost.size
      · exact hpost.pre.bnd b p h
    · by_cases ht : b ∈ WW j ∨ ρ b = none
      · obtain ⟨k1, k2, k3, k4⟩ := touched b m p hm hc hb e ht
        rw [k4] at hblk
        exact ((hpost.pre.rel b k2 blk p hblk k1).ext ext2).ext (cut_ext (.refl _) (T.mono (by omega) hm))
      · have hnW : b ∉ WW j := fun h => ht (.inl h)
        have hρ : ρ b = some p := (which b p e).resolve_right fun h => ht (.inr h.2.2.1)
        have hBR := (I.rel b m p blk hm hρ hb (cutS b m hnW hc) hblk).ext (cut_ext ext1 (Nat.le_refl _))
        by_cases hdead : blk = .dead
        · subst hdead; trivial
        · refine hBR.same (hpost.keep _ (I.bnd b p hρ) fun b0 p0 h0 e0 hq => hnW ?_)
          exact alone b m p b0 p0 hm (cutS b m hnW hc) hb ⟨blk, hblk, hdead⟩ hρ h0 e0 hq ▸ h0
    · by_cases ht : b ∈ WW j ∨ ρ b = none
      · by_cases ht' : b' ∈ WW j ∨ ρ b' = none
        · obtain ⟨k1, k2, k3, k4⟩ := touched b m p hm c hb e ht
          obtain ⟨k1', k2', k3', k4'⟩ := touched b' m' p' hm' c' hb' e' ht'
          refine hpost.pre.inj b b' p p' k2 k2' ?_ ?_ k1 k1' i
          · unfold live at *; rw [k4] at l; exact l
          · unfold live at *; rw [k4'] at l'; exact l'
        · exact (unlike b' b m' m p' p hm' hm c' c hb' hb l' l e' e i.symm (fun h => ht' (.inl h)) ((which b' p' e').resolve_right fun h => ht' (.inr h.2.2.1)) ht).elim
      · by_cases ht' : b' ∈ WW j ∨ ρ b' = none
        · exact (unlike b b' m m' p p' hm hm' c c' hb hb' l l' e e' i (fun h => ht (.inl h)) ((which b p e).resolve_right fun h => ht (.inr h.2.2.1)) ht').elim
        · exact I.inj b b' m m' p p' hm hm' (cutS b m (fun h => ht (.inl h)) c) (cutS b' m' (fun h => ht' (.inl h)) c') hb hb' l l' ((which b p e).resolve_right fun h => ht (.inr h.2.2.1)) ((which b' p' e').resolve_right fun h => ht' (.inr h.2.2.1)) i
    · obtain ⟨h1, p, h2, h3⟩ := I.glob g hg
      exact ⟨h1, p, ext1 _ _ h2, h3⟩
    · rcases which b p e with h | ⟨h1, h2, h3, h4⟩
      · exact I.new b p h e'
      · refine ⟨Nat.le_trans (T.mono (Nat.zero_le _) (by omega)) h1, ?_⟩
        have hc0 : cut ρ (nn j) b = none := by unfold cut; rw [if_neg (by omega)]
        rcases (hpost.new b p h4 hc0).2 with g | ⟨b0, p0, g1, g2, g3, g4, g5⟩
        · exact .inl (Nat.le_trans I.hs g)
        · obtain ⟨g6, g7⟩ := cut_some.1 g2
          cases h0 : ρ0 b0 with
          | some q =>
            have := I.ext b0 q h0
            rw [g7] at this; cases this
            have hb0 := hdom0 b0 p0 h0
            have hb0' : b0 < nn (j + 1) := by omega
            exact .inr ⟨b0, p0, ⟨j, hjn, g1⟩, h0, g3, T.alive (Nat.zero_le j) (by omega) hb0 g4, fun hl => g5 (T.alive (i := j + 1) (by omega) (Nat.le_refl _) hb0' hl)⟩
          | none =>
            rcases (I.new b0 p0 g7 h0).2 with k | ⟨b1, p1, k1, k2, k3, k4⟩
            · exact .inl (by omega)
            · exact .inr ⟨b1, p1, k1, k2, by omega, k4⟩
    · rw [← I.keep β hβ hk]
      refine hpost.keep β (Nat.lt_of_lt_of_le hβ I.hs) fun b p hb e hq => ?_
      obtain ⟨g6, g7⟩ := cut_some.1 e
      cases h0 : ρ0 b with
      | some q =>
        have := I.ext b q h0
        rw [g7] at this; cases this
        exact hk b p ⟨j, hjn, hb⟩ h0 hq
      | none =>
        rcases (I.new b p g7 h0).2 with k | ⟨b1, p1, k1, k2, k3, k4⟩
        · omega
        · exact hk b1 p1 k1 k2 (by omega)
  unfold wpOp
  rw [show ops.toArray[j]? = some oj by simpa using hj]
  rcases st.run (cut ρ (nn j)) w a I.size hlooks hPre with ⟨hw, hrun⟩ | ⟨hw, hR⟩
  · simp only [hw, if_true]
    refine .inl (Oper.wp_mono ?_ (Oper.wp_exits hrun))
    rintro a' w' ⟨v, rfl, hR⟩
    exact after v w' hR
  · simp only [hw, Bool.false_eq_true, if_false]
    exact after undef w hR
end
end Go.CE
