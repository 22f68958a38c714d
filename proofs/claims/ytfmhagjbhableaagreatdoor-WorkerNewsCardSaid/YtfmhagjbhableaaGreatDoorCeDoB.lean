/-
  CE, part 16: append is sound.
-/
import Derived.Test.YtfmhagjbhableaaGreatDoorCeDoA
namespace Go.CE
open Go
set_option linter.unusedVariables false
set_option linter.unusedSimpArgs false
section
variable {P : Program} {o : Oper} {env : T AV} {D : Nat → Prop} {h : AH} {nx : Nat} {lg : List Nat} {k : KV} {r : Res}

/-- What the source of an append gives in a world. -/
structure Src (P : Program) (sz m : Nat) (l : List AV) (ρ : Ren) (w : World) (x : Value) (xs : List Value) : Prop where
  len : (Builtin.lenOf x).run P w = .ok m w
  size : xs.length = m * sz
  rel : VRs ρ l xs
  first : (Builtin.firstCells sz m x).run P w = .ok xs.toArray w
theorem run_load_heap {w w' : World} (hw : w'.heap = w.heap) (a : Addr) {v : Value} (h : w.cell? a = some v) : (load a).run P w' = .ok v w' := by
  have : w'.cell? a = some v := by unfold World.cell? at *; rw [hw]; exact h
  exact run_load_cell this
theorem Src.same {sz m : Nat} {l : List AV} {ρ : Ren} {w w' : World} {x : Value} {xs : List Value} (hS : Src P sz m l ρ w x xs) (hw : w'.heap = w.heap) : (Builtin.firstCells sz m x).run P w' = .ok xs.toArray w' := by
  have hf := hS.first
  have key : ∀ (b o : Nat) (sp : Option Nat) (n i : Nat) (acc res : Array Value), (loadCellsFrom ⟨b, o, sp⟩ i n acc).run P w = .ok res w → (loadCellsFrom ⟨b, o, sp⟩ i n acc).run P w' = .ok res w' := by
    intro b o sp n
    induction n with
    | zero => intro i acc res h; simp [loadCellsFrom] at h ⊢; exact h
    | succ n ih =>
      intro i acc res h
      simp only [loadCellsFrom, Sem.run_bind] at h ⊢
      have hc : w'.cell? ((⟨b, o, sp⟩ : Addr).add i) = w.cell? ((⟨b, o, sp⟩ : Addr).add i) := by unfold World.cell?; rw [hw]
      cases hv : w.cell? ((⟨b, o, sp⟩ : Addr).add i) with
      | some v =>
        rw [run_load_cell hv] at h
        rw [run_load_cell (hc.trans hv)]
        simp only [Result.andThen_ok] at h ⊢
        exact ih _ _ _ h
      | none =>
        rw [run_load, hv] at h
        rw [run_load, hc, hv]
        have hfar : w'.farLoad P ((⟨b, o, sp⟩ : Addr).add i) (Mode.plain == .atomic) = w.farLoad P ((⟨b, o, sp⟩ : Addr).add i) (Mode.plain == .atomic) := by
          have hvl : ∀ a u b t, w'.viewLoad P a u b t = w.viewLoad P a u b t := by
            intro a u b t
            cases w; cases w'; simp at hw; subst hw; rfl
          unfold World.farLoad World.noCell
          rw [hw]
          simp only [hvl]
        rw [hfar]
        cases hfl : w.farLoad P ((⟨b, o, sp⟩ : Addr).add i) (Mode.plain == .atomic) with
        | ok q => obtain ⟨v, q⟩ := q; rw [hfl] at h; simp only [Result.andThen_ok] at h ⊢; exact ih _ _ _ h
        | error e => rw [hfl] at h; cases h
  cases x <;> simp only [Builtin.firstCells] at hf ⊢ <;> first
    | (cases hf; done)
    | skip
  case string s => simp at hf ⊢; exact hf
  case slice a n c =>
    cases a with
    | none => simp at hf ⊢; exact hf
    | some a => obtain ⟨b, o, sp⟩ := a; exact key b o sp _ 0 #[] _ hf
theorem doAppend_did {c : Call} (ho : o.op = .call c) (hc : c.callee = .builtin .append) {vs : List AV} (hl : vs.length = c.args.toList.length) (hv : ∀ (i : Nat) x v, c.args.toList[i]? = some x → vs[i]? = some v → evalA P.globals.size env x = some v)
    (hD : ∀ b, FootIn P o.op env b → D b) (e : doAppend P c.argTypes vs h nx lg k = r) (hr : r ≠ .fail) (hn : ∀ b blk, h.at b = some blk → b < nx) : Did P o env D h nx lg k r := by
  replace e := two_inv e hr; obtain ⟨s, x, rfl, e⟩ := e
  replace e := optK_inv e hr; obtain ⟨t, ht, e⟩ := e
  replace e := optK_inv e hr; obtain ⟨xt, hxt, e⟩ := e
  replace e := optK_inv e hr; obtain ⟨⟨et, sz⟩, hy, e⟩ := e
  replace e := optK_inv e hr; obtain ⟨z, hz, e⟩ := e
  replace e := optK_inv e hr; obtain ⟨info, hi, e⟩ := e
  replace e := ifK_inv e hr; obtain ⟨hcc, e⟩ := e
  simp only [Bool.and_eq_true, beqN, bleN, bltN] at hcc
  obtain ⟨⟨hzc, hzl⟩, hbytes, hsz0, hni⟩ := hcc
  have hsz0 : 0 < sz := hsz0
  rw [forceN_eq] at e
  replace e := srcK_inv (P := P) e hr; obtain ⟨m, l, e, hm, HS⟩ := e
  replace e := ifK_inv e hr; obtain ⟨hlc, e⟩ := e
  obtain ⟨info', hu, hi', hs⟩ := slSize_inv hy
  rw [show P.info? et = some info from hi] at hi'; cases hi'
  obtain ⟨d, hd, hnd⟩ := notIntTy_inv hni
  obtain ⟨iz, zv, hi2, hzv, hrun, hV⟩ := zeroOf_inv hz
  have hcells := cellsOK_iff hlc
  have hzsz : ∀ ρ : Ren, zv.cells.size = sz := fun ρ => by
    rw [← Array.length_toList (xs := zv.cells), ← (cellsA_sound (hV ρ) (cellsOK_tuple hzc)).length]; exact hzl
  -- the source, in a world
  have hsrc : ∀ ρ w (a : Act), OpsR P ρ env o a → Pre P D ρ h nx w → ∃ sv xv cs xs, (∀ w, (execOp a.eval o).run P w = ((Builtin.append_ c.argTypes o.type #[sv, xv]).run P w).andThen fun v w => .ok (.value v) w) ∧ VR ρ s sv ∧ Src P sz m l ρ w xv xs ∧ cs = (0 : Nat) := by
    intro ρ w a hx hp
    obtain ⟨cs, hex⟩ := exec_builtin (P := P) (a := a) ho hc
    obtain ⟨sv, xv, ha, h1, h2⟩ := args_two (call_args ho hl hv hx)
    obtain ⟨g1, xs, g2, g3, g4⟩ := HS ρ w xv h2 (fun b hb blk p hblk hρ => hp.rel b (hD b (foot_arg ho hl hv (v := x) (by simp) hb)) blk p hblk hρ)
    refine ⟨sv, xv, 0, xs, fun w => ?_, h1, ⟨g1, g2, g3, g4⟩, rfl⟩
    rw [hex, ha]
    simp [builtin]
  -- a new row of cells, its old part 'olds'
  have fresh : ∀ (need n : Nat) (ll : List AV), need = n + m → need ≤ 2000000 → ll.length = need * sz → 0 < sz → apNew et sz need ll h nx lg k = r →
      (∀ ρ w (a : Act) sv xv xs, OpsR P ρ env o a → Pre P D ρ h nx w → VR ρ s sv → Src P sz m l ρ w xv xs → ∃ base cp olds, sv = .slice base n cp ∧ ¬ n + m ≤ cp ∧ VRs ρ ll (olds ++ xs) ∧
        ∀ w', w'.heap = w.heap → (Builtin.firstCells sz n sv).run P w' = .ok olds.toArray w') → Did P o env D h nx lg k r := by
    intro need n ll hneed hsm hll hsz e H
    obtain ⟨rows, e', hrows, _⟩ := chunkK_inv sz need ll 0 .leaf (fun rows => newBlk (.cells et sz need rows false) h nx fun h nx' => k (.slice nx 0 need need false) h nx' lg)
    have e' := e'.symm.trans e
    rw [newBlk_eq] at e'
    refine did_new e' fun ρ w a hx hp => ?_
    obtain ⟨sv, xv, cs, xs, hex, h1, hS, _⟩ := hsrc ρ w a hx hp
    obtain ⟨base, cp, olds, rfl, hnle, hrel, hold⟩ := H ρ w a sv xv xs hx hp h1 hS
    have hcap := newCap_bounds w (old := cp) et (need := n + m) (by omega)
    subst hs
    have hrunA := run_append_new (ty := o.type) ht hxt hu hi hd hnd hrun hbytes hS.len (fun w' hw => hS.same hw) hold hnle (by omega)
    have hzs := hzsz ρ
    subst hneed
    refine ⟨.slice (some ⟨w.heap.size, 0, none⟩) (n + m) (newCap w (n + m) cp et), .cells ((olds ++ xs).toArray ++ Builtin.zeroCells zv.cells (newCap w (n + m) cp et - (n + m))) et, ⟨w.heap.size, 0, newCap w (n + m) cp et * info.size, info.size⟩, { w with heap := w.heap.push (.cells ((olds ++ xs).toArray ++ Builtin.zeroCells zv.cells (newCap w (n + m) cp et - (n + m))) et), drawn := w.drawn + 1 }, by rw [hex, hrunA]; rfl, rfl, rfl, rfl, rfl, rfl, ⟨⟨w.heap.size, 0, newCap w (n + m) cp et * info.size, info.size⟩, _, newCap w (n + m) cp et, updR_at _ _, rfl, .inl rfl, hcap.1, hcap.1, by simp, by simp, hcap.2⟩, ?_⟩
    refine BR.grown (vs := olds ++ xs) (rest := Builtin.zeroCells zv.cells (newCap w (n + m) cp et - (n + m))) (by simp) rfl rfl rfl hcap.1 hll (by rw [zeroCells_size, hzs]) (hrel.ext (Ext.upd hp.fresh)) (fun j hj => by have := hrows j hj; rwa [Nat.zero_add] at this)
  cases s <;> first
    | exact absurd e.symm hr
    | skip
  case nilSlice =>
    have e' : @Bool.rec (fun _ => Res) (apNew et sz m l h nx lg k) (k .nilSlice h nx lg) (Nat.beq m 0) = r := e
    rw [boolRec_ite] at e'
    split at e'
    · rename_i h0
      rw [beqN] at h0; subst h0
      refine did_same e' fun ρ w a hx hp => ?_
      obtain ⟨sv, xv, cs, xs, hex, h1, hS, _⟩ := hsrc ρ w a hx hp
      simp only [VR] at h1; subst h1
      have hxs : xs = [] := List.length_eq_zero_iff.1 (by rw [hS.size]; simp)
      subst hxs
      subst hs
      exact ⟨.slice none 0 0, by rw [hex, run_append_none ht hxt hu hi hd hnd hS.len hS.first (Nat.le_refl _)]; rfl, rfl⟩
    · rename_i h0
      rw [beqN] at h0
      by_cases hll : l.length = m * sz
      · refine fresh m 0 l (by omega) (by omega) hll hsz0 e' fun ρ w a sv xv xs hx hp h1 hS => ?_
        simp only [VR] at h1; subst h1
        exact ⟨none, 0, [], rfl, by omega, by simpa using hS.rel, fun w' _ => by simp [Builtin.firstCells]⟩
      · -- no world fits
        obtain ⟨rows, e2, _, _⟩ := chunkK_inv sz m l 0 .leaf (fun rows => newBlk (.cells et sz m rows false) h nx fun h nx' => k (.slice nx 0 m m false) h nx' lg)
        have e2 := e2.symm.trans e'
        rw [newBlk_eq] at e2
        exact did_new e2 fun ρ w a hx hp => by
          obtain ⟨sv, xv, cs, xs, hex, h1, hS, _⟩ := hsrc ρ w a hx hp
          exact absurd (hS.rel.length.trans hS.size) hll
  case slice b q n cp ex =>
    have e' : @Bool.rec (fun _ => Res) (apSlice et sz m l b q n cp ex h nx lg k) (k (.slice b q n cp ex) h nx lg) (Nat.beq m 0) = r := e
    rw [boolRec_ite] at e'
    split at e'
    · rename_i h0
      rw [beqN] at h0; subst h0
      refine did_same e' fun ρ w a hx hp => ?_
      obtain ⟨sv, xv, cs, xs, hex, h1, hS, _⟩ := hsrc ρ w a hx hp
      have h1' := h1
      obtain ⟨p, q', c', h2, h3, _, h4, _⟩ := h1
      subst h3
      have hxs : xs = [] := List.length_eq_zero_iff.1 (by rw [hS.size]; simp)
      subst hxs
      subst hs
      exact ⟨_, by rw [hex, run_append_none ht hxt hu hi hd hnd hS.len hS.first h4]; rfl, h1'⟩
    · rename_i h0
      rw [beqN] at h0
      have hf : D b := hD b (foot_arg ho hl hv (v := .slice b q n cp ex) (by simp) rfl)
      replace e' := getBlk_inv e' hr; obtain ⟨blk, hb, e'⟩ := e'
      replace e' := asCells_inv e' hr; obtain ⟨ty, esz, nr, rows, ro, rfl, e'⟩ := e'
      rw [forceN_eq] at e'
      generalize Nat.div q esz = i at e'
      replace e' := ifK_inv e' hr; obtain ⟨hq, e'⟩ := e'
      simp only [Bool.and_eq_true, beqN, bltN] at hq
      obtain ⟨rfl, hq, hsz⟩ := hq
      have hq : i * esz = q := hq
      rw [forceN_eq] at e'
      replace e' := ifK_inv e' hr; obtain ⟨hsm, e'⟩ := e'
      rw [bleN] at hsm
      have hsm : n + m ≤ 2000000 := hsm
      have hlive : live h b := ⟨_, hb, by simp⟩
      rw [boolRec_ite] at e'
      split at e'
      · -- in place, within the cells that are known
        rename_i hle
        rw [bleN] at hle
        have hle : n + m ≤ cp := hle
        replace e' := ifK_inv e' hr; obtain ⟨hc2, e'⟩ := e'
        simp only [Bool.and_eq_true, bleN, Bool.not_eq_true'] at hc2
        obtain ⟨rfl, hfit⟩ := hc2
        have hfit : i + (n + m) ≤ nr := hfit
        obtain ⟨rows', e2, h1r, h2r⟩ := chunkK_inv esz m l (i + n) rows (fun rows => T.setK h (Nat.succ b) (.cells ty esz nr rows false) fun h => k (.slice b q (n + m) cp ex) h nx (b :: lg))
        have e2 := e2.symm.trans e'
        rw [T.setK_put] at e2
        refine ⟨_, _, nx, [b], e2, .upd hf (hn _ _ hb) hlive, fun ρ w a hx hp => ?_⟩
        obtain ⟨sv, xv, cs, xs, hex, h1, hS, _⟩ := hsrc ρ w a hx hp
        obtain ⟨p, c', h2, h3, h4, h5, h6, h7, h8⟩ := h1.at (.inr (by omega))
        subst h3
        have hB := hp.rel b hf _ p hb h2
        have hpe : p.esz = esz := hB.1
        have hroom : (i + (n + m)) * esz ≤ p.room := Nat.le_trans (Nat.mul_le_mul_right _ hfit) hB.2.1
        obtain ⟨arr, fz, g1, g2⟩ := hB.storeRows (P := P) (i := i + n) (m := m) (hS.rel.length.trans hS.size) hS.rel hcells (by omega) (by rw [← Nat.add_assoc] at hroom; exact hroom) h1r h2r
        have hmx : max nr (i + n + m) = nr := by omega
        rw [hmx] at g2
        have hst : (storeCells ((⟨p.blk, p.base + q, none⟩ : Addr).add (n * info.size)) xs).run P w = .ok () (setBlk w p.blk (.cells arr ty fz)) := by
          rw [addr_add, hs]
          have : p.base + q + n * esz = p.base + (i + n) * esz := by rw [Nat.add_mul, ← hq]; omega
          rw [this]; exact g1
        subst hs
        refine RunsTo.value (by rw [hex, run_append_in ht hxt hu hi hd hnd hS.len hS.first (by omega) hst]; rfl) ⟨ρ, VR.slice_mk h2 (by omega) h5 h6 h7 h8, .upd hp hf hlive h2 (fun β hβ => setBlk_ne hβ) (setBlk_size _ _ _) rfl rfl rfl g2⟩
      · rename_i hle
        rw [bleN] at hle
        have hle : ¬ n + m ≤ cp := hle
        rw [boolRec_ite] at e'
        split at e'
        · -- exact: a new row
          rename_i hex1
          subst hex1
          replace e' := ifK_inv e' hr; obtain ⟨hin, e'⟩ := e'
          rw [bleN] at hin
          have hin : i + n ≤ nr := hin
          replace e' := flatK_inv e' hr; obtain ⟨l0, e', H0⟩ := e'
          rw [appK_eq] at e'
          by_cases hll : (l0 ++ l).length = (n + m) * esz
          · refine fresh (n + m) n (l0 ++ l) rfl hsm hll hsz e' fun ρ w a sv xv xs hx hp h1 hS => ?_
            obtain ⟨p, q', c', h2, h3, hq', h4, h5, h6, h7, h8⟩ := h1
            subst h3
            have hBr := hp.rel b hf _ p hb h2
            obtain ⟨H1, H2⟩ := H0 ty esz nr ro ρ p w hBr hin
            obtain ⟨olds, g1, g2, g3⟩ := hBr.flatList hin H1 H2
            refine ⟨_, c', olds, rfl, by rw [h6 rfl]; exact hle, g2.append hS.rel, fun w' hw => ?_⟩
            simp only [Builtin.firstCells]
            refine run_loadCells g1 fun j v hj => ?_
            have := g3 j v hj
            have hjl : j < n * esz := by rw [← g1]; exact (List.getElem?_eq_some_iff.1 hj).1
            obtain rfl : q' = p.base + q := hq'.resolve_right (fun ⟨z, _⟩ => by rw [z, Nat.zero_mul] at hjl; omega)
            rw [hq] at this
            unfold World.cell? at *
            rw [hw]; exact this
          · obtain ⟨rows', e2, _, _⟩ := chunkK_inv esz (n + m) (l0 ++ l) 0 .leaf (fun rows => newBlk (.cells et esz (n + m) rows false) h nx fun h nx' => k (.slice nx 0 (n + m) (n + m) false) h nx' lg)
            have e2 := e2.symm.trans e'
            rw [newBlk_eq] at e2
            exact did_new e2 fun ρ w a hx hp => by
              obtain ⟨sv, xv, cs, xs, hex, h1, hS, _⟩ := hsrc ρ w a hx hp
              obtain ⟨p, q', c', h2, h3, _, h4, h5, h6, h7, h8⟩ := h1
              obtain ⟨H1, H2⟩ := H0 ty esz nr ro ρ p w (hp.rel b hf _ p hb h2) hin
              refine absurd ?_ hll
              rw [List.length_append, H1, hS.rel.length, hS.size, Nat.add_mul]
        · -- the tip of a row whose capacity is open
          replace e' := ifK_inv e' hr; obtain ⟨hc2, e'⟩ := e'
          simp only [Bool.and_eq_true, beqN, Bool.not_eq_true'] at hc2
          obtain ⟨rfl, htip, rfl⟩ := hc2
          have htip : i + n = nr := htip
          -- whatever rows there are: they are the old ones from i on, and the new ones
          have e3 : ∃ rows2, apMove b ty esz (n + m) rows2 h nx lg k = r ∧ ∀ (ρ : Ren) p w, BR ρ (.cells ty esz nr rows false) p w → l.length = m * esz →
              (∃ (l0 : List AV) (olds : List Value), l0.length = n * esz ∧ VRs ρ l0 olds ∧ (∀ (j : Nat) v, olds[j]? = some v → w.cell? ⟨p.blk, p.base + i * esz + j, none⟩ = some v) ∧ (∀ j, j < n → rows.at (i + j) = some ((l0.drop (j * esz)).take esz)) ∧
                (∀ j, j < n → rows2.at j = rows.at (i + j)) ∧ ∀ j, j < m → rows2.at (n + j) = some ((l.drop (j * esz)).take esz)) := by
            rw [boolRec_ite] at e'
            split at e'
            · rename_i hi0
              rw [beqN] at hi0; subst hi0
              obtain ⟨rows', e2, h1r, h2r⟩ := chunkK_inv esz m l n rows (fun rows => apMove b ty esz (n + m) rows h nx lg k)
              refine ⟨rows', e2.symm.trans e', fun ρ p w hB hlen => ?_⟩
              obtain ⟨l0, olds, g1, g2, g3, g4⟩ := hB.flatten n 0 (by omega)
              exact ⟨l0, olds, g1, g2, g3, g4, fun j hj => by rw [h2r j (.inl hj), Nat.zero_add], h1r⟩
            · replace e' := flatK_inv e' hr; obtain ⟨l1, e', H0⟩ := e'
              rw [appK_eq] at e'
              obtain ⟨rows', e2, h1r, h2r⟩ := chunkK_inv esz (n + m) (l1 ++ l) 0 .leaf (fun rows => apMove b ty esz (n + m) rows h nx lg k)
              refine ⟨rows', e2.symm.trans e', fun ρ p w hB hlen => ?_⟩
              obtain ⟨k1, k2⟩ := H0 ty esz nr false ρ p w hB (by omega)
              obtain ⟨l0, olds, g1, g2, g3, g4⟩ := hB.flatten n i (by omega)
              refine ⟨l0, olds, g1, g2, g3, g4, fun j hj => ?_, fun j hj => ?_⟩
              · have := h1r j (by omega)
                rw [Nat.zero_add] at this
                rw [this, k2 j hj]
                have hle : (j + 1) * esz ≤ n * esz := Nat.mul_le_mul_right _ hj
                rw [Nat.succ_mul] at hle
                rw [List.drop_append_of_le_length (by omega), List.take_append_of_le_length (by rw [List.length_drop]; omega)]
              · have := h1r (n + j) (by omega)
                rw [Nat.zero_add] at this
                rw [this, Nat.add_mul, ← k1, ← List.drop_drop, List.drop_left]
          obtain ⟨rows2, e3, HR⟩ := e3
          unfold apMove at e3
          rw [T.setK_put, newBlk_eq] at e3
          refine ⟨_, _, nx + 1, [b], e3, .move hf (hn _ _ hb) hlive, fun ρ w a hx hp => ?_⟩
          obtain ⟨sv, xv, cs, xs, hex, h1, hS, _⟩ := hsrc ρ w a hx hp
          obtain ⟨p, q', c', h2, h3, hq', h4, h5, h6, h7, h8⟩ := h1
          subst h3
          have hB := hp.rel b hf _ p hb h2
          have hpe : p.esz = esz := hB.1
          obtain ⟨l0, olds, q1, q2, q3, q4, k1, k2⟩ := HR ρ p w hB (hS.rel.length.trans hS.size)
          have hshift := hB.shift (rows' := rows2) (by omega) k1
          by_cases hin : n + m ≤ c'
          · -- in place
            obtain rfl : q' = p.base + q := hq'.resolve_right (by omega)
            have hroom : (n + m) * esz ≤ p.room - i * esz := by
              have : (n + m) * p.esz ≤ c' * p.esz := Nat.mul_le_mul_right _ hin
              rw [hpe] at this h7
              omega
            obtain ⟨arr, fz, g1, g2⟩ := hshift.storeRows (P := P) (i := n) (m := m) (hS.rel.length.trans hS.size) hS.rel hcells (Nat.le_refl _) hroom k2 (fun _ _ => rfl)
            have hmx : max n (n + m) = n + m := by omega
            rw [hmx] at g2
            have hst : (storeCells ((⟨p.blk, p.base + q, none⟩ : Addr).add (n * info.size)) xs).run P w = .ok () (setBlk w p.blk (.cells arr ty fz)) := by
              rw [addr_add, hs, ← hq]; exact g1
            subst hs
            refine RunsTo.value (by rw [hex, run_append_in ht hxt hu hi hd hnd hS.len hS.first hin hst]; rfl) ⟨_, ⟨_, _, c', updR_at nx ⟨p.blk, p.base + i * info.size, p.room - i * info.size, info.size⟩, rfl, .inl ?_, hin, hin, by simp, ?_, h8⟩, Post.move hp hf hlive h2 (fun β _ hβ => setBlk_ne hβ) (by rw [setBlk_size]; exact Nat.le_refl _) rfl rfl rfl (.inl rfl) (g2.ext (Ext.upd hp.fresh))⟩
            · rw [← hq]; rfl
            · show 0 + c' * info.size ≤ p.room - i * info.size
              rw [hpe] at h7; omega
          · -- a new row
            have hcap := newCap_bounds w (old := c') ty (need := n + m) hsm
            have hold : ∀ w', w'.heap = w.heap → (Builtin.firstCells esz n (.slice (some ⟨p.blk, q', none⟩) n c')).run P w' = .ok olds.toArray w' := fun w' hw => by
              simp only [Builtin.firstCells]
              refine run_loadCells (q2.length.symm.trans q1) fun j v hj => ?_
              have := q3 j v hj
              have hjl : j < n * esz := by rw [← q1, q2.length]; exact (List.getElem?_eq_some_iff.1 hj).1
              obtain rfl : q' = p.base + q := hq'.resolve_right (fun ⟨z, _⟩ => by rw [z, Nat.zero_mul] at hjl; omega)
              rw [hq] at this
              unfold World.cell? at *
              rw [hw]; exact this
            subst hs
            have hrunA := run_append_new (ty := o.type) ht hxt hu hi hd hnd hrun hbytes hS.len (fun w' hw => hS.same hw) hold hin hsm
            have hzs := hzsz ρ
            refine RunsTo.value (v := .slice (some ⟨w.heap.size, 0, none⟩) (n + m) (newCap w (n + m) c' ty)) (w' := { w with heap := w.heap.push (.cells ((olds ++ xs).toArray ++ Builtin.zeroCells zv.cells (newCap w (n + m) c' ty - (n + m))) ty), drawn := w.drawn + 1 }) (by rw [hex, hrunA]; rfl) ⟨_, ⟨⟨w.heap.size, 0, newCap w (n + m) c' ty * info.size, info.size⟩, _, newCap w (n + m) c' ty, updR_at _ _, rfl, .inl rfl, hcap.1, hcap.1, by simp, by simp, hcap.2⟩, Post.move hp hf hlive h2 (fun β hβ _ => by show (w.heap.push _)[β]? = _; rw [Array.getElem?_push, if_neg (by omega)]) (by simp) rfl rfl rfl (.inr ⟨rfl, by simp⟩) ?_⟩
            refine BR.grown (vs := olds ++ xs) (rest := Builtin.zeroCells zv.cells (newCap w (n + m) c' ty - (n + m))) (l := l0 ++ l) (by simp) rfl rfl rfl hcap.1 ?_ (by rw [zeroCells_size, hzs]) ((q2.append hS.rel).ext (Ext.upd hp.fresh)) (fun j hj => ?_)
            · rw [List.length_append, q1, hS.rel.length, hS.size, Nat.add_mul]
            · rcases Nat.lt_or_ge j n with z | z
              · rw [k1 j z, q4 j z]
                have hle : (j + 1) * info.size ≤ n * info.size := Nat.mul_le_mul_right _ z
                rw [Nat.succ_mul] at hle
                rw [List.drop_append_of_le_length (by omega), List.take_append_of_le_length (by rw [List.length_drop]; omega)]
              · obtain ⟨s, rfl⟩ : ∃ s, j = n + s := ⟨j - n, by omega⟩
                rw [k2 s (by omega), Nat.add_mul, ← q1, ← List.drop_drop, List.drop_left]
end
end Go.CE
