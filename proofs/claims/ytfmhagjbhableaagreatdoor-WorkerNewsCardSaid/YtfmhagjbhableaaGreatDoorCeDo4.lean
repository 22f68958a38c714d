/-
  CE, part 9: literals of structs, arrays and slices; make; cuts of strings and slices.
-/
import Derived.Test.YtfmhagjbhableaaGreatDoorCeDo3
import Derived.IntWalk
namespace Go.CE
open Go
set_option linter.unusedVariables false
set_option linter.unusedSimpArgs false

theorem setL_toList {vs : List Value} {arr : Array Value} {o : Nat} (h : o + vs.length ≤ arr.size) : (setL arr o vs).toList = over o vs arr.toList := by
  apply List.ext_getElem?
  intro i
  rw [Array.getElem?_toList, setL_get _ _ _ _ h, over_get (by simpa using h)]
  split
  · rfl
  · rw [Array.getElem?_toList]
theorem foldl_setL (off : Nat) : ∀ (vs : List Value) (n : Nat) (cs : Array Value), (vs.zipIdx n).foldl (fun cs (p : Value × Nat) => cs.setIfInBounds (off + p.2) p.1) cs = setL cs (off + n) vs
  | [], _, _ => rfl
  | v :: vs, n, cs => by
    simp only [List.zipIdx_cons, List.foldl_cons, setL]
    exact foldl_setL off vs (n + 1) _
theorem fill_step (cs vs : Array Value) (off : Nat) : vs.zipIdx.foldl (fun cs (p : Value × Nat) => cs.setIfInBounds (off + p.2) p.1) cs = setL cs off vs.toList := by
  rw [← Array.foldl_toList, Array.toList_zipIdx]
  exact foldl_setL off vs.toList 0 cs

noncomputable def fillK (NG : Nat) (env : T AV) (place : Nat → Option (Nat × Nat)) (ps : List (Nat × Operand)) (l : List AV) (c : List AV → Res) : Res :=
  @List.rec (Nat × Operand) (fun _ => List AV → Res) c (fun p _ ih l => evalO NG env p.2 fun v => optK (place p.1) fun z => ifK (and (cellsOK (cellsA v)) (and (Nat.beq (cellsA v).length z.2) (Nat.ble (Nat.add z.1 z.2) l.length))) (overK z.1 (cellsA v) l ih)) ps l
section
variable {P : Program} {r : Res}
theorem fillK_inv {env : T AV} {place : Nat → Option (Nat × Nat)} : ∀ {ps : List (Nat × Operand)} {l : List AV} {c : List AV → Res}, fillK P.globals.size env place ps l c = r → r ≠ .fail →
    ∃ l', c l' = r ∧ ∀ (ρ : Ren) (a : Act) (cells : Array Value), VRs ρ l cells.toList → (∀ p ∈ ps, ∀ v, evalA P.globals.size env p.2 = some v → VR ρ v (a.eval p.2)) →
      ∃ cells', Instr.fill place cells (ps.map fun (i, x) => (i, a.eval x)) = some cells' ∧ VRs ρ l' cells'.toList
  | [], l, c, e, hr => ⟨l, e, fun ρ a cells hl _ => ⟨cells, rfl, hl⟩⟩
  | (i, x) :: ps, l, c, e, hr => by
    have e' : (evalO P.globals.size env x fun v => optK (place i) fun z => ifK (and (cellsOK (cellsA v)) (and (Nat.beq (cellsA v).length z.2) (Nat.ble (Nat.add z.1 z.2) l.length))) (overK z.1 (cellsA v) l fun l => fillK P.globals.size env place ps l c)) = r := e
    replace e' := evalO_inv e' hr; obtain ⟨v, e1, e'⟩ := e'
    replace e' := optK_inv e' hr; obtain ⟨⟨off, sz⟩, hp, e'⟩ := e'
    replace e' := ifK_inv e' hr; obtain ⟨hc, e'⟩ := e'
    simp only [Bool.and_eq_true, beqN, bleN] at hc
    obtain ⟨hc, hlen, hfit⟩ := hc
    rw [overK_eq] at e'
    obtain ⟨l', e2, H⟩ := fillK_inv e' hr
    refine ⟨l', e2, fun ρ a cells hl hx => ?_⟩
    have hv := cellsA_sound (hx (i, x) (by simp) v e1) (cellsOK_tuple hc)
    have hs : (a.eval x).cells.size = sz := by
      rw [← Array.length_toList, ← hv.length]; exact hlen
    have hls : l.length = cells.size := by rw [← Array.length_toList]; exact hl.length
    have hfit' : off + sz ≤ cells.size := by rw [← hls]; exact hfit
    have hfit2 : off + (a.eval x).cells.toList.length ≤ cells.size := by rw [Array.length_toList, hs]; exact hfit'
    obtain ⟨cells', g1, g2⟩ := H ρ a (setL cells off (a.eval x).cells.toList) (by rw [setL_toList hfit2]; exact hv.over hl) (fun p hp => hx p (by simp [hp]))
    refine ⟨cells', ?_, g2⟩
    simp only [List.map_cons, Instr.fill, hp]
    rw [if_neg (by simp [hs]; omega), fill_step]
    exact g1

/-- The places of a struct's fields. -/
def placesOf (P : Program) : List Field → Option (List (Nat × Nat))
  | [] => some []
  | f :: fs => match P.info? f.type, placesOf P fs with
    | some i, some r => some ((f.offset, i.size) :: r)
    | _, _ => none
theorem run_placesOf {w : World} : ∀ {fs : List Field} {ps : List (Nat × Nat)}, placesOf P fs = some ps → (fs.mapM fun f => do pure (f.offset, ← Go.sizeOf f.type) : Sem _).run P w = .ok ps w
  | [], ps, h => by cases h; rfl
  | f :: fs, ps, h => by
    simp only [placesOf] at h
    split at h
    · rename_i i r h1 h2
      cases h
      have := run_placesOf (w := w) h2
      simp only [Sem.run_map, List.mapM_cons, Sem.run_bind, run_sizeOf' h1, Result.andThen_ok, Sem.run_pure, bind_pure_comp] at this ⊢
      simp [run_sizeOf' h1, this]
    · cases h
def stPlaces (P : Program) (t : TypeId) : Option (List (Nat × Nat)) :=
  match P.underlying t with
  | some (.struct fs) => placesOf P fs.toList
  | _ => none
noncomputable def getLK {α : Type} (i : Nat) (l : List α) : Option α := @Nat.rec (fun _ => List α → Option α) (fun l => @List.rec α (fun _ => Option α) none (fun x _ _ => some x) l) (fun _ ih l => @List.rec α (fun _ => Option α) none (fun _ xs _ => ih xs) l) i l
theorem getLK_eq {α : Type} : ∀ (i : Nat) (l : List α), getLK i l = l[i]?
  | 0, [] => rfl
  | 0, _ :: _ => rfl
  | i + 1, [] => rfl
  | i + 1, x :: xs => getLK_eq i xs

variable {o : Oper} {env : T AV} {D : Nat → Prop} {h : AH} {nx : Nat} {lg : List Nat} {k : KV}
noncomputable def doBuild (P : Program) (t : TypeId) (ps : Array (Nat × Operand)) (env : T AV) (h : AH) (nx : Nat) (lg : List Nat) (k : KV) : Res :=
  optK (zeroOf P t) fun z => ifK (cellsOK (cellsA z)) (forceL (cellsA z) fun l =>
    @Option.rec (List (Nat × Nat)) (fun _ => Res) (optK (arSize P t) fun y => fillK P.globals.size env (fun i => some (i * y.2.2, y.2.2)) ps.toList l fun l => k (.agg l) h nx lg)
      (fun pl => fillK P.globals.size env (fun i => getLK i pl) ps.toList l fun l => k (.agg l) h nx lg) (stPlaces P t))
theorem doBuild_did {t : TypeId} {ps : Array (Nat × Operand)} (ho : o.op = .build t ps) (e : doBuild P t ps env h nx lg k = r) (hr : r ≠ .fail) : Did P o env D h nx lg k r := by
  replace e := optK_inv e hr; obtain ⟨z, hz, e⟩ := e
  replace e := ifK_inv e hr; obtain ⟨hc, e⟩ := e
  rw [forceL_eq] at e
  obtain ⟨i, v, hi, hv, hrun, hV⟩ := zeroOf_inv hz
  have hops : ∀ p ∈ ps.toList, p.2 ∈ (Op.build t ps).operands := fun p hp => by
    simp only [Op.operands]
    rw [List.mem_toArray]
    exact List.mem_map.2 ⟨p, hp, rfl⟩
  cases hp : stPlaces P t with
  | none =>
    rw [hp] at e
    replace e := optK_inv e hr; obtain ⟨⟨m, et, n⟩, hy, e⟩ := e
    replace e := fillK_inv e hr; obtain ⟨l', e, H⟩ := e
    obtain ⟨info, hu, hi', hs⟩ := arSize_inv hy
    refine did_same e fun ρ w a hx hpre => ?_
    obtain ⟨cells', g1, g2⟩ := H ρ a v.cells (cellsA_sound (hV ρ) (cellsOK_tuple hc)) (fun p hp v e => hx p.2 (by rw [ho]; exact hops p hp) v e)
    refine ⟨.agg cells', ?_, _, rfl, g2⟩
    have g1' : Instr.fill (fun i => some (i * n, n)) v.cells (ps.toList.map fun x => (x.1, a.eval x.2)) = some cells' := g1
    simp [execOp, ho, Instr.build, hrun, run_underlying' hu, run_sizeOf' hi', hs, g1']
  | some pl =>
    rw [hp] at e
    replace e := fillK_inv e hr; obtain ⟨l', e, H⟩ := e
    unfold stPlaces at hp
    split at hp
    · rename_i fs hu
      refine did_same e fun ρ w a hx hpre => ?_
      obtain ⟨cells', g1, g2⟩ := H ρ a v.cells (cellsA_sound (hV ρ) (cellsOK_tuple hc)) (fun p hp v e => hx p.2 (by rw [ho]; exact hops p hp) v e)
      refine ⟨.agg cells', ?_, _, rfl, g2⟩
      have hm : (fs.mapM fun f => do pure (f.offset, ← Go.sizeOf f.type) : Sem _).run P w = .ok pl.toArray w := by
        rw [Array.mapM_eq_mapM_toList]
        simp only [Sem.run_map]
        rw [run_placesOf hp]; rfl
      have g1' : Instr.fill (fun i => pl[i]?) v.cells (ps.toList.map fun x => (x.1, a.eval x.2)) = some cells' := by
        rw [show (fun i => pl[i]?) = fun i => getLK i pl from funext fun i => (getLK_eq i pl).symm]; exact g1
      simp only [execOp, ho, Instr.build, Sem.run_bind, hrun, Result.andThen_ok, run_underlying' hu, hm]
      simp [g1']
    · cases hp

/-! ### Rows out of a flat list -/
noncomputable def chunkK (n esz : Nat) (l : List AV) (i : Nat) (rows : T (List AV)) (c : T (List AV) → Res) : Res :=
  @Nat.rec (fun _ => List AV → Nat → T (List AV) → Res) (fun _ _ rows => c rows) (fun _ ih l i rows => takeK esz l fun row => dropK esz l fun l' => T.setK rows (Nat.succ i) row fun rows => ih l' (Nat.succ i) rows) n l i rows
theorem chunkK_inv (esz : Nat) : ∀ (n : Nat) (l : List AV) (i : Nat) (rows : T (List AV)) (c : T (List AV) → Res), ∃ rows', chunkK n esz l i rows c = c rows' ∧
    (∀ j, j < n → rows'.at (i + j) = some ((l.drop (j * esz)).take esz)) ∧ ∀ j, j < i ∨ i + n ≤ j → rows'.at j = rows.at j
  | 0, l, i, rows, c => ⟨rows, rfl, fun j hj => absurd hj (by omega), fun _ _ => rfl⟩
  | n + 1, l, i, rows, c => by
    have e : chunkK (n + 1) esz l i rows c = chunkK n esz (l.drop esz) (i + 1) (rows.put i (l.take esz)) c := by
      show (takeK esz l fun row => dropK esz l fun l' => T.setK rows (Nat.succ i) row fun rows => chunkK n esz l' (Nat.succ i) rows c) = _
      rw [takeK_eq, dropK_eq, T.setK_put]
    obtain ⟨rows', h1, h2, h3⟩ := chunkK_inv esz n (l.drop esz) (i + 1) (rows.put i (l.take esz)) c
    refine ⟨rows', e.trans h1, fun j hj => ?_, fun j hj => ?_⟩
    · cases j with
      | zero => rw [Nat.add_zero, h3 i (.inl (by omega)), T.at_put, if_pos rfl]; simp
      | succ j =>
        rw [show i + (j + 1) = i + 1 + j from by omega, h2 j (by omega), List.drop_drop]
        congr 2; rw [Nat.succ_mul]; congr 1; omega
    · rw [h3 j (by omega), T.at_put, if_neg (by omega)]
theorem BR.flat {ρ : Ren} {p : Pl} {w : World} {ty : TypeId} {esz nr : Nat} {rows : T (List AV)} {l : List AV} {arr : Array Value} (hw : w.heap[p.blk]? = some (.cells arr ty (0, 0))) (hb : p.base = 0) (hr : p.room = nr * esz) (he : p.esz = esz)
    (hl : l.length = nr * esz) (hrows : ∀ j, j < nr → rows.at j = some ((l.drop (j * esz)).take esz)) (hv : VRs ρ l arr.toList) : BR ρ (.cells ty esz nr rows false) p w := by
  have hla : l.length = arr.size := by rw [← Array.length_toList]; exact hv.length
  refine ⟨he, by omega, arr, (0, 0), hw, by omega, fun r hr => ⟨_, hrows r hr, ?_, fun q a e => ?_⟩, fun _ i _ => by simp⟩
  · have : (r + 1) * esz ≤ nr * esz := Nat.mul_le_mul_right _ hr
    rw [Nat.succ_mul] at this
    rw [List.length_take, List.length_drop]; omega
  · rw [List.getElem?_take] at e
    split at e
    · rw [List.getElem?_drop] at e
      obtain ⟨x, k1, k2⟩ := hv.get _ a e
      rw [Array.getElem?_toList] at k1
      exact ⟨x, by rw [← k1]; congr 1; omega, k2⟩
    · cases e

/-- n times the list. -/
noncomputable def repK (n : Nat) (z : List AV) (c : List AV → Res) : Res := @Nat.rec (fun _ => (List AV → Res) → Res) (fun c => c []) (fun _ ih c => ih fun l => appK z l c) n c
def rep {α : Type} (n : Nat) (z : List α) : List α := match n with | 0 => [] | n + 1 => z ++ rep n z
theorem repK_eq (n : Nat) (z : List AV) : ∀ c, repK n z c = c (rep n z) := by
  induction n with
  | zero => intro c; rfl
  | succ n ih => intro c; show (repK n z fun l => appK z l c) = _; rw [ih, appK_eq]; rfl
theorem rep_length {α : Type} (n : Nat) (z : List α) : (rep n z).length = n * z.length := by
  induction n with
  | zero => simp [rep]
  | succ n ih => simp [rep, ih, Nat.succ_mul]; omega
theorem VRs.rep {ρ : Ren} {z : List AV} {xs : List Value} (h : VRs ρ z xs) : ∀ n, VRs ρ (CE.rep n z) (CE.rep n xs)
  | 0 => rfl
  | n + 1 => h.append (VRs.rep h n)
theorem rep_get {α : Type} (z : List α) : ∀ (n i : Nat), i < n * z.length → (rep n z)[i]? = z[i % z.length]?
  | 0, i, h => by omega
  | n + 1, i, h => by
    rw [Nat.succ_mul] at h
    simp only [rep]
    rw [List.getElem?_append]
    split
    · rename_i g; rw [Nat.mod_eq_of_lt g]
    · rename_i g
      rw [rep_get z n _ (by omega)]
      congr 1
      rw [← Nat.mod_eq_sub_mod (by omega)]
theorem zeros_eq (z : Array Value) (n : Nat) : ((Array.range (n * z.size)).map (fun i => z[i % z.size]!)).toList = rep n z.toList := by
  apply List.ext_getElem?
  intro i
  rcases Nat.lt_or_ge i (n * z.size) with h | h
  · rw [rep_get _ _ _ (by simpa using h)]
    have hz : i % z.size < z.size := Nat.mod_lt _ (by
      rcases Nat.eq_zero_or_pos z.size with e | e
      · rw [e] at h; omega
      · exact e)
    simp [h, hz]
  · rw [List.getElem?_eq_none (by simpa using h), List.getElem?_eq_none (by rw [rep_length]; simpa using h)]

noncomputable def doBuildSlice (P : Program) (t : TypeId) (n : Nat) (ps : Array (Nat × Operand)) (env : T AV) (h : AH) (nx : Nat) (lg : List Nat) (k : KV) : Res :=
  optK (slSize P t) fun y => optK (zeroOf P y.1) fun z => ifK (and (cellsOK (cellsA z)) (and (Nat.beq (cellsA z).length y.2) (and (Nat.blt 0 y.2) (Nat.ble (Nat.mul n y.2) 65536)))) (forceL (cellsA z) fun z => repK n z fun l =>
    fillK P.globals.size env (fun i => some (i * y.2, y.2)) ps.toList l fun l => forceN y.2 fun esz => ifK (Nat.beq l.length (Nat.mul n esz)) (chunkK n esz l 0 .leaf fun rows => newBlk (.cells y.1 esz n rows false) h nx fun h nx' => k (.slice nx 0 n n true) h nx' lg))
theorem doBuildSlice_did {t : TypeId} {n : Nat} {ps : Array (Nat × Operand)} (ho : o.op = .buildSlice t n ps) (e : doBuildSlice P t n ps env h nx lg k = r) (hr : r ≠ .fail) : Did P o env D h nx lg k r := by
  replace e := optK_inv e hr; obtain ⟨⟨et, esz⟩, hy, e⟩ := e
  replace e := optK_inv e hr; obtain ⟨z, hz, e⟩ := e
  replace e := ifK_inv e hr; obtain ⟨hc, e⟩ := e
  simp only [Bool.and_eq_true, beqN, bleN, bltN] at hc
  obtain ⟨hc, hzl, hpos, hbig⟩ := hc
  rw [forceL_eq, repK_eq] at e
  replace e := fillK_inv e hr; obtain ⟨l', e, H⟩ := e
  rw [forceN_eq] at e
  replace e := ifK_inv e hr; obtain ⟨hl, e⟩ := e
  rw [beqN] at hl
  obtain ⟨rows, e', hrows, _⟩ := chunkK_inv esz n l' 0 .leaf (fun rows => newBlk (.cells et esz n rows false) h nx fun h nx' => k (.slice nx 0 n n true) h nx' lg)
  rw [e', newBlk_eq] at e
  obtain ⟨info, hu, hi, hs⟩ := slSize_inv hy
  obtain ⟨i, v, hi2, hv, hrun, hV⟩ := zeroOf_inv hz
  have hpos' : 0 < esz := hpos
  have hbig' : n * esz ≤ 65536 := hbig
  refine did_new e fun ρ w a hx hpre => ?_
  have hz0 := cellsA_sound (hV ρ) (cellsOK_tuple hc)
  have hzs : v.cells.size = esz := by rw [← Array.length_toList, ← hz0.length]; exact hzl
  obtain ⟨cells', g1, g2⟩ := H ρ a ((Array.range (n * v.cells.size)).map (fun i => v.cells[i % v.cells.size]!)) (by rw [zeros_eq]; exact hz0.rep n) (fun p hp v e => hx p.2 (by
    rw [ho]; simp only [Op.operands]; rw [List.mem_toArray]; exact List.mem_map.2 ⟨p, hp, rfl⟩) v e)
  have hE : Ext ρ (updR ρ nx ⟨w.heap.size, 0, n * esz, esz⟩) := Ext.upd hpre.fresh
  refine ⟨.slice (some ⟨w.heap.size, 0, none⟩) n n, .cells cells' et, ⟨w.heap.size, 0, n * esz, esz⟩, { w with heap := w.heap.push (.cells cells' et) }, ?_, rfl, rfl, rfl, rfl, rfl, ⟨⟨w.heap.size, 0, n * esz, esz⟩, _, n, updR_at _ _, rfl, .inl rfl, Nat.le_refl _, Nat.le_refl _, fun _ => rfl, by simp, ?_⟩, ?_⟩
  · rw [hzs] at g1
    have g1' : Instr.fill (fun i => some (i * esz, esz)) ((Array.range (n * esz)).map (fun i => v.cells[i % esz]!)) (ps.toList.map fun x => (x.1, a.eval x.2)) = some cells' := g1
    have h1 : ¬ 16777216 < n * esz := by omega
    by_cases h2 : n * esz = 0
    · have g1'' : Instr.fill (fun i => some (i * esz, esz)) #[] (ps.toList.map fun x => (x.1, a.eval x.2)) = some cells' := by
        have g := g1'
        rw [h2, show Array.map (fun i => v.cells[i % esz]!) (Array.range 0) = #[] from Array.eq_empty_of_size_eq_zero (by simp)] at g
        exact g
      simp only [execOp, ho, Instr.buildSlice, Sem.run_bind, run_underlying' hu, run_sizeOf' hi, hs, Result.andThen_ok, if_pos h2, Sem.run_pure]
      have e0 : ∀ f : Nat → Value, Array.map f (Array.range 0) = #[] := fun f => Array.eq_empty_of_size_eq_zero (by simp)
      simp [h2, e0, g1'', newRow]
    · simp only [execOp, ho, Instr.buildSlice, Sem.run_bind, run_underlying' hu, run_sizeOf' hi, hs, Result.andThen_ok, if_neg h2, hrun, Sem.run_pure, hzs]
      simp [h1, hrun, hzs, g1', newRow]
  · have : n ≤ n * esz := Nat.le_mul_of_pos_right _ hpos'
    omega
  · exact BR.flat (push_at w _) rfl rfl rfl hl (fun j hj => by have := hrows j hj; rwa [Nat.zero_add] at this) (g2.ext hE)

noncomputable def doMakeSlice (P : Program) (t : TypeId) (x y : Operand) (env : T AV) (h : AH) (nx : Nat) (lg : List Nat) (k : KV) : Res :=
  optK (slSize P t) fun s => optK (P.info? s.1) fun i => optK (zeroOf P s.1) fun z => ifK (and (cellsOK (cellsA z)) (Nat.beq (cellsA z).length s.2)) (evalO P.globals.size env x fun l => evalO P.globals.size env y fun c => asNat l fun l => asNat c fun c =>
    ifK (and (Nat.ble l c) (and (Nat.blt 0 s.2) (and (Nat.ble c 65536) (Nat.ble i.bytes 65536)))) (forceL (cellsA z) fun z => repK c z fun ll => forceN s.2 fun esz => chunkK c esz ll 0 .leaf fun rows => newBlk (.cells s.1 esz c rows false) h nx fun h nx' => k (.slice nx 0 l c true) h nx' lg))
theorem wrap_small {n : Nat} (h : n ≤ 9223372036854775807) : IntKind.i64.wrap (n : Int) = n := by
  exact IntWalk.i64_in _ ⟨by omega, by omega⟩
theorem doMakeSlice_did {t : TypeId} {x y : Operand} (ho : o.op = .makeSlice t x y) (e : doMakeSlice P t x y env h nx lg k = r) (hr : r ≠ .fail) : Did P o env D h nx lg k r := by
  replace e := optK_inv e hr; obtain ⟨⟨et, esz⟩, hy, e⟩ := e
  replace e := optK_inv e hr; obtain ⟨info, hi, e⟩ := e
  replace e := optK_inv e hr; obtain ⟨z, hz, e⟩ := e
  replace e := ifK_inv e hr; obtain ⟨hc, e⟩ := e
  simp only [Bool.and_eq_true, beqN] at hc
  obtain ⟨hc, hzl⟩ := hc
  replace e := evalO_inv e hr; obtain ⟨lv, e1, e⟩ := e
  replace e := evalO_inv e hr; obtain ⟨cv, e2, e⟩ := e
  replace e := asNat_inv e hr; obtain ⟨k1, l, rfl, e⟩ := e
  replace e := asNat_inv e hr; obtain ⟨k2, c, rfl, e⟩ := e
  replace e := ifK_inv e hr; obtain ⟨hb, e⟩ := e
  simp only [Bool.and_eq_true, bleN, bltN] at hb
  obtain ⟨hlc, hpos, hcb, hbb⟩ := hb
  have hpos' : 0 < esz := hpos
  rw [forceL_eq, repK_eq, forceN_eq] at e
  obtain ⟨rows, e', hrows, _⟩ := chunkK_inv esz c (rep c (cellsA z)) 0 .leaf (fun rows => newBlk (.cells et esz c rows false) h nx fun h nx' => k (.slice nx 0 l c true) h nx' lg)
  have e' := e'.symm.trans e
  rw [newBlk_eq] at e'
  obtain ⟨info', hu, hi', hs⟩ := slSize_inv hy
  rw [show P.info? et = some info from hi] at hi'; cases hi'
  obtain ⟨i, v, hi2, hv, hrun, hV⟩ := zeroOf_inv hz
  refine did_new e' fun ρ w a hx hpre => ?_
  have h3 := hx x (by simp [ho, Op.operands]) _ e1
  have h4 := hx y (by simp [ho, Op.operands]) _ e2
  simp only [VR] at h3 h4
  have hz0 := cellsA_sound (hV ρ) (cellsOK_tuple hc)
  have hzs : v.cells.size = esz := by rw [← Array.length_toList, ← hz0.length]; exact hzl
  have hE : Ext ρ (updR ρ nx ⟨w.heap.size, 0, c * esz, esz⟩) := Ext.upd hpre.fresh
  refine ⟨.slice (some ⟨w.heap.size, 0, none⟩) l c, .cells ((Array.range (c * v.cells.size)).map (fun i => v.cells[i % v.cells.size]!)) et, ⟨w.heap.size, 0, c * esz, esz⟩, { w with heap := w.heap.push (.cells ((Array.range (c * v.cells.size)).map (fun i => v.cells[i % v.cells.size]!)) et) }, ?_, rfl, rfl, rfl, rfl, rfl, ⟨⟨w.heap.size, 0, c * esz, esz⟩, _, c, updR_at _ _, rfl, .inl rfl, hlc, Nat.le_refl _, fun _ => rfl, by simp, by omega⟩, ?_⟩
  · have w1 : IntKind.i64.wrap (Int.ofNat l) = l := wrap_small (by omega)
    have w2 : IntKind.i64.wrap (Int.ofNat c) = c := wrap_small (by omega)
    have hbig : info.bytes * c ≤ 65536 * 65536 := Nat.mul_le_mul hbb hcb
    have t1 : ¬ ((281474976710656 : Int) < (info.bytes : Int) * (c : Int)) := by
      have : ((info.bytes * c : Nat) : Int) ≤ ((65536 * 65536 : Nat) : Int) := by exact_mod_cast hbig
      rw [Int.natCast_mul] at this
      omega
    have t2 : ¬ (c < l) := by omega
    have e0 : ∀ f : Nat → Value, Array.map f (Array.range 0) = #[] := fun f => Array.eq_empty_of_size_eq_zero (by simp)
    have t4 : ¬ ((c : Int) < 0 ∨ (l : Int) < 0) := by omega
    simp only [execOp, ho, Instr.makeSlice, Sem.run_bind, run_underlying' hu, Result.andThen_ok, Go.asInt, asIntOf, h3, h4, Sem.run_pure, run_typeInfo' hi, w1, w2]
    by_cases t3 : c * esz = 0
    · simp [t1, t2, run_sizeOf' hi, hs, hrun, hzs, newRow, t3, e0]
      exact fun h => absurd h t4
    · simp [t1, t2, run_sizeOf' hi, hs, hrun, hzs, newRow]
      rw [if_neg t4, if_neg t3]
  · exact BR.flat (push_at w _) rfl rfl rfl (by rw [rep_length]; exact congrArg _ hzl) (fun j hj => by have := hrows j hj; rwa [Nat.zero_add] at this) (by rw [zeros_eq]; exact ((hz0.rep c).ext hE))
noncomputable def doMakeMap (P : Program) (t : TypeId) (x : Option Operand) (env : T AV) (h : AH) (nx : Nat) (lg : List Nat) (k : KV) : Res :=
  @Option.rec Operand (fun _ => Res) (newBlk (.map [] 0) h nx fun h nx' => k (.map nx) h nx' lg)
   (fun x => ifK (match P.underlying t with | some (.map _ _) => true | _ => false) (evalO P.globals.size env x fun v => asInt v fun _ _ => newBlk (.map [] 0) h nx fun h nx' => k (.map nx) h nx' lg)) x
theorem did_newMap (hk : k (.map nx) (h.put nx (.map [] 0)) (nx + 1) lg = r) (H : ∀ ρ w (a : Act), OpsR P ρ env o a → Pre P D ρ h nx w → (execOp a.eval o).run P w = .ok (.value (.map (some w.heap.size))) { w with heap := w.heap.push (.map #[] 0) }) : Did P o env D h nx lg k r :=
  did_new hk fun ρ w a ho hp => ⟨_, _, ⟨w.heap.size, 0, 0, 0⟩, _, H ρ w a ho hp, rfl, rfl, rfl, rfl, rfl, ⟨_, updR_at _ _, rfl⟩, ⟨#[], push_at w _, rfl⟩⟩
theorem doMakeMap_did {t : TypeId} {x : Option Operand} (ho : o.op = .makeMap t x) (e : doMakeMap P t x env h nx lg k = r) (hr : r ≠ .fail) : Did P o env D h nx lg k r := by
  cases x with
  | none =>
    have e' : (newBlk (.map [] 0) h nx fun h nx' => k (.map nx) h nx' lg) = r := e
    rw [newBlk_eq] at e'
    refine did_newMap e' fun ρ w a hx hp => ?_
    simp [execOp, ho, Instr.makeMap]
  | some x =>
    have e' : ifK (match P.underlying t with | some (.map _ _) => true | _ => false) (evalO P.globals.size env x fun v => asInt v fun _ _ => newBlk (.map [] 0) h nx fun h nx' => k (.map nx) h nx' lg) = r := e
    replace e' := ifK_inv e' hr; obtain ⟨hu, e'⟩ := e'
    replace e' := evalO_inv e' hr; obtain ⟨v, e1, e'⟩ := e'
    replace e' := asInt_inv e' hr; obtain ⟨kd, n, rfl, e'⟩ := e'
    rw [newBlk_eq] at e'
    have hu' : ∃ a b, P.underlying t = some (.map a b) := by
      split at hu
      · exact ⟨_, _, by assumption⟩
      · cases hu
    obtain ⟨ta, tb, hu'⟩ := hu'
    refine did_newMap e' fun ρ w a hx hp => ?_
    have h3 := hx x (by simp [ho, Op.operands]) _ e1
    simp only [VR] at h3
    simp [execOp, ho, Instr.makeMap, run_underlying' hu', Go.asInt, asIntOf, h3]
end
end Go.CE
