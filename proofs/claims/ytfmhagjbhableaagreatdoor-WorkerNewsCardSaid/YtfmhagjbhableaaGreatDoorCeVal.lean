/-
  CE, part 3: abstract values and blocks; what it means that they stand for values and blocks of the model.
-/
import Derived.Test.YtfmhagjbhableaaGreatDoorCeStr
namespace Go.CE
open Go
set_option linter.unusedVariables false

inductive AV where
  | bool (b : Bool)
  | int (k : IntKind) (n : Int)
  | str (l n : Nat)
  | ptr (b o : Nat)
  | nilPtr
  | slice (b o n c : Nat) (ex : Bool)
  | nilSlice
  | map (b : Nat)
  | nilMap
  | func (f : FuncId) (first captured : List AV)
  | nilFunc
  | iface (t : TypeId) (v : AV)
  | nilIface
  | agg (cs : List AV)
  | tuple (vs : List AV)

/-- Where an abstract block lies: the block, the cell at which it begins, how many cells from there are its own, how many cells an element has. -/
structure Pl where
  blk : Nat
  base : Nat
  room : Nat
  esz : Nat
abbrev Ren := Nat → Option Pl

mutual
/-- The abstract value stands for the value. -/
def VR (ρ : Ren) : AV → Value → Prop
  | .bool b, v => v = .bool b
  | .int k n, v => v = .int k n
  | .str l n, v => ∃ s, v = .string s ∧ SR l n s
  | .ptr b o, v => ∃ p, ρ b = some p ∧ v = .pointer (some ⟨p.blk, p.base + o, none⟩)
  | .nilPtr, v => v = .pointer none
  | .slice b o n c ex, v => ∃ p q c', ρ b = some p ∧ v = .slice (some ⟨p.blk, q, none⟩) n c' ∧ (q = p.base + o ∨ (n = 0 ∧ c' = 0)) ∧ n ≤ c' ∧ c ≤ c' ∧ (ex = true → c' = c) ∧ o + c' * p.esz ≤ p.room ∧ c' ≤ 9223372036854775807
  | .nilSlice, v => v = .slice none 0 0
  | .map b, v => ∃ p, ρ b = some p ∧ v = .map (some p.blk)
  | .nilMap, v => v = .map none
  | .func f a b, v => ∃ a' b', v = .func (.func f) a' b' ∧ VRs ρ a a'.toList ∧ VRs ρ b b'.toList
  | .nilFunc, v => v = .nilFunc
  | .iface t x, v => ∃ x', v = .iface t x' ∧ VR ρ x x'
  | .nilIface, v => v = .nilIface
  | .agg cs, v => ∃ vs, v = .agg vs ∧ VRs ρ cs vs.toList
  | .tuple cs, v => ∃ vs, v = .tuple vs ∧ VRs ρ cs vs.toList
def VRs (ρ : Ren) : List AV → List Value → Prop
  | [], vs => vs = []
  | a :: as, vs => ∃ x xs, vs = x :: xs ∧ VR ρ a x ∧ VRs ρ as xs
end

/-- ρ' says of every block that ρ names what ρ says. -/
def Ext (ρ ρ' : Ren) : Prop := ∀ b p, ρ b = some p → ρ' b = some p
theorem Ext.refl (ρ : Ren) : Ext ρ ρ := fun _ _ h => h
theorem Ext.trans {a b c : Ren} (h : Ext a b) (g : Ext b c) : Ext a c := fun x p e => g x p (h x p e)

mutual
theorem VR.ext {ρ ρ' : Ren} (h : Ext ρ ρ') : ∀ (a : AV) (v : Value), VR ρ a v → VR ρ' a v
  | .bool _, _, e => e
  | .int _ _, _, e => e
  | .str _ _, _, e => e
  | .ptr b o, v, ⟨p, e, g⟩ => ⟨p, h _ _ e, g⟩
  | .nilPtr, _, e => e
  | .slice .., v, ⟨p, q, c', e, g⟩ => ⟨p, q, c', h _ _ e, g⟩
  | .nilSlice, _, e => e
  | .map b, v, ⟨p, e, g⟩ => ⟨p, h _ _ e, g⟩
  | .nilMap, _, e => e
  | .func f a b, v, ⟨a', b', e, g, i⟩ => ⟨a', b', e, VRs.ext h a _ g, VRs.ext h b _ i⟩
  | .nilFunc, _, e => e
  | .iface t x, v, ⟨x', e, g⟩ => ⟨x', e, VR.ext h x _ g⟩
  | .nilIface, _, e => e
  | .agg cs, v, ⟨vs, e, g⟩ => ⟨vs, e, VRs.ext h cs _ g⟩
  | .tuple cs, v, ⟨vs, e, g⟩ => ⟨vs, e, VRs.ext h cs _ g⟩
theorem VRs.ext {ρ ρ' : Ren} (h : Ext ρ ρ') : ∀ (a : List AV) (v : List Value), VRs ρ a v → VRs ρ' a v
  | [], _, e => e
  | a :: as, v, ⟨x, xs, e, g, i⟩ => ⟨x, xs, e, VR.ext h a x g, VRs.ext h as xs i⟩
end

section
variable {ρ : Ren}
/-- A slice that has room lies where it is said. -/
theorem VR.at {b o n c : Nat} {ex : Bool} {v : Value} (h : VR ρ (.slice b o n c ex) v) (g : n ≠ 0 ∨ c ≠ 0) : ∃ p c', ρ b = some p ∧ v = .slice (some ⟨p.blk, p.base + o, none⟩) n c' ∧ n ≤ c' ∧ c ≤ c' ∧ (ex = true → c' = c) ∧ o + c' * p.esz ≤ p.room ∧ c' ≤ 9223372036854775807 := by
  obtain ⟨p, q, c', h1, h2, h3, h4, h5, h6⟩ := h
  rcases h3 with rfl | ⟨e1, e2⟩
  · exact ⟨p, c', h1, h2, h4, h5, h6⟩
  · omega
theorem VR.slice_mk {b o n c c' : Nat} {ex : Bool} {p : Pl} (h1 : ρ b = some p) (h3 : n ≤ c') (h4 : c ≤ c') (h5 : ex = true → c' = c) (h6 : o + c' * p.esz ≤ p.room) (h7 : c' ≤ 9223372036854775807) : VR ρ (.slice b o n c ex) (.slice (some ⟨p.blk, p.base + o, none⟩) n c') :=
  ⟨p, _, c', h1, rfl, .inl rfl, h3, h4, h5, h6, h7⟩
theorem VRs.nil : VRs ρ [] [] := rfl
theorem VRs.cons {a : AV} {as : List AV} {x : Value} {xs : List Value} (h : VR ρ a x) (g : VRs ρ as xs) : VRs ρ (a :: as) (x :: xs) := ⟨x, xs, rfl, h, g⟩
theorem VRs.length : ∀ {as : List AV} {xs : List Value}, VRs ρ as xs → as.length = xs.length
  | [], _, e => by cases e; rfl
  | a :: as, _, ⟨x, xs, e, _, g⟩ => by subst e; simp [VRs.length g]
theorem VRs.append : ∀ {as bs : List AV} {xs ys : List Value}, VRs ρ as xs → VRs ρ bs ys → VRs ρ (as ++ bs) (xs ++ ys)
  | [], _, _, _, e, g => by cases e; exact g
  | a :: as, _, _, _, ⟨x, xs, e, h, i⟩, g => by subst e; exact VRs.cons h (VRs.append i g)
theorem VRs.drop : ∀ {as : List AV} {xs : List Value} (n : Nat), VRs ρ as xs → VRs ρ (as.drop n) (xs.drop n)
  | [], _, n, e => by cases e; simp; exact rfl
  | a :: as, _, 0, h => h
  | a :: as, _, n + 1, ⟨x, xs, e, h, i⟩ => by subst e; simpa using VRs.drop n i
theorem VRs.take : ∀ {as : List AV} {xs : List Value} (n : Nat), VRs ρ as xs → VRs ρ (as.take n) (xs.take n)
  | [], _, n, e => by cases e; simp; exact rfl
  | a :: as, _, 0, h => by simp; exact rfl
  | a :: as, _, n + 1, ⟨x, xs, e, h, i⟩ => by subst e; exact VRs.cons h (VRs.take n i)
theorem VRs.get : ∀ {as : List AV} {xs : List Value} (n : Nat) (a : AV), VRs ρ as xs → as[n]? = some a → ∃ x, xs[n]? = some x ∧ VR ρ a x
  | [], _, n, _, e, h => by simp at h
  | b :: as, _, 0, a, ⟨x, xs, e, h, i⟩, g => by subst e; simp at g; subst g; exact ⟨x, rfl, h⟩
  | b :: as, _, n + 1, a, ⟨x, xs, e, h, i⟩, g => by subst e; exact VRs.get n a i (by simpa using g)
theorem VRs.of_get : ∀ {as : List AV} {xs : List Value}, as.length = xs.length → (∀ (n : Nat) (a : AV) (x : Value), as[n]? = some a → xs[n]? = some x → VR ρ a x) → VRs ρ as xs
  | [], [], _, _ => rfl
  | [], x :: xs, h, _ => by simp at h
  | a :: as, [], h, _ => by simp at h
  | a :: as, x :: xs, h, g => VRs.cons (g 0 a x rfl rfl) (VRs.of_get (by simpa using h) fun n a' x' e e' => g (n + 1) a' x' (by simpa using e) (by simpa using e'))
end

/-! ### Blocks -/
inductive ABlk where
  /-- Rows of esz cells each, nr of them; ty: the type of an element; ro: it may not be written. -/
  | cells (ty : TypeId) (esz nr : Nat) (rows : T (List AV)) (ro : Bool)
  | map (es : List (AV × AV × Nat)) (clock : Nat)
  | siter (l n pos : Nat)
  | miter (m : Nat) (since : Nat) (seen : List Nat) (stepped : Nat)
  | niter
  | dead
abbrev AH := T ABlk

/-- The entries of a map. -/
def EsR (ρ : Ren) : List (AV × AV × Nat) → List MapEntry → Prop
  | [], es => es = []
  | a :: as, es => ∃ e r, es = e :: r ∧ VR ρ a.1 e.key ∧ VR ρ a.2.1 e.val ∧ e.born = a.2.2 ∧ EsR ρ as r
theorem EsR.ext {ρ ρ' : Ren} (h : Ext ρ ρ') : ∀ (a : List (AV × AV × Nat)) (e : List MapEntry), EsR ρ a e → EsR ρ' a e
  | [], _, e => e
  | a :: as, _, ⟨e, r, q, i, j, k, l⟩ => ⟨e, r, q, i.ext h, j.ext h, k, EsR.ext h as r l⟩

/-- The abstract block stands for what lies at p in w. -/
def BR (ρ : Ren) (blk : ABlk) (p : Pl) (w : World) : Prop :=
  match blk with
  | .cells ty esz nr rows ro => p.esz = esz ∧ nr * esz ≤ p.room ∧ ∃ arr fz, w.heap[p.blk]? = some (.cells arr ty fz) ∧ p.base + p.room ≤ arr.size ∧
      (∀ r, r < nr → ∃ row, rows.at r = some row ∧ row.length = esz ∧ ∀ q a, row[q]? = some a → ∃ x, arr[p.base + r * esz + q]? = some x ∧ VR ρ a x) ∧
      (ro = false → ∀ i, i < p.room → ¬ (fz.1 ≤ p.base + i ∧ p.base + i < fz.2))
  | .map es clock => ∃ arr, w.heap[p.blk]? = some (.map arr clock) ∧ EsR ρ es arr.toList
  | .siter l n pos => ∃ s, w.heap[p.blk]? = some (.stringIter s pos) ∧ SR l n s ∧ p.base = 0
  | .miter m since seen stepped => ∃ q, ρ m = some q ∧ w.heap[p.blk]? = some (.mapIter (some q.blk) since seen.reverse.toArray stepped) ∧ p.base = 0
  | .niter => w.heap[p.blk]? = some (.mapIter none 0 #[] 0) ∧ p.base = 0
  | .dead => True
theorem BR.ext {ρ ρ' : Ren} (h : Ext ρ ρ') {blk : ABlk} {p : Pl} {w : World} (g : BR ρ blk p w) : BR ρ' blk p w := by
  cases blk with
  | cells ty esz nr rows ro =>
    obtain ⟨h1, h2, arr, fz, h3, h4, h5, h6⟩ := g
    refine ⟨h1, h2, arr, fz, h3, h4, fun r hr => ?_, h6⟩
    obtain ⟨row, g1, g2, g3⟩ := h5 r hr
    refine ⟨row, g1, g2, fun q a e => ?_⟩
    obtain ⟨x, k1, k2⟩ := g3 q a e
    exact ⟨x, k1, k2.ext h⟩
  | map es clock => obtain ⟨arr, h1, h2⟩ := g; exact ⟨arr, h1, h2.ext h⟩
  | siter l n pos => exact g
  | miter m since seen stepped => obtain ⟨q, h1, h2⟩ := g; exact ⟨q, h _ _ h1, h2⟩
  | niter => exact g
  | dead => trivial
/-- It only looks at its own block. -/
theorem BR.same {ρ : Ren} {blk : ABlk} {p : Pl} {w w' : World} (e : w'.heap[p.blk]? = w.heap[p.blk]?) (g : BR ρ blk p w) : BR ρ blk p w' := by
  cases blk <;> simp only [BR] at * <;> first | (rw [e]; exact g) | exact g
end Go.CE
