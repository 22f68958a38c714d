/-
  CE, part 1: the trie that the evaluator keeps its memory in, strings as numbers, abstract values, and what it means that an abstract value stands for a value of the model.
-/
import Derived.Defers
import Derived.Orders
import Derived.WalkKit
namespace Go.CE
open Go
set_option linter.unusedVariables false

/-! ### The trie -/
inductive T (α : Type) where
  | leaf : T α
  | node (v : Option α) (l r : T α) : T α

noncomputable def T.get {α : Type} (t : T α) (k : Nat) : Option α :=
  @T.rec α (fun _ => Nat → Option α) (fun _ => none)
    (fun v _ _ ihl ihr k => @Bool.rec (fun _ => Option α) (@Bool.rec (fun _ => Option α) (ihr (Nat.shiftRight k 1)) (ihl (Nat.shiftRight k 1)) (Nat.beq (Nat.land k 1) 0)) v (Nat.beq k 1)) t k
noncomputable def T.singK {α β : Type} (f : Nat) (k : Nat) (x : α) (c : T α → β) : β :=
  @Nat.rec (fun _ => Nat → (T α → β) → β) (fun _ c => c .leaf)
    (fun _ ih k c => @Bool.rec (fun _ => β) (@Bool.rec (fun _ => β) (ih (Nat.shiftRight k 1) (fun r => c (.node none .leaf r))) (ih (Nat.shiftRight k 1) (fun l => c (.node none l .leaf))) (Nat.beq (Nat.land k 1) 0)) (c (.node (some x) .leaf .leaf)) (Nat.beq k 1)) f k c
noncomputable def T.setK {α β : Type} (t : T α) (k : Nat) (x : α) (c : T α → β) : β :=
  @T.rec α (fun _ => Nat → (T α → β) → β) (fun k c => T.singK k k x c)
    (fun v l r ihl ihr k c => @Bool.rec (fun _ => β) (@Bool.rec (fun _ => β) (ihr (Nat.shiftRight k 1) (fun r => c (.node v l r))) (ihl (Nat.shiftRight k 1) (fun l => c (.node v l r))) (Nat.beq (Nat.land k 1) 0)) (c (.node (some x) l r)) (Nat.beq k 1)) t k c
noncomputable def T.set {α : Type} (t : T α) (k : Nat) (x : α) : T α := T.setK t k x id

noncomputable def T.getK {α β : Type} (t : T α) (k : Nat) (n : β) (c : α → β) : β :=
  @T.rec α (fun _ => Nat → β) (fun _ => n)
    (fun v _ _ ihl ihr k => @Bool.rec (fun _ => β) (@Bool.rec (fun _ => β) (ihr (Nat.shiftRight k 1)) (ihl (Nat.shiftRight k 1)) (Nat.beq (Nat.land k 1) 0)) (@Option.rec α (fun _ => β) n c v) (Nat.beq k 1)) t k
theorem T.getK_eq {α β : Type} (t : T α) (n : β) (c : α → β) : ∀ k, T.getK t k n c = @Option.rec α (fun _ => β) n c (T.get t k) := by
  induction t with
  | leaf => intro k; rfl
  | node v l r ihl ihr =>
    intro k
    show @Bool.rec (fun _ => β) (@Bool.rec (fun _ => β) (T.getK r (Nat.shiftRight k 1) n c) (T.getK l (Nat.shiftRight k 1) n c) (Nat.beq (Nat.land k 1) 0)) (@Option.rec α (fun _ => β) n c v) (Nat.beq k 1) =
      @Option.rec α (fun _ => β) n c (@Bool.rec (fun _ => Option α) (@Bool.rec (fun _ => Option α) (r.get (Nat.shiftRight k 1)) (l.get (Nat.shiftRight k 1)) (Nat.beq (Nat.land k 1) 0)) v (Nat.beq k 1))
    rw [ihl, ihr]
    cases Nat.beq k 1 <;> cases Nat.beq (Nat.land k 1) 0 <;> rfl
section
variable {α β : Type}
theorem beqN (a b : Nat) : (Nat.beq a b = true) = (a = b) := propext ⟨Nat.eq_of_beq_eq_true, fun h => h ▸ Nat.beq_refl a⟩
theorem T.get_leaf (k : Nat) : (T.leaf : T α).get k = none := rfl
theorem and1 (k : Nat) : Nat.land k 1 = k % 2 := Nat.and_one_is_mod k
theorem sh1 (k : Nat) : Nat.shiftRight k 1 = k / 2 := by
  show k >>> 1 = k / 2
  rw [Nat.shiftRight_eq_div_pow]
theorem boolRec_ite {γ : Type} (c : Bool) (x y : γ) : @Bool.rec (fun _ => γ) y x c = if c then x else y := by cases c <;> rfl
theorem T.get_node (v : Option α) (l r : T α) (k : Nat) : (T.node v l r).get k = if k = 1 then v else if k % 2 = 0 then l.get (k / 2) else r.get (k / 2) := by
  show @Bool.rec (fun _ => Option α) (@Bool.rec (fun _ => Option α) (r.get (Nat.shiftRight k 1)) (l.get (Nat.shiftRight k 1)) (Nat.beq (Nat.land k 1) 0)) v (Nat.beq k 1) = _
  rw [and1, sh1, boolRec_ite, boolRec_ite]
  simp only [beqN]
theorem T.singK_zero (k : Nat) (x : α) (c : T α → β) : T.singK 0 k x c = c .leaf := rfl
theorem T.singK_succ (f k : Nat) (x : α) (c : T α → β) : T.singK (f + 1) k x c =
    if k = 1 then c (.node (some x) .leaf .leaf) else if k % 2 = 0 then T.singK f (k / 2) x (fun l => c (.node none l .leaf)) else T.singK f (k / 2) x (fun r => c (.node none .leaf r)) := by
  show @Bool.rec (fun _ => β) (@Bool.rec (fun _ => β) (T.singK f (Nat.shiftRight k 1) x (fun r => c (.node none .leaf r))) (T.singK f (Nat.shiftRight k 1) x (fun l => c (.node none l .leaf))) (Nat.beq (Nat.land k 1) 0)) (c (.node (some x) .leaf .leaf)) (Nat.beq k 1) = _
  rw [and1, sh1, boolRec_ite, boolRec_ite]
  simp only [beqN]
theorem T.setK_leaf (k : Nat) (x : α) (c : T α → β) : T.setK .leaf k x c = T.singK k k x c := rfl
theorem T.setK_node (v : Option α) (l r : T α) (k : Nat) (x : α) (c : T α → β) : T.setK (.node v l r) k x c =
    if k = 1 then c (.node (some x) l r) else if k % 2 = 0 then T.setK l (k / 2) x (fun l => c (.node v l r)) else T.setK r (k / 2) x (fun r => c (.node v l r)) := by
  show @Bool.rec (fun _ => β) (@Bool.rec (fun _ => β) (T.setK r (Nat.shiftRight k 1) x (fun r => c (.node v l r))) (T.setK l (Nat.shiftRight k 1) x (fun l => c (.node v l r))) (Nat.beq (Nat.land k 1) 0)) (c (.node (some x) l r)) (Nat.beq k 1) = _
  rw [and1, sh1, boolRec_ite, boolRec_ite]
  simp only [beqN]
theorem T.singK_eq (f : Nat) : ∀ {β : Type} (k : Nat) (x : α) (c : T α → β), T.singK f k x c = c (T.singK f k x id) := by
  induction f with
  | zero => intro β k x c; rfl
  | succ f ih =>
    intro β k x c
    rw [T.singK_succ, T.singK_succ]
    split
    · rfl
    · split
      · rw [ih _ _ (fun l => c (.node none l .leaf)), ih _ _ (fun l => id (T.node none l .leaf))]; rfl
      · rw [ih _ _ (fun l => c (.node none .leaf l)), ih _ _ (fun l => id (T.node none .leaf l))]; rfl
theorem T.setK_eq (t : T α) : ∀ {β : Type} (k : Nat) (x : α) (c : T α → β), T.setK t k x c = c (T.set t k x) := by
  unfold T.set
  induction t with
  | leaf => intro β k x c; rw [T.setK_leaf, T.setK_leaf, T.singK_eq]
  | node v l r ihl ihr =>
    intro β k x c
    rw [T.setK_node, T.setK_node]
    split
    · rfl
    · split
      · rw [ihl _ _ (fun l => c (.node v l r)), ihl _ _ (fun l => id (T.node v l r))]; rfl
      · rw [ihr _ _ (fun r => c (.node v l r)), ihr _ _ (fun r => id (T.node v l r))]; rfl
theorem T.get_sing (f : Nat) : ∀ (k j : Nat) (x : α), 1 ≤ k → k ≤ f → 1 ≤ j → (T.singK f k x id).get j = if j = k then some x else none := by
  induction f with
  | zero => intro k j x h1 h2; omega
  | succ f ih =>
    intro k j x h1 h2 hj
    rw [T.singK_succ]
    split
    · rename_i h; subst h; show (T.node _ _ _).get j = _; rw [T.get_node]; simp [T.get_leaf]
    · split
      · rw [T.singK_eq]; show (T.node _ _ _).get j = _; rw [T.get_node, T.get_leaf]
        by_cases h : j = 1
        · subst h; rw [if_pos rfl, if_neg (by omega)]
        · rw [if_neg h]
          by_cases h3 : j % 2 = 0
          · rw [if_pos h3, ih _ _ _ (by omega) (by omega) (by omega)]
            by_cases h4 : j = k
            · subst h4; simp
            · rw [if_neg h4, if_neg (by omega)]
          · rw [if_neg h3, if_neg (by omega)]
      · rw [T.singK_eq]; show (T.node _ _ _).get j = _; rw [T.get_node, T.get_leaf]
        by_cases h : j = 1
        · subst h; rw [if_pos rfl, if_neg (by omega)]
        · rw [if_neg h]
          by_cases h3 : j % 2 = 0
          · rw [if_pos h3, if_neg (by omega)]
          · rw [if_neg h3, ih _ _ _ (by omega) (by omega) (by omega)]
            by_cases h4 : j = k
            · subst h4; simp
            · rw [if_neg h4, if_neg (by omega)]
theorem T.get_set' (t : T α) : ∀ (k j : Nat) (x : α), 1 ≤ k → 1 ≤ j → (t.set k x).get j = if j = k then some x else t.get j := by
  unfold T.set
  induction t with
  | leaf => intro k j x h1 hj; rw [T.setK_leaf, T.get_sing _ _ _ _ h1 (Nat.le_refl _) hj, T.get_leaf]
  | node v l r ihl ihr =>
    intro k j x h1 hj
    rw [T.setK_node]
    split
    · rename_i h; subst h; show (T.node _ _ _).get j = _; rw [T.get_node, T.get_node]
      by_cases h : j = 1
      · subst h; simp
      · simp [h]
    · split
      · rw [T.setK_eq]; show (T.node _ _ _).get j = _; rw [T.get_node, T.get_node]
        by_cases h : j = 1
        · subst h; rw [if_pos rfl, if_pos rfl, if_neg (by omega)]
        · rw [if_neg h, if_neg h]
          by_cases h3 : j % 2 = 0
          · rw [if_pos h3, if_pos h3]
            have := ihl (k / 2) (j / 2) x (by omega) (by omega)
            rw [T.set, this]
            by_cases h4 : j = k
            · subst h4; simp
            · rw [if_neg h4, if_neg (by omega)]
          · rw [if_neg h3, if_neg h3, if_neg (by omega)]
      · rw [T.setK_eq]; show (T.node _ _ _).get j = _; rw [T.get_node, T.get_node]
        by_cases h : j = 1
        · subst h; rw [if_pos rfl, if_pos rfl, if_neg (by omega)]
        · rw [if_neg h, if_neg h]
          by_cases h3 : j % 2 = 0
          · rw [if_pos h3, if_pos h3, if_neg (by omega)]
          · rw [if_neg h3, if_neg h3]
            have := ihr (k / 2) (j / 2) x (by omega) (by omega)
            rw [T.set, this]
            by_cases h4 : j = k
            · subst h4; simp
            · rw [if_neg h4, if_neg (by omega)]
/-- The place number i, from 0. -/
noncomputable def T.at (t : T α) (i : Nat) : Option α := t.get (Nat.succ i)
noncomputable def T.put (t : T α) (i : Nat) (x : α) : T α := t.set (Nat.succ i) x
theorem T.at_put (t : T α) (i j : Nat) (x : α) : (t.put i x).at j = if j = i then some x else t.at j := by
  unfold T.put T.at
  rw [T.get_set' _ _ _ _ (Nat.succ_le_succ (Nat.zero_le _)) (Nat.succ_le_succ (Nat.zero_le _))]
  by_cases h : j = i
  · subst h; simp
  · rw [if_neg h, if_neg (fun e => h (Nat.succ.inj e))]
theorem T.at_leaf (i : Nat) : (T.leaf : T α).at i = none := rfl
/-- Reading, and going on: n where nothing lies. -/
theorem T.at_def (t : T α) (i : Nat) : T.get t (Nat.succ i) = t.at i := rfl
theorem T.setK_put (t : T α) (i : Nat) (x : α) (c : T α → β) : T.setK t (Nat.succ i) x c = c (t.put i x) := T.setK_eq _ _ _ _
end
end Go.CE
