/-
  CE, part 2: strings as numbers: a string of l bytes is the number whose digits to the base 256 are its bytes, the first byte the lowest.
-/
import Derived.Test.YtfmhagjbhableaaGreatDoorCeBase
import Derived.Laws.Strings
namespace Go.CE
open Go

/-- The bytes of a number. -/
def decB : Nat → Nat → List UInt8
  | 0, _ => []
  | l + 1, n => UInt8.ofNat (n % 256) :: decB l (n / 256)
/-- The number of bytes. -/
def bytesN : List UInt8 → Nat
  | [] => 0
  | b :: r => b.toNat + 256 * bytesN r
theorem decB_length (l : Nat) : ∀ n, (decB l n).length = l := by
  induction l with
  | zero => intro n; rfl
  | succ l ih => intro n; simp [decB, ih]
theorem bytesN_lt (s : List UInt8) : bytesN s < 256 ^ s.length := by
  induction s with
  | nil => simp [bytesN]
  | cons b r ih =>
    have := b.toNat_lt
    simp only [bytesN, List.length_cons, Nat.pow_succ]
    omega
theorem decB_bytesN (s : List UInt8) : decB s.length (bytesN s) = s := by
  induction s with
  | nil => rfl
  | cons b r ih =>
    have hb := b.toNat_lt
    have h1 : (b.toNat + 256 * bytesN r) % 256 = b.toNat := by omega
    have h2 : (b.toNat + 256 * bytesN r) / 256 = bytesN r := by omega
    simp only [List.length_cons, decB, bytesN, h1, h2, ih]
    simp
theorem decB_inj (l : Nat) : ∀ n m, n < 256 ^ l → m < 256 ^ l → decB l n = decB l m → n = m := by
  induction l with
  | zero => intro n m h1 h2 _; simp at h1 h2; omega
  | succ l ih =>
    intro n m h1 h2 h
    rw [Nat.pow_succ] at h1 h2
    simp only [decB, List.cons.injEq] at h
    obtain ⟨h3, h4⟩ := h
    have h5 := congrArg UInt8.toNat h3
    simp at h5
    have h6 := ih _ _ (by omega) (by omega) h4
    omega
theorem decB_mod (l : Nat) : ∀ n, decB l (n % 256 ^ l) = decB l n := by
  induction l with
  | zero => intro n; rfl
  | succ l ih =>
    intro n
    simp only [decB, List.cons.injEq]
    have h : n % 256 ^ (l + 1) = n % 256 + 256 * (n / 256 % 256 ^ l) := by
      rw [Nat.pow_succ, Nat.mul_comm, Nat.mod_mul]
    constructor
    · rw [h]; congr 1; omega
    · rw [← ih (n / 256)]; congr 1; rw [h]; omega
theorem decB_get (l : Nat) : ∀ n i, (decB l n)[i]? = if i < l then some (UInt8.ofNat (n / 256 ^ i % 256)) else none := by
  induction l with
  | zero => intro n i; simp [decB]
  | succ l ih =>
    intro n i
    cases i with
    | zero => simp [decB]
    | succ i =>
      simp only [decB, List.getElem?_cons_succ, ih, Nat.add_lt_add_iff_right]
      rw [Nat.pow_succ, Nat.mul_comm, Nat.div_div_eq_div_mul]
theorem decB_drop (l : Nat) : ∀ n i, i ≤ l → (decB l n).drop i = decB (l - i) (n / 256 ^ i) := by
  induction l with
  | zero => intro n i h; obtain rfl : i = 0 := by omega
            simp [decB]
  | succ l ih =>
    intro n i h
    cases i with
    | zero => simp
    | succ i =>
      simp only [decB, List.drop_succ_cons, Nat.add_sub_add_right]
      rw [ih _ _ (by omega), Nat.pow_succ, Nat.mul_comm, Nat.div_div_eq_div_mul]
theorem decB_take (l : Nat) : ∀ n d, d ≤ l → (decB l n).take d = decB d n := by
  induction l with
  | zero => intro n d h; obtain rfl : d = 0 := by omega
            rfl
  | succ l ih =>
    intro n d h
    cases d with
    | zero => rfl
    | succ d => simp only [decB, List.take_succ_cons, ih _ _ (Nat.le_of_succ_le_succ h)]
theorem decB_append (l : Nat) : ∀ n m p, n < 256 ^ l → decB l n ++ decB m p = decB (l + m) (n + p * 256 ^ l) := by
  induction l with
  | zero => intro n m p h; simp at h; subst h; simp [decB]
  | succ l ih =>
    intro n m p h
    rw [Nat.pow_succ] at h
    have e : p * 256 ^ (l + 1) = 256 * (p * 256 ^ l) := by rw [Nat.pow_succ, ← Nat.mul_assoc, Nat.mul_comm]
    have h1 : (n + p * 256 ^ (l + 1)) % 256 = n % 256 := by rw [e]; omega
    have h2 : (n + p * 256 ^ (l + 1)) / 256 = n / 256 + p * 256 ^ l := by rw [e]; omega
    rw [Nat.add_right_comm]
    simp only [decB, List.cons_append, h1, h2]
    rw [ih _ _ _ (by omega)]

/-- The number n of l bytes is the string s. -/
def SR (l n : Nat) (s : ByteArray) : Prop := s.data.toList = decB l n ∧ n < 256 ^ l
theorem SR.of (s : ByteArray) : SR s.data.toList.length (bytesN s.data.toList) s := ⟨(decB_bytesN _).symm, bytesN_lt _⟩
theorem SR.size {l n : Nat} {s : ByteArray} (h : SR l n s) : s.size = l := by
  have := congrArg List.length h.1
  rw [decB_length, Array.length_toList] at this
  exact this
theorem SR.ext {l n : Nat} {s t : ByteArray} (h : SR l n s) (g : SR l n t) : s = t := by
  have : s.data.toList = t.data.toList := h.1.trans g.1.symm
  cases s; cases t; simp at this; cases this; rfl
theorem SR.eq_iff {l n m p : Nat} {s t : ByteArray} (h : SR l n s) (g : SR m p t) : s = t ↔ l = m ∧ n = p := by
  constructor
  · rintro rfl
    have e : l = m := h.size.symm.trans g.size
    subst e
    exact ⟨rfl, decB_inj _ _ _ h.2 g.2 (h.1.symm.trans g.1)⟩
  · rintro ⟨rfl, rfl⟩; exact h.ext g
theorem SR.toList {l n : Nat} {s : ByteArray} (h : SR l n s) : s.toList = decB l n := by
  rw [← h.1]; exact ByteArray.toList_eq s
theorem sh8 (n i : Nat) : Nat.shiftRight n (Nat.mul 8 i) = n / 256 ^ i := by
  show n >>> (8 * i) = _
  rw [Nat.shiftRight_eq_div_pow, Nat.pow_mul]
theorem shl8 (n i : Nat) : Nat.shiftLeft n (Nat.mul 8 i) = n * 256 ^ i := by
  show n <<< (8 * i) = _
  rw [Nat.shiftLeft_eq, Nat.pow_mul]
theorem land255 (n : Nat) : Nat.land n 255 = n % 256 := Nat.and_two_pow_sub_one_eq_mod n 8
theorem landMask (n d : Nat) : Nat.land n (Nat.sub (Nat.shiftLeft 1 (Nat.mul 8 d)) 1) = n % 256 ^ d := by
  rw [shl8, Nat.one_mul, show (256 : Nat) ^ d = 2 ^ (8 * d) by rw [Nat.pow_mul]]
  exact Nat.and_two_pow_sub_one_eq_mod n (8 * d)
theorem SR.get {l n i : Nat} {s : ByteArray} (h : SR l n s) (hi : i < l) : s[i]? = some (UInt8.ofNat (n / 256 ^ i % 256)) := by
  have e := decB_get l n i
  rw [← h.1, if_pos hi] at e
  have hs : i < s.size := by rw [h.size]; exact hi
  rw [getElem?_pos s i hs]
  rw [Array.getElem?_toList] at e
  have h2 : i < s.data.size := hs
  rw [Array.getElem?_eq_getElem h2] at e
  exact e
theorem SR.extract {l n lo hi : Nat} {s : ByteArray} (h : SR l n s) (h1 : lo ≤ hi) (h2 : hi ≤ l) : SR (hi - lo) (n / 256 ^ lo % 256 ^ (hi - lo)) (s.extract lo hi) := by
  refine ⟨?_, Nat.mod_lt _ (Nat.pow_pos (by omega))⟩
  rw [decB_mod]
  have e : (s.extract lo hi).data = s.data.extract lo hi := by simp [ByteArray.data_extract]
  rw [e, Array.toList_extract, h.1]
  simp only [List.extract]
  rw [decB_drop _ _ _ (by omega), decB_take _ _ _ (by omega)]
theorem SR.append {l n m p : Nat} {s t : ByteArray} (h : SR l n s) (g : SR m p t) : SR (l + m) (n + p * 256 ^ l) (s ++ t) := by
  constructor
  · rw [← decB_append _ _ _ _ h.2, ← h.1, ← g.1]; simp
  · have h1 := h.2; have h2 := g.2
    rw [Nat.pow_add]
    have : (p + 1) * 256 ^ l ≤ 256 ^ m * 256 ^ l := Nat.mul_le_mul_right _ h2
    rw [Nat.add_mul, Nat.one_mul] at this
    rw [Nat.mul_comm (256 ^ l)]
    omega
/-- Fewer bytes, as the model compares. -/
noncomputable def bytesOf (l n : Nat) : List Nat := @Nat.rec (fun _ => Nat → List Nat) (fun _ => []) (fun _ ih n => Nat.land n 255 :: ih (Nat.shiftRight n 8)) l n
noncomputable def ltBytes (a b : List Nat) : Bool := @List.rec Nat (fun _ => List Nat → Bool) (fun b => @List.rec Nat (fun _ => Bool) false (fun _ _ _ => true) b) (fun x _ ih b => @List.rec Nat (fun _ => Bool) false (fun y ys _ => @Bool.rec (fun _ => Bool) (@Bool.rec (fun _ => Bool) false (ih ys) (Nat.beq x y)) true (Nat.blt x y)) b) a b
theorem bytesOf_eq (l : Nat) : ∀ n, bytesOf l n = (decB l n).map UInt8.toNat := by
  induction l with
  | zero => intro n; rfl
  | succ l ih =>
    intro n
    show Nat.land n 255 :: bytesOf l (Nat.shiftRight n 8) = _
    rw [ih, land255, show Nat.shiftRight n 8 = n / 256 from sh8 n 1]
    simp [decB]
theorem bltN (a b : Nat) : (Nat.blt a b = true) = (a < b) := by
  apply propext
  show Nat.ble (a + 1) b = true ↔ _
  exact ⟨fun h => Nat.le_of_ble_eq_true h, fun h => Nat.ble_eq_true_of_le h⟩
theorem bleN (a b : Nat) : (Nat.ble a b = true) = (a ≤ b) := propext ⟨fun h => Nat.le_of_ble_eq_true h, fun h => Nat.ble_eq_true_of_le h⟩
theorem ltBytes_eq (a : List UInt8) : ∀ b, ltBytes (a.map UInt8.toNat) (b.map UInt8.toNat) = Op.bytesLess a b := by
  induction a with
  | nil => intro b; cases b <;> rfl
  | cons x xs ih =>
    intro b
    cases b with
    | nil => rfl
    | cons y ys =>
      show @Bool.rec (fun _ => Bool) (@Bool.rec (fun _ => Bool) false (ltBytes (xs.map UInt8.toNat) (ys.map UInt8.toNat)) (Nat.beq x.toNat y.toNat)) true (Nat.blt x.toNat y.toNat) = _
      rw [ih, boolRec_ite, boolRec_ite]
      simp only [Op.bytesLess, bltN, beqN]
      by_cases h : x < y
      · have : x.toNat < y.toNat := UInt8.lt_iff_toNat_lt.1 h
        simp [h, this]
      · have h' : ¬ x.toNat < y.toNat := fun e => h (UInt8.lt_iff_toNat_lt.2 e)
        by_cases e : x = y
        · subst e; simp
        · have e' : x.toNat ≠ y.toNat := fun q => e (UInt8.toNat_inj.1 q)
          simp [h, h', e, e']
theorem SR.less {l n m p : Nat} {s t : ByteArray} (h : SR l n s) (g : SR m p t) : ltBytes (bytesOf l n) (bytesOf m p) = Op.bytesLess s.toList t.toList := by
  rw [bytesOf_eq, bytesOf_eq, ltBytes_eq, h.toList, g.toList]
end Go.CE
