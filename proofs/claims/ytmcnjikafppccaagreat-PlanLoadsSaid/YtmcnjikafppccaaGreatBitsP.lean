/- Bits as lists: what is put, packed, unpacked, taken (chapter 1), in plain Lean. -/
import Derived.WalkKit
import Derived.Lib.BitFns
namespace Go.Proofs.Bp

/-- The lowest digit first. -/
def num : List Bool → Nat
  | [] => 0
  | b :: l => b.toNat + 2 * num l
theorem num_lt : ∀ l : List Bool, num l < 2 ^ l.length
  | [] => by simp [num]
  | b :: l => by
    have := num_lt l
    cases b <;> simp [num, Nat.pow_succ] <;> omega
theorem num_append : ∀ a b : List Bool, num (a ++ b) = num a + 2 ^ a.length * num b
  | [], b => by simp [num]
  | x :: a, b => by
    simp only [List.cons_append, num, num_append a b, List.length_cons, Nat.pow_succ]
    rw [Nat.mul_add, ← Nat.mul_assoc, Nat.mul_comm 2 (2 ^ _)]
    omega
theorem num_snoc (a : List Bool) (x : Bool) : num (a ++ [x]) = num a + x.toNat * 2 ^ a.length := by
  rw [num_append]; simp [num, Nat.mul_comm]
/-- The n lowest digits of a number. -/
def digs (v n : Nat) : List Bool := (List.range n).map fun i => v.testBit i
@[simp] theorem digs_length (v n : Nat) : (digs v n).length = n := by simp [digs]
theorem digs_succ (v n : Nat) : digs v (n + 1) = digs v n ++ [v.testBit n] := by simp [digs, List.range_succ]
theorem digs_zero (v : Nat) : digs v 0 = [] := rfl
theorem digs_cons (v n : Nat) : digs v (n + 1) = v.testBit 0 :: digs (v / 2) n := by
  simp only [digs, List.range_succ_eq_map, List.map_cons, List.map_map]
  congr 1
  apply List.map_congr_left
  intro i _
  simp [Nat.testBit_succ]
theorem num_digs : ∀ (n v : Nat), v < 2 ^ n → num (digs v n) = v
  | 0, v, h => by simp at h; simp [digs, num, h]
  | n + 1, v, h => by
    rw [digs_cons, num, num_digs n (v / 2) (by rw [Nat.pow_succ] at h; omega)]
    have : (v.testBit 0).toNat = v % 2 := by
      rw [Nat.testBit_zero]
      rcases Nat.mod_two_eq_zero_or_one v with h | h <;> simp [h]
    omega
theorem digs_num : ∀ l : List Bool, digs (num l) l.length = l
  | [] => rfl
  | b :: l => by
    rw [List.length_cons, digs_cons]
    have h1 : (num (b :: l)).testBit 0 = b := by
      rw [Nat.testBit_zero]; cases b <;> simp [num] <;> omega
    have h2 : num (b :: l) / 2 = num l := by cases b <;> simp [num] <;> omega
    rw [h1, h2, digs_num l]
theorem testBit_num (l : List Bool) (i : Nat) (h : i < l.length) : (num l).testBit i = l[i] := by
  have h1 := congrArg (fun x => x[i]?) (digs_num l)
  simp only [digs] at h1
  rw [List.getElem?_map, List.getElem?_range h] at h1
  simp at h1
  rw [List.getElem?_eq_getElem h] at h1
  simpa using h1
/-- What Put leaves. -/
def put (l : List Bool) (v n : Int) : List Bool := if 0 ≤ n ∧ n ≤ 24 ∧ 0 ≤ v ∧ v < 2 ^ n.toNat then l ++ digs v.toNat n.toNat else l
def may (v n : Int) : Bool := decide (0 ≤ n ∧ n ≤ 24 ∧ 0 ≤ v ∧ v < 2 ^ n.toNat)
/-- The j-th byte of bits. -/
def byteAt (l : List Bool) (j : Nat) : Nat := num ((l.drop (8 * j)).take 8)
theorem byteAt_lt (l : List Bool) (j : Nat) : byteAt l j < 256 := by
  have := num_lt ((l.drop (8 * j)).take 8)
  have h2 : ((l.drop (8 * j)).take 8).length ≤ 8 := by simp; omega
  calc byteAt l j < 2 ^ ((l.drop (8 * j)).take 8).length := this
    _ ≤ 2 ^ 8 := Nat.pow_le_pow_right (by omega) h2
/-- All bits as bytes, a 1 behind them. -/
def pack (l : List Bool) : List UInt8 := (List.range (l.length / 8 + 1)).map fun j => UInt8.ofNat (byteAt (l ++ [true]) j)
@[simp] theorem pack_length (l : List Bool) : (pack l).length = l.length / 8 + 1 := by simp [pack]
/-- One bit more. -/
theorem byteAt_snoc (l : List Bool) (x : Bool) (j : Nat) : byteAt (l ++ [x]) j = byteAt l j + (if j = l.length / 8 then x.toNat * 2 ^ (l.length % 8) else 0) := by
  unfold byteAt
  by_cases h : 8 * j ≤ l.length
  · rw [List.drop_append_of_le_length h]
    by_cases h2 : j = l.length / 8
    · have h3 : (l.drop (8 * j)).length < 8 := by simp; omega
      rw [if_pos h2, List.take_of_length_le (by simp; omega), num_snoc, List.take_of_length_le (by omega)]
      have : l.length - 8 * j = l.length % 8 := by omega
      simp [this]
    · have h3 : 8 ≤ (l.drop (8 * j)).length := by simp; omega
      rw [if_neg h2, List.take_append_of_le_length h3, Nat.add_zero]
  · rw [if_neg (by omega), List.drop_of_length_le (by simp; omega), List.drop_of_length_le (by omega), Nat.add_zero]
/-- Bytes' bits. -/
def bitsOf (b : List UInt8) : List Bool := b.flatMap fun c => digs c.toNat 8
theorem bitsOf_length : ∀ b : List UInt8, (bitsOf b).length = 8 * b.length
  | [] => rfl
  | c :: b => by
    have := bitsOf_length b
    simp only [bitsOf, List.flatMap_cons, List.length_append, digs_length, List.length_cons] at *
    omega
theorem bitsOf_get : ∀ (b : List UInt8) (i : Nat), (bitsOf b)[i]? = (b[i / 8]?).map fun c => c.toNat.testBit (i % 8)
  | [], i => by simp [bitsOf]
  | c :: b, i => by
    have ih := bitsOf_get b
    simp only [bitsOf, List.flatMap_cons] at *
    by_cases h : i < 8
    · rw [List.getElem?_append_left (by simpa using h)]
      have h1 : i / 8 = 0 := by omega
      have h2 : i % 8 = i := by omega
      simp [h1, h2, digs, List.getElem?_range h]
    · rw [List.getElem?_append_right (by simp; omega)]
      have h1 : i / 8 = (i - 8) / 8 + 1 := by omega
      have h2 : i % 8 = (i - 8) % 8 := by omega
      rw [h1, h2]
      simpa using ih (i - 8)
/-- How many bits bytes hold. -/
def many (b : List UInt8) : Nat := 8 * (b.length - 1) + Lib.bitLen (b.getLastD 0).toNat - 1
/-- Bytes' bits; nothing: they are none. -/
def unpack (b : List UInt8) : Option (List Bool) := if b.getLastD 0 = 0 then none else some ((bitsOf b).take (many b))
/-- The last n bits are taken. -/
def take (l : List Bool) (n : Int) : Option (Nat × List Bool) := if 0 ≤ n ∧ n ≤ 24 ∧ n ≤ l.length then some (num (l.drop (l.length - n.toNat)), l.take (l.length - n.toNat)) else none

/-- What was put, and taken. -/
theorem take_put (l : List Bool) (v n : Nat) (hn : n ≤ 24) (hv : v < 2 ^ n) : take (l ++ digs v n) n = some (v, l) := by
  unfold take
  rw [if_pos (by simp; omega)]
  simp [num_digs n v hv]
end Go.Proofs.Bp
