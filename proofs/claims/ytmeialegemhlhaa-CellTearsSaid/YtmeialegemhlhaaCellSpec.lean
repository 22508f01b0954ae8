/-
  Cells as lists of bytes.
-/
import Derived.Test.YtmeialegemhlhaaA
import Derived.Test.YtmeialegemhlhaaCrcSpec
import Derived.Test.YtmeialegemhlhaaRailSpec
namespace Go.PK

/-- k bytes of a number, the lowest one first -/
def le (k n : Nat) : List UInt8 := (List.range k).map fun i => UInt8.ofNat (n / 2 ^ (8 * i))
theorem le_length (k n : Nat) : (le k n).length = k := by simp [le]
theorem le_succ (k n : Nat) : le (k + 1) n = le k n ++ [UInt8.ofNat (n / 2 ^ (8 * k))] := by
  unfold le
  rw [List.range_succ, List.map_append]
  rfl
/-- the number of bytes, the lowest one first -/
def num : List UInt8 → Nat
  | [] => 0
  | x :: l => x.toNat + 256 * num l
theorem num_lt : ∀ l : List UInt8, num l < 2 ^ (8 * l.length)
  | [] => by decide
  | x :: l => by
    have := num_lt l
    have hx := x.toNat_lt
    rw [num, List.length_cons, show 8 * (l.length + 1) = 8 * l.length + 8 from by omega, Nat.pow_add]
    omega
theorem num_snoc (l : List UInt8) (x : UInt8) : num (l ++ [x]) = num l + x.toNat * 2 ^ (8 * l.length) := by
  induction l with
  | nil => simp [num]
  | cons y l ih =>
    rw [List.cons_append, num, ih, num, List.length_cons, show 8 * (l.length + 1) = 8 * l.length + 8 from by omega, Nat.pow_add, Nat.mul_add, ← Nat.add_assoc]
    congr 1
    rw [Nat.mul_comm (2 ^ (8 * l.length)) (2 ^ 8), ← Nat.mul_assoc, ← Nat.mul_assoc, Nat.mul_comm 256]
theorem num_le (k n : Nat) : num (le k n) = n % 2 ^ (8 * k) := by
  induction k with
  | zero => simp [le, num, Nat.mod_one]
  | succ k ih =>
    rw [le_succ, num_snoc, ih, le_length, UInt8.toNat_ofNat', show 8 * (k + 1) = 8 * k + 8 from by omega, Nat.pow_add, Nat.mod_mul, Nat.mul_comm (n / _ % _)]
theorem le_cons (k n : Nat) : le (k + 1) n = UInt8.ofNat n :: le k (n / 256) := by
  unfold le
  rw [List.range_succ_eq_map, List.map_cons, List.map_map]
  congr 1
  · simp
  · apply List.map_congr_left
    intro i _
    show UInt8.ofNat (n / 2 ^ (8 * (i + 1))) = UInt8.ofNat (n / 256 / 2 ^ (8 * i))
    rw [Nat.div_div_eq_div_mul, show 8 * (i + 1) = 8 * i + 8 from by omega, Nat.pow_add, Nat.mul_comm]
theorem le_num : ∀ l : List UInt8, le l.length (num l) = l
  | [] => rfl
  | x :: l => by
    have hx := x.toNat_lt
    rw [num, List.length_cons, le_cons, show (x.toNat + 256 * num l) / 256 = num l by omega, le_num l]
    congr 1
    apply UInt8.toNat_inj.1
    rw [UInt8.toNat_ofNat']
    omega

/-- xs laid over l from place o on -/
def over (l : List UInt8) (o : Nat) (xs : List UInt8) : List UInt8 := l.take o ++ xs ++ l.drop (o + xs.length)
theorem over_length (l : List UInt8) (o : Nat) (xs : List UInt8) (h : o + xs.length ≤ l.length) : (over l o xs).length = l.length := by
  simp [over]; omega
theorem over_nil (l : List UInt8) (o : Nat) : over l o [] = l := by simp [over]
theorem over_snoc (l : List UInt8) (o : Nat) (xs : List UInt8) (x : UInt8) (h : o + xs.length < l.length) : (over l o xs).set (o + xs.length) x = over l o (xs ++ [x]) := by
  unfold over
  have h1 : (l.take o ++ xs).length = o + xs.length := by simp; omega
  rw [List.set_append_right _ _ (by omega), h1, Nat.sub_self, List.drop_eq_getElem_cons h, List.set_cons_zero]
  simp [Nat.add_assoc]

/-- only block g was changed -/
structure Only (g : Nat) (w w' : World) : Prop where
  os : w'.os = w.os
  tape : w'.tape = w.tape
  output : w'.output = w.output
  size : w'.heap.size = w.heap.size
  block : ∀ k, k ≠ g → w'.heap[k]? = w.heap[k]?
theorem Only.refl (g : Nat) (w : World) : Only g w w := ⟨rfl, rfl, rfl, rfl, fun _ _ => rfl⟩
theorem Only.trans {g : Nat} {a b c : World} (h : Only g a b) (k : Only g b c) : Only g a c :=
  ⟨k.os.trans h.os, k.tape.trans h.tape, k.output.trans h.output, k.size.trans h.size, fun i hi => (k.block i hi).trans (h.block i hi)⟩
open Go.RowKit in
theorem Only.below {g B : Nat} {w w' : World} (h : Only g w w') (hg : B ≤ g) : Below B w w' :=
  ⟨h.os, h.tape, h.output, Nat.le_of_eq h.size.symm, fun k hk => h.block k (by omega)⟩
theorem Only.setCell {g : Nat} {a w : World} (h : Only g a w) (j : Nat) (v : Value) : Only g a (w.setCell ⟨g, j, none⟩ v) :=
  h.trans ⟨rfl, rfl, rfl, by simp, fun k hk => heap_setCell_other w ⟨g, j, none⟩ k v hk⟩
theorem Row.only {w w' : World} {b g : Nat} {t : TypeId} {L : List Value} (h : Row w b t L) (ho : Only g w w') (hb : b ≠ g) : Row w' b t L := (ho.block b hb).trans h
end Go.PK

namespace Go.PK.Cell
def zeros (n : Nat) : List UInt8 := List.replicate n 0
theorem zeros_length (n : Nat) : (zeros n).length = n := by simp [zeros]
def start (kind slot : UInt8) : List UInt8 := kind :: slot :: zeros 14
theorem start_length (kind slot : UInt8) : (start kind slot).length = 16 := by simp [start, zeros]
/-- what a record's cell holds ahead of its sum -/
def body (kind slot : UInt8) (n : Nat) : List UInt8 := [kind, slot, 0, 0] ++ le 8 n
def rec' (kind slot : UInt8) (n : Nat) : List UInt8 := body kind slot n ++ le 4 (Crc.of (body kind slot n)).toNat
def made (kind slot : UInt8) (n : Nat) : List UInt8 := Rail.put (rec' kind slot n)
theorem body_length (kind slot : UInt8) (n : Nat) : (body kind slot n).length = 12 := by simp [body, le_length]
theorem rec_length (kind slot : UInt8) (n : Nat) : (rec' kind slot n).length = 16 := by simp [rec', body_length, le_length]
theorem made_length (kind slot : UInt8) (n : Nat) : (made kind slot n).length = 32 := by rw [made, Rail.put_length, rec_length]
theorem start_over (kind slot : UInt8) (n : Nat) : over (start kind slot) 4 (le 8 n) = body kind slot n ++ zeros 4 := by
  unfold over start body
  rw [le_length]
  rfl
theorem body_over (kind slot : UInt8) (n s : Nat) : over (body kind slot n ++ zeros 4) 12 (le 4 s) = body kind slot n ++ le 4 s := by
  unfold over
  rw [le_length, List.take_append_of_le_length (by rw [body_length]; omega), List.take_of_length_le (by rw [body_length]; omega), List.drop_of_length_le (by simp [body_length, zeros]), List.append_nil]
def inside (n : Int) : Bool := decide (1 ≤ n) && decide (n ≤ 4611686018427387904)
/-- the answers of Head, Value: the cell, the error's number -/
def head (n : Int) : List UInt8 × Int := if inside n then (made 1 0 n.toNat, 0) else (zeros 32, 2)
def value (s n : Int) : List UInt8 × Int := if decide (0 ≤ s) && decide (s ≤ 8) && inside n then (made 2 (UInt8.ofInt s) n.toNat, 0) else (zeros 32, 2)
theorem head_length (n : Int) : (head n).1.length = 32 := by
  unfold head
  split
  · exact made_length _ _ _
  · exact zeros_length _
theorem value_length (s n : Int) : (value s n).1.length = 32 := by
  unfold value
  split
  · exact made_length _ _ _
  · exact zeros_length _
theorem ofInt_inside {n : Int} (h : 1 ≤ n) (h' : n ≤ 4611686018427387904) : (UInt64.ofInt n).toNat = n.toNat := by
  obtain ⟨k, rfl⟩ : ∃ k : Nat, n = k := ⟨n.toNat, by omega⟩
  rw [show UInt64.ofInt (k : Int) = UInt64.ofNat k from ofInt64_nat k, UInt64.toNat_ofNat']
  omega
def blank : List UInt8 := List.replicate 32 255
def blanking (k : Nat) : List UInt8 := List.replicate k 255 ++ List.replicate (32 - k) 0
theorem blanking_set (k : Nat) (hk : k < 32) : (blanking k).set k 255 = blanking (k + 1) := by
  have : ∀ k : Fin 32, (blanking k.val).set k.val 255 = blanking (k.val + 1) := by decide
  exact this ⟨k, hk⟩
theorem blanking_length (k : Nat) (hk : k ≤ 32) : (blanking k).length = 32 := by simp [blanking]; omega
theorem blanking_zero : blanking 0 = zeros 32 := rfl
theorem blanking_all : blanking 32 = blank := rfl
theorem blank_length : blank.length = 32 := rfl
/-- the number that a cell says, as the code reckons it -/
def number (c : List UInt8) : Int := (UInt64.ofNat (num ((c.drop 4).take 8))).toInt64.toInt
/-- what a cell says: kind, slot, number -/
def read (c : List UInt8) : Int × Int × Int :=
  if c == blank then (0, 0, 0)
  else if !inside (number c) then (3, 0, 0)
  else if c == made 1 0 (number c).toNat then (1, 0, number c)
  else if decide ((c.getD 1 0).toNat ≤ 8) && c == made 2 (c.getD 1 0) (number c).toNat then (2, (c.getD 1 0).toNat, number c)
  else (3, 0, 0)
theorem made_head (kind slot : UInt8) (n : Nat) : (made kind slot n).getD 0 0 = kind := by
  unfold made
  rw [Rail.put_getD_left _ 0 (by rw [rec_length]; omega)]
  rfl
end Go.PK.Cell
