/-
  Rows of bytes that are filled one behind the other; plain.
-/
import Derived.Test.YtejmbkljnhnklaaShaSpec
namespace Go.PK
def filling (X : List UInt8) (n j : Nat) : List UInt8 := X.take j ++ List.replicate (n - j) 0
theorem filling_len {X : List UInt8} {n : Nat} (h : X.length = n) (j : Nat) (hj : j ≤ n) : (filling X n j).length = n := by simp [filling, h]; omega
theorem filling_set {X : List UInt8} {n : Nat} (h : X.length = n) {j : Nat} (hj : j < n) : (filling X n j).set j (gb X j) = filling X n (j + 1) := by
  have h1 : (X.take j).length = j := by rw [List.length_take]; omega
  have h2 : X.take (j + 1) = X.take j ++ [gb X j] := by
    rw [List.take_succ_eq_append_getElem (by omega)]
    unfold gb
    rw [List.getD_eq_getElem?_getD, List.getElem?_eq_getElem (by omega)]
    rfl
  rw [filling, filling, List.set_append_right _ _ (by rw [h1]; exact Nat.le_refl _), h1, Nat.sub_self, show n - j = n - (j + 1) + 1 from by omega, List.replicate_succ, List.set_cons_zero, h2, List.append_assoc]
  rfl
theorem filling_all {X : List UInt8} {n : Nat} (h : X.length = n) : filling X n n = X := by simp [filling, List.take_of_length_le (Nat.le_of_eq h)]
theorem filling_zero (X : List UInt8) (n : Nat) : filling X n 0 = List.replicate n 0 := by simp [filling]
namespace Sha
/-- what lies in 'end', whole -/
def endX (n : Nat) : List UInt8 := ending n ++ List.replicate (64 - zeros n) 0
theorem zeros_lt (n : Nat) : zeros n < 64 := by unfold zeros; omega
theorem endX_len (n : Nat) : (endX n).length = 73 := by
  have := zeros_lt n
  simp [endX, ending_len]
  omega
theorem endX_start (n : Nat) : (List.replicate 73 (0 : UInt8)).set 0 128 = filling (endX n) 73 (1 + zeros n) := by
  have := zeros_lt n
  have h : (endX n).take (1 + zeros n) = 128 :: List.replicate (zeros n) 0 := by
    rw [endX, ending, Nat.add_comm, List.cons_append, List.take_succ_cons, List.append_assoc, List.take_append_of_le_length (by simp), List.take_of_length_le (by simp)]
  rw [filling, h, show (73 : Nat) = 72 + 1 from rfl, List.replicate_succ, List.set_cons_zero, List.cons_append, List.replicate_append_replicate]
  congr 2
  omega
theorem endX_at (n : Nat) {k : Nat} (hk : k < 8) : gb (endX n) (1 + zeros n + k) = (shr64 (8 * UInt64.ofNat n) (56 - 8 * k)).toUInt8 := by
  have h1 : (be64 (8 * UInt64.ofNat n))[k]? = some ((shr64 (8 * UInt64.ofNat n) (56 - 8 * k)).toUInt8) := by
    unfold be64
    rw [List.getElem?_map, List.getElem?_range hk]
    rfl
  unfold gb
  rw [List.getD_eq_getElem?_getD, endX, ending, List.getElem?_append_left (by simp [be64_len]; omega), show 1 + zeros n + k = zeros n + k + 1 from by omega, List.getElem?_cons_succ, List.getElem?_append_right (by simp), List.length_replicate, show zeros n + k - zeros n = k from by omega, h1]
  rfl
theorem endX_take (n : Nat) : (filling (endX n) 73 (1 + zeros n + 8)).take (zeros n + 9) = ending n := by
  have := zeros_lt n
  rw [filling, List.take_append_of_le_length (by rw [List.length_take, endX_len]; omega), List.take_take, Nat.min_eq_left (by omega), endX, List.take_append_of_le_length (by rw [ending_len]; exact Nat.le_refl _), List.take_of_length_le (by rw [ending_len]; exact Nat.le_refl _)]
theorem out_at (s : List UInt32) {i k : Nat} (hi : i < 8) (hk : k < 4) : gb (out s) (4 * i + k) = (shr32 (gw s i) (24 - 8 * k)).toUInt8 := by
  unfold gb out
  rw [List.getD_eq_getElem?_getD, List.getElem?_map, List.getElem?_range (by omega)]
  simp only [Option.map_some, Option.getD_some]
  rw [show (4 * i + k) / 4 = i from by omega, show (4 * i + k) % 4 = k from by omega]
end Sha
end Go.PK
