/-
  Tags of bytes under keys, as plain functions; nothing of the program.
-/
import Derived.Test.YtejmbkljnhnklaaFill
namespace Go.PK.Mac
def base (key : List UInt8) : List UInt8 := if key.length > 64 then Sha.of key else key
/-- a key's block key -/
def block (key : List UInt8) : List UInt8 := base key ++ List.replicate (64 - (base key).length) 0
def over (b : List UInt8) (x : UInt8) : List UInt8 := b.map (· ^^^ x)
def inner (key m : List UInt8) : List UInt8 := over (block key) 0x36 ++ m
def tag (key m : List UInt8) : List UInt8 := Sha.of (over (block key) 0x5C ++ Sha.of (inner key m))
def derive (key label : List UInt8) : List UInt8 := tag key (label ++ [0, 1, 0, 0, 0])

theorem base_len (key : List UInt8) : (base key).length ≤ 64 := by
  unfold base
  split
  · rw [Sha.of_len]; omega
  · omega
theorem block_len (key : List UInt8) : (block key).length = 64 := by
  have := base_len key
  simp [block]
  omega
theorem over_len (b : List UInt8) (x : UInt8) : (over b x).length = b.length := by simp [over]
theorem tag_len (key m : List UInt8) : (tag key m).length = 32 := Sha.of_len _
theorem gb_over {b : List UInt8} {i : Nat} (h : i < b.length) (x : UInt8) : gb (over b x) i = gb b i ^^^ x := by
  unfold gb over
  rw [List.getD_eq_getElem?_getD, List.getD_eq_getElem?_getD, List.getElem?_map, List.getElem?_eq_getElem h]
  rfl
theorem over_take (b : List UInt8) (x : UInt8) {k : Nat} (h : k < b.length) : (over b x).take (k + 1) = (over b x).take k ++ [gb b k ^^^ x] := by
  rw [List.take_succ_eq_append_getElem (by rw [over_len]; exact h), ← gb_over h]
  unfold gb
  rw [List.getD_eq_getElem?_getD, List.getElem?_eq_getElem (by rw [over_len]; exact h)]
  rfl
/-- a key filled up, and one that is hashed -/
theorem block_wide (key : List UInt8) (h : ¬ key.length > 64) : block (key ++ List.replicate (64 - key.length) 0) = block key := by
  have h1 : base key = key := if_neg h
  have h2 : base (key ++ List.replicate (64 - key.length) 0) = key ++ List.replicate (64 - key.length) 0 := if_neg (by simp; omega)
  unfold block
  rw [h1, h2]
  simp
  omega
theorem block_hash (key : List UInt8) (h : key.length > 64) : block (Sha.of key) = block key := by
  have h1 : base key = Sha.of key := if_pos h
  have h2 : base (Sha.of key) = Sha.of key := if_neg (by rw [Sha.of_len]; omega)
  unfold block
  rw [h1, h2]
theorem tag_block (k1 k2 m : List UInt8) (h : block k1 = block k2) : tag k1 m = tag k2 m := by unfold tag inner; rw [h]
end Go.PK.Mac
