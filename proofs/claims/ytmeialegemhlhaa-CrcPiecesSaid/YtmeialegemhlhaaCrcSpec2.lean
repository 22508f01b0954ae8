/-
  The table of CRC-32.
-/
import Derived.Test.YtmeialegemhlhaaCrcSpec
namespace Go.PK.Crc
def tab : List UInt32 := (List.range 256).map fun i => eight (UInt32.ofNat i)
/-- k of its numbers laid -/
def laying (k : Nat) : List UInt32 := (List.range 256).map fun i => if i < k then eight (UInt32.ofNat i) else 0
theorem laying_length (k : Nat) : (laying k).length = 256 := by unfold laying; rw [List.length_map, List.length_range]
theorem laying_zero : laying 0 = List.replicate 256 0 := by
  apply List.ext_getElem (by rw [laying_length, List.length_replicate])
  intro j h1 h2
  simp only [laying, List.getElem_map, List.getElem_range, List.getElem_replicate]
  rfl
theorem laying_all : laying 256 = tab := by
  unfold laying tab
  apply List.map_congr_left
  intro i hi
  rw [if_pos (by simpa using hi)]
theorem laying_succ (k : Nat) : (laying k).set k (eight (UInt32.ofNat k)) = laying (k + 1) := by
  apply List.ext_getElem (by rw [List.length_set, laying_length, laying_length])
  intro j h1 h2
  rw [List.getElem_set]
  simp only [laying, List.getElem_map, List.getElem_range]
  by_cases h : k = j
  · subst h; rw [if_pos rfl, if_pos (by omega)]
  · rw [if_neg h]
    by_cases h' : j < k
    · rw [if_pos h', if_pos (by omega)]
    · rw [if_neg h', if_neg (by omega)]
theorem tab_length : tab.length = 256 := by unfold tab; rw [List.length_map, List.length_range]
end Go.PK.Crc
