/-
  The walks of cell.Head, cell.Value, cell.Blank.
-/
import Derived.Test.YtmeialegemhlhaaCellW2
namespace Go.Proofs.Ytmeialegemhlhaa
open Go.RowKit Go.PK

set_option maxHeartbeats 1000000 in
theorem cell_Head (w : World) (n : Int) :
    Calls Try.prog 39 #[.int .i64 n] w fun e w' => e = .returned (.tuple #[.agg ((Cell.head n).1.map B8).toArray, .int .i64 (Cell.head n).2]) ∧ Below w.heap.size w w' := by
  have r0 := Row.new w 49 ((Cell.zeros 32).map B8)
  have b0 : Below w.heap.size w (w.alloc (.cells ((Cell.zeros 32).map B8).toArray 49)) := (Below.refl _ _).alloc (Nat.le_refl _) _
  have HZ := Lib.hid (show (Try.prog.info? 49).map (·.size) = some ((Cell.zeros 32).map B8).length by rw [List.length_map, Cell.zeros_length]; exact size32)
  by_cases hin : 1 ≤ n ∧ n ≤ 4611686018427387904
  · obtain ⟨h1, h2⟩ := hin
    have hh : Cell.head n = (Cell.made 1 0 n.toNat, 0) := by unfold Cell.head Cell.inside; rw [if_pos (by simp [h1, h2])]
    rw [hh]
    clear hh
    have HN := Lib.hid (Cell.ofInt_inside h1 h2)
    go_enter Try.func39, Try.ntmps39
    go_wp2_with (first
      | (refine wpList_alloc_row rfl 49 rfl _ zero32 ?_))
    refine (cell_laid _ 1 0 n).mono ?_
    rintro e w1 ⟨rfl, B1⟩
    rw [HN.out, show UInt8.ofInt 0 = 0 from rfl]
    have hml := Cell.made_length 1 0 n.toNat
    generalize hmd : Cell.made 1 0 n.toNat = md at *
    have HMD := Lib.hid hmd
    clear hmd
    have r1 := r0.adds B1
    have b1 := b0.trans (B1.mono b0.size)
    have HI := Lib.hid (show (Try.prog.info? 49).map (·.size) = some (md.map B8).length by rw [List.length_map, hml]; exact size32)
    have HL := Lib.hid (show (md.map B8).length = ((Cell.zeros 32).map B8).length by rw [List.length_map, List.length_map, hml, Cell.zeros_length])
    have HM := Lib.hid hml
    clear hml r0 b0 B1
    go_wp2_with (first
      | (refine wpList_store_all rfl 49 (.tmp 2) (.tmp 12) rfl w.heap.size rfl rfl r1 HL.out HI.out B8_one ?_))
    refine bodyPost_cell_tmp rfl rfl rfl rfl (r1.setRow (md.map B8)) ?_ Try.underlying49 rfl size32 ⟨by rw [HMD.out]; rfl, b1.setRow (g := w.heap.size) (Nat.le_refl _) (md.map B8).toArray⟩
    rw [List.length_map, HM.out]
  · have hh : Cell.head n = (Cell.zeros 32, 2) := by unfold Cell.head Cell.inside; rw [if_neg (by simp; omega)]
    rw [hh]
    clear hh
    go_enter Try.func39, Try.ntmps39
    by_cases h1 : n < 1
    all_goals
      have hor : n < 1 ∨ 4611686018427387904 < n := by omega
      clear hin
      go_wp2_with (first
        | (refine wpList_alloc_row rfl 49 rfl _ zero32 ?_)
        | (refine wpList_build_zero rfl 49 rfl _ Try.underlying49 (by kernel_rfl) zero32 ?_)
        | (refine wpList_store_all rfl 49 (.tmp 2) (.tmp 10) rfl w.heap.size rfl rfl r0 rfl HZ.out B8_one ?_))
      refine bodyPost_cell_tmp rfl rfl rfl rfl (r0.setRow ((Cell.zeros 32).map B8)) ?_ Try.underlying49 rfl size32 ⟨rfl, b0.setRow (g := w.heap.size) (Nat.le_refl _) ((Cell.zeros 32).map B8).toArray⟩
      rw [List.length_map, Cell.zeros_length]

set_option maxHeartbeats 1000000 in
theorem cell_Value (w : World) (s n : Int) :
    Calls Try.prog 41 #[.int .i64 s, .int .i64 n] w fun e w' => e = .returned (.tuple #[.agg ((Cell.value s n).1.map B8).toArray, .int .i64 (Cell.value s n).2]) ∧ Below w.heap.size w w' := by
  have r0 := Row.new w 49 ((Cell.zeros 32).map B8)
  have b0 : Below w.heap.size w (w.alloc (.cells ((Cell.zeros 32).map B8).toArray 49)) := (Below.refl _ _).alloc (Nat.le_refl _) _
  have HZ := Lib.hid (show (Try.prog.info? 49).map (·.size) = some ((Cell.zeros 32).map B8).length by rw [List.length_map, Cell.zeros_length]; exact size32)
  by_cases hin : (0 ≤ s ∧ s ≤ 8) ∧ 1 ≤ n ∧ n ≤ 4611686018427387904
  · obtain ⟨⟨s1, s2⟩, h1, h2⟩ := hin
    have hh : Cell.value s n = (Cell.made 2 (UInt8.ofInt s) n.toNat, 0) := by unfold Cell.value Cell.inside; rw [if_pos (by simp [h1, h2, s1, s2])]
    rw [hh]
    clear hh
    have HN := Lib.hid (Cell.ofInt_inside h1 h2)
    go_enter Try.func41, Try.ntmps41
    go_wp2_with (first
      | (refine wpList_alloc_row rfl 49 rfl _ zero32 ?_))
    refine (cell_laid _ 2 s n).mono ?_
    rintro e w1 ⟨rfl, B1⟩
    rw [HN.out]
    have hml := Cell.made_length 2 (UInt8.ofInt s) n.toNat
    generalize hmd : Cell.made 2 (UInt8.ofInt s) n.toNat = md at *
    have HMD := Lib.hid hmd
    clear hmd
    have r1 := r0.adds B1
    have b1 := b0.trans (B1.mono b0.size)
    have HI := Lib.hid (show (Try.prog.info? 49).map (·.size) = some (md.map B8).length by rw [List.length_map, hml]; exact size32)
    have HL := Lib.hid (show (md.map B8).length = ((Cell.zeros 32).map B8).length by rw [List.length_map, List.length_map, hml, Cell.zeros_length])
    have HM := Lib.hid hml
    clear hml r0 b0 B1
    go_wp2_with (first
      | (refine wpList_store_all rfl 49 (.tmp 4) (.tmp 23) rfl w.heap.size rfl rfl r1 HL.out HI.out B8_one ?_))
    refine bodyPost_cell_tmp rfl rfl rfl rfl (r1.setRow (md.map B8)) ?_ Try.underlying49 rfl size32 ⟨by rw [HMD.out]; rfl, b1.setRow (g := w.heap.size) (Nat.le_refl _) (md.map B8).toArray⟩
    rw [List.length_map, HM.out]
  · have hh : Cell.value s n = (Cell.zeros 32, 2) := by unfold Cell.value Cell.inside; rw [if_neg (by simp; omega)]
    rw [hh]
    clear hh
    have hor : s < 0 ∨ (0 ≤ s ∧ 8 < s) ∨ (0 ≤ s ∧ s ≤ 8 ∧ n < 1) ∨ (0 ≤ s ∧ s ≤ 8 ∧ 1 ≤ n ∧ 4611686018427387904 < n) := by omega
    clear hin
    go_enter Try.func41, Try.ntmps41
    rcases hor with h1 | ⟨h1, h2⟩ | ⟨h1, h2, h3⟩ | ⟨h1, h2, h3, h4⟩
    all_goals
      go_wp2_with (first
        | (refine wpList_alloc_row rfl 49 rfl _ zero32 ?_)
        | (refine wpList_build_zero rfl 49 rfl _ Try.underlying49 (by kernel_rfl) zero32 ?_)
        | (refine wpList_store_all rfl 49 (.tmp 4) (.tmp 20) rfl w.heap.size rfl rfl r0 rfl HZ.out B8_one ?_))
      refine bodyPost_cell_tmp rfl rfl rfl rfl (r0.setRow ((Cell.zeros 32).map B8)) ?_ Try.underlying49 rfl size32 ⟨rfl, b0.setRow (g := w.heap.size) (Nat.le_refl _) ((Cell.zeros 32).map B8).toArray⟩
      rw [List.length_map, Cell.zeros_length]

set_option maxHeartbeats 400000 in
theorem cell_Blank (w : World) : Calls Try.prog 43 #[] w fun e w' => e = .returned (.agg (Cell.blank.map B8).toArray) ∧ Below w.heap.size w w' := by
  go_enter Try.func43, Try.ntmps43
  go_wp2_with (refine wpList_alloc_row rfl 49 rfl _ zero32 ?_)
  have hB : Below w.heap.size w ((w.alloc (.cells ((Cell.zeros 32).map B8).toArray 49)).alloc (.cells ((Cell.zeros 32).map B8).toArray 49)) := ((Below.refl _ _).alloc (Nat.le_refl _) _).alloc (by simp) _
  have h0 : Row ((w.alloc (.cells ((Cell.zeros 32).map B8).toArray 49)).alloc (.cells ((Cell.zeros 32).map B8).toArray 49)) w.heap.size 49 ((Cell.zeros 32).map B8) := (Row.new w _ _).alloc _
  have h1 : Row ((w.alloc (.cells ((Cell.zeros 32).map B8).toArray 49)).alloc (.cells ((Cell.zeros 32).map B8).toArray 49)) (w.heap.size + 1) 49 ((Cell.zeros 32).map B8) := by
    have := Row.new (w.alloc (.cells ((Cell.zeros 32).map B8).toArray 49)) 49 ((Cell.zeros 32).map B8)
    simpa using this
  generalize (w.alloc (.cells ((Cell.zeros 32).map B8).toArray 49)).alloc (.cells ((Cell.zeros 32).map B8).toArray 49) = w1 at *
  go_loopw [2, 3] (fun _ i wr => ∃ k : Nat, k ≤ 32 ∧ i = .int .i64 k ∧ Row wr w.heap.size 49 ((Cell.zeros 32).map B8) ∧ Row wr (w.heap.size + 1) 49 ((Cell.blanking k).map B8) ∧ Below w.heap.size w wr) (fun _ i _ => 32 - (intOf i).toNat)
  case atStart => exact ⟨0, by omega, rfl, h0, h1, hB⟩
  case round =>
    clear h0 h1 hB
    obtain ⟨k, hk, rfl, h0, h1, hB⟩ := hrel
    by_cases hlt : k < 32
    · obtain ⟨old, c1⟩ : ∃ old, wr.cell? ⟨w.heap.size + 1, k, none⟩ = some (B8 old) := ⟨_, h1.at (j := k) (by rw [Cell.blanking_length k hk]; exact hlt) 0⟩
      have f1 := h1.free k
      have HS := Lib.hid (Cell.blanking_set k hlt)
      go_wp2_with fail
      go_roundw
      case rel =>
        refine ⟨k + 1, by omega, by go_num, h0.other (by omega) _, ?_, hB.setCell (by simp) _⟩
        rw [← HS.out]
        exact h1.set_map k 255
      case measure => simp [intOf]; omega
    · have : k = 32 := by omega
      subst this
      rw [Cell.blanking_all] at h1
      have HI := Lib.hid (show (Try.prog.info? 49).map (·.size) = some (Cell.blank.map B8).length by rw [List.length_map, Cell.blank_length]; exact size32)
      have HL := Lib.hid (show (Cell.blank.map B8).length = ((Cell.zeros 32).map B8).length by rw [List.length_map, List.length_map, Cell.blank_length, Cell.zeros_length])
      go_wp2_with (first
        | (refine wpList_load_all rfl 49 (.tmp 1) rfl (w.heap.size + 1) rfl h1 Try.underlying49 rfl HI.out ?_)
        | (refine wpList_store_all rfl 49 (.tmp 0) (.tmp 9) rfl w.heap.size rfl rfl h0 HL.out HI.out B8_one ?_))
      refine bodyPost_cell rfl rfl rfl (h0.setRow (Cell.blank.map B8)) ?_ Try.underlying49 rfl size32 ⟨rfl, hB.setRow (g := w.heap.size) (Nat.le_refl _) (Cell.blank.map B8).toArray⟩
      rw [List.length_map, Cell.blank_length]
end Go.Proofs.Ytmeialegemhlhaa
