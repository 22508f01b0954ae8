/-
  The walk of cell.laid.
-/
import Derived.Deep.RegionLaw
import Derived.Test.YtmeialegemhlhaaCellW
namespace Go.Proofs.Ytmeialegemhlhaa
open Go.RowKit Go.PK

theorem zero16 : (Try.prog.info? 75).map (·.zero) = some (some (.agg ((Cell.zeros 16).map B8).toArray)) := by kernel_rfl
theorem size16 : (Try.prog.info? 75).map (·.size) = some 16 := by kernel_rfl
theorem zero32 : (Try.prog.info? 49).map (·.zero) = some (some (.agg ((Cell.zeros 32).map B8).toArray)) := by kernel_rfl
theorem size32 : (Try.prog.info? 49).map (·.size) = some 32 := by kernel_rfl
theorem size1 : (Try.prog.info? 5).map (·.size) = some 1 := by kernel_rfl

theorem build16 (w : World) (x y : UInt8) : (Instr.build 75 #[(0, B8 x), (1, B8 y)]).run Try.prog w = .ok (.agg ((Cell.start x y).map B8).toArray) w :=
  run_build_arr Try.underlying75 size1 _ zero16 [(0, B8 x), (1, B8 y)] (by intro p hp; simp at hp; rcases hp with rfl | rfl <;> exact ⟨by simp [Cell.zeros], rfl⟩) w

set_option maxHeartbeats 1000000 in
theorem cell_laid (w : World) (kd : UInt8) (s N : Int) :
    Calls Try.prog 51 #[B8 kd, .int .i64 s, .int .i64 N] w fun e w' => e = .returned (.agg ((Cell.made kd (UInt8.ofInt s) (UInt64.ofInt N).toNat).map B8).toArray) ∧ Below w.heap.size w w' := by
  have r0 := Row.new w 49 ((Cell.zeros 32).map B8)
  have b0 : Below w.heap.size w (w.alloc (.cells ((Cell.zeros 32).map B8).toArray 49)) := (Below.refl _ _).alloc (Nat.le_refl _) _
  have h0 : Row ((w.alloc (.cells ((Cell.zeros 32).map B8).toArray 49)).alloc (.cells ((Cell.zeros 16).map B8).toArray 75)) (w.heap.size + 1) 75 ((Cell.zeros 16).map B8) := by
    simpa using Row.new (w.alloc (.cells ((Cell.zeros 32).map B8).toArray 49)) 75 ((Cell.zeros 16).map B8)
  have r1 := r0.alloc (.cells ((Cell.zeros 16).map B8).toArray 75)
  have b1 := b0.alloc (by simp) (.cells ((Cell.zeros 16).map B8).toArray 75)
  have hs := run_storeCells_all (P := Try.prog) h0 (C := (Cell.start kd (UInt8.ofInt s)).map B8) (by rw [List.length_map, List.length_map, Cell.start_length, Cell.zeros_length]) B8_one
  have h1 := h0.setRow ((Cell.start kd (UInt8.ofInt s)).map B8)
  have r2 := r1.otherRow (c := w.heap.size + 1) (by omega) ((Cell.start kd (UInt8.ofInt s)).map B8).toArray
  have b2 := b1.setRow (g := w.heap.size + 1) (by omega) ((Cell.start kd (UInt8.ofInt s)).map B8).toArray
  have HB := Lib.hid (build16 (w.alloc (.cells ((Cell.zeros 32).map B8).toArray 49)) kd (UInt8.ofInt s))
  clear r0 b0 r1 b1
  go_enter Try.func51, Try.ntmps51
  go_wp2_with (first
    | (refine wpList_alloc_row rfl 49 rfl _ zero32 ?_)
    | (refine wpList_built2 rfl 75 0 1 (.tmp 9) (.tmp 11) rfl (B8 kd) (B8 (UInt8.ofInt s)) rfl rfl _ HB.out ?_)
    | (refine wpList_alloc_row rfl 75 rfl _ zero16 ?_))
  refine (cell_put _ (w.heap.size + 1) 4 8 12 _ (Cell.start kd (UInt8.ofInt s)) (UInt64.ofInt N) h1 (by rw [Cell.start_length]; omega) (by omega)).mono ?_
  rintro e w4 ⟨rfl, h4, O4⟩
  rw [Cell.start_over] at h4
  have r4 := r2.only O4 (by omega)
  have B4 := b2.trans (O4.below (B := w.heap.size) (by omega))
  have hz4 := B4.size
  have z4 : w.heap.size + 1 < w4.heap.size := h4.lt
  clear hs h0 h1 r2 b2 O4 HB
  obtain ⟨n, hn⟩ : ∃ n, (UInt64.ofInt N).toNat = n := ⟨_, rfl⟩
  rw [hn] at h4
  have HN := Lib.hid hn
  clear hn
  generalize hbd : Cell.body kd (UInt8.ofInt s) n = bd at *
  have hbl : bd.length = 12 := by rw [← hbd, Cell.body_length]
  have HBD := Lib.hid hbd
  have HBL := Lib.hid hbl
  clear hbd hbl
  have hby : Bytes w4.drew (.slice (some ⟨w.heap.size + 1, 0, none⟩) 12 16) bd := by
    have := Row.bytes (w := w4.drew) h4 (off := 0) (n := 12) (cap := 16) (by rw [List.length_append, HBL.out]; simp [Cell.zeros]) (by omega) (by omega)
    rwa [List.drop_zero, List.take_append_of_le_length (by rw [HBL.out]; omega), List.take_of_length_le (by rw [HBL.out]; omega)] at this
  have h4' : Row w4.drew (w.heap.size + 1) 75 ((bd ++ Cell.zeros 4).map B8) := h4
  have r4' : Row w4.drew w.heap.size 49 ((Cell.zeros 32).map B8) := r4
  have B4' := B4.drew
  clear h4 r4 B4
  go_wp2_with fail
  go_region_with (first
    | (go_at_call 27; refine (crc_Of _ _ bd (by rw [show bd.length = 12 from HBL.out] at *; exact hby) (by rw [HBL.out]; omega)).mono ?_; rintro e w5 ⟨rfl, B5⟩; have h5 := h4'.adds B5; have r5 := r4'.adds B5; have C5 := B4'.trans (B5.mono B4'.size))
    | (go_at_call 55; refine (cell_put _ (w.heap.size + 1) 12 4 4 _ (bd ++ Cell.zeros 4) _ h5 (by rw [List.length_append, HBL.out]; simp [Cell.zeros]) (by omega)).mono ?_; rintro e w6 ⟨rfl, h6, O6⟩; have r6 := r5.only O6 (by omega)))
  have C6 := C5.trans (O6.below (B := w.heap.size) (by omega))
  have hrec : over (bd ++ Cell.zeros 4) 12 (le 4 (Crc.of bd).toUInt64.toNat) = Cell.rec' kd (UInt8.ofInt s) n := by
    rw [UInt32.toNat_toUInt64, ← HBD.out, Cell.body_over]
    rfl
  rw [hrec] at h6
  clear hrec h5 r5 O6 B5 h4' r4' B4' hby C5
  have hrl : (Cell.rec' kd (UInt8.ofInt s) n).length = 16 := Cell.rec_length _ _ _
  have hmade : Rail.put (Cell.rec' kd (UInt8.ofInt s) n) = Cell.made kd (UInt8.ofInt s) n := rfl
  have hml : (Cell.made kd (UInt8.ofInt s) n).length = 32 := Cell.made_length _ _ _
  generalize Cell.rec' kd (UInt8.ofInt s) n = rc at *
  have HM : Hid (Cell.made kd (UInt8.ofInt s) (UInt64.ofInt N).toNat = Cell.made kd (UInt8.ofInt s) n) := by rw [HN.out]; exact Lib.hid rfl
  generalize Cell.made kd (UInt8.ofInt s) n = md at *
  have HRL := Lib.hid hrl
  have HMD := Lib.hid hmade
  have HML := Lib.hid hml
  clear hrl hmade hml
  have h8 := Row.new w6 49 ((Cell.zeros 32).map B8)
  have r8 := r6.alloc (.cells ((Cell.zeros 32).map B8).toArray 49)
  have C8 := C6.alloc C6.size (.cells ((Cell.zeros 32).map B8).toArray 49)
  have h7 := h6.alloc (.cells ((Cell.zeros 32).map B8).toArray 49)
  have hz6 := C6.size
  have hlt6 := h6.lt
  go_wp2_with (first
    | (refine wpList_alloc_row rfl 49 rfl _ zero32 ?_))
  clear h6 r6 C6
  have h8' : Row (w6.alloc (.cells ((Cell.zeros 32).map B8).toArray 49)).drew w6.heap.size 49 ((Cell.zeros 32).map B8) := h8
  have r8' : Row (w6.alloc (.cells ((Cell.zeros 32).map B8).toArray 49)).drew w.heap.size 49 ((Cell.zeros 32).map B8) := r8
  have C8' : Below w.heap.size w (w6.alloc (.cells ((Cell.zeros 32).map B8).toArray 49)).drew := C8.drew
  have hb7 : Bytes (w6.alloc (.cells ((Cell.zeros 32).map B8).toArray 49)).drew (.slice (some ⟨w.heap.size + 1, 0, none⟩) 16 16) rc := by
    have := Row.bytes (w := (w6.alloc (.cells ((Cell.zeros 32).map B8).toArray 49)).drew) h7 (off := 0) (n := 16) (cap := 16) (by rw [HRL.out]; omega) (by omega) (by omega)
    rwa [List.drop_zero, List.take_of_length_le (by rw [HRL.out]; omega)] at this
  clear h8 r8 C8 h7
  go_region_law (first
    | (refine step_copy_row rfl (.tmp 22) (.tmp 24) 23 23 5 rfl Try.underlying23 size1 w6.heap.size 0 32 32 rfl h9 ⟨gs, 0, none⟩ 32 cs rfl (md.map B8) (by rw [List.length_map, HML.out]; rfl) hsrc (by rw [List.length_map, List.length_map, HML.out, Cell.zeros_length]; omega) B8_one ?_)
    | (go_simp; go_at_call 20; refine (rail_Put _ _ rc hb7 (by rw [HRL.out]; omega)).mono ?_; rintro e w9 ⟨v9, rfl, ho9, B9⟩; rw [HMD.out] at ho9; rw [HML.out] at ho9; obtain ⟨gs, cs, rfl, hgs1, hgs2⟩ := owns_form ho9 (by omega); have h9 := h8'.adds B9; have r9 := r8'.adds B9; have C9 := C8'.trans (B9.mono C8'.size); have hsrc : ∀ j v, (md.map B8)[j]? = some v → w9.cell? ((⟨gs, 0, none⟩ : Addr).add j) = some v := owns_src ho9 (by rw [HML.out])))
  have hle : List.drop md.length ((Cell.zeros 32).map B8) = [] := List.drop_of_length_le (by rw [List.length_map, Cell.zeros_length, HML.out]; exact Nat.le_refl _)
  rw [hle, List.append_nil]
  have h10 := h9.setRow (md.map B8)
  have r10 := r9.otherRow (c := w6.heap.size) (by omega) (md.map B8).toArray
  have C10 := C9.setRow (g := w6.heap.size) hz6 (md.map B8).toArray
  have hi : (Try.prog.info? 49).map (·.size) = some (md.map B8).length := by rw [List.length_map, HML.out]; exact size32
  have hll : (md.map B8).length = ((Cell.zeros 32).map B8).length := by rw [List.length_map, List.length_map, HML.out, Cell.zeros_length]
  have HI := Lib.hid hi
  have HL := Lib.hid hll
  clear hle hi hll h9 r9 C9 ho9 B9 h8' r8' C8' hb7 hsrc
  generalize w9.setRow w6.heap.size (md.map B8).toArray = w10 at *
  go_wp2_with (first
    | (refine wpList_load_all rfl 49 (.tmp 8) rfl w6.heap.size rfl h10 Try.underlying49 rfl HI.out ?_)
    | (refine wpList_store_all rfl 49 (.tmp 6) (.tmp 26) rfl w.heap.size rfl rfl r10 HL.out HI.out B8_one ?_))
  have h2 := r10.setRow (md.map B8)
  have hB2 := C10.setRow (g := w.heap.size) (Nat.le_refl _) (md.map B8).toArray
  refine bodyPost_cell rfl rfl rfl h2 ?_ Try.underlying49 rfl size32 ⟨by rw [HM.out], hB2⟩
  rw [List.length_map, HML.out]
end Go.Proofs.Ytmeialegemhlhaa
