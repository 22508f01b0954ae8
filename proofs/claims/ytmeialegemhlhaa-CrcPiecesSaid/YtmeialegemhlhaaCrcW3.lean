/-
  The walks of the reference's table, and of 'fixed' of the statements of layer 1.
-/
import Derived.Test.YtmeialegemhlhaaCrcW2
import Derived.Test.YtmeialegemhlhaaR
import Derived.Test.YtmeialegemhlhaaRd
namespace Go.Proofs.Ytmeialegemhlhaa
open Go.RowKit Go.PK

set_option maxRecDepth 100000 in
set_option maxHeartbeats 400000 in
theorem ref01_Table (w : World) : Calls Try.prog 30 #[] w fun e w' => e = .returned (.agg (Crc.tab.map W32).toArray) ∧ Below w.heap.size w w' := by
  go_enter Try.func30, Try.ntmps30
  have h1 : Row ((w.alloc (.cells ((Crc.laying 0).map W32).toArray 34)).alloc (.cells ((Crc.laying 0).map W32).toArray 34)) (w.heap.size + 1) 34 ((Crc.laying 0).map W32) := by
    have := Row.new (w.alloc (.cells ((Crc.laying 0).map W32).toArray 34)) 34 ((Crc.laying 0).map W32)
    simpa using this
  have hs := run_storeCells_all (P := Try.prog) h1 (C := (Crc.laying 0).map W32) rfl W32_one
  go_wp2_with (first
    | (refine wpList_alloc_row rfl 34 rfl _ tabZero ?_)
    | (refine wpList_build_zero rfl 34 rfl _ Try.underlying34 (by kernel_rfl) tabZero ?_))
  have hB : Below w.heap.size w (((w.alloc (.cells ((Crc.laying 0).map W32).toArray 34)).alloc (.cells ((Crc.laying 0).map W32).toArray 34)).setRow (w.heap.size + 1) ((Crc.laying 0).map W32).toArray) := (((Below.refl _ _).alloc (Nat.le_refl _) _).alloc (by simp) _).setRow (by simp) _
  have h0 : Row (((w.alloc (.cells ((Crc.laying 0).map W32).toArray 34)).alloc (.cells ((Crc.laying 0).map W32).toArray 34)).setRow (w.heap.size + 1) ((Crc.laying 0).map W32).toArray) w.heap.size 34 ((Crc.laying 0).map W32) := ((Row.new w _ _).alloc _).otherRow (by simp) _
  replace h1 := h1.setRow ((Crc.laying 0).map W32)
  clear hs
  generalize ((w.alloc (.cells ((Crc.laying 0).map W32).toArray 34)).alloc (.cells ((Crc.laying 0).map W32).toArray 34)).setRow (w.heap.size + 1) ((Crc.laying 0).map W32).toArray = w1 at *
  go_loopw [2] (fun i wr => ∃ k : Nat, k ≤ 256 ∧ i = .int .i64 k ∧ Row wr w.heap.size 34 ((Crc.laying 0).map W32) ∧ Row wr (w.heap.size + 1) 34 ((Crc.laying k).map W32) ∧ Below w.heap.size w wr) (fun i _ => 256 - (intOf i).toNat)
  case atStart => exact ⟨0, by omega, rfl, h0, h1, hB⟩
  case round =>
    clear h0 h1 hB
    obtain ⟨k, hk, rfl, h0, h1, hB⟩ := hrel
    by_cases hlt : k < 256
    · obtain ⟨old, c1⟩ : ∃ old, wr.cell? ⟨w.heap.size + 1, k, none⟩ = some (W32 old) := ⟨_, h1.at (j := k) (by rw [Crc.laying_length]; exact hlt) 0⟩
      have f1 := h1.free k
      have HS := Lib.hid (Crc.laying_succ k)
      have HO := Lib.hid (ofInt32_nat k)
      go_wp2_with (go_at_call 49; refine (ref01_eight _ _).mono ?_; rintro e w' ⟨rfl, rfl⟩)
      go_roundw
      case rel =>
        refine ⟨k + 1, by omega, by go_num, h0.other (by omega) _, ?_, hB.setCell (by simp) _⟩
        rw [← HS.out, ← HO.out]
        simpa using h1.set_map k (Crc.eight (UInt32.ofInt (k : Int)))
      case measure => simp [intOf]; omega
    · have : k = 256 := by omega
      subst this
      rw [Crc.laying_all] at h1
      have hi : (Try.prog.info? 34).map (·.size) = some (Crc.tab.map W32).length := by rw [List.length_map, Crc.tab_length]; exact tabInfo
      have hl : (Crc.tab.map W32).length = ((Crc.laying 0).map W32).length := by rw [List.length_map, List.length_map, Crc.tab_length, Crc.laying_length]
      have HI := Lib.hid hi
      have HL := Lib.hid hl
      clear hi hl
      go_wp2_with (first
        | (refine wpList_load_all rfl 34 (.tmp 1) rfl (w.heap.size + 1) rfl h1 Try.underlying34 rfl HI.out ?_)
        | (refine wpList_store_all rfl 34 (.tmp 0) (.tmp 13) rfl w.heap.size rfl rfl h0 HL.out HI.out W32_one ?_))
      have h2 := h0.setRow (Crc.tab.map W32)
      have hB2 := hB.setRow (g := w.heap.size) (Nat.le_refl _) (Crc.tab.map W32).toArray
      refine bodyPost_cell rfl rfl rfl h2 ?_ Try.underlying34 rfl tabInfo ⟨rfl, hB2⟩
      rw [List.length_map, Crc.tab_length]

set_option maxRecDepth 100000 in
theorem law01_fixed (w : World) : Calls Try.prog 26 #[] w fun e w' => e = .returned (.bool true) ∧ Below w.heap.size w w' := by
  go_enter Try.func26, Try.ntmps26
  go_wp2_with fail
  refine (crc_Table _).mono ?_
  rintro e w1 ⟨rfl, B1⟩
  have hi : (Try.prog.info? 34).map (·.size) = some (Crc.tab.map W32).length := by rw [List.length_map, Crc.tab_length]; exact tabInfo
  have hl : (Crc.tab.map W32).length = ((Crc.laying 0).map W32).length := by rw [List.length_map, List.length_map, Crc.tab_length, Crc.laying_length]
  have HI := Lib.hid hi
  have HL := Lib.hid hl
  clear hi hl
  have h0 := Row.new w1 34 ((Crc.laying 0).map W32)
  have B2 : Below w.heap.size w (w1.alloc (.cells ((Crc.laying 0).map W32).toArray 34)) := B1.alloc B1.size _
  have hs := run_storeCells_all (P := Try.prog) h0 (C := Crc.tab.map W32) HL.out W32_one
  have h1 := h0.setRow (Crc.tab.map W32)
  have B3 := B2.setRow (g := w1.heap.size) B1.size (Crc.tab.map W32).toArray
  have t1 := h1.at (j := 1) (by rw [Crc.tab_length]; decide) 0
  have t2 := h1.at (j := 128) (by rw [Crc.tab_length]; decide) 0
  rw [show Crc.tab.getD 1 0 = 0x77073096 from by rw [Crc.tab]; decide] at t1
  rw [show Crc.tab.getD 128 0 = 0xEDB88320 from by rw [Crc.tab]; decide] at t2
  have hm := run_bytesMark (P := Try.prog) Try.underlying23 Try.underlying5 ((w1.alloc (.cells ((Crc.laying 0).map W32).toArray 34)).setRow w1.heap.size (Crc.tab.map W32).toArray) (b := w1.heap.size + 1) (by simp)
  have hb := Bytes.mark ((w1.alloc (.cells ((Crc.laying 0).map W32).toArray 34)).setRow w1.heap.size (Crc.tab.map W32).toArray) 5 #[.int .u8 49, .int .u8 50, .int .u8 51, .int .u8 52, .int .u8 53, .int .u8 54, .int .u8 55, .int .u8 56, .int .u8 57] (9, 10) [49, 50, 51, 52, 53, 54, 55, 56, 57] rfl (by decide)
  have hu : Crc.of [49, 50, 51, 52, 53, 54, 55, 56, 57] = 3421780262 := by decide
  have hv : Crc.of [] = 0 := by decide
  have HU := Lib.hid hu
  have HV := Lib.hid hv
  clear hu hv
  go_wp2_with (first
    | (refine wpList_alloc_row rfl 34 rfl _ tabZero ?_)
    | (refine wpList_store_all rfl 34 (.tmp 1) (.tmp 2) rfl w1.heap.size rfl rfl h0 HL.out HI.out W32_one ?_))
  refine (crc_Of _ _ [49, 50, 51, 52, 53, 54, 55, 56, 57] (by simpa using hb) (by decide)).mono ?_
  rintro e w3 ⟨rfl, B4⟩
  rw [HU.out]
  have B5 := (B3.alloc (by simpa using Nat.le_succ_of_le B1.size) (.cells #[.int .u8 49, .int .u8 50, .int .u8 51, .int .u8 52, .int .u8 53, .int .u8 54, .int .u8 55, .int .u8 56, .int .u8 57] 5 (9, 10)))
  have B6 := B5.trans (B4.mono B5.size)
  have h3 := (h1.alloc (.cells #[.int .u8 49, .int .u8 50, .int .u8 51, .int .u8 52, .int .u8 53, .int .u8 54, .int .u8 55, .int .u8 56, .int .u8 57] 5 (9, 10))).adds B4
  clear B2 B3 B4 B5 h0 h1 hs hm hb
  go_wp2_with fail
  refine (crc_Of _ _ [] (Bytes.nil _) (by decide)).mono ?_
  rintro e w4 ⟨rfl, B4⟩
  rw [HV.out]
  have B7 := B6.trans (B4.mono B6.size)
  have h4 := h3.adds B4
  clear h3 B6 B4
  have t1 := h4.at (j := 1) (by rw [Crc.tab_length]; decide) 0
  have t2 := h4.at (j := 128) (by rw [Crc.tab_length]; decide) 0
  rw [show Crc.tab.getD 1 0 = 0x77073096 from by rw [Crc.tab]; decide] at t1
  rw [show Crc.tab.getD 128 0 = 0xEDB88320 from by rw [Crc.tab]; decide] at t2
  go_wp2_with fail
  go_ret
  exact ⟨rfl, B7⟩

theorem crc_Of_as (w : World) (v : Value) (l : List UInt8) (hv : Bytes w v l) (hl : l.length ≤ 140737488351232) (x : UInt32) (hx : Crc.of l = x) :
    Calls Try.prog 27 #[v] w fun e w' => e = .returned (W32 x) ∧ Below w.heap.size w w' := hx ▸ crc_Of w v l hv hl

theorem ref01_Of_as (w : World) (v : Value) (l : List UInt8) (hv : Bytes w v l) (hl : l.length ≤ 140737488351232) (x : UInt32) (hx : Crc.of l = x) :
    Calls Try.prog 28 #[v] w fun e w' => e = .returned (W32 x) ∧ Below w.heap.size w w' := by
  subst hx
  refine (ref01_Of w v l hv hl).mono ?_
  rintro e w' ⟨rfl, rfl⟩
  exact ⟨rfl, Below.refl _ _⟩

theorem ref01_Beyond (w : World) (v : Value) (l : List (List UInt8)) (h : (rSlice (rSlice rByte)).K w [v] l) (ho : (rSlice (rSlice rByte)).ok l) :
    Calls Try.prog 25 #[v] w fun e w' => ∃ b : Bool, e = .returned (.bool b) ∧ w' = w := by
  obtain ⟨ao, cap, hv, h1, h2, h3, h4⟩ := h
  obtain rfl : v = .slice ao l.length cap := by simpa using hv
  clear hv
  obtain ⟨hl, hr⟩ := ho
  go_enter Try.func25, Try.ntmps25
  go_wp2_with fail
  go_loop [3, 4] (fun y i => ∃ (k : Nat) (z : Int), k ≤ l.length ∧ i = .int .i64 k ∧ y = .int .i64 z ∧ z ≤ 2147483647 ∧ -140737488355328 ≤ z) (fun _ i => l.length - (intOf i).toNat)
  case atStart => exact ⟨0, _, by omega, rfl, rfl, by decide, by decide⟩
  case round =>
    obtain ⟨k, z, hk, rfl, rfl, hz1, hz2⟩ := hrel
    by_cases hlt : k < l.length
    · by_cases hz : 0 ≤ z
      · obtain ⟨b, off, rfl, hb, cells, hK, hcell⟩ := h4 k _ (List.getElem?_eq_getElem hlt)
        obtain ⟨ao', cap', rfl, g1, g2, g3, -⟩ := hK
        have hlen := (hr _ (List.getElem_mem hlt)).1
        have hc := hcell 0 (by decide)
        simp only [rSlice, Nat.mul_one, Nat.add_zero] at hc
        generalize l[k] = x at *
        clear hcell h4 hr
        go_wp2_with fail
        go_round
        case rel => exact ⟨k + 1, z - (1 + (x.length : Int)), by omega, by go_num, by go_num, by omega, by omega⟩
        case measure => simp [intOf]; omega
      · go_wp2_with fail
        go_ret
        first | exact rfl | (simp; done) | (simp; omega)
    · go_wp2_with fail
      go_ret
      first | exact rfl | (simp; done) | (simp; omega)
end Go.Proofs.Ytmeialegemhlhaa
