/-
  The walk of CrcSums.
-/
import Derived.Test.YtmeialegemhlhaaCrcW3
import Derived.Test.YtmeialegemhlhaaE
namespace Go.Proofs.Ytmeialegemhlhaa
open Go.RowKit Go.PK

theorem tab_equal (w : World) : (Op.equalIn 10000 34 (.agg (Crc.tab.map W32).toArray) (.agg (Crc.tab.map W32).toArray)).run Try.prog w = .ok true w := by
  have := run_equalIn_arr (P := Try.prog) W32 0 Try.underlying34 Try.underlying32 (by kernel_rfl) (fun d x y w => equalIn_W32 Try.underlying32 d x y w) 9998 Crc.tab Crc.tab Crc.tab_length Crc.tab_length (w := w)
  rwa [beq_self_eq_true] at this

set_option maxRecDepth 100000 in
set_option maxHeartbeats 1000000 in
theorem CrcSums_walk (w : World) (v : Value) (l : List (List UInt8)) (h : (rSlice (rSlice rByte)).K w [v] l) (ho : (rSlice (rSlice rByte)).ok l) :
    Calls Try.prog 6 #[v] w fun e w' => e = .returned (.bool true) ∧ Below w.heap.size w w' := by
  have hbey := ref01_Beyond w v l h ho
  obtain ⟨ao, cap, hv, h1, h2, h3, h4⟩ := h
  obtain rfl : v = .slice ao l.length cap := by simpa using hv
  clear hv
  obtain ⟨hl, hr⟩ := ho
  go_enter Try.func6, Try.ntmps6
  go_wp2_with fail
  refine hbey.mono ?_
  rintro e w1 ⟨b, rfl, hw⟩
  rw [hw]
  clear hw w1
  cases b with
  | true =>
    go_wp2_with fail
    refine (law01_fixed _).mono ?_
    rintro e w2 ⟨rfl, B2⟩
    go_wp2_with fail
    go_ret
    exact ⟨rfl, B2⟩
  | false =>
    clear hbey
    go_wp2_with fail
    go_loopw [3] (fun i wr => ∃ k : Nat, k ≤ l.length ∧ i = .int .i64 k ∧ Below w.heap.size w wr) (fun i _ => l.length - (intOf i).toNat)
    case atStart => exact ⟨0, by omega, rfl, Below.refl _ _⟩
    case round =>
      obtain ⟨k, hk, rfl, hb1⟩ := hrel
      by_cases hlt : k < l.length
      · obtain ⟨bb, off, rfl, hb, cells, hK, hcell⟩ := h4 k _ (List.getElem?_eq_getElem hlt)
        have hlen := (hr _ (List.getElem_mem hlt)).1
        have hc := hcell 0 (by decide)
        obtain ⟨r, rfl⟩ : ∃ r, cells = [r] := by
          have := (rSlice rByte).len hK
          match cells, this with
          | [r], _ => exact ⟨r, rfl⟩
        have hx := (Bytes.of_K hK).below hb1 (Nat.le_refl _)
        simp only [rSlice, Nat.mul_one, Nat.add_zero] at hc
        have hc1 : wr.cell? ⟨bb, off + k, none⟩ = some r := by rw [cell_below hb1 (by exact hb)]; exact hc
        have hbb : bb < wr.heap.size := Nat.lt_of_lt_of_le hb hb1.size
        generalize l[k] = b at *
        clear hcell h4 hr hc hK
        obtain ⟨y, hyy⟩ : ∃ y, Crc.of b = y := ⟨_, rfl⟩
        have HY := Lib.hid hyy
        clear hyy
        go_wp2_with fail
        refine wp_region_adds (fun c vals => ⟨#[(Value.slice (some ⟨bb, off, none⟩) l.length cap : Value), c 1, c 2, (Value.int .i64 k : Value), c 4, c 5, c 6, c 7, c 8, c 9, c 10, c 11, c 12, c 13, c 14, vals 0, vals 1, vals 2, vals 3, vals 4, vals 5, vals 6, vals 7, vals 8, vals 9, vals 10, c 26, c 27, c 28, c 29, c 30, c 31, c 32, c 33, c 34, c 35, c 36, c 37, c 38, c 39, c 40, c 41], []⟩) (fun t => [undef, _, _, undef, _, _, _, _, _, _, _, _, _, _, _, undef, undef, undef, undef, undef, undef, undef, undef, undef, undef, undef, _, _, _, _, _, _, _, _, _, _, _, _, _, _, _, _].getD t undef) (fun i => [_, _, _, _, _, _, _, _, _, _, _].getD i undef) (by kernel_rfl)
          [[], [], [0, 1], [0, 1, 2], [0, 1, 2, 3], [], [], [5, 6], [5, 6, 7], [0, 1, 2, 3, 4, 5, 6, 7, 8], [0, 1, 2, 3, 4, 5, 6, 7, 8, 9]] (by kernel_rfl) (fun _ => True) trivial
          [fun x _ => x = (Value.slice (some ⟨bb, off, none⟩) l.length cap : Value),
           fun x _ => x = (Value.int .i64 k : Value),
           fun x _ => x = (Value.pointer (some ⟨bb, off + k, none⟩) : Value),
           fun x _ => x = (r : Value),
           fun x _ => x = (W32 y : Value),
           fun x _ => x = (Value.slice (some ⟨bb, off, none⟩) l.length cap : Value),
           fun x _ => x = (Value.int .i64 k : Value),
           fun x _ => x = (Value.pointer (some ⟨bb, off + k, none⟩) : Value),
           fun x _ => x = (r : Value),
           fun x _ => x = (W32 y : Value),
           fun x _ => x = (Value.bool false : Value)]
          ⟨fun _ _ _ h _ => h, fun _ _ _ h _ => h, fun _ _ _ h _ => h, fun _ _ _ h _ => h, fun _ _ _ h _ => h, fun _ _ _ h _ => h, fun _ _ _ h _ => h, fun _ _ _ h _ => h, fun _ _ _ h _ => h, fun _ _ _ h _ => h, fun _ _ _ h _ => h, trivial⟩
          ⟨?_, ?_, ?_, ?_, ?_, ?_, ?_, ?_, ?_, ?_, ?_, trivial⟩ ?_
        · refine ⟨fun _ _ _ => rfl, fun c _ vals w hC hD K hK => ?_⟩
          refine ite_yes (wanted_none rfl) ?_
          clear hD
          show Oper.wp _ _ ⟨#[(Value.slice (some ⟨bb, off, none⟩) l.length cap : Value), c 1, c 2, (Value.int .i64 k : Value), c 4, c 5, c 6, c 7, c 8, c 9, c 10, c 11, c 12, c 13, c 14, vals 0, vals 1, vals 2, vals 3, vals 4, vals 5, vals 6, vals 7, vals 8, vals 9, vals 10, c 26, c 27, c 28, c 29, c 30, c 31, c 32, c 33, c 34, c 35, c 36, c 37, c 38, c 39, c 40, c 41], []⟩ w K _
          go_wp2_with fail
          exact hK _ _ (Adds.refl _) (by rfl)
        · refine ⟨fun _ _ _ => rfl, fun c _ vals w hC hD K hK => ?_⟩
          refine ite_yes (wanted_none rfl) ?_
          clear hD
          show Oper.wp _ _ ⟨#[(Value.slice (some ⟨bb, off, none⟩) l.length cap : Value), c 1, c 2, (Value.int .i64 k : Value), c 4, c 5, c 6, c 7, c 8, c 9, c 10, c 11, c 12, c 13, c 14, vals 0, vals 1, vals 2, vals 3, vals 4, vals 5, vals 6, vals 7, vals 8, vals 9, vals 10, c 26, c 27, c 28, c 29, c 30, c 31, c 32, c 33, c 34, c 35, c 36, c 37, c 38, c 39, c 40, c 41], []⟩ w K _
          go_wp2_with fail
          exact hK _ _ (Adds.refl _) (by rfl)
        · refine ⟨fun _ _ _ => rfl, fun c _ vals w hC hD K hK => ?_⟩
          have h0 : vals 0 = .slice (some ⟨bb, off, none⟩) l.length cap := hD 0 rfl
          have h1 : vals 1 = .int .i64 k := hD 1 rfl
          refine ite_yes (wanted_none rfl) ?_
          clear hD
          obtain ⟨vals, rfl⟩ := upd_of (vals := vals) (j := 0) (x := Value.slice (some ⟨bb, off, none⟩) l.length cap) h0
          clear h0
          obtain ⟨vals, rfl⟩ := upd_of (vals := vals) (j := 1) (x := Value.int .i64 k) h1
          clear h1
          show Oper.wp _ _ ⟨#[(Value.slice (some ⟨bb, off, none⟩) l.length cap : Value), c 1, c 2, (Value.int .i64 k : Value), c 4, c 5, c 6, c 7, c 8, c 9, c 10, c 11, c 12, c 13, c 14, (Value.slice (some ⟨bb, off, none⟩) l.length cap : Value), (Value.int .i64 k : Value), vals 2, vals 3, vals 4, vals 5, vals 6, vals 7, vals 8, vals 9, vals 10, c 26, c 27, c 28, c 29, c 30, c 31, c 32, c 33, c 34, c 35, c 36, c 37, c 38, c 39, c 40, c 41], []⟩ w K _
          go_wp2_with fail
          exact hK _ _ (Adds.refl _) (by first | rfl | simp)
        · refine ⟨fun _ _ _ => rfl, fun c _ vals w hC hD K hK => ?_⟩
          have h2 : vals 2 = .pointer (some ⟨bb, off + k, none⟩) := hD 2 rfl
          refine ite_yes (wanted_none rfl) ?_
          clear hD
          obtain ⟨vals, rfl⟩ := upd_of (vals := vals) (j := 2) (x := Value.pointer (some ⟨bb, off + k, none⟩)) h2
          clear h2
          show Oper.wp _ _ ⟨#[(Value.slice (some ⟨bb, off, none⟩) l.length cap : Value), c 1, c 2, (Value.int .i64 k : Value), c 4, c 5, c 6, c 7, c 8, c 9, c 10, c 11, c 12, c 13, c 14, vals 0, vals 1, (Value.pointer (some ⟨bb, off + k, none⟩) : Value), vals 3, vals 4, vals 5, vals 6, vals 7, vals 8, vals 9, vals 10, c 26, c 27, c 28, c 29, c 30, c 31, c 32, c 33, c 34, c 35, c 36, c 37, c 38, c 39, c 40, c 41], []⟩ w K _
          have hcc := (cell_below hC (a := ⟨bb, off + k, none⟩) hbb).trans hc1
          go_wp2_with fail
          exact hK _ _ (Adds.refl _) (by first | rfl | simp)
        · refine ⟨fun _ _ _ => rfl, fun c _ vals w hC hD K hK => ?_⟩
          have h3 : vals 3 = r := hD 3 rfl
          refine ite_yes (wanted_none rfl) ?_
          clear hD
          obtain ⟨vals, rfl⟩ := upd_of (vals := vals) (j := 3) (x := r) h3
          clear h3
          show Oper.wp _ _ ⟨#[(Value.slice (some ⟨bb, off, none⟩) l.length cap : Value), c 1, c 2, (Value.int .i64 k : Value), c 4, c 5, c 6, c 7, c 8, c 9, c 10, c 11, c 12, c 13, c 14, vals 0, vals 1, vals 2, (r : Value), vals 4, vals 5, vals 6, vals 7, vals 8, vals 9, vals 10, c 26, c 27, c 28, c 29, c 30, c 31, c 32, c 33, c 34, c 35, c 36, c 37, c 38, c 39, c 40, c 41], []⟩ w K _
          go_wp2_with fail
          refine (crc_Of_as _ _ b (hx.adds hC) (by omega) y HY.out).mono ?_
          rintro e w' ⟨rfl, hb⟩
          exact hK _ _ hb rfl
        · refine ⟨fun _ _ _ => rfl, fun c _ vals w hC hD K hK => ?_⟩
          refine ite_yes (wanted_none rfl) ?_
          clear hD
          show Oper.wp _ _ ⟨#[(Value.slice (some ⟨bb, off, none⟩) l.length cap : Value), c 1, c 2, (Value.int .i64 k : Value), c 4, c 5, c 6, c 7, c 8, c 9, c 10, c 11, c 12, c 13, c 14, vals 0, vals 1, vals 2, vals 3, vals 4, vals 5, vals 6, vals 7, vals 8, vals 9, vals 10, c 26, c 27, c 28, c 29, c 30, c 31, c 32, c 33, c 34, c 35, c 36, c 37, c 38, c 39, c 40, c 41], []⟩ w K _
          go_wp2_with fail
          exact hK _ _ (Adds.refl _) (by rfl)
        · refine ⟨fun _ _ _ => rfl, fun c _ vals w hC hD K hK => ?_⟩
          refine ite_yes (wanted_none rfl) ?_
          clear hD
          show Oper.wp _ _ ⟨#[(Value.slice (some ⟨bb, off, none⟩) l.length cap : Value), c 1, c 2, (Value.int .i64 k : Value), c 4, c 5, c 6, c 7, c 8, c 9, c 10, c 11, c 12, c 13, c 14, vals 0, vals 1, vals 2, vals 3, vals 4, vals 5, vals 6, vals 7, vals 8, vals 9, vals 10, c 26, c 27, c 28, c 29, c 30, c 31, c 32, c 33, c 34, c 35, c 36, c 37, c 38, c 39, c 40, c 41], []⟩ w K _
          go_wp2_with fail
          exact hK _ _ (Adds.refl _) (by rfl)
        · refine ⟨fun _ _ _ => rfl, fun c _ vals w hC hD K hK => ?_⟩
          have h5 : vals 5 = .slice (some ⟨bb, off, none⟩) l.length cap := hD 5 rfl
          have h6 : vals 6 = .int .i64 k := hD 6 rfl
          refine ite_yes (wanted_none rfl) ?_
          clear hD
          obtain ⟨vals, rfl⟩ := upd_of (vals := vals) (j := 5) (x := Value.slice (some ⟨bb, off, none⟩) l.length cap) h5
          clear h5
          obtain ⟨vals, rfl⟩ := upd_of (vals := vals) (j := 6) (x := Value.int .i64 k) h6
          clear h6
          show Oper.wp _ _ ⟨#[(Value.slice (some ⟨bb, off, none⟩) l.length cap : Value), c 1, c 2, (Value.int .i64 k : Value), c 4, c 5, c 6, c 7, c 8, c 9, c 10, c 11, c 12, c 13, c 14, vals 0, vals 1, vals 2, vals 3, vals 4, (Value.slice (some ⟨bb, off, none⟩) l.length cap : Value), (Value.int .i64 k : Value), vals 7, vals 8, vals 9, vals 10, c 26, c 27, c 28, c 29, c 30, c 31, c 32, c 33, c 34, c 35, c 36, c 37, c 38, c 39, c 40, c 41], []⟩ w K _
          go_wp2_with fail
          exact hK _ _ (Adds.refl _) (by first | rfl | simp)
        · refine ⟨fun _ _ _ => rfl, fun c _ vals w hC hD K hK => ?_⟩
          have h7 : vals 7 = .pointer (some ⟨bb, off + k, none⟩) := hD 7 rfl
          refine ite_yes (wanted_none rfl) ?_
          clear hD
          obtain ⟨vals, rfl⟩ := upd_of (vals := vals) (j := 7) (x := Value.pointer (some ⟨bb, off + k, none⟩)) h7
          clear h7
          show Oper.wp _ _ ⟨#[(Value.slice (some ⟨bb, off, none⟩) l.length cap : Value), c 1, c 2, (Value.int .i64 k : Value), c 4, c 5, c 6, c 7, c 8, c 9, c 10, c 11, c 12, c 13, c 14, vals 0, vals 1, vals 2, vals 3, vals 4, vals 5, vals 6, (Value.pointer (some ⟨bb, off + k, none⟩) : Value), vals 8, vals 9, vals 10, c 26, c 27, c 28, c 29, c 30, c 31, c 32, c 33, c 34, c 35, c 36, c 37, c 38, c 39, c 40, c 41], []⟩ w K _
          have hcc := (cell_below hC (a := ⟨bb, off + k, none⟩) hbb).trans hc1
          go_wp2_with fail
          exact hK _ _ (Adds.refl _) (by first | rfl | simp)
        · refine ⟨fun _ _ _ => rfl, fun c _ vals w hC hD K hK => ?_⟩
          have h8 : vals 8 = r := hD 8 rfl
          refine ite_yes (wanted_none rfl) ?_
          clear hD
          obtain ⟨vals, rfl⟩ := upd_of (vals := vals) (j := 8) (x := r) h8
          clear h8
          show Oper.wp _ _ ⟨#[(Value.slice (some ⟨bb, off, none⟩) l.length cap : Value), c 1, c 2, (Value.int .i64 k : Value), c 4, c 5, c 6, c 7, c 8, c 9, c 10, c 11, c 12, c 13, c 14, vals 0, vals 1, vals 2, vals 3, vals 4, vals 5, vals 6, vals 7, (r : Value), vals 9, vals 10, c 26, c 27, c 28, c 29, c 30, c 31, c 32, c 33, c 34, c 35, c 36, c 37, c 38, c 39, c 40, c 41], []⟩ w K _
          go_wp2_with fail
          refine (ref01_Of_as _ _ b (hx.adds hC) (by omega) y HY.out).mono ?_
          rintro e w' ⟨rfl, hb⟩
          exact hK _ _ hb rfl
        · refine ⟨fun _ _ _ => rfl, fun c _ vals w hC hD K hK => ?_⟩
          have h4 : vals 4 = W32 y := hD 4 rfl
          have h9 : vals 9 = W32 y := hD 9 rfl
          refine ite_yes (wanted_none rfl) ?_
          clear hD
          obtain ⟨vals, rfl⟩ := upd_of (vals := vals) (j := 4) (x := W32 y) h4
          clear h4
          obtain ⟨vals, rfl⟩ := upd_of (vals := vals) (j := 9) (x := W32 y) h9
          clear h9
          show Oper.wp _ _ ⟨#[(Value.slice (some ⟨bb, off, none⟩) l.length cap : Value), c 1, c 2, (Value.int .i64 k : Value), c 4, c 5, c 6, c 7, c 8, c 9, c 10, c 11, c 12, c 13, c 14, vals 0, vals 1, vals 2, vals 3, (W32 y : Value), vals 5, vals 6, vals 7, vals 8, (W32 y : Value), vals 10, c 26, c 27, c 28, c 29, c 30, c 31, c 32, c 33, c 34, c 35, c 36, c 37, c 38, c 39, c 40, c 41], []⟩ w K _
          go_wp2_with fail
          exact hK _ _ (Adds.refl _) (by rfl)
        intro vals w' hC hΦ
        have h10 : vals 10 = .bool false := hΦ 10 (by decide)
        clear hΦ
        simp only [List.getD_eq_getElem?_getD, List.getElem?_cons_zero, List.getElem?_cons_succ, Option.getD_some]
        simp only [h10]
        try simp only [tuple_undef]
        go_wp2_with fail
        go_roundw
        case rel => exact ⟨k + 1, by omega, by go_num, hb1.trans (hC.mono hb1.size)⟩
        case measure => simp [intOf]; omega
      · have : k = l.length := by omega
        subst this
        clear h4 hr
        go_wp2_with fail
        refine (crc_Table _).mono ?_
        rintro e w1 ⟨rfl, B1⟩
        have hi : (Try.prog.info? 34).map (·.size) = some (Crc.tab.map W32).length := by rw [List.length_map, Crc.tab_length]; exact tabInfo
        have hll : (Crc.tab.map W32).length = ((Crc.laying 0).map W32).length := by rw [List.length_map, List.length_map, Crc.tab_length, Crc.laying_length]
        have HI := Lib.hid hi
        have HL := Lib.hid hll
        clear hi hll
        have C1 := hb1.trans (B1.mono hb1.size)
        have h0 := Row.new w1 34 ((Crc.laying 0).map W32)
        have B2 : Below w.heap.size w (w1.alloc (.cells ((Crc.laying 0).map W32).toArray 34)) := C1.alloc C1.size _
        have hs := run_storeCells_all (P := Try.prog) h0 (C := Crc.tab.map W32) HL.out W32_one
        have h3 := h0.setRow (Crc.tab.map W32)
        have B3 := B2.setRow (g := w1.heap.size) C1.size (Crc.tab.map W32).toArray
        have hg := C1.size
        go_wp2_with (first
          | (refine wpList_alloc_row rfl 34 rfl _ tabZero ?_)
          | (refine wpList_store_all rfl 34 (.tmp 4) (.tmp 26) rfl w1.heap.size rfl rfl h0 HL.out HI.out W32_one ?_))
        clear h0 B2 hs hb1 B1 C1
        generalize (w1.alloc (.cells ((Crc.laying 0).map W32).toArray 34)).setRow w1.heap.size (Crc.tab.map W32).toArray = w3 at *
        refine wp_region_adds (fun c vals => ⟨#[c 0, c 1, c 2, c 3, (Value.pointer (some ⟨w1.heap.size, 0, none⟩) : Value), c 5, c 6, c 7, c 8, c 9, c 10, c 11, c 12, c 13, c 14, c 15, c 16, c 17, c 18, c 19, c 20, c 21, c 22, c 23, c 24, c 25, c 26, vals 0, vals 1, vals 2, c 30, c 31, c 32, c 33, c 34, c 35, c 36, c 37, c 38, c 39, c 40, c 41], []⟩) (fun t => [_, _, _, _, undef, _, _, _, _, _, _, _, _, _, _, _, _, _, _, _, _, _, _, _, _, _, _, undef, undef, undef, _, _, _, _, _, _, _, _, _, _, _, _].getD t undef) (fun i => [_, _, _].getD i undef) (by kernel_rfl)
          [[], [], [0, 1]] (by kernel_rfl) (fun _ => True) trivial
          [fun x _ => x = (Value.agg (Crc.tab.map W32).toArray : Value),
           fun x _ => x = (Value.agg (Crc.tab.map W32).toArray : Value),
           fun x _ => x = (Value.bool false : Value)]
          ⟨fun _ _ _ h _ => h, fun _ _ _ h _ => h, fun _ _ _ h _ => h, trivial⟩
          ⟨?_, ?_, ?_, trivial⟩ ?_
        · refine ⟨fun _ _ _ => rfl, fun c _ vals w hC hD K hK => ?_⟩
          refine ite_yes (wanted_none rfl) ?_
          clear hD
          show Oper.wp _ _ ⟨#[c 0, c 1, c 2, c 3, (Value.pointer (some ⟨w1.heap.size, 0, none⟩) : Value), c 5, c 6, c 7, c 8, c 9, c 10, c 11, c 12, c 13, c 14, c 15, c 16, c 17, c 18, c 19, c 20, c 21, c 22, c 23, c 24, c 25, c 26, vals 0, vals 1, vals 2, c 30, c 31, c 32, c 33, c 34, c 35, c 36, c 37, c 38, c 39, c 40, c 41], []⟩ w K _
          refine wp_load_all 34 (.tmp 4) rfl w1.heap.size rfl (h3.adds hC) Try.underlying34 rfl HI.out ?_
          exact hK _ _ (Adds.refl _) rfl
        · refine ⟨fun _ _ _ => rfl, fun c _ vals w hC hD K hK => ?_⟩
          refine ite_yes (wanted_none rfl) ?_
          clear hD
          show Oper.wp _ _ ⟨#[c 0, c 1, c 2, c 3, (Value.pointer (some ⟨w1.heap.size, 0, none⟩) : Value), c 5, c 6, c 7, c 8, c 9, c 10, c 11, c 12, c 13, c 14, c 15, c 16, c 17, c 18, c 19, c 20, c 21, c 22, c 23, c 24, c 25, c 26, vals 0, vals 1, vals 2, c 30, c 31, c 32, c 33, c 34, c 35, c 36, c 37, c 38, c 39, c 40, c 41], []⟩ w K _
          go_wp2_with fail
          refine (ref01_Table _).mono ?_
          rintro e w' ⟨rfl, hb⟩
          exact hK _ _ hb rfl
        · refine ⟨fun _ _ _ => rfl, fun c _ vals w hC hD K hK => ?_⟩
          have h0 : vals 0 = .agg (Crc.tab.map W32).toArray := hD 0 rfl
          have h1 : vals 1 = .agg (Crc.tab.map W32).toArray := hD 1 rfl
          refine ite_yes (wanted_none rfl) ?_
          clear hD
          obtain ⟨vals, rfl⟩ := upd_of (vals := vals) (j := 0) (x := Value.agg (Crc.tab.map W32).toArray) h0
          clear h0
          obtain ⟨vals, rfl⟩ := upd_of (vals := vals) (j := 1) (x := Value.agg (Crc.tab.map W32).toArray) h1
          clear h1
          show Oper.wp _ _ ⟨#[c 0, c 1, c 2, c 3, (Value.pointer (some ⟨w1.heap.size, 0, none⟩) : Value), c 5, c 6, c 7, c 8, c 9, c 10, c 11, c 12, c 13, c 14, c 15, c 16, c 17, c 18, c 19, c 20, c 21, c 22, c 23, c 24, c 25, c 26, (Value.agg (Crc.tab.map W32).toArray : Value), (Value.agg (Crc.tab.map W32).toArray : Value), vals 2, c 30, c 31, c 32, c 33, c 34, c 35, c 36, c 37, c 38, c 39, c 40, c 41], []⟩ w K _
          refine wp_neq_agg 34 34 (.tmp 27) (.tmp 28) rfl _ _ rfl rfl (by kernel_rfl) true (tab_equal _) ?_
          exact hK _ _ (Adds.refl _) rfl
        intro vals w' hC hΦ
        have h2 : vals 2 = .bool false := hΦ 2 (by decide)
        clear hΦ
        simp only [List.getD_eq_getElem?_getD, List.getElem?_cons_zero, List.getElem?_cons_succ, Option.getD_some]
        simp only [h2]
        try simp only [tuple_undef]
        have h4 := h3.adds hC
        have B4 := B3.trans (hC.mono B3.size)
        clear hC h3 B3
        go_wp2_with fail
        go_loopw [5] (fun i wr => ∃ (k : Nat) (L : List Value), k ≤ 256 ∧ i = .int .i64 k ∧ Row wr w1.heap.size 34 L ∧ L.length = 256 ∧ Below w.heap.size w wr) (fun i _ => 256 - (intOf i).toNat)
        case atStart => exact ⟨0, _, by omega, rfl, h4, by rw [List.length_map, Crc.tab_length], B4⟩
        case round =>
          clear h4 B4
          obtain ⟨k, L, hk, rfl, h4, hL, B4⟩ := hrel
          by_cases hlt : k < 256
          · have c1 : wr.cell? ⟨w1.heap.size, k, none⟩ = some L[k] := by rw [h4.cell?, List.getElem?_eq_getElem]
            have f1 := h4.free k
            go_wp2_with fail
            go_roundw
            case rel => exact ⟨k + 1, L.set k _, by omega, by go_num, h4.set k _, by rw [List.length_set]; exact hL, B4.setCell (p := ⟨w1.heap.size, k, none⟩) hg _⟩
            case measure => simp [intOf]; omega
          · go_wp2_with fail
            refine (crc_Table _).mono ?_
            rintro e w5 ⟨rfl, B5⟩
            have C5 := B4.trans (B5.mono B4.size)
            clear B4 h4 B5
            go_wp2_with fail
            refine (ref01_Table _).mono ?_
            rintro e w6 ⟨rfl, B6⟩
            have C6 := C5.trans (B6.mono C5.size)
            have he := tab_equal w6
            go_wp2_with (refine wpList_eql_agg rfl 34 34 (.tmp 36) (.tmp 37) rfl _ _ rfl rfl (by kernel_rfl) true (tab_equal _) ?_)
            refine (law01_fixed _).mono ?_
            rintro e w7 ⟨rfl, B7⟩
            go_wp2_with fail
            go_ret
            exact ⟨rfl, C6.trans (B7.mono C6.size)⟩
end Go.Proofs.Ytmeialegemhlhaa
