/-
  The walk of cell.Read.
-/
import Derived.Test.YtmeialegemhlhaaCellW3
import Derived.Test.YtmeialegemhlhaaR
namespace Go.Proofs.Ytmeialegemhlhaa
open Go.RowKit Go.PK

theorem cells_equal (a b : List UInt8) (ha : a.length = 32) (hb : b.length = 32) (w : World) : (Op.equalIn 10000 49 (.agg (a.map B8).toArray) (.agg (b.map B8).toArray)).run Try.prog w = .ok (a == b) w :=
  run_equalIn_arr (P := Try.prog) B8 0 Try.underlying49 Try.underlying5 (by kernel_rfl) (fun d x y w => equalIn_B8 Try.underlying5 d x y w) 9998 a b ha hb (w := w)

/-- a record's value -/
def recordOf (r : Int × Int × Int) : List Value := [.int .i64 r.1, .int .i64 r.2.1, .int .i64 r.2.2]
theorem zero57 : (Try.prog.info? 57).map (·.zero) = some (some (.agg (recordOf (0, 0, 0)).toArray)) := by kernel_rfl

theorem cell_laid_as (w : World) (kd : UInt8) (s N : Int) (md : List UInt8) (h : Cell.made kd (UInt8.ofInt s) (UInt64.ofInt N).toNat = md) :
    Calls Try.prog 51 #[B8 kd, .int .i64 s, .int .i64 N] w fun e w' => e = .returned (.agg (md.map B8).toArray) ∧ Below w.heap.size w w' := h ▸ cell_laid w kd s N
theorem size57 : (Try.prog.info? 57).map (·.size) = some 3 := by kernel_rfl
theorem record_one (r : Int × Int × Int) : ∀ v ∈ recordOf r, v.oneCell' = true := by
  intro v hv
  simp [recordOf] at hv
  rcases hv with rfl | rfl | rfl <;> rfl

set_option maxHeartbeats 1000000 in
theorem cell_Read (W0 : World) (cs : List UInt8) (hc : cs.length = 32) :
    Calls Try.prog 45 #[.agg (cs.map B8).toArray] W0 fun e W0' => e = .returned (.agg (recordOf (Cell.read cs)).toArray) ∧ Below W0.heap.size W0 W0' := by
  have r0 := Row.new W0 49 (cs.map B8)
  have b0 : Below W0.heap.size W0 (W0.alloc (.cells (cs.map B8).toArray 49)) := (Below.refl _ _).alloc (Nat.le_refl _) _
  go_enter Try.func45, Try.ntmps45
  go_wp2_with (first
    | (refine wpList_box_row rfl 49 (.tmp 0) rfl _ rfl ?_)
    | (refine wpList_alloc_row rfl 57 rfl _ zero57 ?_))
  have r2 := r0.alloc (.cells (recordOf (0, 0, 0)).toArray 57)
  have q2 : Row ((W0.alloc (.cells (cs.map B8).toArray 49)).alloc (.cells (recordOf (0, 0, 0)).toArray 57)) (W0.heap.size + 1) 57 (recordOf (0, 0, 0)) := by
    simpa using Row.new (W0.alloc (.cells (cs.map B8).toArray 49)) 57 (recordOf (0, 0, 0))
  have b2 := b0.alloc (by simp) (.cells (recordOf (0, 0, 0)).toArray 57)
  generalize (W0.alloc (.cells (cs.map B8).toArray 49)).alloc (.cells (recordOf (0, 0, 0)).toArray 57) = w2 at *
  clear r0 b0
  refine (cell_got _ _ ((cs.drop 4).take 8) (by
    have := Row.bytes (w := w2) r2 (off := 4) (n := 8) (cap := 28) (by omega) (by omega) (by omega)
    exact this) (by simp; omega)).mono ?_
  rintro e w3 ⟨rfl, hw3⟩
  rw [hw3]
  clear hw3 w3
  have c1 := r2.at (j := 1) (by omega) 0
  generalize hU : UInt64.ofNat (num ((cs.drop 4).take 8)) = U at *
  have HN : Hid (Cell.number cs = U.toInt64.toInt) := by
    show _ = _
    rw [← hU]
    rfl
  clear hU
  obtain ⟨s1, hs1⟩ : ∃ s1, cs.getD 1 0 = s1 := ⟨_, rfl⟩
  rw [hs1] at c1
  have HS := Lib.hid hs1
  clear hs1
  go_wp2_with fail
  generalize U.toInt64.toInt = nn at *
  clear c1
  have HI := Lib.hid (show (Try.prog.info? 49).map (·.size) = some (cs.map B8).length by rw [List.length_map, hc]; exact size32)
  obtain ⟨b, hb⟩ : ∃ b, (cs == Cell.blank) = b := ⟨_, rfl⟩
  have HE : ∀ W0, (Op.equalIn 10000 49 (.agg (cs.map B8).toArray) (.agg (Cell.blank.map B8).toArray)).run Try.prog W0 = .ok b W0 := fun W0 => hb ▸ cells_equal cs Cell.blank hc Cell.blank_length W0
  have HB := Lib.hid hb
  clear hb
  try simp only [Act.put, List.setIfInBounds_toArray, List.set_cons_succ, List.set_cons_zero]
  refine wp_region_adds (fun c vals => ⟨#[c 0, (Value.pointer (some ⟨W0.heap.size, 0, none⟩) : Value), c 2, c 3, c 4, c 5, c 6, c 7, c 8, c 9, c 10, vals 3, vals 0, vals 1, vals 2, c 15, c 16, c 17, c 18, c 19, c 20, c 21, c 22, c 23, c 24, c 25, c 26, c 27, c 28, c 29, c 30, c 31, c 32, c 33, c 34, c 35, c 36, c 37, c 38, c 39, c 40, c 41, c 42, c 43, c 44, c 45, c 46, c 47, c 48, c 49, c 50, c 51, c 52, c 53], []⟩) (fun t => [_, undef, _, _, _, _, _, _, _, _, _, undef, undef, undef, undef, _, _, _, _, _, _, _, _, _, _, _, _, _, _, _, _, _, _, _, _, _, _, _, _, _, _, _, _, _, _, _, _, _, _, _, _, _, _, _].getD t undef) (fun i => [_, _, _, _].getD i undef) (by kernel_rfl)
    [[], [], [0, 1], [0, 1, 2]] (by kernel_rfl) (fun _ => True) trivial
    [fun x _ => x = (Value.agg (cs.map B8).toArray : Value),
     fun x _ => x = (Value.agg (Cell.blank.map B8).toArray : Value),
     fun x _ => x = (Value.bool b : Value),
     fun x _ => x = (Value.bool b : Value)]
    ⟨fun _ _ _ h _ => h, fun _ _ _ h _ => h, fun _ _ _ h _ => h, fun _ _ _ h _ => h, trivial⟩
    ⟨?_, ?_, ?_, ?_, trivial⟩ ?_
  · refine ⟨fun _ _ _ => rfl, fun c _ vals w hC hD K hK => ?_⟩
    refine ite_yes (wanted_none rfl) ?_
    clear hD
    show Oper.wp _ _ ⟨#[c 0, (Value.pointer (some ⟨W0.heap.size, 0, none⟩) : Value), c 2, c 3, c 4, c 5, c 6, c 7, c 8, c 9, c 10, vals 3, vals 0, vals 1, vals 2, c 15, c 16, c 17, c 18, c 19, c 20, c 21, c 22, c 23, c 24, c 25, c 26, c 27, c 28, c 29, c 30, c 31, c 32, c 33, c 34, c 35, c 36, c 37, c 38, c 39, c 40, c 41, c 42, c 43, c 44, c 45, c 46, c 47, c 48, c 49, c 50, c 51, c 52, c 53], []⟩ w K _
    refine wp_load_all 49 (.tmp 1) rfl W0.heap.size rfl (r2.adds hC) Try.underlying49 rfl HI.out ?_
    exact hK _ _ (Adds.refl _) rfl
  · refine ⟨fun _ _ _ => rfl, fun c _ vals w hC hD K hK => ?_⟩
    refine ite_yes (wanted_none rfl) ?_
    clear hD
    show Oper.wp _ _ ⟨#[c 0, (Value.pointer (some ⟨W0.heap.size, 0, none⟩) : Value), c 2, c 3, c 4, c 5, c 6, c 7, c 8, c 9, c 10, vals 3, vals 0, vals 1, vals 2, c 15, c 16, c 17, c 18, c 19, c 20, c 21, c 22, c 23, c 24, c 25, c 26, c 27, c 28, c 29, c 30, c 31, c 32, c 33, c 34, c 35, c 36, c 37, c 38, c 39, c 40, c 41, c 42, c 43, c 44, c 45, c 46, c 47, c 48, c 49, c 50, c 51, c 52, c 53], []⟩ w K _
    go_wp2_with fail
    refine (cell_Blank _).mono ?_
    rintro e w' ⟨rfl, hb⟩
    exact hK _ _ hb rfl
  · refine ⟨fun _ _ _ => rfl, fun c _ vals w hC hD K hK => ?_⟩
    have h0 : vals 0 = .agg (cs.map B8).toArray := hD 0 rfl
    have h1 : vals 1 = .agg (Cell.blank.map B8).toArray := hD 1 rfl
    refine ite_yes (wanted_none rfl) ?_
    clear hD
    obtain ⟨vals, rfl⟩ := upd_of (vals := vals) (j := 0) (x := Value.agg (cs.map B8).toArray) h0
    clear h0
    obtain ⟨vals, rfl⟩ := upd_of (vals := vals) (j := 1) (x := Value.agg (Cell.blank.map B8).toArray) h1
    clear h1
    show Oper.wp _ _ ⟨#[c 0, (Value.pointer (some ⟨W0.heap.size, 0, none⟩) : Value), c 2, c 3, c 4, c 5, c 6, c 7, c 8, c 9, c 10, vals 3, (Value.agg (cs.map B8).toArray : Value), (Value.agg (Cell.blank.map B8).toArray : Value), vals 2, c 15, c 16, c 17, c 18, c 19, c 20, c 21, c 22, c 23, c 24, c 25, c 26, c 27, c 28, c 29, c 30, c 31, c 32, c 33, c 34, c 35, c 36, c 37, c 38, c 39, c 40, c 41, c 42, c 43, c 44, c 45, c 46, c 47, c 48, c 49, c 50, c 51, c 52, c 53], []⟩ w K _
    refine wp_eql_agg 49 49 (.tmp 12) (.tmp 13) rfl _ _ rfl rfl (by kernel_rfl) b (HE _) ?_
    exact hK _ _ (Adds.refl _) rfl
  · refine ⟨fun _ _ _ => rfl, fun c _ vals w hC hD K hK => ?_⟩
    have h2 : vals 2 = .bool b := hD 2 rfl
    refine ite_yes (wanted_none rfl) ?_
    clear hD
    obtain ⟨vals, rfl⟩ := upd_of (vals := vals) (j := 2) (x := Value.bool b) h2
    clear h2
    show Oper.wp _ _ ⟨#[c 0, (Value.pointer (some ⟨W0.heap.size, 0, none⟩) : Value), c 2, c 3, c 4, c 5, c 6, c 7, c 8, c 9, c 10, vals 3, vals 0, vals 1, (Value.bool b : Value), c 15, c 16, c 17, c 18, c 19, c 20, c 21, c 22, c 23, c 24, c 25, c 26, c 27, c 28, c 29, c 30, c 31, c 32, c 33, c 34, c 35, c 36, c 37, c 38, c 39, c 40, c 41, c 42, c 43, c 44, c 45, c 46, c 47, c 48, c 49, c 50, c 51, c 52, c 53], []⟩ w K _
    go_wp2_with fail
    exact hK _ _ (Adds.refl _) (by rfl)
  intro vals w' hC hΦ
  have h3 : vals 3 = .bool b := hΦ 3 (by decide)
  clear hΦ
  simp only [List.getD_eq_getElem?_getD, List.getElem?_cons_zero, List.getElem?_cons_succ, Option.getD_some]
  simp only [h3]
  try simp only [tuple_undef]
  have q3 := q2.adds hC
  have r3 := r2.adds hC
  have b3 := b2.trans (hC.mono b2.size)
  clear q2 r2 b2 hC HE
  cases b with
  | true =>
    have hread : Cell.read cs = (0, 0, 0) := by unfold Cell.read; rw [if_pos HB.out]
    have HR := Lib.hid hread
    clear hread
    go_wp2_with (first
      | (refine wpList_store_all rfl 57 (.tmp 2) (.tmp 15) rfl (W0.heap.size + 1) rfl (C := recordOf (0, 0, 0)) rfl q3 rfl size57 (record_one _) ?_))
    exact bodyPost_cell rfl rfl rfl (q3.setRow (recordOf (0, 0, 0))) rfl Try.underlying57 rfl size57 ⟨by rw [HR.out], b3.setRow (g := W0.heap.size + 1) (by omega) (recordOf (0, 0, 0)).toArray⟩
  | false =>
    by_cases hin : 1 ≤ nn ∧ nn ≤ 4611686018427387904
    · obtain ⟨hn1, hn2⟩ := hin
      have hin : Cell.inside nn = true := by unfold Cell.inside; simp [hn1, hn2]
      have HIN := Lib.hid hin
      have HU := Lib.hid (Cell.ofInt_inside hn1 hn2)
      obtain ⟨s0, hs0⟩ : ∃ s0, cs.getD 0 0 = s0 := ⟨_, rfl⟩
      have HS0 := Lib.hid hs0
      clear hin hs0
      by_cases h1 : s0 = 1
      · subst h1
        obtain ⟨md, hmd⟩ : ∃ md, Cell.made 1 0 nn.toNat = md := ⟨_, rfl⟩
        have HM : Hid (Cell.made 1 (UInt8.ofInt 0) (UInt64.ofInt nn).toNat = md) := by rw [HU.out]; exact hmd
        have hml : md.length = 32 := by rw [← hmd]; exact Cell.made_length _ _ _
        obtain ⟨b1, hb1⟩ : ∃ b1, (cs == md) = b1 := ⟨_, rfl⟩
        have HE1 : ∀ w, (Op.equalIn 10000 49 (.agg (cs.map B8).toArray) (.agg (md.map B8).toArray)).run Try.prog w = .ok b1 w := fun w => hb1 ▸ cells_equal cs md hc hml w
        have HMD := Lib.hid hmd
        have HB1 := Lib.hid hb1
        clear hmd hb1 hml
        go_wp2_with fail
        try simp only [Act.put, List.setIfInBounds_toArray, List.set_cons_succ, List.set_cons_zero]
        refine wp_region_adds (fun c vals => ⟨#[c 0, (Value.pointer (some ⟨W0.heap.size, 0, none⟩) : Value), c 2, (Value.int .i64 nn : Value), c 4, c 5, c 6, c 7, c 8, c 9, c 10, c 11, c 12, c 13, c 14, c 15, c 16, c 17, c 18, c 19, c 20, c 21, c 22, vals 9, vals 0, vals 1, vals 2, vals 3, vals 4, vals 5, vals 6, vals 7, vals 8, c 33, c 34, c 35, c 36, c 37, c 38, c 39, c 40, c 41, c 42, c 43, c 44, c 45, c 46, c 47, c 48, c 49, c 50, c 51, c 52, c 53], []⟩) (fun t => [_, undef, _, undef, _, _, _, _, _, _, _, _, _, _, _, _, _, _, _, _, _, _, _, undef, undef, undef, undef, undef, undef, undef, undef, undef, undef, _, _, _, _, _, _, _, _, _, _, _, _, _, _, _, _, _, _, _, _, _].getD t undef) (fun i => [_, _, _, _, _, _, _, _, _, _].getD i undef) (by kernel_rfl)
          [[], [0], [0, 1], [0, 1, 2], [0, 1, 2, 3], [0, 1, 2, 3], [0, 1, 2, 3, 5], [0, 1, 2, 3, 4, 5, 6], [0, 1, 2, 3, 4, 5, 6, 7], [0, 1, 2, 3, 4, 5, 6, 7, 8]] (by kernel_rfl) (fun _ => True) trivial
          [fun x _ => x = (Value.pointer (some ⟨W0.heap.size, 0, none⟩) : Value),
           fun x _ => x = (B8 1 : Value),
           fun x _ => x = (Value.bool true : Value),
           fun x _ => x = (Value.bool true : Value),
           fun x _ => x = (Value.agg (cs.map B8).toArray : Value),
           fun x _ => x = (Value.int .i64 nn : Value),
           fun x _ => x = (Value.agg (md.map B8).toArray : Value),
           fun x _ => x = (Value.bool b1 : Value),
           fun x _ => x = (Value.bool b1 : Value),
           fun x _ => x = (Value.bool b1 : Value)]
          ⟨fun _ _ _ h _ => h, fun _ _ _ h _ => h, fun _ _ _ h _ => h, fun _ _ _ h _ => h, fun _ _ _ h _ => h, fun _ _ _ h _ => h, fun _ _ _ h _ => h, fun _ _ _ h _ => h, fun _ _ _ h _ => h, fun _ _ _ h _ => h, trivial⟩
          ⟨?_, ?_, ?_, ?_, ?_, ?_, ?_, ?_, ?_, ?_, trivial⟩ ?_
        · refine ⟨fun _ _ _ => rfl, fun c _ vals w hC hD K hK => ?_⟩
          refine ite_yes (wanted_none rfl) ?_
          clear hD
          show Oper.wp _ _ ⟨#[c 0, (Value.pointer (some ⟨W0.heap.size, 0, none⟩) : Value), c 2, (Value.int .i64 nn : Value), c 4, c 5, c 6, c 7, c 8, c 9, c 10, c 11, c 12, c 13, c 14, c 15, c 16, c 17, c 18, c 19, c 20, c 21, c 22, vals 9, vals 0, vals 1, vals 2, vals 3, vals 4, vals 5, vals 6, vals 7, vals 8, c 33, c 34, c 35, c 36, c 37, c 38, c 39, c 40, c 41, c 42, c 43, c 44, c 45, c 46, c 47, c 48, c 49, c 50, c 51, c 52, c 53], []⟩ w K _
          go_wp2_with fail
          exact hK _ _ (Adds.refl _) (by first | rfl | (simp; done) | (simp; omega))
        · refine ⟨fun _ _ _ => rfl, fun c _ vals w hC hD K hK => ?_⟩
          have h0 : vals 0 = .pointer (some ⟨W0.heap.size, 0, none⟩) := hD 0 rfl
          refine ite_yes (wanted_none rfl) ?_
          clear hD
          obtain ⟨vals, rfl⟩ := upd_of (vals := vals) (j := 0) (x := Value.pointer (some ⟨W0.heap.size, 0, none⟩)) h0
          clear h0
          show Oper.wp _ _ ⟨#[c 0, (Value.pointer (some ⟨W0.heap.size, 0, none⟩) : Value), c 2, (Value.int .i64 nn : Value), c 4, c 5, c 6, c 7, c 8, c 9, c 10, c 11, c 12, c 13, c 14, c 15, c 16, c 17, c 18, c 19, c 20, c 21, c 22, vals 9, (Value.pointer (some ⟨W0.heap.size, 0, none⟩) : Value), vals 1, vals 2, vals 3, vals 4, vals 5, vals 6, vals 7, vals 8, c 33, c 34, c 35, c 36, c 37, c 38, c 39, c 40, c 41, c 42, c 43, c 44, c 45, c 46, c 47, c 48, c 49, c 50, c 51, c 52, c 53], []⟩ w K _
          have hcc := (r3.adds hC).at (j := 0) (by rw [hc]; decide) 0
          rw [HS0.out] at hcc
          go_wp2_with fail
          exact hK _ _ (Adds.refl _) (by first | rfl | (simp; done) | (simp; omega))
        · refine ⟨fun _ _ _ => rfl, fun c _ vals w hC hD K hK => ?_⟩
          have h1 : vals 1 = B8 1 := hD 1 rfl
          refine ite_yes (wanted_none rfl) ?_
          clear hD
          obtain ⟨vals, rfl⟩ := upd_of (vals := vals) (j := 1) (x := B8 1) h1
          clear h1
          show Oper.wp _ _ ⟨#[c 0, (Value.pointer (some ⟨W0.heap.size, 0, none⟩) : Value), c 2, (Value.int .i64 nn : Value), c 4, c 5, c 6, c 7, c 8, c 9, c 10, c 11, c 12, c 13, c 14, c 15, c 16, c 17, c 18, c 19, c 20, c 21, c 22, vals 9, vals 0, (B8 1 : Value), vals 2, vals 3, vals 4, vals 5, vals 6, vals 7, vals 8, c 33, c 34, c 35, c 36, c 37, c 38, c 39, c 40, c 41, c 42, c 43, c 44, c 45, c 46, c 47, c 48, c 49, c 50, c 51, c 52, c 53], []⟩ w K _
          go_wp2_with fail
          exact hK _ _ (Adds.refl _) (by first | rfl | (simp; done) | (simp; omega))
        · refine ⟨fun _ _ _ => rfl, fun c _ vals w hC hD K hK => ?_⟩
          have h2 : vals 2 = .bool true := hD 2 rfl
          refine ite_yes (wanted_none rfl) ?_
          clear hD
          obtain ⟨vals, rfl⟩ := upd_of (vals := vals) (j := 2) (x := Value.bool true) h2
          clear h2
          show Oper.wp _ _ ⟨#[c 0, (Value.pointer (some ⟨W0.heap.size, 0, none⟩) : Value), c 2, (Value.int .i64 nn : Value), c 4, c 5, c 6, c 7, c 8, c 9, c 10, c 11, c 12, c 13, c 14, c 15, c 16, c 17, c 18, c 19, c 20, c 21, c 22, vals 9, vals 0, vals 1, (Value.bool true : Value), vals 3, vals 4, vals 5, vals 6, vals 7, vals 8, c 33, c 34, c 35, c 36, c 37, c 38, c 39, c 40, c 41, c 42, c 43, c 44, c 45, c 46, c 47, c 48, c 49, c 50, c 51, c 52, c 53], []⟩ w K _
          go_wp2_with fail
          exact hK _ _ (Adds.refl _) (by rfl)
        · refine ⟨fun _ _ _ => rfl, fun c _ vals w hC hD K hK => ?_⟩
          have hg : vals 3 = .bool true := hD 3 rfl
          refine ite_yes (wanted_of rfl rfl rfl rfl hg) ?_
          clear hg
          clear hD
          show Oper.wp _ _ ⟨#[c 0, (Value.pointer (some ⟨W0.heap.size, 0, none⟩) : Value), c 2, (Value.int .i64 nn : Value), c 4, c 5, c 6, c 7, c 8, c 9, c 10, c 11, c 12, c 13, c 14, c 15, c 16, c 17, c 18, c 19, c 20, c 21, c 22, vals 9, vals 0, vals 1, vals 2, vals 3, vals 4, vals 5, vals 6, vals 7, vals 8, c 33, c 34, c 35, c 36, c 37, c 38, c 39, c 40, c 41, c 42, c 43, c 44, c 45, c 46, c 47, c 48, c 49, c 50, c 51, c 52, c 53], []⟩ w K _
          refine wp_load_all 49 (.tmp 1) rfl W0.heap.size rfl (r3.adds hC) Try.underlying49 rfl HI.out ?_
          exact hK _ _ (Adds.refl _) rfl
        · refine ⟨fun _ _ _ => rfl, fun c _ vals w hC hD K hK => ?_⟩
          have hg : vals 3 = .bool true := hD 3 rfl
          refine ite_yes (wanted_of rfl rfl rfl rfl hg) ?_
          clear hg
          clear hD
          show Oper.wp _ _ ⟨#[c 0, (Value.pointer (some ⟨W0.heap.size, 0, none⟩) : Value), c 2, (Value.int .i64 nn : Value), c 4, c 5, c 6, c 7, c 8, c 9, c 10, c 11, c 12, c 13, c 14, c 15, c 16, c 17, c 18, c 19, c 20, c 21, c 22, vals 9, vals 0, vals 1, vals 2, vals 3, vals 4, vals 5, vals 6, vals 7, vals 8, c 33, c 34, c 35, c 36, c 37, c 38, c 39, c 40, c 41, c 42, c 43, c 44, c 45, c 46, c 47, c 48, c 49, c 50, c 51, c 52, c 53], []⟩ w K _
          go_wp2_with fail
          exact hK _ _ (Adds.refl _) (by rfl)
        · refine ⟨fun _ _ _ => rfl, fun c _ vals w hC hD K hK => ?_⟩
          have h5 : vals 5 = .int .i64 nn := hD 5 rfl
          have hg : vals 3 = .bool true := hD 3 rfl
          refine ite_yes (wanted_of rfl rfl rfl rfl hg) ?_
          clear hg
          clear hD
          obtain ⟨vals, rfl⟩ := upd_of (vals := vals) (j := 5) (x := Value.int .i64 nn) h5
          clear h5
          show Oper.wp _ _ ⟨#[c 0, (Value.pointer (some ⟨W0.heap.size, 0, none⟩) : Value), c 2, (Value.int .i64 nn : Value), c 4, c 5, c 6, c 7, c 8, c 9, c 10, c 11, c 12, c 13, c 14, c 15, c 16, c 17, c 18, c 19, c 20, c 21, c 22, vals 9, vals 0, vals 1, vals 2, vals 3, vals 4, (Value.int .i64 nn : Value), vals 6, vals 7, vals 8, c 33, c 34, c 35, c 36, c 37, c 38, c 39, c 40, c 41, c 42, c 43, c 44, c 45, c 46, c 47, c 48, c 49, c 50, c 51, c 52, c 53], []⟩ w K _
          go_wp2_with fail
          refine (cell_laid_as _ 1 0 nn md HM.out).mono ?_
          rintro e w' ⟨rfl, hb⟩
          exact hK _ _ hb rfl
        · refine ⟨fun _ _ _ => rfl, fun c _ vals w hC hD K hK => ?_⟩
          have h4 : vals 4 = .agg (cs.map B8).toArray := hD 4 rfl
          have h6 : vals 6 = .agg (md.map B8).toArray := hD 6 rfl
          have hg : vals 3 = .bool true := hD 3 rfl
          refine ite_yes (wanted_of rfl rfl rfl rfl hg) ?_
          clear hg
          clear hD
          obtain ⟨vals, rfl⟩ := upd_of (vals := vals) (j := 4) (x := Value.agg (cs.map B8).toArray) h4
          clear h4
          obtain ⟨vals, rfl⟩ := upd_of (vals := vals) (j := 6) (x := Value.agg (md.map B8).toArray) h6
          clear h6
          show Oper.wp _ _ ⟨#[c 0, (Value.pointer (some ⟨W0.heap.size, 0, none⟩) : Value), c 2, (Value.int .i64 nn : Value), c 4, c 5, c 6, c 7, c 8, c 9, c 10, c 11, c 12, c 13, c 14, c 15, c 16, c 17, c 18, c 19, c 20, c 21, c 22, vals 9, vals 0, vals 1, vals 2, vals 3, (Value.agg (cs.map B8).toArray : Value), vals 5, (Value.agg (md.map B8).toArray : Value), vals 7, vals 8, c 33, c 34, c 35, c 36, c 37, c 38, c 39, c 40, c 41, c 42, c 43, c 44, c 45, c 46, c 47, c 48, c 49, c 50, c 51, c 52, c 53], []⟩ w K _
          refine wp_eql_agg 49 49 (.tmp 28) (.tmp 30) rfl _ _ rfl rfl (by kernel_rfl) b1 (HE1 _) ?_
          exact hK _ _ (Adds.refl _) rfl
        · refine ⟨fun _ _ _ => rfl, fun c _ vals w hC hD K hK => ?_⟩
          have h3 : vals 3 = .bool true := hD 3 rfl
          have h7 : vals 7 = .bool b1 := hD 7 rfl
          refine ite_yes (wanted_none rfl) ?_
          clear hD
          obtain ⟨vals, rfl⟩ := upd_of (vals := vals) (j := 3) (x := Value.bool true) h3
          clear h3
          obtain ⟨vals, rfl⟩ := upd_of (vals := vals) (j := 7) (x := Value.bool b1) h7
          clear h7
          show Oper.wp _ _ ⟨#[c 0, (Value.pointer (some ⟨W0.heap.size, 0, none⟩) : Value), c 2, (Value.int .i64 nn : Value), c 4, c 5, c 6, c 7, c 8, c 9, c 10, c 11, c 12, c 13, c 14, c 15, c 16, c 17, c 18, c 19, c 20, c 21, c 22, vals 9, vals 0, vals 1, vals 2, (Value.bool true : Value), vals 4, vals 5, vals 6, (Value.bool b1 : Value), vals 8, c 33, c 34, c 35, c 36, c 37, c 38, c 39, c 40, c 41, c 42, c 43, c 44, c 45, c 46, c 47, c 48, c 49, c 50, c 51, c 52, c 53], []⟩ w K _
          go_wp2_with fail
          exact hK _ _ (Adds.refl _) (by rfl)
        · refine ⟨fun _ _ _ => rfl, fun c _ vals w hC hD K hK => ?_⟩
          have h8 : vals 8 = .bool b1 := hD 8 rfl
          refine ite_yes (wanted_none rfl) ?_
          clear hD
          obtain ⟨vals, rfl⟩ := upd_of (vals := vals) (j := 8) (x := Value.bool b1) h8
          clear h8
          show Oper.wp _ _ ⟨#[c 0, (Value.pointer (some ⟨W0.heap.size, 0, none⟩) : Value), c 2, (Value.int .i64 nn : Value), c 4, c 5, c 6, c 7, c 8, c 9, c 10, c 11, c 12, c 13, c 14, c 15, c 16, c 17, c 18, c 19, c 20, c 21, c 22, vals 9, vals 0, vals 1, vals 2, vals 3, vals 4, vals 5, vals 6, vals 7, (Value.bool b1 : Value), c 33, c 34, c 35, c 36, c 37, c 38, c 39, c 40, c 41, c 42, c 43, c 44, c 45, c 46, c 47, c 48, c 49, c 50, c 51, c 52, c 53], []⟩ w K _
          go_wp2_with fail
          exact hK _ _ (Adds.refl _) (by rfl)
        intro vals w' hC hΦ
        have h9 : vals 9 = .bool b1 := hΦ 9 (by decide)
        clear hΦ
        simp only [List.getD_eq_getElem?_getD, List.getElem?_cons_zero, List.getElem?_cons_succ, Option.getD_some]
        simp only [h9]
        try simp only [tuple_undef]
        have q6 := q3.adds hC
        have r6 := r3.adds hC
        have b6 := b3.trans (hC.mono b3.size)
        clear q3 r3 b3 hC HE1
        rename_i w6 _
        cases b1 with
        | true =>
          have hread : Cell.read cs = (1, 0, nn) := by
            unfold Cell.read
            rw [if_neg (by rw [HB.out]; decide), HN.out, HIN.out, if_neg (by decide), HMD.out, if_pos HB1.out]
          have HR := Lib.hid hread
          clear hread
          go_wp2_with (first
            | (refine wpList_store_all rfl 57 (.tmp 2) (.tmp 34) rfl (W0.heap.size + 1) rfl (C := recordOf (1, 0, nn)) rfl q6 rfl size57 (record_one _) ?_))
          exact bodyPost_cell rfl rfl rfl (q6.setRow (recordOf (1, 0, nn))) rfl Try.underlying57 rfl size57 ⟨by rw [HR.out], b6.setRow (g := W0.heap.size + 1) (by omega) (recordOf (1, 0, nn)).toArray⟩
        | false =>
          have hread : Cell.read cs = (3, 0, 0) := by
            unfold Cell.read
            rw [if_neg (by rw [HB.out]; decide), HN.out, HIN.out, if_neg (by decide), HMD.out, if_neg (by rw [HB1.out]; decide), if_neg]
            intro hx
            rw [Bool.and_eq_true, beq_iff_eq] at hx
            have := HS0.out
            rw [hx.2, Cell.made_head] at this
            exact absurd this (by decide)
          have HR := Lib.hid hread
          clear hread
          go_wp2_with fail
          try simp only [Act.put, List.setIfInBounds_toArray, List.set_cons_succ, List.set_cons_zero]
          refine wp_region_adds (fun c vals => ⟨#[c 0, (Value.pointer (some ⟨W0.heap.size, 0, none⟩) : Value), c 2, (Value.int .i64 nn : Value), (Value.int .i64 s1.toNat : Value), c 5, c 6, c 7, c 8, c 9, c 10, c 11, c 12, c 13, c 14, c 15, c 16, c 17, c 18, c 19, c 20, c 21, c 22, c 23, c 24, c 25, c 26, c 27, c 28, c 29, c 30, c 31, c 32, c 33, c 34, vals 14, vals 0, vals 1, vals 2, vals 3, vals 4, vals 5, vals 6, vals 7, vals 8, vals 9, vals 10, vals 11, vals 12, vals 13, c 50, c 51, c 52, c 53], []⟩) (fun t => [_, undef, _, undef, undef, _, _, _, _, _, _, _, _, _, _, _, _, _, _, _, _, _, _, _, _, _, _, _, _, _, _, _, _, _, _, undef, undef, undef, undef, undef, undef, undef, undef, undef, undef, undef, undef, undef, undef, undef, _, _, _, _].getD t undef) (fun i => [_, _, _, _, _, _, _, _, _, _, _, _, _, _, _].getD i undef) (by kernel_rfl)
            [[], [0], [0, 1], [0, 1, 2], [0, 1, 2, 3], [0, 1, 2, 3, 4], [0, 1, 2, 3, 4, 5], [0, 1, 2, 3, 4, 5, 6], [0, 1, 2, 3, 4, 5, 6, 7], [0, 1, 2, 3, 4, 5, 6, 7], [0, 1, 2, 3, 4, 5, 6, 7], [0, 1, 2, 3, 4, 5, 6, 7, 9, 10], [0, 1, 2, 3, 4, 5, 6, 7, 8, 9, 10, 11], [0, 1, 2, 3, 4, 5, 6, 7, 8, 9, 10, 11, 12], [0, 1, 2, 3, 4, 5, 6, 7, 8, 9, 10, 11, 12, 13]] (by kernel_rfl) (fun _ => True) trivial
            [fun x _ => x = (Value.pointer (some ⟨W0.heap.size, 0, none⟩) : Value),
             fun x _ => x = (B8 1 : Value),
             fun x _ => x = (Value.bool false : Value),
             fun x _ => x = (Value.bool false : Value),
             fun x _ => x = (undef : Value),
             fun x _ => x = (undef : Value),
             fun x _ => x = ((Value.bool false) : Value),
             fun x _ => x = ((Value.bool false) : Value),
             fun x _ => x = (undef : Value),
             fun x _ => x = (undef : Value),
             fun x _ => x = (undef : Value),
             fun x _ => x = (undef : Value),
             fun x _ => x = (undef : Value),
             fun x _ => x = ((Value.bool false) : Value),
             fun x _ => x = ((Value.bool false) : Value)]
            ⟨fun _ _ _ h _ => h, fun _ _ _ h _ => h, fun _ _ _ h _ => h, fun _ _ _ h _ => h, fun _ _ _ h _ => h, fun _ _ _ h _ => h, fun _ _ _ h _ => h, fun _ _ _ h _ => h, fun _ _ _ h _ => h, fun _ _ _ h _ => h, fun _ _ _ h _ => h, fun _ _ _ h _ => h, fun _ _ _ h _ => h, fun _ _ _ h _ => h, fun _ _ _ h _ => h, trivial⟩
            ⟨?_, ?_, ?_, ?_, ?_, ?_, ?_, ?_, ?_, ?_, ?_, ?_, ?_, ?_, ?_, trivial⟩ ?_
          · refine ⟨fun _ _ _ => rfl, fun c _ vals w hC hD K hK => ?_⟩
            refine ite_yes (wanted_none rfl) ?_
            clear hD
            show Oper.wp _ _ ⟨#[c 0, (Value.pointer (some ⟨W0.heap.size, 0, none⟩) : Value), c 2, (Value.int .i64 nn : Value), (Value.int .i64 s1.toNat : Value), c 5, c 6, c 7, c 8, c 9, c 10, c 11, c 12, c 13, c 14, c 15, c 16, c 17, c 18, c 19, c 20, c 21, c 22, c 23, c 24, c 25, c 26, c 27, c 28, c 29, c 30, c 31, c 32, c 33, c 34, vals 14, vals 0, vals 1, vals 2, vals 3, vals 4, vals 5, vals 6, vals 7, vals 8, vals 9, vals 10, vals 11, vals 12, vals 13, c 50, c 51, c 52, c 53], []⟩ w K _
            go_wp2_with fail
            exact hK _ _ (Adds.refl _) (by first | rfl | (simp; done) | (simp; omega))
          · refine ⟨fun _ _ _ => rfl, fun c _ vals w hC hD K hK => ?_⟩
            have h0 : vals 0 = .pointer (some ⟨W0.heap.size, 0, none⟩) := hD 0 rfl
            refine ite_yes (wanted_none rfl) ?_
            clear hD
            obtain ⟨vals, rfl⟩ := upd_of (vals := vals) (j := 0) (x := Value.pointer (some ⟨W0.heap.size, 0, none⟩)) h0
            clear h0
            show Oper.wp _ _ ⟨#[c 0, (Value.pointer (some ⟨W0.heap.size, 0, none⟩) : Value), c 2, (Value.int .i64 nn : Value), (Value.int .i64 s1.toNat : Value), c 5, c 6, c 7, c 8, c 9, c 10, c 11, c 12, c 13, c 14, c 15, c 16, c 17, c 18, c 19, c 20, c 21, c 22, c 23, c 24, c 25, c 26, c 27, c 28, c 29, c 30, c 31, c 32, c 33, c 34, vals 14, (Value.pointer (some ⟨W0.heap.size, 0, none⟩) : Value), vals 1, vals 2, vals 3, vals 4, vals 5, vals 6, vals 7, vals 8, vals 9, vals 10, vals 11, vals 12, vals 13, c 50, c 51, c 52, c 53], []⟩ w K _
            have hcc := (r6.adds hC).at (j := 0) (by rw [hc]; decide) 0
            rw [HS0.out] at hcc
            go_wp2_with fail
            exact hK _ _ (Adds.refl _) (by first | rfl | (simp; done) | (simp; omega))
          · refine ⟨fun _ _ _ => rfl, fun c _ vals w hC hD K hK => ?_⟩
            have h1 : vals 1 = B8 1 := hD 1 rfl
            refine ite_yes (wanted_none rfl) ?_
            clear hD
            obtain ⟨vals, rfl⟩ := upd_of (vals := vals) (j := 1) (x := B8 1) h1
            clear h1
            show Oper.wp _ _ ⟨#[c 0, (Value.pointer (some ⟨W0.heap.size, 0, none⟩) : Value), c 2, (Value.int .i64 nn : Value), (Value.int .i64 s1.toNat : Value), c 5, c 6, c 7, c 8, c 9, c 10, c 11, c 12, c 13, c 14, c 15, c 16, c 17, c 18, c 19, c 20, c 21, c 22, c 23, c 24, c 25, c 26, c 27, c 28, c 29, c 30, c 31, c 32, c 33, c 34, vals 14, vals 0, (B8 1 : Value), vals 2, vals 3, vals 4, vals 5, vals 6, vals 7, vals 8, vals 9, vals 10, vals 11, vals 12, vals 13, c 50, c 51, c 52, c 53], []⟩ w K _
            go_wp2_with fail
            exact hK _ _ (Adds.refl _) (by first | rfl | (simp; done) | (simp; omega))
          · refine ⟨fun _ _ _ => rfl, fun c _ vals w hC hD K hK => ?_⟩
            have h2 : vals 2 = .bool false := hD 2 rfl
            refine ite_yes (wanted_none rfl) ?_
            clear hD
            obtain ⟨vals, rfl⟩ := upd_of (vals := vals) (j := 2) (x := Value.bool false) h2
            clear h2
            show Oper.wp _ _ ⟨#[c 0, (Value.pointer (some ⟨W0.heap.size, 0, none⟩) : Value), c 2, (Value.int .i64 nn : Value), (Value.int .i64 s1.toNat : Value), c 5, c 6, c 7, c 8, c 9, c 10, c 11, c 12, c 13, c 14, c 15, c 16, c 17, c 18, c 19, c 20, c 21, c 22, c 23, c 24, c 25, c 26, c 27, c 28, c 29, c 30, c 31, c 32, c 33, c 34, vals 14, vals 0, vals 1, (Value.bool false : Value), vals 3, vals 4, vals 5, vals 6, vals 7, vals 8, vals 9, vals 10, vals 11, vals 12, vals 13, c 50, c 51, c 52, c 53], []⟩ w K _
            go_wp2_with fail
            exact hK _ _ (Adds.refl _) (by rfl)
          · refine ⟨fun _ _ _ => rfl, fun c _ vals w hC hD K hK => ?_⟩
            have hg : vals 3 = .bool (!true) := hD 3 rfl
            refine ite_no (unwanted_of rfl rfl rfl rfl hg) ?_
            exact hK undef w (Adds.refl _) rfl
          · refine ⟨fun _ _ _ => rfl, fun c _ vals w hC hD K hK => ?_⟩
            have hg : vals 3 = .bool (!true) := hD 3 rfl
            refine ite_no (unwanted_of rfl rfl rfl rfl hg) ?_
            exact hK undef w (Adds.refl _) rfl
          · refine ⟨fun _ _ _ => rfl, fun c _ vals w hC hD K hK => ?_⟩
            have h3 : vals 3 = .bool false := hD 3 rfl
            have h5 : vals 5 = undef := hD 5 rfl
            refine ite_yes (wanted_none rfl) ?_
            clear hD
            obtain ⟨vals, rfl⟩ := upd_of (vals := vals) (j := 3) (x := Value.bool false) h3
            clear h3
            obtain ⟨vals, rfl⟩ := upd_of (vals := vals) (j := 5) (x := undef) h5
            clear h5
            show Oper.wp _ _ ⟨#[c 0, (Value.pointer (some ⟨W0.heap.size, 0, none⟩) : Value), c 2, (Value.int .i64 nn : Value), (Value.int .i64 s1.toNat : Value), c 5, c 6, c 7, c 8, c 9, c 10, c 11, c 12, c 13, c 14, c 15, c 16, c 17, c 18, c 19, c 20, c 21, c 22, c 23, c 24, c 25, c 26, c 27, c 28, c 29, c 30, c 31, c 32, c 33, c 34, vals 14, vals 0, vals 1, vals 2, (Value.bool false : Value), vals 4, (undef : Value), vals 6, vals 7, vals 8, vals 9, vals 10, vals 11, vals 12, vals 13, c 50, c 51, c 52, c 53], []⟩ w K _
            go_wp2_with fail
            exact hK _ _ (Adds.refl _) (by rfl)
          · refine ⟨fun _ _ _ => rfl, fun c _ vals w hC hD K hK => ?_⟩
            have h6 : vals 6 = (Value.bool false) := hD 6 rfl
            refine ite_yes (wanted_none rfl) ?_
            clear hD
            obtain ⟨vals, rfl⟩ := upd_of (vals := vals) (j := 6) (x := (Value.bool false)) h6
            clear h6
            show Oper.wp _ _ ⟨#[c 0, (Value.pointer (some ⟨W0.heap.size, 0, none⟩) : Value), c 2, (Value.int .i64 nn : Value), (Value.int .i64 s1.toNat : Value), c 5, c 6, c 7, c 8, c 9, c 10, c 11, c 12, c 13, c 14, c 15, c 16, c 17, c 18, c 19, c 20, c 21, c 22, c 23, c 24, c 25, c 26, c 27, c 28, c 29, c 30, c 31, c 32, c 33, c 34, vals 14, vals 0, vals 1, vals 2, vals 3, vals 4, vals 5, ((Value.bool false) : Value), vals 7, vals 8, vals 9, vals 10, vals 11, vals 12, vals 13, c 50, c 51, c 52, c 53], []⟩ w K _
            go_wp2_with fail
            exact hK _ _ (Adds.refl _) (by rfl)
          · refine ⟨fun _ _ _ => rfl, fun c _ vals w hC hD K hK => ?_⟩
            have hg : vals 7 = .bool (!true) := hD 7 rfl
            refine ite_no (unwanted_of rfl rfl rfl rfl hg) ?_
            exact hK undef w (Adds.refl _) rfl
          · refine ⟨fun _ _ _ => rfl, fun c _ vals w hC hD K hK => ?_⟩
            have hg : vals 7 = .bool (!true) := hD 7 rfl
            refine ite_no (unwanted_of rfl rfl rfl rfl hg) ?_
            exact hK undef w (Adds.refl _) rfl
          · refine ⟨fun _ _ _ => rfl, fun c _ vals w hC hD K hK => ?_⟩
            have hg : vals 7 = .bool (!true) := hD 7 rfl
            refine ite_no (unwanted_of rfl rfl rfl rfl hg) ?_
            exact hK undef w (Adds.refl _) rfl
          · refine ⟨fun _ _ _ => rfl, fun c _ vals w hC hD K hK => ?_⟩
            have hg : vals 7 = .bool (!true) := hD 7 rfl
            refine ite_no (unwanted_of rfl rfl rfl rfl hg) ?_
            exact hK undef w (Adds.refl _) rfl
          · refine ⟨fun _ _ _ => rfl, fun c _ vals w hC hD K hK => ?_⟩
            have hg : vals 7 = .bool (!true) := hD 7 rfl
            refine ite_no (unwanted_of rfl rfl rfl rfl hg) ?_
            exact hK undef w (Adds.refl _) rfl
          · refine ⟨fun _ _ _ => rfl, fun c _ vals w hC hD K hK => ?_⟩
            have h7 : vals 7 = (Value.bool false) := hD 7 rfl
            have h12 : vals 12 = undef := hD 12 rfl
            refine ite_yes (wanted_none rfl) ?_
            clear hD
            obtain ⟨vals, rfl⟩ := upd_of (vals := vals) (j := 7) (x := (Value.bool false)) h7
            clear h7
            obtain ⟨vals, rfl⟩ := upd_of (vals := vals) (j := 12) (x := undef) h12
            clear h12
            show Oper.wp _ _ ⟨#[c 0, (Value.pointer (some ⟨W0.heap.size, 0, none⟩) : Value), c 2, (Value.int .i64 nn : Value), (Value.int .i64 s1.toNat : Value), c 5, c 6, c 7, c 8, c 9, c 10, c 11, c 12, c 13, c 14, c 15, c 16, c 17, c 18, c 19, c 20, c 21, c 22, c 23, c 24, c 25, c 26, c 27, c 28, c 29, c 30, c 31, c 32, c 33, c 34, vals 14, vals 0, vals 1, vals 2, vals 3, vals 4, vals 5, vals 6, ((Value.bool false) : Value), vals 8, vals 9, vals 10, vals 11, (undef : Value), vals 13, c 50, c 51, c 52, c 53], []⟩ w K _
            go_wp2_with fail
            exact hK _ _ (Adds.refl _) (by rfl)
          · refine ⟨fun _ _ _ => rfl, fun c _ vals w hC hD K hK => ?_⟩
            have h13 : vals 13 = (Value.bool false) := hD 13 rfl
            refine ite_yes (wanted_none rfl) ?_
            clear hD
            obtain ⟨vals, rfl⟩ := upd_of (vals := vals) (j := 13) (x := (Value.bool false)) h13
            clear h13
            show Oper.wp _ _ ⟨#[c 0, (Value.pointer (some ⟨W0.heap.size, 0, none⟩) : Value), c 2, (Value.int .i64 nn : Value), (Value.int .i64 s1.toNat : Value), c 5, c 6, c 7, c 8, c 9, c 10, c 11, c 12, c 13, c 14, c 15, c 16, c 17, c 18, c 19, c 20, c 21, c 22, c 23, c 24, c 25, c 26, c 27, c 28, c 29, c 30, c 31, c 32, c 33, c 34, vals 14, vals 0, vals 1, vals 2, vals 3, vals 4, vals 5, vals 6, vals 7, vals 8, vals 9, vals 10, vals 11, vals 12, ((Value.bool false) : Value), c 50, c 51, c 52, c 53], []⟩ w K _
            go_wp2_with fail
            exact hK _ _ (Adds.refl _) (by rfl)
          intro vals w' hC hΦ
          have h14 : vals 14 = (Value.bool false) := hΦ 14 (by decide)
          clear hΦ
          simp only [List.getD_eq_getElem?_getD, List.getElem?_cons_zero, List.getElem?_cons_succ, Option.getD_some]
          simp only [h14]
          try simp only [tuple_undef]
          have q8 := q6.adds hC
          have b8 := b6.trans (hC.mono b6.size)
          clear q6 r6 b6 hC
          go_wp2_with (first
            | (refine wpList_store_all rfl 57 (.tmp 2) (.tmp 53) rfl (W0.heap.size + 1) rfl (C := recordOf (3, 0, 0)) rfl q8 rfl size57 (record_one _) ?_))
          exact bodyPost_cell rfl rfl rfl (q8.setRow (recordOf (3, 0, 0))) rfl Try.underlying57 rfl size57 ⟨by rw [HR.out], b8.setRow (g := W0.heap.size + 1) (by omega) (recordOf (3, 0, 0)).toArray⟩
      · have H1 := Lib.hid h1
        by_cases h2 : s0 = 2
        · subst h2
          by_cases h8 : s1.toNat ≤ 8
          · obtain ⟨md, hmd⟩ : ∃ md, Cell.made 2 s1 nn.toNat = md := ⟨_, rfl⟩
            have hs1 : UInt8.ofInt (s1.toNat : Int) = s1 := by rw [ofInt8_nat]; simp
            have HM : Hid (Cell.made 2 (UInt8.ofInt (s1.toNat : Int)) (UInt64.ofInt nn).toNat = md) := by rw [HU.out, hs1]; exact hmd
            have hml : md.length = 32 := by rw [← hmd]; exact Cell.made_length _ _ _
            obtain ⟨b1, hb1⟩ : ∃ b1, (cs == md) = b1 := ⟨_, rfl⟩
            have HE1 : ∀ w, (Op.equalIn 10000 49 (.agg (cs.map B8).toArray) (.agg (md.map B8).toArray)).run Try.prog w = .ok b1 w := fun w => hb1 ▸ cells_equal cs md hc hml w
            have HMD := Lib.hid hmd
            have HB1 := Lib.hid hb1
            have H8 := Lib.hid h8
            clear hmd hb1 hml hs1
            have hne1 : Hid (¬ (cs == Cell.made 1 0 nn.toNat) = true) := by
              intro hx
              rw [beq_iff_eq] at hx
              have := HS0.out
              rw [hx, Cell.made_head] at this
              exact H1.out this.symm
            go_wp2_with fail
            try simp only [Act.put, List.setIfInBounds_toArray, List.set_cons_succ, List.set_cons_zero]
            refine wp_region_adds (fun c vals => ⟨#[c 0, (Value.pointer (some ⟨W0.heap.size, 0, none⟩) : Value), c 2, (Value.int .i64 nn : Value), (Value.int .i64 s1.toNat : Value), c 5, c 6, c 7, c 8, c 9, c 10, c 11, c 12, c 13, c 14, c 15, c 16, c 17, c 18, c 19, c 20, c 21, c 22, vals 9, vals 0, vals 1, vals 2, vals 3, vals 4, vals 5, vals 6, vals 7, vals 8, c 33, c 34, c 35, c 36, c 37, c 38, c 39, c 40, c 41, c 42, c 43, c 44, c 45, c 46, c 47, c 48, c 49, c 50, c 51, c 52, c 53], []⟩) (fun t => [_, undef, _, undef, undef, _, _, _, _, _, _, _, _, _, _, _, _, _, _, _, _, _, _, undef, undef, undef, undef, undef, undef, undef, undef, undef, undef, _, _, _, _, _, _, _, _, _, _, _, _, _, _, _, _, _, _, _, _, _].getD t undef) (fun i => [_, _, _, _, _, _, _, _, _, _].getD i undef) (by kernel_rfl)
              [[], [0], [0, 1], [0, 1, 2], [0, 1, 2, 3], [0, 1, 2, 3], [0, 1, 2, 3, 5], [0, 1, 2, 3, 4, 5, 6], [0, 1, 2, 3, 4, 5, 6, 7], [0, 1, 2, 3, 4, 5, 6, 7, 8]] (by kernel_rfl) (fun _ => True) trivial
              [fun x _ => x = (Value.pointer (some ⟨W0.heap.size, 0, none⟩) : Value),
               fun x _ => x = (B8 2 : Value),
               fun x _ => x = (Value.bool false : Value),
               fun x _ => x = (Value.bool false : Value),
               fun x _ => x = (undef : Value),
               fun x _ => x = (undef : Value),
               fun x _ => x = (undef : Value),
               fun x _ => x = (undef : Value),
               fun x _ => x = ((Value.bool false) : Value),
               fun x _ => x = ((Value.bool false) : Value)]
              ⟨fun _ _ _ h _ => h, fun _ _ _ h _ => h, fun _ _ _ h _ => h, fun _ _ _ h _ => h, fun _ _ _ h _ => h, fun _ _ _ h _ => h, fun _ _ _ h _ => h, fun _ _ _ h _ => h, fun _ _ _ h _ => h, fun _ _ _ h _ => h, trivial⟩
              ⟨?_, ?_, ?_, ?_, ?_, ?_, ?_, ?_, ?_, ?_, trivial⟩ ?_
            · refine ⟨fun _ _ _ => rfl, fun c _ vals w hC hD K hK => ?_⟩
              refine ite_yes (wanted_none rfl) ?_
              clear hD
              show Oper.wp _ _ ⟨#[c 0, (Value.pointer (some ⟨W0.heap.size, 0, none⟩) : Value), c 2, (Value.int .i64 nn : Value), (Value.int .i64 s1.toNat : Value), c 5, c 6, c 7, c 8, c 9, c 10, c 11, c 12, c 13, c 14, c 15, c 16, c 17, c 18, c 19, c 20, c 21, c 22, vals 9, vals 0, vals 1, vals 2, vals 3, vals 4, vals 5, vals 6, vals 7, vals 8, c 33, c 34, c 35, c 36, c 37, c 38, c 39, c 40, c 41, c 42, c 43, c 44, c 45, c 46, c 47, c 48, c 49, c 50, c 51, c 52, c 53], []⟩ w K _
              go_wp2_with fail
              exact hK _ _ (Adds.refl _) (by first | rfl | (simp; done) | (simp; omega))
            · refine ⟨fun _ _ _ => rfl, fun c _ vals w hC hD K hK => ?_⟩
              have h0 : vals 0 = .pointer (some ⟨W0.heap.size, 0, none⟩) := hD 0 rfl
              refine ite_yes (wanted_none rfl) ?_
              clear hD
              obtain ⟨vals, rfl⟩ := upd_of (vals := vals) (j := 0) (x := Value.pointer (some ⟨W0.heap.size, 0, none⟩)) h0
              clear h0
              show Oper.wp _ _ ⟨#[c 0, (Value.pointer (some ⟨W0.heap.size, 0, none⟩) : Value), c 2, (Value.int .i64 nn : Value), (Value.int .i64 s1.toNat : Value), c 5, c 6, c 7, c 8, c 9, c 10, c 11, c 12, c 13, c 14, c 15, c 16, c 17, c 18, c 19, c 20, c 21, c 22, vals 9, (Value.pointer (some ⟨W0.heap.size, 0, none⟩) : Value), vals 1, vals 2, vals 3, vals 4, vals 5, vals 6, vals 7, vals 8, c 33, c 34, c 35, c 36, c 37, c 38, c 39, c 40, c 41, c 42, c 43, c 44, c 45, c 46, c 47, c 48, c 49, c 50, c 51, c 52, c 53], []⟩ w K _
              have hcc := (r3.adds hC).at (j := 0) (by rw [hc]; decide) 0
              rw [HS0.out] at hcc
              go_wp2_with fail
              exact hK _ _ (Adds.refl _) (by first | rfl | (simp; done) | (simp; omega))
            · refine ⟨fun _ _ _ => rfl, fun c _ vals w hC hD K hK => ?_⟩
              have h1 : vals 1 = B8 2 := hD 1 rfl
              refine ite_yes (wanted_none rfl) ?_
              clear hD
              obtain ⟨vals, rfl⟩ := upd_of (vals := vals) (j := 1) (x := B8 2) h1
              clear h1
              show Oper.wp _ _ ⟨#[c 0, (Value.pointer (some ⟨W0.heap.size, 0, none⟩) : Value), c 2, (Value.int .i64 nn : Value), (Value.int .i64 s1.toNat : Value), c 5, c 6, c 7, c 8, c 9, c 10, c 11, c 12, c 13, c 14, c 15, c 16, c 17, c 18, c 19, c 20, c 21, c 22, vals 9, vals 0, (B8 2 : Value), vals 2, vals 3, vals 4, vals 5, vals 6, vals 7, vals 8, c 33, c 34, c 35, c 36, c 37, c 38, c 39, c 40, c 41, c 42, c 43, c 44, c 45, c 46, c 47, c 48, c 49, c 50, c 51, c 52, c 53], []⟩ w K _
              go_wp2_with fail
              exact hK _ _ (Adds.refl _) (by first | rfl | (simp; done) | (simp; omega))
            · refine ⟨fun _ _ _ => rfl, fun c _ vals w hC hD K hK => ?_⟩
              have h2 : vals 2 = .bool false := hD 2 rfl
              refine ite_yes (wanted_none rfl) ?_
              clear hD
              obtain ⟨vals, rfl⟩ := upd_of (vals := vals) (j := 2) (x := Value.bool false) h2
              clear h2
              show Oper.wp _ _ ⟨#[c 0, (Value.pointer (some ⟨W0.heap.size, 0, none⟩) : Value), c 2, (Value.int .i64 nn : Value), (Value.int .i64 s1.toNat : Value), c 5, c 6, c 7, c 8, c 9, c 10, c 11, c 12, c 13, c 14, c 15, c 16, c 17, c 18, c 19, c 20, c 21, c 22, vals 9, vals 0, vals 1, (Value.bool false : Value), vals 3, vals 4, vals 5, vals 6, vals 7, vals 8, c 33, c 34, c 35, c 36, c 37, c 38, c 39, c 40, c 41, c 42, c 43, c 44, c 45, c 46, c 47, c 48, c 49, c 50, c 51, c 52, c 53], []⟩ w K _
              go_wp2_with fail
              exact hK _ _ (Adds.refl _) (by rfl)
            · refine ⟨fun _ _ _ => rfl, fun c _ vals w hC hD K hK => ?_⟩
              have hg : vals 3 = .bool (!true) := hD 3 rfl
              refine ite_no (unwanted_of rfl rfl rfl rfl hg) ?_
              exact hK undef w (Adds.refl _) rfl
            · refine ⟨fun _ _ _ => rfl, fun c _ vals w hC hD K hK => ?_⟩
              have hg : vals 3 = .bool (!true) := hD 3 rfl
              refine ite_no (unwanted_of rfl rfl rfl rfl hg) ?_
              exact hK undef w (Adds.refl _) rfl
            · refine ⟨fun _ _ _ => rfl, fun c _ vals w hC hD K hK => ?_⟩
              have hg : vals 3 = .bool (!true) := hD 3 rfl
              refine ite_no (unwanted_of rfl rfl rfl rfl hg) ?_
              exact hK undef w (Adds.refl _) rfl
            · refine ⟨fun _ _ _ => rfl, fun c _ vals w hC hD K hK => ?_⟩
              have hg : vals 3 = .bool (!true) := hD 3 rfl
              refine ite_no (unwanted_of rfl rfl rfl rfl hg) ?_
              exact hK undef w (Adds.refl _) rfl
            · refine ⟨fun _ _ _ => rfl, fun c _ vals w hC hD K hK => ?_⟩
              have h3 : vals 3 = .bool false := hD 3 rfl
              have h7 : vals 7 = undef := hD 7 rfl
              refine ite_yes (wanted_none rfl) ?_
              clear hD
              obtain ⟨vals, rfl⟩ := upd_of (vals := vals) (j := 3) (x := Value.bool false) h3
              clear h3
              obtain ⟨vals, rfl⟩ := upd_of (vals := vals) (j := 7) (x := undef) h7
              clear h7
              show Oper.wp _ _ ⟨#[c 0, (Value.pointer (some ⟨W0.heap.size, 0, none⟩) : Value), c 2, (Value.int .i64 nn : Value), (Value.int .i64 s1.toNat : Value), c 5, c 6, c 7, c 8, c 9, c 10, c 11, c 12, c 13, c 14, c 15, c 16, c 17, c 18, c 19, c 20, c 21, c 22, vals 9, vals 0, vals 1, vals 2, (Value.bool false : Value), vals 4, vals 5, vals 6, (undef : Value), vals 8, c 33, c 34, c 35, c 36, c 37, c 38, c 39, c 40, c 41, c 42, c 43, c 44, c 45, c 46, c 47, c 48, c 49, c 50, c 51, c 52, c 53], []⟩ w K _
              go_wp2_with fail
              exact hK _ _ (Adds.refl _) (by rfl)
            · refine ⟨fun _ _ _ => rfl, fun c _ vals w hC hD K hK => ?_⟩
              have h8 : vals 8 = (Value.bool false) := hD 8 rfl
              refine ite_yes (wanted_none rfl) ?_
              clear hD
              obtain ⟨vals, rfl⟩ := upd_of (vals := vals) (j := 8) (x := (Value.bool false)) h8
              clear h8
              show Oper.wp _ _ ⟨#[c 0, (Value.pointer (some ⟨W0.heap.size, 0, none⟩) : Value), c 2, (Value.int .i64 nn : Value), (Value.int .i64 s1.toNat : Value), c 5, c 6, c 7, c 8, c 9, c 10, c 11, c 12, c 13, c 14, c 15, c 16, c 17, c 18, c 19, c 20, c 21, c 22, vals 9, vals 0, vals 1, vals 2, vals 3, vals 4, vals 5, vals 6, vals 7, ((Value.bool false) : Value), c 33, c 34, c 35, c 36, c 37, c 38, c 39, c 40, c 41, c 42, c 43, c 44, c 45, c 46, c 47, c 48, c 49, c 50, c 51, c 52, c 53], []⟩ w K _
              go_wp2_with fail
              exact hK _ _ (Adds.refl _) (by rfl)
            intro vals w' hC hΦ
            have h9 : vals 9 = (Value.bool false) := hΦ 9 (by decide)
            clear hΦ
            simp only [List.getD_eq_getElem?_getD, List.getElem?_cons_zero, List.getElem?_cons_succ, Option.getD_some]
            simp only [h9]
            try simp only [tuple_undef]
            have q6 := q3.adds hC
            have r6 := r3.adds hC
            have b6 := b3.trans (hC.mono b3.size)
            clear q3 r3 b3 hC
            rename_i w6 _
            go_wp2_with fail
            try simp only [Act.put, List.setIfInBounds_toArray, List.set_cons_succ, List.set_cons_zero]
            refine wp_region_adds (fun c vals => ⟨#[c 0, (Value.pointer (some ⟨W0.heap.size, 0, none⟩) : Value), c 2, (Value.int .i64 nn : Value), (Value.int .i64 s1.toNat : Value), c 5, c 6, c 7, c 8, c 9, c 10, c 11, c 12, c 13, c 14, c 15, c 16, c 17, c 18, c 19, c 20, c 21, c 22, c 23, c 24, c 25, c 26, c 27, c 28, c 29, c 30, c 31, c 32, c 33, c 34, vals 14, vals 0, vals 1, vals 2, vals 3, vals 4, vals 5, vals 6, vals 7, vals 8, vals 9, vals 10, vals 11, vals 12, vals 13, c 50, c 51, c 52, c 53], []⟩) (fun t => [_, undef, _, undef, undef, _, _, _, _, _, _, _, _, _, _, _, _, _, _, _, _, _, _, _, _, _, _, _, _, _, _, _, _, _, _, undef, undef, undef, undef, undef, undef, undef, undef, undef, undef, undef, undef, undef, undef, undef, _, _, _, _].getD t undef) (fun i => [_, _, _, _, _, _, _, _, _, _, _, _, _, _, _].getD i undef) (by kernel_rfl)
              [[], [0], [0, 1], [0, 1, 2], [0, 1, 2, 3], [0, 1, 2, 3, 4], [0, 1, 2, 3, 4, 5], [0, 1, 2, 3, 4, 5, 6], [0, 1, 2, 3, 4, 5, 6, 7], [0, 1, 2, 3, 4, 5, 6, 7], [0, 1, 2, 3, 4, 5, 6, 7], [0, 1, 2, 3, 4, 5, 6, 7, 9, 10], [0, 1, 2, 3, 4, 5, 6, 7, 8, 9, 10, 11], [0, 1, 2, 3, 4, 5, 6, 7, 8, 9, 10, 11, 12], [0, 1, 2, 3, 4, 5, 6, 7, 8, 9, 10, 11, 12, 13]] (by kernel_rfl) (fun _ => True) trivial
              [fun x _ => x = (Value.pointer (some ⟨W0.heap.size, 0, none⟩) : Value),
               fun x _ => x = (B8 2 : Value),
               fun x _ => x = (Value.bool true : Value),
               fun x _ => x = (Value.bool true : Value),
               fun x _ => x = (Value.int .i64 s1.toNat : Value),
               fun x _ => x = (Value.bool true : Value),
               fun x _ => x = (Value.bool true : Value),
               fun x _ => x = (Value.bool true : Value),
               fun x _ => x = (Value.agg (cs.map B8).toArray : Value),
               fun x _ => x = (Value.int .i64 s1.toNat : Value),
               fun x _ => x = (Value.int .i64 nn : Value),
               fun x _ => x = (Value.agg (md.map B8).toArray : Value),
               fun x _ => x = (Value.bool b1 : Value),
               fun x _ => x = (Value.bool b1 : Value),
               fun x _ => x = (Value.bool b1 : Value)]
              ⟨fun _ _ _ h _ => h, fun _ _ _ h _ => h, fun _ _ _ h _ => h, fun _ _ _ h _ => h, fun _ _ _ h _ => h, fun _ _ _ h _ => h, fun _ _ _ h _ => h, fun _ _ _ h _ => h, fun _ _ _ h _ => h, fun _ _ _ h _ => h, fun _ _ _ h _ => h, fun _ _ _ h _ => h, fun _ _ _ h _ => h, fun _ _ _ h _ => h, fun _ _ _ h _ => h, trivial⟩
              ⟨?_, ?_, ?_, ?_, ?_, ?_, ?_, ?_, ?_, ?_, ?_, ?_, ?_, ?_, ?_, trivial⟩ ?_
            · refine ⟨fun _ _ _ => rfl, fun c _ vals w hC hD K hK => ?_⟩
              refine ite_yes (wanted_none rfl) ?_
              clear hD
              show Oper.wp _ _ ⟨#[c 0, (Value.pointer (some ⟨W0.heap.size, 0, none⟩) : Value), c 2, (Value.int .i64 nn : Value), (Value.int .i64 s1.toNat : Value), c 5, c 6, c 7, c 8, c 9, c 10, c 11, c 12, c 13, c 14, c 15, c 16, c 17, c 18, c 19, c 20, c 21, c 22, c 23, c 24, c 25, c 26, c 27, c 28, c 29, c 30, c 31, c 32, c 33, c 34, vals 14, vals 0, vals 1, vals 2, vals 3, vals 4, vals 5, vals 6, vals 7, vals 8, vals 9, vals 10, vals 11, vals 12, vals 13, c 50, c 51, c 52, c 53], []⟩ w K _
              go_wp2_with fail
              exact hK _ _ (Adds.refl _) (by first | rfl | (simp; done) | (simp; omega))
            · refine ⟨fun _ _ _ => rfl, fun c _ vals w hC hD K hK => ?_⟩
              have h0 : vals 0 = .pointer (some ⟨W0.heap.size, 0, none⟩) := hD 0 rfl
              refine ite_yes (wanted_none rfl) ?_
              clear hD
              obtain ⟨vals, rfl⟩ := upd_of (vals := vals) (j := 0) (x := Value.pointer (some ⟨W0.heap.size, 0, none⟩)) h0
              clear h0
              show Oper.wp _ _ ⟨#[c 0, (Value.pointer (some ⟨W0.heap.size, 0, none⟩) : Value), c 2, (Value.int .i64 nn : Value), (Value.int .i64 s1.toNat : Value), c 5, c 6, c 7, c 8, c 9, c 10, c 11, c 12, c 13, c 14, c 15, c 16, c 17, c 18, c 19, c 20, c 21, c 22, c 23, c 24, c 25, c 26, c 27, c 28, c 29, c 30, c 31, c 32, c 33, c 34, vals 14, (Value.pointer (some ⟨W0.heap.size, 0, none⟩) : Value), vals 1, vals 2, vals 3, vals 4, vals 5, vals 6, vals 7, vals 8, vals 9, vals 10, vals 11, vals 12, vals 13, c 50, c 51, c 52, c 53], []⟩ w K _
              have hcc := (r6.adds hC).at (j := 0) (by rw [hc]; decide) 0
              rw [HS0.out] at hcc
              go_wp2_with fail
              exact hK _ _ (Adds.refl _) (by first | rfl | (simp; done) | (simp; omega))
            · refine ⟨fun _ _ _ => rfl, fun c _ vals w hC hD K hK => ?_⟩
              have h1 : vals 1 = B8 2 := hD 1 rfl
              refine ite_yes (wanted_none rfl) ?_
              clear hD
              obtain ⟨vals, rfl⟩ := upd_of (vals := vals) (j := 1) (x := B8 2) h1
              clear h1
              show Oper.wp _ _ ⟨#[c 0, (Value.pointer (some ⟨W0.heap.size, 0, none⟩) : Value), c 2, (Value.int .i64 nn : Value), (Value.int .i64 s1.toNat : Value), c 5, c 6, c 7, c 8, c 9, c 10, c 11, c 12, c 13, c 14, c 15, c 16, c 17, c 18, c 19, c 20, c 21, c 22, c 23, c 24, c 25, c 26, c 27, c 28, c 29, c 30, c 31, c 32, c 33, c 34, vals 14, vals 0, (B8 2 : Value), vals 2, vals 3, vals 4, vals 5, vals 6, vals 7, vals 8, vals 9, vals 10, vals 11, vals 12, vals 13, c 50, c 51, c 52, c 53], []⟩ w K _
              go_wp2_with fail
              exact hK _ _ (Adds.refl _) (by first | rfl | (simp; done) | (simp; omega))
            · refine ⟨fun _ _ _ => rfl, fun c _ vals w hC hD K hK => ?_⟩
              have h2 : vals 2 = .bool true := hD 2 rfl
              refine ite_yes (wanted_none rfl) ?_
              clear hD
              obtain ⟨vals, rfl⟩ := upd_of (vals := vals) (j := 2) (x := Value.bool true) h2
              clear h2
              show Oper.wp _ _ ⟨#[c 0, (Value.pointer (some ⟨W0.heap.size, 0, none⟩) : Value), c 2, (Value.int .i64 nn : Value), (Value.int .i64 s1.toNat : Value), c 5, c 6, c 7, c 8, c 9, c 10, c 11, c 12, c 13, c 14, c 15, c 16, c 17, c 18, c 19, c 20, c 21, c 22, c 23, c 24, c 25, c 26, c 27, c 28, c 29, c 30, c 31, c 32, c 33, c 34, vals 14, vals 0, vals 1, (Value.bool true : Value), vals 3, vals 4, vals 5, vals 6, vals 7, vals 8, vals 9, vals 10, vals 11, vals 12, vals 13, c 50, c 51, c 52, c 53], []⟩ w K _
              go_wp2_with fail
              exact hK _ _ (Adds.refl _) (by rfl)
            · refine ⟨fun _ _ _ => rfl, fun c _ vals w hC hD K hK => ?_⟩
              have hg : vals 3 = .bool true := hD 3 rfl
              refine ite_yes (wanted_of rfl rfl rfl rfl hg) ?_
              clear hg
              clear hD
              show Oper.wp _ _ ⟨#[c 0, (Value.pointer (some ⟨W0.heap.size, 0, none⟩) : Value), c 2, (Value.int .i64 nn : Value), (Value.int .i64 s1.toNat : Value), c 5, c 6, c 7, c 8, c 9, c 10, c 11, c 12, c 13, c 14, c 15, c 16, c 17, c 18, c 19, c 20, c 21, c 22, c 23, c 24, c 25, c 26, c 27, c 28, c 29, c 30, c 31, c 32, c 33, c 34, vals 14, vals 0, vals 1, vals 2, vals 3, vals 4, vals 5, vals 6, vals 7, vals 8, vals 9, vals 10, vals 11, vals 12, vals 13, c 50, c 51, c 52, c 53], []⟩ w K _
              go_wp2_with fail
              exact hK _ _ (Adds.refl _) (by rfl)
            · refine ⟨fun _ _ _ => rfl, fun c _ vals w hC hD K hK => ?_⟩
              have h4 : vals 4 = .int .i64 s1.toNat := hD 4 rfl
              have hg : vals 3 = .bool true := hD 3 rfl
              refine ite_yes (wanted_of rfl rfl rfl rfl hg) ?_
              clear hg
              clear hD
              obtain ⟨vals, rfl⟩ := upd_of (vals := vals) (j := 4) (x := Value.int .i64 s1.toNat) h4
              clear h4
              show Oper.wp _ _ ⟨#[c 0, (Value.pointer (some ⟨W0.heap.size, 0, none⟩) : Value), c 2, (Value.int .i64 nn : Value), (Value.int .i64 s1.toNat : Value), c 5, c 6, c 7, c 8, c 9, c 10, c 11, c 12, c 13, c 14, c 15, c 16, c 17, c 18, c 19, c 20, c 21, c 22, c 23, c 24, c 25, c 26, c 27, c 28, c 29, c 30, c 31, c 32, c 33, c 34, vals 14, vals 0, vals 1, vals 2, vals 3, (Value.int .i64 s1.toNat : Value), vals 5, vals 6, vals 7, vals 8, vals 9, vals 10, vals 11, vals 12, vals 13, c 50, c 51, c 52, c 53], []⟩ w K _
              go_wp2_with fail
              exact hK _ _ (Adds.refl _) (by first | rfl | (simp; done) | (simp; omega))
            · refine ⟨fun _ _ _ => rfl, fun c _ vals w hC hD K hK => ?_⟩
              have h3 : vals 3 = .bool true := hD 3 rfl
              have h5 : vals 5 = .bool true := hD 5 rfl
              refine ite_yes (wanted_none rfl) ?_
              clear hD
              obtain ⟨vals, rfl⟩ := upd_of (vals := vals) (j := 3) (x := Value.bool true) h3
              clear h3
              obtain ⟨vals, rfl⟩ := upd_of (vals := vals) (j := 5) (x := Value.bool true) h5
              clear h5
              show Oper.wp _ _ ⟨#[c 0, (Value.pointer (some ⟨W0.heap.size, 0, none⟩) : Value), c 2, (Value.int .i64 nn : Value), (Value.int .i64 s1.toNat : Value), c 5, c 6, c 7, c 8, c 9, c 10, c 11, c 12, c 13, c 14, c 15, c 16, c 17, c 18, c 19, c 20, c 21, c 22, c 23, c 24, c 25, c 26, c 27, c 28, c 29, c 30, c 31, c 32, c 33, c 34, vals 14, vals 0, vals 1, vals 2, (Value.bool true : Value), vals 4, (Value.bool true : Value), vals 6, vals 7, vals 8, vals 9, vals 10, vals 11, vals 12, vals 13, c 50, c 51, c 52, c 53], []⟩ w K _
              go_wp2_with fail
              exact hK _ _ (Adds.refl _) (by rfl)
            · refine ⟨fun _ _ _ => rfl, fun c _ vals w hC hD K hK => ?_⟩
              have h6 : vals 6 = .bool true := hD 6 rfl
              refine ite_yes (wanted_none rfl) ?_
              clear hD
              obtain ⟨vals, rfl⟩ := upd_of (vals := vals) (j := 6) (x := Value.bool true) h6
              clear h6
              show Oper.wp _ _ ⟨#[c 0, (Value.pointer (some ⟨W0.heap.size, 0, none⟩) : Value), c 2, (Value.int .i64 nn : Value), (Value.int .i64 s1.toNat : Value), c 5, c 6, c 7, c 8, c 9, c 10, c 11, c 12, c 13, c 14, c 15, c 16, c 17, c 18, c 19, c 20, c 21, c 22, c 23, c 24, c 25, c 26, c 27, c 28, c 29, c 30, c 31, c 32, c 33, c 34, vals 14, vals 0, vals 1, vals 2, vals 3, vals 4, vals 5, (Value.bool true : Value), vals 7, vals 8, vals 9, vals 10, vals 11, vals 12, vals 13, c 50, c 51, c 52, c 53], []⟩ w K _
              go_wp2_with fail
              exact hK _ _ (Adds.refl _) (by rfl)
            · refine ⟨fun _ _ _ => rfl, fun c _ vals w hC hD K hK => ?_⟩
              have hg : vals 7 = .bool true := hD 7 rfl
              refine ite_yes (wanted_of rfl rfl rfl rfl hg) ?_
              clear hg
              clear hD
              show Oper.wp _ _ ⟨#[c 0, (Value.pointer (some ⟨W0.heap.size, 0, none⟩) : Value), c 2, (Value.int .i64 nn : Value), (Value.int .i64 s1.toNat : Value), c 5, c 6, c 7, c 8, c 9, c 10, c 11, c 12, c 13, c 14, c 15, c 16, c 17, c 18, c 19, c 20, c 21, c 22, c 23, c 24, c 25, c 26, c 27, c 28, c 29, c 30, c 31, c 32, c 33, c 34, vals 14, vals 0, vals 1, vals 2, vals 3, vals 4, vals 5, vals 6, vals 7, vals 8, vals 9, vals 10, vals 11, vals 12, vals 13, c 50, c 51, c 52, c 53], []⟩ w K _
              refine wp_load_all 49 (.tmp 1) rfl W0.heap.size rfl (r6.adds hC) Try.underlying49 rfl HI.out ?_
              exact hK _ _ (Adds.refl _) rfl
            · refine ⟨fun _ _ _ => rfl, fun c _ vals w hC hD K hK => ?_⟩
              have hg : vals 7 = .bool true := hD 7 rfl
              refine ite_yes (wanted_of rfl rfl rfl rfl hg) ?_
              clear hg
              clear hD
              show Oper.wp _ _ ⟨#[c 0, (Value.pointer (some ⟨W0.heap.size, 0, none⟩) : Value), c 2, (Value.int .i64 nn : Value), (Value.int .i64 s1.toNat : Value), c 5, c 6, c 7, c 8, c 9, c 10, c 11, c 12, c 13, c 14, c 15, c 16, c 17, c 18, c 19, c 20, c 21, c 22, c 23, c 24, c 25, c 26, c 27, c 28, c 29, c 30, c 31, c 32, c 33, c 34, vals 14, vals 0, vals 1, vals 2, vals 3, vals 4, vals 5, vals 6, vals 7, vals 8, vals 9, vals 10, vals 11, vals 12, vals 13, c 50, c 51, c 52, c 53], []⟩ w K _
              go_wp2_with fail
              exact hK _ _ (Adds.refl _) (by rfl)
            · refine ⟨fun _ _ _ => rfl, fun c _ vals w hC hD K hK => ?_⟩
              have hg : vals 7 = .bool true := hD 7 rfl
              refine ite_yes (wanted_of rfl rfl rfl rfl hg) ?_
              clear hg
              clear hD
              show Oper.wp _ _ ⟨#[c 0, (Value.pointer (some ⟨W0.heap.size, 0, none⟩) : Value), c 2, (Value.int .i64 nn : Value), (Value.int .i64 s1.toNat : Value), c 5, c 6, c 7, c 8, c 9, c 10, c 11, c 12, c 13, c 14, c 15, c 16, c 17, c 18, c 19, c 20, c 21, c 22, c 23, c 24, c 25, c 26, c 27, c 28, c 29, c 30, c 31, c 32, c 33, c 34, vals 14, vals 0, vals 1, vals 2, vals 3, vals 4, vals 5, vals 6, vals 7, vals 8, vals 9, vals 10, vals 11, vals 12, vals 13, c 50, c 51, c 52, c 53], []⟩ w K _
              go_wp2_with fail
              exact hK _ _ (Adds.refl _) (by rfl)
            · refine ⟨fun _ _ _ => rfl, fun c _ vals w hC hD K hK => ?_⟩
              have h9 : vals 9 = .int .i64 s1.toNat := hD 9 rfl
              have h10 : vals 10 = .int .i64 nn := hD 10 rfl
              have hg : vals 7 = .bool true := hD 7 rfl
              refine ite_yes (wanted_of rfl rfl rfl rfl hg) ?_
              clear hg
              clear hD
              obtain ⟨vals, rfl⟩ := upd_of (vals := vals) (j := 9) (x := Value.int .i64 s1.toNat) h9
              clear h9
              obtain ⟨vals, rfl⟩ := upd_of (vals := vals) (j := 10) (x := Value.int .i64 nn) h10
              clear h10
              show Oper.wp _ _ ⟨#[c 0, (Value.pointer (some ⟨W0.heap.size, 0, none⟩) : Value), c 2, (Value.int .i64 nn : Value), (Value.int .i64 s1.toNat : Value), c 5, c 6, c 7, c 8, c 9, c 10, c 11, c 12, c 13, c 14, c 15, c 16, c 17, c 18, c 19, c 20, c 21, c 22, c 23, c 24, c 25, c 26, c 27, c 28, c 29, c 30, c 31, c 32, c 33, c 34, vals 14, vals 0, vals 1, vals 2, vals 3, vals 4, vals 5, vals 6, vals 7, vals 8, (Value.int .i64 s1.toNat : Value), (Value.int .i64 nn : Value), vals 11, vals 12, vals 13, c 50, c 51, c 52, c 53], []⟩ w K _
              go_wp2_with fail
              refine (cell_laid_as _ 2 s1.toNat nn md HM.out).mono ?_
              rintro e w' ⟨rfl, hb⟩
              exact hK _ _ hb rfl
            · refine ⟨fun _ _ _ => rfl, fun c _ vals w hC hD K hK => ?_⟩
              have h8 : vals 8 = .agg (cs.map B8).toArray := hD 8 rfl
              have h11 : vals 11 = .agg (md.map B8).toArray := hD 11 rfl
              have hg : vals 7 = .bool true := hD 7 rfl
              refine ite_yes (wanted_of rfl rfl rfl rfl hg) ?_
              clear hg
              clear hD
              obtain ⟨vals, rfl⟩ := upd_of (vals := vals) (j := 8) (x := Value.agg (cs.map B8).toArray) h8
              clear h8
              obtain ⟨vals, rfl⟩ := upd_of (vals := vals) (j := 11) (x := Value.agg (md.map B8).toArray) h11
              clear h11
              show Oper.wp _ _ ⟨#[c 0, (Value.pointer (some ⟨W0.heap.size, 0, none⟩) : Value), c 2, (Value.int .i64 nn : Value), (Value.int .i64 s1.toNat : Value), c 5, c 6, c 7, c 8, c 9, c 10, c 11, c 12, c 13, c 14, c 15, c 16, c 17, c 18, c 19, c 20, c 21, c 22, c 23, c 24, c 25, c 26, c 27, c 28, c 29, c 30, c 31, c 32, c 33, c 34, vals 14, vals 0, vals 1, vals 2, vals 3, vals 4, vals 5, vals 6, vals 7, (Value.agg (cs.map B8).toArray : Value), vals 9, vals 10, (Value.agg (md.map B8).toArray : Value), vals 12, vals 13, c 50, c 51, c 52, c 53], []⟩ w K _
              refine wp_eql_agg 49 49 (.tmp 44) (.tmp 47) rfl _ _ rfl rfl (by kernel_rfl) b1 (HE1 _) ?_
              exact hK _ _ (Adds.refl _) rfl
            · refine ⟨fun _ _ _ => rfl, fun c _ vals w hC hD K hK => ?_⟩
              have h7 : vals 7 = .bool true := hD 7 rfl
              have h12 : vals 12 = .bool b1 := hD 12 rfl
              refine ite_yes (wanted_none rfl) ?_
              clear hD
              obtain ⟨vals, rfl⟩ := upd_of (vals := vals) (j := 7) (x := Value.bool true) h7
              clear h7
              obtain ⟨vals, rfl⟩ := upd_of (vals := vals) (j := 12) (x := Value.bool b1) h12
              clear h12
              show Oper.wp _ _ ⟨#[c 0, (Value.pointer (some ⟨W0.heap.size, 0, none⟩) : Value), c 2, (Value.int .i64 nn : Value), (Value.int .i64 s1.toNat : Value), c 5, c 6, c 7, c 8, c 9, c 10, c 11, c 12, c 13, c 14, c 15, c 16, c 17, c 18, c 19, c 20, c 21, c 22, c 23, c 24, c 25, c 26, c 27, c 28, c 29, c 30, c 31, c 32, c 33, c 34, vals 14, vals 0, vals 1, vals 2, vals 3, vals 4, vals 5, vals 6, (Value.bool true : Value), vals 8, vals 9, vals 10, vals 11, (Value.bool b1 : Value), vals 13, c 50, c 51, c 52, c 53], []⟩ w K _
              go_wp2_with fail
              exact hK _ _ (Adds.refl _) (by rfl)
            · refine ⟨fun _ _ _ => rfl, fun c _ vals w hC hD K hK => ?_⟩
              have h13 : vals 13 = .bool b1 := hD 13 rfl
              refine ite_yes (wanted_none rfl) ?_
              clear hD
              obtain ⟨vals, rfl⟩ := upd_of (vals := vals) (j := 13) (x := Value.bool b1) h13
              clear h13
              show Oper.wp _ _ ⟨#[c 0, (Value.pointer (some ⟨W0.heap.size, 0, none⟩) : Value), c 2, (Value.int .i64 nn : Value), (Value.int .i64 s1.toNat : Value), c 5, c 6, c 7, c 8, c 9, c 10, c 11, c 12, c 13, c 14, c 15, c 16, c 17, c 18, c 19, c 20, c 21, c 22, c 23, c 24, c 25, c 26, c 27, c 28, c 29, c 30, c 31, c 32, c 33, c 34, vals 14, vals 0, vals 1, vals 2, vals 3, vals 4, vals 5, vals 6, vals 7, vals 8, vals 9, vals 10, vals 11, vals 12, (Value.bool b1 : Value), c 50, c 51, c 52, c 53], []⟩ w K _
              go_wp2_with fail
              exact hK _ _ (Adds.refl _) (by rfl)
            intro vals w' hC hΦ
            have h14 : vals 14 = .bool b1 := hΦ 14 (by decide)
            clear hΦ
            simp only [List.getD_eq_getElem?_getD, List.getElem?_cons_zero, List.getElem?_cons_succ, Option.getD_some]
            simp only [h14]
            try simp only [tuple_undef]
            have q8 := q6.adds hC
            have b8 := b6.trans (hC.mono b6.size)
            clear q6 r6 b6 hC HE1
            cases b1 with
            | true =>
              have hread : Cell.read cs = (2, (s1.toNat : Int), nn) := by
                unfold Cell.read
                rw [if_neg (by rw [HB.out]; decide), HN.out, HIN.out, if_neg (by decide), if_neg hne1.out, HS.out, HMD.out, if_pos (by rw [HB1.out, decide_eq_true H8.out]; rfl)]
              have HR := Lib.hid hread
              clear hread
              go_wp2_with (first
                | (refine wpList_store_all rfl 57 (.tmp 2) (.tmp 52) rfl (W0.heap.size + 1) rfl (C := recordOf (2, (s1.toNat : Int), nn)) rfl q8 rfl size57 (record_one _) ?_))
              exact bodyPost_cell rfl rfl rfl (q8.setRow (recordOf (2, (s1.toNat : Int), nn))) rfl Try.underlying57 rfl size57 ⟨by rw [HR.out], b8.setRow (g := W0.heap.size + 1) (by omega) (recordOf (2, (s1.toNat : Int), nn)).toArray⟩
            | false =>
              have hread : Cell.read cs = (3, 0, 0) := by
                unfold Cell.read
                rw [if_neg (by rw [HB.out]; decide), HN.out, HIN.out, if_neg (by decide), if_neg hne1.out, HS.out, HMD.out, if_neg (by rw [HB1.out, Bool.and_false]; decide)]
              have HR := Lib.hid hread
              clear hread
              go_wp2_with (first
                | (refine wpList_store_all rfl 57 (.tmp 2) (.tmp 53) rfl (W0.heap.size + 1) rfl (C := recordOf (3, 0, 0)) rfl q8 rfl size57 (record_one _) ?_))
              exact bodyPost_cell rfl rfl rfl (q8.setRow (recordOf (3, 0, 0))) rfl Try.underlying57 rfl size57 ⟨by rw [HR.out], b8.setRow (g := W0.heap.size + 1) (by omega) (recordOf (3, 0, 0)).toArray⟩
          · have H8 := Lib.hid h8
            have hread : Cell.read cs = (3, 0, 0) := by
              have hne1 : ¬ (cs == Cell.made 1 0 nn.toNat) = true := by
                intro hx
                rw [beq_iff_eq] at hx
                have := HS0.out
                rw [hx, Cell.made_head] at this
                exact H1.out this.symm
              unfold Cell.read
              rw [if_neg (by rw [HB.out]; decide), HN.out, HIN.out, if_neg (by decide), if_neg hne1, HS.out, if_neg]
              intro hx
              rw [Bool.and_eq_true, decide_eq_true_eq] at hx
              exact H8.out hx.1
            have HR := Lib.hid hread
            clear hread
            go_wp2_with fail
            try simp only [Act.put, List.setIfInBounds_toArray, List.set_cons_succ, List.set_cons_zero]
            refine wp_region_adds (fun c vals => ⟨#[c 0, (Value.pointer (some ⟨W0.heap.size, 0, none⟩) : Value), c 2, (Value.int .i64 nn : Value), (Value.int .i64 s1.toNat : Value), c 5, c 6, c 7, c 8, c 9, c 10, c 11, c 12, c 13, c 14, c 15, c 16, c 17, c 18, c 19, c 20, c 21, c 22, vals 9, vals 0, vals 1, vals 2, vals 3, vals 4, vals 5, vals 6, vals 7, vals 8, c 33, c 34, c 35, c 36, c 37, c 38, c 39, c 40, c 41, c 42, c 43, c 44, c 45, c 46, c 47, c 48, c 49, c 50, c 51, c 52, c 53], []⟩) (fun t => [_, undef, _, undef, undef, _, _, _, _, _, _, _, _, _, _, _, _, _, _, _, _, _, _, undef, undef, undef, undef, undef, undef, undef, undef, undef, undef, _, _, _, _, _, _, _, _, _, _, _, _, _, _, _, _, _, _, _, _, _].getD t undef) (fun i => [_, _, _, _, _, _, _, _, _, _].getD i undef) (by kernel_rfl)
              [[], [0], [0, 1], [0, 1, 2], [0, 1, 2, 3], [0, 1, 2, 3], [0, 1, 2, 3, 5], [0, 1, 2, 3, 4, 5, 6], [0, 1, 2, 3, 4, 5, 6, 7], [0, 1, 2, 3, 4, 5, 6, 7, 8]] (by kernel_rfl) (fun _ => True) trivial
              [fun x _ => x = (Value.pointer (some ⟨W0.heap.size, 0, none⟩) : Value),
               fun x _ => x = (B8 2 : Value),
               fun x _ => x = (Value.bool false : Value),
               fun x _ => x = (Value.bool false : Value),
               fun x _ => x = (undef : Value),
               fun x _ => x = (undef : Value),
               fun x _ => x = (undef : Value),
               fun x _ => x = (undef : Value),
               fun x _ => x = ((Value.bool false) : Value),
               fun x _ => x = ((Value.bool false) : Value)]
              ⟨fun _ _ _ h _ => h, fun _ _ _ h _ => h, fun _ _ _ h _ => h, fun _ _ _ h _ => h, fun _ _ _ h _ => h, fun _ _ _ h _ => h, fun _ _ _ h _ => h, fun _ _ _ h _ => h, fun _ _ _ h _ => h, fun _ _ _ h _ => h, trivial⟩
              ⟨?_, ?_, ?_, ?_, ?_, ?_, ?_, ?_, ?_, ?_, trivial⟩ ?_
            · refine ⟨fun _ _ _ => rfl, fun c _ vals w hC hD K hK => ?_⟩
              refine ite_yes (wanted_none rfl) ?_
              clear hD
              show Oper.wp _ _ ⟨#[c 0, (Value.pointer (some ⟨W0.heap.size, 0, none⟩) : Value), c 2, (Value.int .i64 nn : Value), (Value.int .i64 s1.toNat : Value), c 5, c 6, c 7, c 8, c 9, c 10, c 11, c 12, c 13, c 14, c 15, c 16, c 17, c 18, c 19, c 20, c 21, c 22, vals 9, vals 0, vals 1, vals 2, vals 3, vals 4, vals 5, vals 6, vals 7, vals 8, c 33, c 34, c 35, c 36, c 37, c 38, c 39, c 40, c 41, c 42, c 43, c 44, c 45, c 46, c 47, c 48, c 49, c 50, c 51, c 52, c 53], []⟩ w K _
              go_wp2_with fail
              exact hK _ _ (Adds.refl _) (by first | rfl | (simp; done) | (simp; omega))
            · refine ⟨fun _ _ _ => rfl, fun c _ vals w hC hD K hK => ?_⟩
              have h0 : vals 0 = .pointer (some ⟨W0.heap.size, 0, none⟩) := hD 0 rfl
              refine ite_yes (wanted_none rfl) ?_
              clear hD
              obtain ⟨vals, rfl⟩ := upd_of (vals := vals) (j := 0) (x := Value.pointer (some ⟨W0.heap.size, 0, none⟩)) h0
              clear h0
              show Oper.wp _ _ ⟨#[c 0, (Value.pointer (some ⟨W0.heap.size, 0, none⟩) : Value), c 2, (Value.int .i64 nn : Value), (Value.int .i64 s1.toNat : Value), c 5, c 6, c 7, c 8, c 9, c 10, c 11, c 12, c 13, c 14, c 15, c 16, c 17, c 18, c 19, c 20, c 21, c 22, vals 9, (Value.pointer (some ⟨W0.heap.size, 0, none⟩) : Value), vals 1, vals 2, vals 3, vals 4, vals 5, vals 6, vals 7, vals 8, c 33, c 34, c 35, c 36, c 37, c 38, c 39, c 40, c 41, c 42, c 43, c 44, c 45, c 46, c 47, c 48, c 49, c 50, c 51, c 52, c 53], []⟩ w K _
              have hcc := (r3.adds hC).at (j := 0) (by rw [hc]; decide) 0
              rw [HS0.out] at hcc
              go_wp2_with fail
              exact hK _ _ (Adds.refl _) (by first | rfl | (simp; done) | (simp; omega))
            · refine ⟨fun _ _ _ => rfl, fun c _ vals w hC hD K hK => ?_⟩
              have h1 : vals 1 = B8 2 := hD 1 rfl
              refine ite_yes (wanted_none rfl) ?_
              clear hD
              obtain ⟨vals, rfl⟩ := upd_of (vals := vals) (j := 1) (x := B8 2) h1
              clear h1
              show Oper.wp _ _ ⟨#[c 0, (Value.pointer (some ⟨W0.heap.size, 0, none⟩) : Value), c 2, (Value.int .i64 nn : Value), (Value.int .i64 s1.toNat : Value), c 5, c 6, c 7, c 8, c 9, c 10, c 11, c 12, c 13, c 14, c 15, c 16, c 17, c 18, c 19, c 20, c 21, c 22, vals 9, vals 0, (B8 2 : Value), vals 2, vals 3, vals 4, vals 5, vals 6, vals 7, vals 8, c 33, c 34, c 35, c 36, c 37, c 38, c 39, c 40, c 41, c 42, c 43, c 44, c 45, c 46, c 47, c 48, c 49, c 50, c 51, c 52, c 53], []⟩ w K _
              go_wp2_with fail
              exact hK _ _ (Adds.refl _) (by first | rfl | (simp; done) | (simp; omega))
            · refine ⟨fun _ _ _ => rfl, fun c _ vals w hC hD K hK => ?_⟩
              have h2 : vals 2 = .bool false := hD 2 rfl
              refine ite_yes (wanted_none rfl) ?_
              clear hD
              obtain ⟨vals, rfl⟩ := upd_of (vals := vals) (j := 2) (x := Value.bool false) h2
              clear h2
              show Oper.wp _ _ ⟨#[c 0, (Value.pointer (some ⟨W0.heap.size, 0, none⟩) : Value), c 2, (Value.int .i64 nn : Value), (Value.int .i64 s1.toNat : Value), c 5, c 6, c 7, c 8, c 9, c 10, c 11, c 12, c 13, c 14, c 15, c 16, c 17, c 18, c 19, c 20, c 21, c 22, vals 9, vals 0, vals 1, (Value.bool false : Value), vals 3, vals 4, vals 5, vals 6, vals 7, vals 8, c 33, c 34, c 35, c 36, c 37, c 38, c 39, c 40, c 41, c 42, c 43, c 44, c 45, c 46, c 47, c 48, c 49, c 50, c 51, c 52, c 53], []⟩ w K _
              go_wp2_with fail
              exact hK _ _ (Adds.refl _) (by rfl)
            · refine ⟨fun _ _ _ => rfl, fun c _ vals w hC hD K hK => ?_⟩
              have hg : vals 3 = .bool (!true) := hD 3 rfl
              refine ite_no (unwanted_of rfl rfl rfl rfl hg) ?_
              exact hK undef w (Adds.refl _) rfl
            · refine ⟨fun _ _ _ => rfl, fun c _ vals w hC hD K hK => ?_⟩
              have hg : vals 3 = .bool (!true) := hD 3 rfl
              refine ite_no (unwanted_of rfl rfl rfl rfl hg) ?_
              exact hK undef w (Adds.refl _) rfl
            · refine ⟨fun _ _ _ => rfl, fun c _ vals w hC hD K hK => ?_⟩
              have hg : vals 3 = .bool (!true) := hD 3 rfl
              refine ite_no (unwanted_of rfl rfl rfl rfl hg) ?_
              exact hK undef w (Adds.refl _) rfl
            · refine ⟨fun _ _ _ => rfl, fun c _ vals w hC hD K hK => ?_⟩
              have hg : vals 3 = .bool (!true) := hD 3 rfl
              refine ite_no (unwanted_of rfl rfl rfl rfl hg) ?_
              exact hK undef w (Adds.refl _) rfl
            · refine ⟨fun _ _ _ => rfl, fun c _ vals w hC hD K hK => ?_⟩
              have h3 : vals 3 = .bool false := hD 3 rfl
              have h7 : vals 7 = undef := hD 7 rfl
              refine ite_yes (wanted_none rfl) ?_
              clear hD
              obtain ⟨vals, rfl⟩ := upd_of (vals := vals) (j := 3) (x := Value.bool false) h3
              clear h3
              obtain ⟨vals, rfl⟩ := upd_of (vals := vals) (j := 7) (x := undef) h7
              clear h7
              show Oper.wp _ _ ⟨#[c 0, (Value.pointer (some ⟨W0.heap.size, 0, none⟩) : Value), c 2, (Value.int .i64 nn : Value), (Value.int .i64 s1.toNat : Value), c 5, c 6, c 7, c 8, c 9, c 10, c 11, c 12, c 13, c 14, c 15, c 16, c 17, c 18, c 19, c 20, c 21, c 22, vals 9, vals 0, vals 1, vals 2, (Value.bool false : Value), vals 4, vals 5, vals 6, (undef : Value), vals 8, c 33, c 34, c 35, c 36, c 37, c 38, c 39, c 40, c 41, c 42, c 43, c 44, c 45, c 46, c 47, c 48, c 49, c 50, c 51, c 52, c 53], []⟩ w K _
              go_wp2_with fail
              exact hK _ _ (Adds.refl _) (by rfl)
            · refine ⟨fun _ _ _ => rfl, fun c _ vals w hC hD K hK => ?_⟩
              have h8 : vals 8 = (Value.bool false) := hD 8 rfl
              refine ite_yes (wanted_none rfl) ?_
              clear hD
              obtain ⟨vals, rfl⟩ := upd_of (vals := vals) (j := 8) (x := (Value.bool false)) h8
              clear h8
              show Oper.wp _ _ ⟨#[c 0, (Value.pointer (some ⟨W0.heap.size, 0, none⟩) : Value), c 2, (Value.int .i64 nn : Value), (Value.int .i64 s1.toNat : Value), c 5, c 6, c 7, c 8, c 9, c 10, c 11, c 12, c 13, c 14, c 15, c 16, c 17, c 18, c 19, c 20, c 21, c 22, vals 9, vals 0, vals 1, vals 2, vals 3, vals 4, vals 5, vals 6, vals 7, ((Value.bool false) : Value), c 33, c 34, c 35, c 36, c 37, c 38, c 39, c 40, c 41, c 42, c 43, c 44, c 45, c 46, c 47, c 48, c 49, c 50, c 51, c 52, c 53], []⟩ w K _
              go_wp2_with fail
              exact hK _ _ (Adds.refl _) (by rfl)
            intro vals w' hC hΦ
            have h9 : vals 9 = (Value.bool false) := hΦ 9 (by decide)
            clear hΦ
            simp only [List.getD_eq_getElem?_getD, List.getElem?_cons_zero, List.getElem?_cons_succ, Option.getD_some]
            simp only [h9]
            try simp only [tuple_undef]
            have q6 := q3.adds hC
            have r6 := r3.adds hC
            have b6 := b3.trans (hC.mono b3.size)
            clear q3 r3 b3 hC
            rename_i w6 _
            go_wp2_with fail
            try simp only [Act.put, List.setIfInBounds_toArray, List.set_cons_succ, List.set_cons_zero]
            refine wp_region_adds (fun c vals => ⟨#[c 0, (Value.pointer (some ⟨W0.heap.size, 0, none⟩) : Value), c 2, (Value.int .i64 nn : Value), (Value.int .i64 s1.toNat : Value), c 5, c 6, c 7, c 8, c 9, c 10, c 11, c 12, c 13, c 14, c 15, c 16, c 17, c 18, c 19, c 20, c 21, c 22, c 23, c 24, c 25, c 26, c 27, c 28, c 29, c 30, c 31, c 32, c 33, c 34, vals 14, vals 0, vals 1, vals 2, vals 3, vals 4, vals 5, vals 6, vals 7, vals 8, vals 9, vals 10, vals 11, vals 12, vals 13, c 50, c 51, c 52, c 53], []⟩) (fun t => [_, undef, _, undef, undef, _, _, _, _, _, _, _, _, _, _, _, _, _, _, _, _, _, _, _, _, _, _, _, _, _, _, _, _, _, _, undef, undef, undef, undef, undef, undef, undef, undef, undef, undef, undef, undef, undef, undef, undef, _, _, _, _].getD t undef) (fun i => [_, _, _, _, _, _, _, _, _, _, _, _, _, _, _].getD i undef) (by kernel_rfl)
              [[], [0], [0, 1], [0, 1, 2], [0, 1, 2, 3], [0, 1, 2, 3, 4], [0, 1, 2, 3, 4, 5], [0, 1, 2, 3, 4, 5, 6], [0, 1, 2, 3, 4, 5, 6, 7], [0, 1, 2, 3, 4, 5, 6, 7], [0, 1, 2, 3, 4, 5, 6, 7], [0, 1, 2, 3, 4, 5, 6, 7, 9, 10], [0, 1, 2, 3, 4, 5, 6, 7, 8, 9, 10, 11], [0, 1, 2, 3, 4, 5, 6, 7, 8, 9, 10, 11, 12], [0, 1, 2, 3, 4, 5, 6, 7, 8, 9, 10, 11, 12, 13]] (by kernel_rfl) (fun _ => True) trivial
              [fun x _ => x = (Value.pointer (some ⟨W0.heap.size, 0, none⟩) : Value),
               fun x _ => x = (B8 2 : Value),
               fun x _ => x = (Value.bool true : Value),
               fun x _ => x = (Value.bool true : Value),
               fun x _ => x = (Value.int .i64 s1.toNat : Value),
               fun x _ => x = (Value.bool false : Value),
               fun x _ => x = (Value.bool false : Value),
               fun x _ => x = (Value.bool false : Value),
               fun x _ => x = (undef : Value),
               fun x _ => x = (undef : Value),
               fun x _ => x = (undef : Value),
               fun x _ => x = (undef : Value),
               fun x _ => x = (undef : Value),
               fun x _ => x = ((Value.bool false) : Value),
               fun x _ => x = ((Value.bool false) : Value)]
              ⟨fun _ _ _ h _ => h, fun _ _ _ h _ => h, fun _ _ _ h _ => h, fun _ _ _ h _ => h, fun _ _ _ h _ => h, fun _ _ _ h _ => h, fun _ _ _ h _ => h, fun _ _ _ h _ => h, fun _ _ _ h _ => h, fun _ _ _ h _ => h, fun _ _ _ h _ => h, fun _ _ _ h _ => h, fun _ _ _ h _ => h, fun _ _ _ h _ => h, fun _ _ _ h _ => h, trivial⟩
              ⟨?_, ?_, ?_, ?_, ?_, ?_, ?_, ?_, ?_, ?_, ?_, ?_, ?_, ?_, ?_, trivial⟩ ?_
            · refine ⟨fun _ _ _ => rfl, fun c _ vals w hC hD K hK => ?_⟩
              refine ite_yes (wanted_none rfl) ?_
              clear hD
              show Oper.wp _ _ ⟨#[c 0, (Value.pointer (some ⟨W0.heap.size, 0, none⟩) : Value), c 2, (Value.int .i64 nn : Value), (Value.int .i64 s1.toNat : Value), c 5, c 6, c 7, c 8, c 9, c 10, c 11, c 12, c 13, c 14, c 15, c 16, c 17, c 18, c 19, c 20, c 21, c 22, c 23, c 24, c 25, c 26, c 27, c 28, c 29, c 30, c 31, c 32, c 33, c 34, vals 14, vals 0, vals 1, vals 2, vals 3, vals 4, vals 5, vals 6, vals 7, vals 8, vals 9, vals 10, vals 11, vals 12, vals 13, c 50, c 51, c 52, c 53], []⟩ w K _
              go_wp2_with fail
              exact hK _ _ (Adds.refl _) (by first | rfl | (simp; done) | (simp; omega))
            · refine ⟨fun _ _ _ => rfl, fun c _ vals w hC hD K hK => ?_⟩
              have h0 : vals 0 = .pointer (some ⟨W0.heap.size, 0, none⟩) := hD 0 rfl
              refine ite_yes (wanted_none rfl) ?_
              clear hD
              obtain ⟨vals, rfl⟩ := upd_of (vals := vals) (j := 0) (x := Value.pointer (some ⟨W0.heap.size, 0, none⟩)) h0
              clear h0
              show Oper.wp _ _ ⟨#[c 0, (Value.pointer (some ⟨W0.heap.size, 0, none⟩) : Value), c 2, (Value.int .i64 nn : Value), (Value.int .i64 s1.toNat : Value), c 5, c 6, c 7, c 8, c 9, c 10, c 11, c 12, c 13, c 14, c 15, c 16, c 17, c 18, c 19, c 20, c 21, c 22, c 23, c 24, c 25, c 26, c 27, c 28, c 29, c 30, c 31, c 32, c 33, c 34, vals 14, (Value.pointer (some ⟨W0.heap.size, 0, none⟩) : Value), vals 1, vals 2, vals 3, vals 4, vals 5, vals 6, vals 7, vals 8, vals 9, vals 10, vals 11, vals 12, vals 13, c 50, c 51, c 52, c 53], []⟩ w K _
              have hcc := (r6.adds hC).at (j := 0) (by rw [hc]; decide) 0
              rw [HS0.out] at hcc
              go_wp2_with fail
              exact hK _ _ (Adds.refl _) (by first | rfl | (simp; done) | (simp; omega))
            · refine ⟨fun _ _ _ => rfl, fun c _ vals w hC hD K hK => ?_⟩
              have h1 : vals 1 = B8 2 := hD 1 rfl
              refine ite_yes (wanted_none rfl) ?_
              clear hD
              obtain ⟨vals, rfl⟩ := upd_of (vals := vals) (j := 1) (x := B8 2) h1
              clear h1
              show Oper.wp _ _ ⟨#[c 0, (Value.pointer (some ⟨W0.heap.size, 0, none⟩) : Value), c 2, (Value.int .i64 nn : Value), (Value.int .i64 s1.toNat : Value), c 5, c 6, c 7, c 8, c 9, c 10, c 11, c 12, c 13, c 14, c 15, c 16, c 17, c 18, c 19, c 20, c 21, c 22, c 23, c 24, c 25, c 26, c 27, c 28, c 29, c 30, c 31, c 32, c 33, c 34, vals 14, vals 0, (B8 2 : Value), vals 2, vals 3, vals 4, vals 5, vals 6, vals 7, vals 8, vals 9, vals 10, vals 11, vals 12, vals 13, c 50, c 51, c 52, c 53], []⟩ w K _
              go_wp2_with fail
              exact hK _ _ (Adds.refl _) (by first | rfl | (simp; done) | (simp; omega))
            · refine ⟨fun _ _ _ => rfl, fun c _ vals w hC hD K hK => ?_⟩
              have h2 : vals 2 = .bool true := hD 2 rfl
              refine ite_yes (wanted_none rfl) ?_
              clear hD
              obtain ⟨vals, rfl⟩ := upd_of (vals := vals) (j := 2) (x := Value.bool true) h2
              clear h2
              show Oper.wp _ _ ⟨#[c 0, (Value.pointer (some ⟨W0.heap.size, 0, none⟩) : Value), c 2, (Value.int .i64 nn : Value), (Value.int .i64 s1.toNat : Value), c 5, c 6, c 7, c 8, c 9, c 10, c 11, c 12, c 13, c 14, c 15, c 16, c 17, c 18, c 19, c 20, c 21, c 22, c 23, c 24, c 25, c 26, c 27, c 28, c 29, c 30, c 31, c 32, c 33, c 34, vals 14, vals 0, vals 1, (Value.bool true : Value), vals 3, vals 4, vals 5, vals 6, vals 7, vals 8, vals 9, vals 10, vals 11, vals 12, vals 13, c 50, c 51, c 52, c 53], []⟩ w K _
              go_wp2_with fail
              exact hK _ _ (Adds.refl _) (by rfl)
            · refine ⟨fun _ _ _ => rfl, fun c _ vals w hC hD K hK => ?_⟩
              have hg : vals 3 = .bool true := hD 3 rfl
              refine ite_yes (wanted_of rfl rfl rfl rfl hg) ?_
              clear hg
              clear hD
              show Oper.wp _ _ ⟨#[c 0, (Value.pointer (some ⟨W0.heap.size, 0, none⟩) : Value), c 2, (Value.int .i64 nn : Value), (Value.int .i64 s1.toNat : Value), c 5, c 6, c 7, c 8, c 9, c 10, c 11, c 12, c 13, c 14, c 15, c 16, c 17, c 18, c 19, c 20, c 21, c 22, c 23, c 24, c 25, c 26, c 27, c 28, c 29, c 30, c 31, c 32, c 33, c 34, vals 14, vals 0, vals 1, vals 2, vals 3, vals 4, vals 5, vals 6, vals 7, vals 8, vals 9, vals 10, vals 11, vals 12, vals 13, c 50, c 51, c 52, c 53], []⟩ w K _
              go_wp2_with fail
              exact hK _ _ (Adds.refl _) (by rfl)
            · refine ⟨fun _ _ _ => rfl, fun c _ vals w hC hD K hK => ?_⟩
              have h4 : vals 4 = .int .i64 s1.toNat := hD 4 rfl
              have hg : vals 3 = .bool true := hD 3 rfl
              refine ite_yes (wanted_of rfl rfl rfl rfl hg) ?_
              clear hg
              clear hD
              obtain ⟨vals, rfl⟩ := upd_of (vals := vals) (j := 4) (x := Value.int .i64 s1.toNat) h4
              clear h4
              show Oper.wp _ _ ⟨#[c 0, (Value.pointer (some ⟨W0.heap.size, 0, none⟩) : Value), c 2, (Value.int .i64 nn : Value), (Value.int .i64 s1.toNat : Value), c 5, c 6, c 7, c 8, c 9, c 10, c 11, c 12, c 13, c 14, c 15, c 16, c 17, c 18, c 19, c 20, c 21, c 22, c 23, c 24, c 25, c 26, c 27, c 28, c 29, c 30, c 31, c 32, c 33, c 34, vals 14, vals 0, vals 1, vals 2, vals 3, (Value.int .i64 s1.toNat : Value), vals 5, vals 6, vals 7, vals 8, vals 9, vals 10, vals 11, vals 12, vals 13, c 50, c 51, c 52, c 53], []⟩ w K _
              go_wp2_with fail
              exact hK _ _ (Adds.refl _) (by first | rfl | (simp; done) | (simp; omega))
            · refine ⟨fun _ _ _ => rfl, fun c _ vals w hC hD K hK => ?_⟩
              have h3 : vals 3 = .bool true := hD 3 rfl
              have h5 : vals 5 = .bool false := hD 5 rfl
              refine ite_yes (wanted_none rfl) ?_
              clear hD
              obtain ⟨vals, rfl⟩ := upd_of (vals := vals) (j := 3) (x := Value.bool true) h3
              clear h3
              obtain ⟨vals, rfl⟩ := upd_of (vals := vals) (j := 5) (x := Value.bool false) h5
              clear h5
              show Oper.wp _ _ ⟨#[c 0, (Value.pointer (some ⟨W0.heap.size, 0, none⟩) : Value), c 2, (Value.int .i64 nn : Value), (Value.int .i64 s1.toNat : Value), c 5, c 6, c 7, c 8, c 9, c 10, c 11, c 12, c 13, c 14, c 15, c 16, c 17, c 18, c 19, c 20, c 21, c 22, c 23, c 24, c 25, c 26, c 27, c 28, c 29, c 30, c 31, c 32, c 33, c 34, vals 14, vals 0, vals 1, vals 2, (Value.bool true : Value), vals 4, (Value.bool false : Value), vals 6, vals 7, vals 8, vals 9, vals 10, vals 11, vals 12, vals 13, c 50, c 51, c 52, c 53], []⟩ w K _
              go_wp2_with fail
              exact hK _ _ (Adds.refl _) (by rfl)
            · refine ⟨fun _ _ _ => rfl, fun c _ vals w hC hD K hK => ?_⟩
              have h6 : vals 6 = .bool false := hD 6 rfl
              refine ite_yes (wanted_none rfl) ?_
              clear hD
              obtain ⟨vals, rfl⟩ := upd_of (vals := vals) (j := 6) (x := Value.bool false) h6
              clear h6
              show Oper.wp _ _ ⟨#[c 0, (Value.pointer (some ⟨W0.heap.size, 0, none⟩) : Value), c 2, (Value.int .i64 nn : Value), (Value.int .i64 s1.toNat : Value), c 5, c 6, c 7, c 8, c 9, c 10, c 11, c 12, c 13, c 14, c 15, c 16, c 17, c 18, c 19, c 20, c 21, c 22, c 23, c 24, c 25, c 26, c 27, c 28, c 29, c 30, c 31, c 32, c 33, c 34, vals 14, vals 0, vals 1, vals 2, vals 3, vals 4, vals 5, (Value.bool false : Value), vals 7, vals 8, vals 9, vals 10, vals 11, vals 12, vals 13, c 50, c 51, c 52, c 53], []⟩ w K _
              go_wp2_with fail
              exact hK _ _ (Adds.refl _) (by rfl)
            · refine ⟨fun _ _ _ => rfl, fun c _ vals w hC hD K hK => ?_⟩
              have hg : vals 7 = .bool (!true) := hD 7 rfl
              refine ite_no (unwanted_of rfl rfl rfl rfl hg) ?_
              exact hK undef w (Adds.refl _) rfl
            · refine ⟨fun _ _ _ => rfl, fun c _ vals w hC hD K hK => ?_⟩
              have hg : vals 7 = .bool (!true) := hD 7 rfl
              refine ite_no (unwanted_of rfl rfl rfl rfl hg) ?_
              exact hK undef w (Adds.refl _) rfl
            · refine ⟨fun _ _ _ => rfl, fun c _ vals w hC hD K hK => ?_⟩
              have hg : vals 7 = .bool (!true) := hD 7 rfl
              refine ite_no (unwanted_of rfl rfl rfl rfl hg) ?_
              exact hK undef w (Adds.refl _) rfl
            · refine ⟨fun _ _ _ => rfl, fun c _ vals w hC hD K hK => ?_⟩
              have hg : vals 7 = .bool (!true) := hD 7 rfl
              refine ite_no (unwanted_of rfl rfl rfl rfl hg) ?_
              exact hK undef w (Adds.refl _) rfl
            · refine ⟨fun _ _ _ => rfl, fun c _ vals w hC hD K hK => ?_⟩
              have hg : vals 7 = .bool (!true) := hD 7 rfl
              refine ite_no (unwanted_of rfl rfl rfl rfl hg) ?_
              exact hK undef w (Adds.refl _) rfl
            · refine ⟨fun _ _ _ => rfl, fun c _ vals w hC hD K hK => ?_⟩
              have h7 : vals 7 = .bool false := hD 7 rfl
              have h12 : vals 12 = undef := hD 12 rfl
              refine ite_yes (wanted_none rfl) ?_
              clear hD
              obtain ⟨vals, rfl⟩ := upd_of (vals := vals) (j := 7) (x := Value.bool false) h7
              clear h7
              obtain ⟨vals, rfl⟩ := upd_of (vals := vals) (j := 12) (x := undef) h12
              clear h12
              show Oper.wp _ _ ⟨#[c 0, (Value.pointer (some ⟨W0.heap.size, 0, none⟩) : Value), c 2, (Value.int .i64 nn : Value), (Value.int .i64 s1.toNat : Value), c 5, c 6, c 7, c 8, c 9, c 10, c 11, c 12, c 13, c 14, c 15, c 16, c 17, c 18, c 19, c 20, c 21, c 22, c 23, c 24, c 25, c 26, c 27, c 28, c 29, c 30, c 31, c 32, c 33, c 34, vals 14, vals 0, vals 1, vals 2, vals 3, vals 4, vals 5, vals 6, (Value.bool false : Value), vals 8, vals 9, vals 10, vals 11, (undef : Value), vals 13, c 50, c 51, c 52, c 53], []⟩ w K _
              go_wp2_with fail
              exact hK _ _ (Adds.refl _) (by rfl)
            · refine ⟨fun _ _ _ => rfl, fun c _ vals w hC hD K hK => ?_⟩
              have h13 : vals 13 = (Value.bool false) := hD 13 rfl
              refine ite_yes (wanted_none rfl) ?_
              clear hD
              obtain ⟨vals, rfl⟩ := upd_of (vals := vals) (j := 13) (x := (Value.bool false)) h13
              clear h13
              show Oper.wp _ _ ⟨#[c 0, (Value.pointer (some ⟨W0.heap.size, 0, none⟩) : Value), c 2, (Value.int .i64 nn : Value), (Value.int .i64 s1.toNat : Value), c 5, c 6, c 7, c 8, c 9, c 10, c 11, c 12, c 13, c 14, c 15, c 16, c 17, c 18, c 19, c 20, c 21, c 22, c 23, c 24, c 25, c 26, c 27, c 28, c 29, c 30, c 31, c 32, c 33, c 34, vals 14, vals 0, vals 1, vals 2, vals 3, vals 4, vals 5, vals 6, vals 7, vals 8, vals 9, vals 10, vals 11, vals 12, ((Value.bool false) : Value), c 50, c 51, c 52, c 53], []⟩ w K _
              go_wp2_with fail
              exact hK _ _ (Adds.refl _) (by rfl)
            intro vals w' hC hΦ
            have h14 : vals 14 = (Value.bool false) := hΦ 14 (by decide)
            clear hΦ
            simp only [List.getD_eq_getElem?_getD, List.getElem?_cons_zero, List.getElem?_cons_succ, Option.getD_some]
            simp only [h14]
            try simp only [tuple_undef]
            have q8 := q6.adds hC
            have b8 := b6.trans (hC.mono b6.size)
            clear q6 r6 b6 hC
            go_wp2_with (first
              | (refine wpList_store_all rfl 57 (.tmp 2) (.tmp 53) rfl (W0.heap.size + 1) rfl (C := recordOf (3, 0, 0)) rfl q8 rfl size57 (record_one _) ?_))
            exact bodyPost_cell rfl rfl rfl (q8.setRow (recordOf (3, 0, 0))) rfl Try.underlying57 rfl size57 ⟨by rw [HR.out], b8.setRow (g := W0.heap.size + 1) (by omega) (recordOf (3, 0, 0)).toArray⟩
        · have H2 := Lib.hid h2
          have e1 : (s0 == 1) = false := by simpa using h1
          have e2 : (s0 == 2) = false := by simpa using h2
          have hread : Cell.read cs = (3, 0, 0) := by
            have hne1 : ¬ (cs == Cell.made 1 0 nn.toNat) = true := by
              intro hx
              rw [beq_iff_eq] at hx
              have := HS0.out
              rw [hx, Cell.made_head] at this
              exact H1.out this.symm
            unfold Cell.read
            rw [if_neg (by rw [HB.out]; decide), HN.out, HIN.out, if_neg (by decide), if_neg hne1, HS.out, if_neg]
            intro hx
            rw [Bool.and_eq_true, beq_iff_eq] at hx
            have := HS0.out
            rw [hx.2, Cell.made_head] at this
            exact H2.out this.symm
          have HR := Lib.hid hread
          clear hread
          go_wp2_with fail
          try simp only [Act.put, List.setIfInBounds_toArray, List.set_cons_succ, List.set_cons_zero]
          refine wp_region_adds (fun c vals => ⟨#[c 0, (Value.pointer (some ⟨W0.heap.size, 0, none⟩) : Value), c 2, (Value.int .i64 nn : Value), (Value.int .i64 s1.toNat : Value), c 5, c 6, c 7, c 8, c 9, c 10, c 11, c 12, c 13, c 14, c 15, c 16, c 17, c 18, c 19, c 20, c 21, c 22, vals 9, vals 0, vals 1, vals 2, vals 3, vals 4, vals 5, vals 6, vals 7, vals 8, c 33, c 34, c 35, c 36, c 37, c 38, c 39, c 40, c 41, c 42, c 43, c 44, c 45, c 46, c 47, c 48, c 49, c 50, c 51, c 52, c 53], []⟩) (fun t => [_, undef, _, undef, undef, _, _, _, _, _, _, _, _, _, _, _, _, _, _, _, _, _, _, undef, undef, undef, undef, undef, undef, undef, undef, undef, undef, _, _, _, _, _, _, _, _, _, _, _, _, _, _, _, _, _, _, _, _, _].getD t undef) (fun i => [_, _, _, _, _, _, _, _, _, _].getD i undef) (by kernel_rfl)
            [[], [0], [0, 1], [0, 1, 2], [0, 1, 2, 3], [0, 1, 2, 3], [0, 1, 2, 3, 5], [0, 1, 2, 3, 4, 5, 6], [0, 1, 2, 3, 4, 5, 6, 7], [0, 1, 2, 3, 4, 5, 6, 7, 8]] (by kernel_rfl) (fun _ => True) trivial
            [fun x _ => x = (Value.pointer (some ⟨W0.heap.size, 0, none⟩) : Value),
             fun x _ => x = (B8 s0 : Value),
             fun x _ => x = (Value.bool false : Value),
             fun x _ => x = (Value.bool false : Value),
             fun x _ => x = (undef : Value),
             fun x _ => x = (undef : Value),
             fun x _ => x = (undef : Value),
             fun x _ => x = (undef : Value),
             fun x _ => x = ((Value.bool false) : Value),
             fun x _ => x = ((Value.bool false) : Value)]
            ⟨fun _ _ _ h _ => h, fun _ _ _ h _ => h, fun _ _ _ h _ => h, fun _ _ _ h _ => h, fun _ _ _ h _ => h, fun _ _ _ h _ => h, fun _ _ _ h _ => h, fun _ _ _ h _ => h, fun _ _ _ h _ => h, fun _ _ _ h _ => h, trivial⟩
            ⟨?_, ?_, ?_, ?_, ?_, ?_, ?_, ?_, ?_, ?_, trivial⟩ ?_
          · refine ⟨fun _ _ _ => rfl, fun c _ vals w hC hD K hK => ?_⟩
            refine ite_yes (wanted_none rfl) ?_
            clear hD
            show Oper.wp _ _ ⟨#[c 0, (Value.pointer (some ⟨W0.heap.size, 0, none⟩) : Value), c 2, (Value.int .i64 nn : Value), (Value.int .i64 s1.toNat : Value), c 5, c 6, c 7, c 8, c 9, c 10, c 11, c 12, c 13, c 14, c 15, c 16, c 17, c 18, c 19, c 20, c 21, c 22, vals 9, vals 0, vals 1, vals 2, vals 3, vals 4, vals 5, vals 6, vals 7, vals 8, c 33, c 34, c 35, c 36, c 37, c 38, c 39, c 40, c 41, c 42, c 43, c 44, c 45, c 46, c 47, c 48, c 49, c 50, c 51, c 52, c 53], []⟩ w K _
            go_wp2_with fail
            exact hK _ _ (Adds.refl _) (by first | rfl | (simp; done) | (simp; omega))
          · refine ⟨fun _ _ _ => rfl, fun c _ vals w hC hD K hK => ?_⟩
            have h0 : vals 0 = .pointer (some ⟨W0.heap.size, 0, none⟩) := hD 0 rfl
            refine ite_yes (wanted_none rfl) ?_
            clear hD
            obtain ⟨vals, rfl⟩ := upd_of (vals := vals) (j := 0) (x := Value.pointer (some ⟨W0.heap.size, 0, none⟩)) h0
            clear h0
            show Oper.wp _ _ ⟨#[c 0, (Value.pointer (some ⟨W0.heap.size, 0, none⟩) : Value), c 2, (Value.int .i64 nn : Value), (Value.int .i64 s1.toNat : Value), c 5, c 6, c 7, c 8, c 9, c 10, c 11, c 12, c 13, c 14, c 15, c 16, c 17, c 18, c 19, c 20, c 21, c 22, vals 9, (Value.pointer (some ⟨W0.heap.size, 0, none⟩) : Value), vals 1, vals 2, vals 3, vals 4, vals 5, vals 6, vals 7, vals 8, c 33, c 34, c 35, c 36, c 37, c 38, c 39, c 40, c 41, c 42, c 43, c 44, c 45, c 46, c 47, c 48, c 49, c 50, c 51, c 52, c 53], []⟩ w K _
            have hcc := (r3.adds hC).at (j := 0) (by rw [hc]; decide) 0
            rw [HS0.out] at hcc
            go_wp2_with fail
            exact hK _ _ (Adds.refl _) (by first | rfl | (simp; done) | (simp; omega))
          · refine ⟨fun _ _ _ => rfl, fun c _ vals w hC hD K hK => ?_⟩
            have h1 : vals 1 = B8 s0 := hD 1 rfl
            refine ite_yes (wanted_none rfl) ?_
            clear hD
            obtain ⟨vals, rfl⟩ := upd_of (vals := vals) (j := 1) (x := B8 s0) h1
            clear h1
            show Oper.wp _ _ ⟨#[c 0, (Value.pointer (some ⟨W0.heap.size, 0, none⟩) : Value), c 2, (Value.int .i64 nn : Value), (Value.int .i64 s1.toNat : Value), c 5, c 6, c 7, c 8, c 9, c 10, c 11, c 12, c 13, c 14, c 15, c 16, c 17, c 18, c 19, c 20, c 21, c 22, vals 9, vals 0, (B8 s0 : Value), vals 2, vals 3, vals 4, vals 5, vals 6, vals 7, vals 8, c 33, c 34, c 35, c 36, c 37, c 38, c 39, c 40, c 41, c 42, c 43, c 44, c 45, c 46, c 47, c 48, c 49, c 50, c 51, c 52, c 53], []⟩ w K _
            go_wp2_with fail
            exact hK _ _ (Adds.refl _) (by first | rfl | (simp; done) | (simp; omega))
          · refine ⟨fun _ _ _ => rfl, fun c _ vals w hC hD K hK => ?_⟩
            have h2 : vals 2 = .bool false := hD 2 rfl
            refine ite_yes (wanted_none rfl) ?_
            clear hD
            obtain ⟨vals, rfl⟩ := upd_of (vals := vals) (j := 2) (x := Value.bool false) h2
            clear h2
            show Oper.wp _ _ ⟨#[c 0, (Value.pointer (some ⟨W0.heap.size, 0, none⟩) : Value), c 2, (Value.int .i64 nn : Value), (Value.int .i64 s1.toNat : Value), c 5, c 6, c 7, c 8, c 9, c 10, c 11, c 12, c 13, c 14, c 15, c 16, c 17, c 18, c 19, c 20, c 21, c 22, vals 9, vals 0, vals 1, (Value.bool false : Value), vals 3, vals 4, vals 5, vals 6, vals 7, vals 8, c 33, c 34, c 35, c 36, c 37, c 38, c 39, c 40, c 41, c 42, c 43, c 44, c 45, c 46, c 47, c 48, c 49, c 50, c 51, c 52, c 53], []⟩ w K _
            go_wp2_with fail
            exact hK _ _ (Adds.refl _) (by rfl)
          · refine ⟨fun _ _ _ => rfl, fun c _ vals w hC hD K hK => ?_⟩
            have hg : vals 3 = .bool (!true) := hD 3 rfl
            refine ite_no (unwanted_of rfl rfl rfl rfl hg) ?_
            exact hK undef w (Adds.refl _) rfl
          · refine ⟨fun _ _ _ => rfl, fun c _ vals w hC hD K hK => ?_⟩
            have hg : vals 3 = .bool (!true) := hD 3 rfl
            refine ite_no (unwanted_of rfl rfl rfl rfl hg) ?_
            exact hK undef w (Adds.refl _) rfl
          · refine ⟨fun _ _ _ => rfl, fun c _ vals w hC hD K hK => ?_⟩
            have hg : vals 3 = .bool (!true) := hD 3 rfl
            refine ite_no (unwanted_of rfl rfl rfl rfl hg) ?_
            exact hK undef w (Adds.refl _) rfl
          · refine ⟨fun _ _ _ => rfl, fun c _ vals w hC hD K hK => ?_⟩
            have hg : vals 3 = .bool (!true) := hD 3 rfl
            refine ite_no (unwanted_of rfl rfl rfl rfl hg) ?_
            exact hK undef w (Adds.refl _) rfl
          · refine ⟨fun _ _ _ => rfl, fun c _ vals w hC hD K hK => ?_⟩
            have h3 : vals 3 = .bool false := hD 3 rfl
            have h7 : vals 7 = undef := hD 7 rfl
            refine ite_yes (wanted_none rfl) ?_
            clear hD
            obtain ⟨vals, rfl⟩ := upd_of (vals := vals) (j := 3) (x := Value.bool false) h3
            clear h3
            obtain ⟨vals, rfl⟩ := upd_of (vals := vals) (j := 7) (x := undef) h7
            clear h7
            show Oper.wp _ _ ⟨#[c 0, (Value.pointer (some ⟨W0.heap.size, 0, none⟩) : Value), c 2, (Value.int .i64 nn : Value), (Value.int .i64 s1.toNat : Value), c 5, c 6, c 7, c 8, c 9, c 10, c 11, c 12, c 13, c 14, c 15, c 16, c 17, c 18, c 19, c 20, c 21, c 22, vals 9, vals 0, vals 1, vals 2, (Value.bool false : Value), vals 4, vals 5, vals 6, (undef : Value), vals 8, c 33, c 34, c 35, c 36, c 37, c 38, c 39, c 40, c 41, c 42, c 43, c 44, c 45, c 46, c 47, c 48, c 49, c 50, c 51, c 52, c 53], []⟩ w K _
            go_wp2_with fail
            exact hK _ _ (Adds.refl _) (by rfl)
          · refine ⟨fun _ _ _ => rfl, fun c _ vals w hC hD K hK => ?_⟩
            have h8 : vals 8 = (Value.bool false) := hD 8 rfl
            refine ite_yes (wanted_none rfl) ?_
            clear hD
            obtain ⟨vals, rfl⟩ := upd_of (vals := vals) (j := 8) (x := (Value.bool false)) h8
            clear h8
            show Oper.wp _ _ ⟨#[c 0, (Value.pointer (some ⟨W0.heap.size, 0, none⟩) : Value), c 2, (Value.int .i64 nn : Value), (Value.int .i64 s1.toNat : Value), c 5, c 6, c 7, c 8, c 9, c 10, c 11, c 12, c 13, c 14, c 15, c 16, c 17, c 18, c 19, c 20, c 21, c 22, vals 9, vals 0, vals 1, vals 2, vals 3, vals 4, vals 5, vals 6, vals 7, ((Value.bool false) : Value), c 33, c 34, c 35, c 36, c 37, c 38, c 39, c 40, c 41, c 42, c 43, c 44, c 45, c 46, c 47, c 48, c 49, c 50, c 51, c 52, c 53], []⟩ w K _
            go_wp2_with fail
            exact hK _ _ (Adds.refl _) (by rfl)
          intro vals w' hC hΦ
          have h9 : vals 9 = (Value.bool false) := hΦ 9 (by decide)
          clear hΦ
          simp only [List.getD_eq_getElem?_getD, List.getElem?_cons_zero, List.getElem?_cons_succ, Option.getD_some]
          simp only [h9]
          try simp only [tuple_undef]
          have q6 := q3.adds hC
          have r6 := r3.adds hC
          have b6 := b3.trans (hC.mono b3.size)
          clear q3 r3 b3 hC
          rename_i w6 _
          go_wp2_with fail
          try simp only [Act.put, List.setIfInBounds_toArray, List.set_cons_succ, List.set_cons_zero]
          refine wp_region_adds (fun c vals => ⟨#[c 0, (Value.pointer (some ⟨W0.heap.size, 0, none⟩) : Value), c 2, (Value.int .i64 nn : Value), (Value.int .i64 s1.toNat : Value), c 5, c 6, c 7, c 8, c 9, c 10, c 11, c 12, c 13, c 14, c 15, c 16, c 17, c 18, c 19, c 20, c 21, c 22, c 23, c 24, c 25, c 26, c 27, c 28, c 29, c 30, c 31, c 32, c 33, c 34, vals 14, vals 0, vals 1, vals 2, vals 3, vals 4, vals 5, vals 6, vals 7, vals 8, vals 9, vals 10, vals 11, vals 12, vals 13, c 50, c 51, c 52, c 53], []⟩) (fun t => [_, undef, _, undef, undef, _, _, _, _, _, _, _, _, _, _, _, _, _, _, _, _, _, _, _, _, _, _, _, _, _, _, _, _, _, _, undef, undef, undef, undef, undef, undef, undef, undef, undef, undef, undef, undef, undef, undef, undef, _, _, _, _].getD t undef) (fun i => [_, _, _, _, _, _, _, _, _, _, _, _, _, _, _].getD i undef) (by kernel_rfl)
            [[], [0], [0, 1], [0, 1, 2], [0, 1, 2, 3], [0, 1, 2, 3, 4], [0, 1, 2, 3, 4, 5], [0, 1, 2, 3, 4, 5, 6], [0, 1, 2, 3, 4, 5, 6, 7], [0, 1, 2, 3, 4, 5, 6, 7], [0, 1, 2, 3, 4, 5, 6, 7], [0, 1, 2, 3, 4, 5, 6, 7, 9, 10], [0, 1, 2, 3, 4, 5, 6, 7, 8, 9, 10, 11], [0, 1, 2, 3, 4, 5, 6, 7, 8, 9, 10, 11, 12], [0, 1, 2, 3, 4, 5, 6, 7, 8, 9, 10, 11, 12, 13]] (by kernel_rfl) (fun _ => True) trivial
            [fun x _ => x = (Value.pointer (some ⟨W0.heap.size, 0, none⟩) : Value),
             fun x _ => x = (B8 s0 : Value),
             fun x _ => x = (Value.bool false : Value),
             fun x _ => x = (Value.bool false : Value),
             fun x _ => x = (undef : Value),
             fun x _ => x = (undef : Value),
             fun x _ => x = ((Value.bool false) : Value),
             fun x _ => x = ((Value.bool false) : Value),
             fun x _ => x = (undef : Value),
             fun x _ => x = (undef : Value),
             fun x _ => x = (undef : Value),
             fun x _ => x = (undef : Value),
             fun x _ => x = (undef : Value),
             fun x _ => x = ((Value.bool false) : Value),
             fun x _ => x = ((Value.bool false) : Value)]
            ⟨fun _ _ _ h _ => h, fun _ _ _ h _ => h, fun _ _ _ h _ => h, fun _ _ _ h _ => h, fun _ _ _ h _ => h, fun _ _ _ h _ => h, fun _ _ _ h _ => h, fun _ _ _ h _ => h, fun _ _ _ h _ => h, fun _ _ _ h _ => h, fun _ _ _ h _ => h, fun _ _ _ h _ => h, fun _ _ _ h _ => h, fun _ _ _ h _ => h, fun _ _ _ h _ => h, trivial⟩
            ⟨?_, ?_, ?_, ?_, ?_, ?_, ?_, ?_, ?_, ?_, ?_, ?_, ?_, ?_, ?_, trivial⟩ ?_
          · refine ⟨fun _ _ _ => rfl, fun c _ vals w hC hD K hK => ?_⟩
            refine ite_yes (wanted_none rfl) ?_
            clear hD
            show Oper.wp _ _ ⟨#[c 0, (Value.pointer (some ⟨W0.heap.size, 0, none⟩) : Value), c 2, (Value.int .i64 nn : Value), (Value.int .i64 s1.toNat : Value), c 5, c 6, c 7, c 8, c 9, c 10, c 11, c 12, c 13, c 14, c 15, c 16, c 17, c 18, c 19, c 20, c 21, c 22, c 23, c 24, c 25, c 26, c 27, c 28, c 29, c 30, c 31, c 32, c 33, c 34, vals 14, vals 0, vals 1, vals 2, vals 3, vals 4, vals 5, vals 6, vals 7, vals 8, vals 9, vals 10, vals 11, vals 12, vals 13, c 50, c 51, c 52, c 53], []⟩ w K _
            go_wp2_with fail
            exact hK _ _ (Adds.refl _) (by first | rfl | (simp; done) | (simp; omega))
          · refine ⟨fun _ _ _ => rfl, fun c _ vals w hC hD K hK => ?_⟩
            have h0 : vals 0 = .pointer (some ⟨W0.heap.size, 0, none⟩) := hD 0 rfl
            refine ite_yes (wanted_none rfl) ?_
            clear hD
            obtain ⟨vals, rfl⟩ := upd_of (vals := vals) (j := 0) (x := Value.pointer (some ⟨W0.heap.size, 0, none⟩)) h0
            clear h0
            show Oper.wp _ _ ⟨#[c 0, (Value.pointer (some ⟨W0.heap.size, 0, none⟩) : Value), c 2, (Value.int .i64 nn : Value), (Value.int .i64 s1.toNat : Value), c 5, c 6, c 7, c 8, c 9, c 10, c 11, c 12, c 13, c 14, c 15, c 16, c 17, c 18, c 19, c 20, c 21, c 22, c 23, c 24, c 25, c 26, c 27, c 28, c 29, c 30, c 31, c 32, c 33, c 34, vals 14, (Value.pointer (some ⟨W0.heap.size, 0, none⟩) : Value), vals 1, vals 2, vals 3, vals 4, vals 5, vals 6, vals 7, vals 8, vals 9, vals 10, vals 11, vals 12, vals 13, c 50, c 51, c 52, c 53], []⟩ w K _
            have hcc := (r6.adds hC).at (j := 0) (by rw [hc]; decide) 0
            rw [HS0.out] at hcc
            go_wp2_with fail
            exact hK _ _ (Adds.refl _) (by first | rfl | (simp; done) | (simp; omega))
          · refine ⟨fun _ _ _ => rfl, fun c _ vals w hC hD K hK => ?_⟩
            have h1 : vals 1 = B8 s0 := hD 1 rfl
            refine ite_yes (wanted_none rfl) ?_
            clear hD
            obtain ⟨vals, rfl⟩ := upd_of (vals := vals) (j := 1) (x := B8 s0) h1
            clear h1
            show Oper.wp _ _ ⟨#[c 0, (Value.pointer (some ⟨W0.heap.size, 0, none⟩) : Value), c 2, (Value.int .i64 nn : Value), (Value.int .i64 s1.toNat : Value), c 5, c 6, c 7, c 8, c 9, c 10, c 11, c 12, c 13, c 14, c 15, c 16, c 17, c 18, c 19, c 20, c 21, c 22, c 23, c 24, c 25, c 26, c 27, c 28, c 29, c 30, c 31, c 32, c 33, c 34, vals 14, vals 0, (B8 s0 : Value), vals 2, vals 3, vals 4, vals 5, vals 6, vals 7, vals 8, vals 9, vals 10, vals 11, vals 12, vals 13, c 50, c 51, c 52, c 53], []⟩ w K _
            go_wp2_with fail
            exact hK _ _ (Adds.refl _) (by first | rfl | (simp; done) | (simp; omega))
          · refine ⟨fun _ _ _ => rfl, fun c _ vals w hC hD K hK => ?_⟩
            have h2 : vals 2 = .bool false := hD 2 rfl
            refine ite_yes (wanted_none rfl) ?_
            clear hD
            obtain ⟨vals, rfl⟩ := upd_of (vals := vals) (j := 2) (x := Value.bool false) h2
            clear h2
            show Oper.wp _ _ ⟨#[c 0, (Value.pointer (some ⟨W0.heap.size, 0, none⟩) : Value), c 2, (Value.int .i64 nn : Value), (Value.int .i64 s1.toNat : Value), c 5, c 6, c 7, c 8, c 9, c 10, c 11, c 12, c 13, c 14, c 15, c 16, c 17, c 18, c 19, c 20, c 21, c 22, c 23, c 24, c 25, c 26, c 27, c 28, c 29, c 30, c 31, c 32, c 33, c 34, vals 14, vals 0, vals 1, (Value.bool false : Value), vals 3, vals 4, vals 5, vals 6, vals 7, vals 8, vals 9, vals 10, vals 11, vals 12, vals 13, c 50, c 51, c 52, c 53], []⟩ w K _
            go_wp2_with fail
            exact hK _ _ (Adds.refl _) (by rfl)
          · refine ⟨fun _ _ _ => rfl, fun c _ vals w hC hD K hK => ?_⟩
            have hg : vals 3 = .bool (!true) := hD 3 rfl
            refine ite_no (unwanted_of rfl rfl rfl rfl hg) ?_
            exact hK undef w (Adds.refl _) rfl
          · refine ⟨fun _ _ _ => rfl, fun c _ vals w hC hD K hK => ?_⟩
            have hg : vals 3 = .bool (!true) := hD 3 rfl
            refine ite_no (unwanted_of rfl rfl rfl rfl hg) ?_
            exact hK undef w (Adds.refl _) rfl
          · refine ⟨fun _ _ _ => rfl, fun c _ vals w hC hD K hK => ?_⟩
            have h3 : vals 3 = .bool false := hD 3 rfl
            have h5 : vals 5 = undef := hD 5 rfl
            refine ite_yes (wanted_none rfl) ?_
            clear hD
            obtain ⟨vals, rfl⟩ := upd_of (vals := vals) (j := 3) (x := Value.bool false) h3
            clear h3
            obtain ⟨vals, rfl⟩ := upd_of (vals := vals) (j := 5) (x := undef) h5
            clear h5
            show Oper.wp _ _ ⟨#[c 0, (Value.pointer (some ⟨W0.heap.size, 0, none⟩) : Value), c 2, (Value.int .i64 nn : Value), (Value.int .i64 s1.toNat : Value), c 5, c 6, c 7, c 8, c 9, c 10, c 11, c 12, c 13, c 14, c 15, c 16, c 17, c 18, c 19, c 20, c 21, c 22, c 23, c 24, c 25, c 26, c 27, c 28, c 29, c 30, c 31, c 32, c 33, c 34, vals 14, vals 0, vals 1, vals 2, (Value.bool false : Value), vals 4, (undef : Value), vals 6, vals 7, vals 8, vals 9, vals 10, vals 11, vals 12, vals 13, c 50, c 51, c 52, c 53], []⟩ w K _
            go_wp2_with fail
            exact hK _ _ (Adds.refl _) (by rfl)
          · refine ⟨fun _ _ _ => rfl, fun c _ vals w hC hD K hK => ?_⟩
            have h6 : vals 6 = (Value.bool false) := hD 6 rfl
            refine ite_yes (wanted_none rfl) ?_
            clear hD
            obtain ⟨vals, rfl⟩ := upd_of (vals := vals) (j := 6) (x := (Value.bool false)) h6
            clear h6
            show Oper.wp _ _ ⟨#[c 0, (Value.pointer (some ⟨W0.heap.size, 0, none⟩) : Value), c 2, (Value.int .i64 nn : Value), (Value.int .i64 s1.toNat : Value), c 5, c 6, c 7, c 8, c 9, c 10, c 11, c 12, c 13, c 14, c 15, c 16, c 17, c 18, c 19, c 20, c 21, c 22, c 23, c 24, c 25, c 26, c 27, c 28, c 29, c 30, c 31, c 32, c 33, c 34, vals 14, vals 0, vals 1, vals 2, vals 3, vals 4, vals 5, ((Value.bool false) : Value), vals 7, vals 8, vals 9, vals 10, vals 11, vals 12, vals 13, c 50, c 51, c 52, c 53], []⟩ w K _
            go_wp2_with fail
            exact hK _ _ (Adds.refl _) (by rfl)
          · refine ⟨fun _ _ _ => rfl, fun c _ vals w hC hD K hK => ?_⟩
            have hg : vals 7 = .bool (!true) := hD 7 rfl
            refine ite_no (unwanted_of rfl rfl rfl rfl hg) ?_
            exact hK undef w (Adds.refl _) rfl
          · refine ⟨fun _ _ _ => rfl, fun c _ vals w hC hD K hK => ?_⟩
            have hg : vals 7 = .bool (!true) := hD 7 rfl
            refine ite_no (unwanted_of rfl rfl rfl rfl hg) ?_
            exact hK undef w (Adds.refl _) rfl
          · refine ⟨fun _ _ _ => rfl, fun c _ vals w hC hD K hK => ?_⟩
            have hg : vals 7 = .bool (!true) := hD 7 rfl
            refine ite_no (unwanted_of rfl rfl rfl rfl hg) ?_
            exact hK undef w (Adds.refl _) rfl
          · refine ⟨fun _ _ _ => rfl, fun c _ vals w hC hD K hK => ?_⟩
            have hg : vals 7 = .bool (!true) := hD 7 rfl
            refine ite_no (unwanted_of rfl rfl rfl rfl hg) ?_
            exact hK undef w (Adds.refl _) rfl
          · refine ⟨fun _ _ _ => rfl, fun c _ vals w hC hD K hK => ?_⟩
            have hg : vals 7 = .bool (!true) := hD 7 rfl
            refine ite_no (unwanted_of rfl rfl rfl rfl hg) ?_
            exact hK undef w (Adds.refl _) rfl
          · refine ⟨fun _ _ _ => rfl, fun c _ vals w hC hD K hK => ?_⟩
            have h7 : vals 7 = (Value.bool false) := hD 7 rfl
            have h12 : vals 12 = undef := hD 12 rfl
            refine ite_yes (wanted_none rfl) ?_
            clear hD
            obtain ⟨vals, rfl⟩ := upd_of (vals := vals) (j := 7) (x := (Value.bool false)) h7
            clear h7
            obtain ⟨vals, rfl⟩ := upd_of (vals := vals) (j := 12) (x := undef) h12
            clear h12
            show Oper.wp _ _ ⟨#[c 0, (Value.pointer (some ⟨W0.heap.size, 0, none⟩) : Value), c 2, (Value.int .i64 nn : Value), (Value.int .i64 s1.toNat : Value), c 5, c 6, c 7, c 8, c 9, c 10, c 11, c 12, c 13, c 14, c 15, c 16, c 17, c 18, c 19, c 20, c 21, c 22, c 23, c 24, c 25, c 26, c 27, c 28, c 29, c 30, c 31, c 32, c 33, c 34, vals 14, vals 0, vals 1, vals 2, vals 3, vals 4, vals 5, vals 6, ((Value.bool false) : Value), vals 8, vals 9, vals 10, vals 11, (undef : Value), vals 13, c 50, c 51, c 52, c 53], []⟩ w K _
            go_wp2_with fail
            exact hK _ _ (Adds.refl _) (by rfl)
          · refine ⟨fun _ _ _ => rfl, fun c _ vals w hC hD K hK => ?_⟩
            have h13 : vals 13 = (Value.bool false) := hD 13 rfl
            refine ite_yes (wanted_none rfl) ?_
            clear hD
            obtain ⟨vals, rfl⟩ := upd_of (vals := vals) (j := 13) (x := (Value.bool false)) h13
            clear h13
            show Oper.wp _ _ ⟨#[c 0, (Value.pointer (some ⟨W0.heap.size, 0, none⟩) : Value), c 2, (Value.int .i64 nn : Value), (Value.int .i64 s1.toNat : Value), c 5, c 6, c 7, c 8, c 9, c 10, c 11, c 12, c 13, c 14, c 15, c 16, c 17, c 18, c 19, c 20, c 21, c 22, c 23, c 24, c 25, c 26, c 27, c 28, c 29, c 30, c 31, c 32, c 33, c 34, vals 14, vals 0, vals 1, vals 2, vals 3, vals 4, vals 5, vals 6, vals 7, vals 8, vals 9, vals 10, vals 11, vals 12, ((Value.bool false) : Value), c 50, c 51, c 52, c 53], []⟩ w K _
            go_wp2_with fail
            exact hK _ _ (Adds.refl _) (by rfl)
          intro vals w' hC hΦ
          have h14 : vals 14 = (Value.bool false) := hΦ 14 (by decide)
          clear hΦ
          simp only [List.getD_eq_getElem?_getD, List.getElem?_cons_zero, List.getElem?_cons_succ, Option.getD_some]
          simp only [h14]
          try simp only [tuple_undef]
          have q8 := q6.adds hC
          have b8 := b6.trans (hC.mono b6.size)
          clear q6 r6 b6 hC
          go_wp2_with (first
            | (refine wpList_store_all rfl 57 (.tmp 2) (.tmp 53) rfl (W0.heap.size + 1) rfl (C := recordOf (3, 0, 0)) rfl q8 rfl size57 (record_one _) ?_))
          exact bodyPost_cell rfl rfl rfl (q8.setRow (recordOf (3, 0, 0))) rfl Try.underlying57 rfl size57 ⟨by rw [HR.out], b8.setRow (g := W0.heap.size + 1) (by omega) (recordOf (3, 0, 0)).toArray⟩
    · have hread : Cell.read cs = (3, 0, 0) := by
        unfold Cell.read
        rw [if_neg (by rw [HB.out]; decide), HN.out, if_pos (by unfold Cell.inside; simp; omega)]
      have HR := Lib.hid hread
      clear hread
      have hor : nn < 1 ∨ (1 ≤ nn ∧ 4611686018427387904 < nn) := by omega
      clear hin
      rcases hor with h1 | ⟨h1, h2⟩
      all_goals
        go_wp2_with (first
          | (refine wpList_store_all rfl 57 (.tmp 2) (.tmp 53) rfl (W0.heap.size + 1) rfl (C := recordOf (3, 0, 0)) rfl q3 rfl size57 (record_one _) ?_))
        exact bodyPost_cell rfl rfl rfl (q3.setRow (recordOf (3, 0, 0))) rfl Try.underlying57 rfl size57 ⟨by rw [HR.out], b3.setRow (g := W0.heap.size + 1) (by omega) (recordOf (3, 0, 0)).toArray⟩
end Go.Proofs.Ytmeialegemhlhaa
