/-
  The walk of CrcLinear.
-/
import Derived.Deep.RegionLaw
import Derived.Test.YtmeialegemhlhaaCrcW3
import Derived.Test.YtmeialegemhlhaaU
namespace Go.PK.Crc
/-- the exclusive or of k bytes of three rows -/
def xor3 (a b c : List UInt8) (k : Nat) : List UInt8 := (List.range k).map fun i => a.getD i 0 ^^^ b.getD i 0 ^^^ c.getD i 0
theorem xor3_succ (a b c : List UInt8) (k : Nat) : xor3 a b c k ++ [a.getD k 0 ^^^ b.getD k 0 ^^^ c.getD k 0] = xor3 a b c (k + 1) := by
  unfold xor3
  rw [List.range_succ, List.map_append]
  rfl
theorem xor3_length (a b c : List UInt8) (k : Nat) : (xor3 a b c k).length = k := by unfold xor3; rw [List.length_map, List.length_range]
theorem feed_xor3 (a b c : List UInt8) : ∀ k, k ≤ a.length → k ≤ b.length → k ≤ c.length → feed 0xFFFFFFFF (xor3 a b c k) = feed 0xFFFFFFFF (a.take k) ^^^ feed 0xFFFFFFFF (b.take k) ^^^ feed 0xFFFFFFFF (c.take k)
  | 0, _, _, _ => by simp only [xor3, List.range_zero, List.map_nil, List.take_zero]; decide
  | k + 1, ha, hb, hc => by
    rw [← xor3_succ, feed_snoc, feed_xor3 a b c k (by omega) (by omega) (by omega), take_succ_getD a k (by omega), take_succ_getD b k (by omega), take_succ_getD c k (by omega), feed_snoc, feed_snoc, feed_snoc]
    generalize feed 0xFFFFFFFF (a.take k) = x
    generalize feed 0xFFFFFFFF (b.take k) = y
    generalize feed 0xFFFFFFFF (c.take k) = z
    unfold eight
    rw [← steps_xor, ← steps_xor]
    congr 1
    rw [UInt8.toUInt32_xor, UInt8.toUInt32_xor]
    generalize (a.getD k 0).toUInt32 = p
    generalize (b.getD k 0).toUInt32 = q
    generalize (c.getD k 0).toUInt32 = r
    refine bit_ext fun i => ?_
    simp only [UInt32.toNat_xor, Nat.testBit_xor]
    cases x.toNat.testBit i <;> cases y.toNat.testBit i <;> cases z.toNat.testBit i <;> cases p.toNat.testBit i <;> cases q.toNat.testBit i <;> cases r.toNat.testBit i <;> rfl
theorem not_eq_xor (x : UInt32) : ~~~x = x ^^^ 0xFFFFFFFF := by
  apply UInt32.toBitVec_inj.1
  rw [UInt32.toBitVec_not, UInt32.toBitVec_xor, show (0xFFFFFFFF : UInt32).toBitVec = BitVec.allOnes 32 from rfl, BitVec.xor_allOnes]
theorem of_xor3 (a b c : List UInt8) (k : Nat) (ha : k ≤ a.length) (hb : k ≤ b.length) (hc : k ≤ c.length) : of (xor3 a b c k) = of (a.take k) ^^^ of (b.take k) ^^^ of (c.take k) := by
  unfold of
  rw [feed_xor3 a b c k ha hb hc]
  generalize feed 0xFFFFFFFF (a.take k) = x
  generalize feed 0xFFFFFFFF (b.take k) = y
  generalize feed 0xFFFFFFFF (c.take k) = z
  rw [not_eq_xor, not_eq_xor, not_eq_xor, not_eq_xor]
  generalize (0xFFFFFFFF : UInt32) = f
  refine bit_ext fun i => ?_
  simp only [UInt32.toNat_xor, Nat.testBit_xor]
  cases x.toNat.testBit i <;> cases y.toNat.testBit i <;> cases z.toNat.testBit i <;> cases f.toNat.testBit i <;> rfl
end Go.PK.Crc
namespace Go.Proofs.Ytmeialegemhlhaa
open Go.RowKit Go.PK

theorem run_min3 {P : Program} {w : World} (ts : Array TypeId) (t : TypeId) (a b c : Nat) :
    (Builtin.min_ ts t #[.int .i64 (a : Int), .int .i64 (b : Int), .int .i64 (c : Int)]).run P w = .ok (.int .i64 ((min (min a b) c : Nat) : Int)) w := by
  simp only [Builtin.min_, List.foldlM, Builtin.min2, Sem.run_bind, Sem.run_pure, Result.andThen]
  congr 2
  split <;> split <;> omega

set_option maxHeartbeats 1000000 in
theorem CrcLinear_walk (w : World) (v1 : Value) (a : List UInt8) (h1 : Bytes w v1 a) (l1 : a.length ≤ 140737488351232) (v2 : Value) (b : List UInt8) (h2 : Bytes w v2 b) (_l2 : b.length ≤ 140737488351232)
    (v3 : Value) (m : List UInt8) (h3 : Bytes w v3 m) (_l3 : m.length ≤ 140737488351232) :
    Calls Try.prog 8 #[v1, v2, v3] w fun e w' => e = .returned (.bool true) ∧ Below w.heap.size w w' := by
  obtain ⟨ao1, cap1, rfl, p1, q1, -⟩ := id h1
  obtain ⟨ao2, cap2, rfl, p2, q2, -⟩ := id h2
  obtain ⟨ao3, cap3, rfl, p3, q3, -⟩ := id h3
  have hmin := run_min3 (P := Try.prog) (w := w) #[3, 3, 3] 3 a.length b.length m.length
  obtain ⟨n, hn⟩ : ∃ n, n = min (min a.length b.length) m.length := ⟨_, rfl⟩
  rw [← hn] at hmin
  have n1 : n ≤ a.length := by omega
  have n2 : n ≤ b.length := by omega
  have n3 : n ≤ m.length := by omega
  clear hn
  go_enter Try.func8, Try.ntmps8
  go_wp2_with fail
  clear hmin
  go_loopw [8, 9] (fun d i wr => ∃ k : Nat, k ≤ n ∧ i = .int .i64 k ∧ wr.ownsRow w.heap.size 5 1 d k ((Crc.xor3 a b m k).map B8) ∧ Below w.heap.size w wr) (fun _ i _ => n - (intOf i).toNat)
  case atStart => exact ⟨0, by omega, rfl, World.ownsRow_made w #[] 0 (Nat.le_refl _) (by decide) rfl, (Below.refl _ _).alloc (Nat.le_refl _) _⟩
  case round =>
    obtain ⟨k, hk, rfl, ho, hb1⟩ := hrel
    by_cases hlt : k < n
    · obtain ⟨b1, o1, rfl, -, c1⟩ := (h1.below hb1 (Nat.le_refl _)).at (k := k) (by omega)
      obtain ⟨b2, o2, rfl, -, c2⟩ := (h2.below hb1 (Nat.le_refl _)).at (k := k) (by omega)
      obtain ⟨b3, o3, rfl, -, c3⟩ := (h3.below hb1 (Nat.le_refl _)).at (k := k) (by omega)
      have hsz := hb1.size
      have hs := Lib.hid (Crc.xor3_succ a b m k)
      generalize a.getD k 0 = x at *
      generalize b.getD k 0 = y at *
      generalize m.getD k 0 = z at *
      have ka : k < a.length := by omega
      have kb : k < b.length := by omega
      have kc : k < m.length := by omega
      have hel : ∀ wr c, Bytes (World.alloc wr (.cells #[B8 c] 5)) (.slice (some ⟨wr.heap.size, 0, none⟩) 1 1) [c] := fun wr c => Bytes.one wr _ c
      have hel2 := hel wr.drew (x ^^^ y ^^^ z)
      have ho2 := ho.alloc (.cells #[B8 (x ^^^ y ^^^ z)] 5)
      go_wp2_with fail
      go_region_law (refine step_append_B8 rfl (.tmp 23) (.tmp 38) 23 rfl w.heap.size 5 Try.underlying23 u8info _ k (Crc.xor3 a b m k) rfl ho2 _ [x ^^^ y ^^^ z] rfl hel2 (by simp; omega) (by simp; omega) ?_; intro v2 w2 ho3 hb3)
      all_goals
        replace ho3 : w2.ownsRow w.heap.size 5 1 v2 (k + 1) ((Crc.xor3 a b m (k + 1)).map B8) := by rw [← hs.out]; simpa using ho3
        have hb4 := (hb1.alloc hsz (.cells #[B8 (x ^^^ y ^^^ z)] 5)).drew.trans hb3
        clear hb3 ho2 ho hb1
        go_wp2_with fail
        go_roundw
        case rel => exact ⟨k + 1, by omega, by go_num, ho3, hb4⟩
        case measure => simp [intOf]; omega
    · have : k = n := by omega
      subst this
      have hx := (Bytes.of_owns ho).2
      have g1 := h1.below hb1 (Nat.le_refl _)
      have g2 := h2.below hb1 (Nat.le_refl _)
      have g3 := h3.below hb1 (Nat.le_refl _)
      have hxl := Crc.xor3_length a b m k
      have HQ := Lib.hid (Crc.of_xor3 a b m k n1 n2 n3)
      go_wp2_with fail
      refine wp_region_adds (fun c vals => ⟨#[(Value.slice ao1 a.length cap1 : Value), (Value.slice ao2 b.length cap2 : Value), (Value.slice ao3 m.length cap3 : Value), c 3, c 4, c 5, vals 20, (Value.int .i64 k : Value), (u8 : Value), c 9, c 10, c 11, c 12, c 13, c 14, c 15, c 16, c 17, c 18, c 19, c 20, c 21, c 22, c 23, c 24, c 25, c 26, c 27, c 28, c 29, c 30, c 31, c 32, c 33, c 34, c 35, c 36, c 37, c 38, c 39, vals 0, vals 1, vals 2, vals 3, vals 4, vals 5, vals 6, vals 7, vals 8, vals 9, vals 10, vals 11, vals 12, vals 13, vals 14, vals 15, vals 16, vals 17, vals 18, vals 19], []⟩) (fun t => [undef, undef, undef, _, _, _, undef, undef, undef, _, _, _, _, _, _, _, _, _, _, _, _, _, _, _, _, _, _, _, _, _, _, _, _, _, _, _, _, _, _, _, undef, undef, undef, undef, undef, undef, undef, undef, undef, undef, undef, undef, undef, undef, undef, undef, undef, undef, undef, undef].getD t undef) (fun i => [_, _, _, _, _, _, _, _, _, _, _, _, _, _, _, _, _, _, _, _, _].getD i undef) (by kernel_rfl)
        [[], [0], [], [], [2, 3], [0, 1, 2, 3, 4], [], [], [6, 7], [0, 1, 2, 3, 4, 5, 6, 7, 8], [0, 1, 2, 3, 4, 5, 6, 7, 8, 9], [], [], [11, 12], [0, 1, 2, 3, 4, 5, 6, 7, 8, 9, 11, 12, 13], [0, 1, 2, 3, 4, 5, 6, 7, 8, 9, 10, 11, 12, 13, 14], [0, 1, 2, 3, 4, 5, 6, 7, 8, 9, 10, 11, 12, 13, 14, 15], [0, 1, 2, 3, 4, 5, 6, 7, 8, 9, 10, 11, 12, 13, 14, 15, 16], [0, 1, 2, 3, 4, 5, 6, 7, 8, 9, 10, 11, 12, 13, 14, 15, 16, 17], [0, 1, 2, 3, 4, 5, 6, 7, 8, 9, 10, 11, 12, 13, 14, 15, 16, 17, 18], [0, 1, 2, 3, 4, 5, 6, 7, 8, 9, 10, 11, 12, 13, 14, 15, 16, 17, 18, 19]] (by kernel_rfl) (fun _ => True) trivial
        [fun x _ => x = (u8 : Value),
         fun x _ => x = (W32 (Crc.of (a.take k) ^^^ Crc.of (b.take k) ^^^ Crc.of (m.take k)) : Value),
         fun x _ => x = (Value.slice ao1 a.length cap1 : Value),
         fun x _ => x = (Value.int .i64 k : Value),
         fun x w => Bytes w x (a.take k),
         fun x _ => x = (W32 (Crc.of (a.take k)) : Value),
         fun x _ => x = (Value.slice ao2 b.length cap2 : Value),
         fun x _ => x = (Value.int .i64 k : Value),
         fun x w => Bytes w x (b.take k),
         fun x _ => x = (W32 (Crc.of (b.take k)) : Value),
         fun x _ => x = (W32 (Crc.of (a.take k) ^^^ Crc.of (b.take k)) : Value),
         fun x _ => x = (Value.slice ao3 m.length cap3 : Value),
         fun x _ => x = (Value.int .i64 k : Value),
         fun x w => Bytes w x (m.take k),
         fun x _ => x = (W32 (Crc.of (m.take k)) : Value),
         fun x _ => x = (W32 (Crc.of (a.take k) ^^^ Crc.of (b.take k) ^^^ Crc.of (m.take k)) : Value),
         fun x _ => x = (Value.bool true : Value),
         fun x _ => x = (Value.bool true : Value),
         fun x _ => x = (Value.bool true : Value),
         fun x _ => x = (Value.bool true : Value),
         fun x _ => x = (Value.bool true : Value)]
        ⟨fun _ _ _ h _ => h, fun _ _ _ h _ => h, fun _ _ _ h _ => h, fun _ _ _ h _ => h, fun _ _ _ h hb => h.adds hb, fun _ _ _ h _ => h, fun _ _ _ h _ => h, fun _ _ _ h _ => h, fun _ _ _ h hb => h.adds hb, fun _ _ _ h _ => h, fun _ _ _ h _ => h, fun _ _ _ h _ => h, fun _ _ _ h _ => h, fun _ _ _ h hb => h.adds hb, fun _ _ _ h _ => h, fun _ _ _ h _ => h, fun _ _ _ h _ => h, fun _ _ _ h _ => h, fun _ _ _ h _ => h, fun _ _ _ h _ => h, fun _ _ _ h _ => h, trivial⟩
        ⟨?_, ?_, ?_, ?_, ?_, ?_, ?_, ?_, ?_, ?_, ?_, ?_, ?_, ?_, ?_, ?_, ?_, ?_, ?_, ?_, ?_, trivial⟩ ?_
      · refine ⟨fun _ _ _ => rfl, fun c _ vals w hC hD K hK => ?_⟩
        refine ite_yes (wanted_none rfl) ?_
        clear hD
        show Oper.wp _ _ ⟨#[(Value.slice ao1 a.length cap1 : Value), (Value.slice ao2 b.length cap2 : Value), (Value.slice ao3 m.length cap3 : Value), c 3, c 4, c 5, vals 20, (Value.int .i64 k : Value), (u8 : Value), c 9, c 10, c 11, c 12, c 13, c 14, c 15, c 16, c 17, c 18, c 19, c 20, c 21, c 22, c 23, c 24, c 25, c 26, c 27, c 28, c 29, c 30, c 31, c 32, c 33, c 34, c 35, c 36, c 37, c 38, c 39, vals 0, vals 1, vals 2, vals 3, vals 4, vals 5, vals 6, vals 7, vals 8, vals 9, vals 10, vals 11, vals 12, vals 13, vals 14, vals 15, vals 16, vals 17, vals 18, vals 19], []⟩ w K _
        go_wp2_with fail
        exact hK _ _ (Adds.refl _) (by rfl)
      · refine ⟨fun _ _ _ => rfl, fun c _ vals w hC hD K hK => ?_⟩
        have h0 : vals 0 = u8 := hD 0 rfl
        refine ite_yes (wanted_none rfl) ?_
        clear hD
        obtain ⟨vals, rfl⟩ := upd_of (vals := vals) (j := 0) (x := u8) h0
        clear h0
        show Oper.wp _ _ ⟨#[(Value.slice ao1 a.length cap1 : Value), (Value.slice ao2 b.length cap2 : Value), (Value.slice ao3 m.length cap3 : Value), c 3, c 4, c 5, vals 20, (Value.int .i64 k : Value), (u8 : Value), c 9, c 10, c 11, c 12, c 13, c 14, c 15, c 16, c 17, c 18, c 19, c 20, c 21, c 22, c 23, c 24, c 25, c 26, c 27, c 28, c 29, c 30, c 31, c 32, c 33, c 34, c 35, c 36, c 37, c 38, c 39, (u8 : Value), vals 1, vals 2, vals 3, vals 4, vals 5, vals 6, vals 7, vals 8, vals 9, vals 10, vals 11, vals 12, vals 13, vals 14, vals 15, vals 16, vals 17, vals 18, vals 19], []⟩ w K _
        go_wp2_with fail
        refine (crc_Of_as _ _ _ (hx.adds hC) (by omega) _ HQ.out).mono ?_
        rintro e w' ⟨rfl, hb⟩
        exact hK _ _ hb rfl
      · refine ⟨fun _ _ _ => rfl, fun c _ vals w hC hD K hK => ?_⟩
        refine ite_yes (wanted_none rfl) ?_
        clear hD
        show Oper.wp _ _ ⟨#[(Value.slice ao1 a.length cap1 : Value), (Value.slice ao2 b.length cap2 : Value), (Value.slice ao3 m.length cap3 : Value), c 3, c 4, c 5, vals 20, (Value.int .i64 k : Value), (u8 : Value), c 9, c 10, c 11, c 12, c 13, c 14, c 15, c 16, c 17, c 18, c 19, c 20, c 21, c 22, c 23, c 24, c 25, c 26, c 27, c 28, c 29, c 30, c 31, c 32, c 33, c 34, c 35, c 36, c 37, c 38, c 39, vals 0, vals 1, vals 2, vals 3, vals 4, vals 5, vals 6, vals 7, vals 8, vals 9, vals 10, vals 11, vals 12, vals 13, vals 14, vals 15, vals 16, vals 17, vals 18, vals 19], []⟩ w K _
        go_wp2_with fail
        exact hK _ _ (Adds.refl _) (by rfl)
      · refine ⟨fun _ _ _ => rfl, fun c _ vals w hC hD K hK => ?_⟩
        refine ite_yes (wanted_none rfl) ?_
        clear hD
        show Oper.wp _ _ ⟨#[(Value.slice ao1 a.length cap1 : Value), (Value.slice ao2 b.length cap2 : Value), (Value.slice ao3 m.length cap3 : Value), c 3, c 4, c 5, vals 20, (Value.int .i64 k : Value), (u8 : Value), c 9, c 10, c 11, c 12, c 13, c 14, c 15, c 16, c 17, c 18, c 19, c 20, c 21, c 22, c 23, c 24, c 25, c 26, c 27, c 28, c 29, c 30, c 31, c 32, c 33, c 34, c 35, c 36, c 37, c 38, c 39, vals 0, vals 1, vals 2, vals 3, vals 4, vals 5, vals 6, vals 7, vals 8, vals 9, vals 10, vals 11, vals 12, vals 13, vals 14, vals 15, vals 16, vals 17, vals 18, vals 19], []⟩ w K _
        go_wp2_with fail
        exact hK _ _ (Adds.refl _) (by rfl)
      · refine ⟨fun _ _ _ => rfl, fun c _ vals w hC hD K hK => ?_⟩
        have h2 : vals 2 = .slice ao1 a.length cap1 := hD 2 rfl
        have h3 : vals 3 = .int .i64 k := hD 3 rfl
        refine ite_yes (wanted_none rfl) ?_
        clear hD
        obtain ⟨vals, rfl⟩ := upd_of (vals := vals) (j := 2) (x := Value.slice ao1 a.length cap1) h2
        clear h2
        obtain ⟨vals, rfl⟩ := upd_of (vals := vals) (j := 3) (x := Value.int .i64 k) h3
        clear h3
        show Oper.wp _ _ ⟨#[(Value.slice ao1 a.length cap1 : Value), (Value.slice ao2 b.length cap2 : Value), (Value.slice ao3 m.length cap3 : Value), c 3, c 4, c 5, vals 20, (Value.int .i64 k : Value), (u8 : Value), c 9, c 10, c 11, c 12, c 13, c 14, c 15, c 16, c 17, c 18, c 19, c 20, c 21, c 22, c 23, c 24, c 25, c 26, c 27, c 28, c 29, c 30, c 31, c 32, c 33, c 34, c 35, c 36, c 37, c 38, c 39, vals 0, vals 1, (Value.slice ao1 a.length cap1 : Value), (Value.int .i64 k : Value), vals 4, vals 5, vals 6, vals 7, vals 8, vals 9, vals 10, vals 11, vals 12, vals 13, vals 14, vals 15, vals 16, vals 17, vals 18, vals 19], []⟩ w K _
        go_wp2_with fail
        exact hK _ _ (Adds.refl _) (((g1.adds hC).pre (hi := k) (mx := cap1) n1 (by omega) (Nat.le_refl _)))
      · refine ⟨fun _ _ _ => rfl, fun c _ vals w hC hD K hK => ?_⟩
        have h4 : (fun x w => Bytes w x (a.take k)) (vals 4) w := hD 4 rfl
        refine ite_yes (wanted_none rfl) ?_
        clear hD
        show Oper.wp _ _ ⟨#[(Value.slice ao1 a.length cap1 : Value), (Value.slice ao2 b.length cap2 : Value), (Value.slice ao3 m.length cap3 : Value), c 3, c 4, c 5, vals 20, (Value.int .i64 k : Value), (u8 : Value), c 9, c 10, c 11, c 12, c 13, c 14, c 15, c 16, c 17, c 18, c 19, c 20, c 21, c 22, c 23, c 24, c 25, c 26, c 27, c 28, c 29, c 30, c 31, c 32, c 33, c 34, c 35, c 36, c 37, c 38, c 39, vals 0, vals 1, vals 2, vals 3, vals 4, vals 5, vals 6, vals 7, vals 8, vals 9, vals 10, vals 11, vals 12, vals 13, vals 14, vals 15, vals 16, vals 17, vals 18, vals 19], []⟩ w K _
        go_wp2_with fail
        refine (crc_Of _ _ (a.take k) h4 (by simp; omega)).mono ?_
        rintro e w' ⟨rfl, hb⟩
        exact hK _ _ hb rfl
      · refine ⟨fun _ _ _ => rfl, fun c _ vals w hC hD K hK => ?_⟩
        refine ite_yes (wanted_none rfl) ?_
        clear hD
        show Oper.wp _ _ ⟨#[(Value.slice ao1 a.length cap1 : Value), (Value.slice ao2 b.length cap2 : Value), (Value.slice ao3 m.length cap3 : Value), c 3, c 4, c 5, vals 20, (Value.int .i64 k : Value), (u8 : Value), c 9, c 10, c 11, c 12, c 13, c 14, c 15, c 16, c 17, c 18, c 19, c 20, c 21, c 22, c 23, c 24, c 25, c 26, c 27, c 28, c 29, c 30, c 31, c 32, c 33, c 34, c 35, c 36, c 37, c 38, c 39, vals 0, vals 1, vals 2, vals 3, vals 4, vals 5, vals 6, vals 7, vals 8, vals 9, vals 10, vals 11, vals 12, vals 13, vals 14, vals 15, vals 16, vals 17, vals 18, vals 19], []⟩ w K _
        go_wp2_with fail
        exact hK _ _ (Adds.refl _) (by rfl)
      · refine ⟨fun _ _ _ => rfl, fun c _ vals w hC hD K hK => ?_⟩
        refine ite_yes (wanted_none rfl) ?_
        clear hD
        show Oper.wp _ _ ⟨#[(Value.slice ao1 a.length cap1 : Value), (Value.slice ao2 b.length cap2 : Value), (Value.slice ao3 m.length cap3 : Value), c 3, c 4, c 5, vals 20, (Value.int .i64 k : Value), (u8 : Value), c 9, c 10, c 11, c 12, c 13, c 14, c 15, c 16, c 17, c 18, c 19, c 20, c 21, c 22, c 23, c 24, c 25, c 26, c 27, c 28, c 29, c 30, c 31, c 32, c 33, c 34, c 35, c 36, c 37, c 38, c 39, vals 0, vals 1, vals 2, vals 3, vals 4, vals 5, vals 6, vals 7, vals 8, vals 9, vals 10, vals 11, vals 12, vals 13, vals 14, vals 15, vals 16, vals 17, vals 18, vals 19], []⟩ w K _
        go_wp2_with fail
        exact hK _ _ (Adds.refl _) (by rfl)
      · refine ⟨fun _ _ _ => rfl, fun c _ vals w hC hD K hK => ?_⟩
        have h6 : vals 6 = .slice ao2 b.length cap2 := hD 6 rfl
        have h7 : vals 7 = .int .i64 k := hD 7 rfl
        refine ite_yes (wanted_none rfl) ?_
        clear hD
        obtain ⟨vals, rfl⟩ := upd_of (vals := vals) (j := 6) (x := Value.slice ao2 b.length cap2) h6
        clear h6
        obtain ⟨vals, rfl⟩ := upd_of (vals := vals) (j := 7) (x := Value.int .i64 k) h7
        clear h7
        show Oper.wp _ _ ⟨#[(Value.slice ao1 a.length cap1 : Value), (Value.slice ao2 b.length cap2 : Value), (Value.slice ao3 m.length cap3 : Value), c 3, c 4, c 5, vals 20, (Value.int .i64 k : Value), (u8 : Value), c 9, c 10, c 11, c 12, c 13, c 14, c 15, c 16, c 17, c 18, c 19, c 20, c 21, c 22, c 23, c 24, c 25, c 26, c 27, c 28, c 29, c 30, c 31, c 32, c 33, c 34, c 35, c 36, c 37, c 38, c 39, vals 0, vals 1, vals 2, vals 3, vals 4, vals 5, (Value.slice ao2 b.length cap2 : Value), (Value.int .i64 k : Value), vals 8, vals 9, vals 10, vals 11, vals 12, vals 13, vals 14, vals 15, vals 16, vals 17, vals 18, vals 19], []⟩ w K _
        go_wp2_with fail
        exact hK _ _ (Adds.refl _) (((g2.adds hC).pre (hi := k) (mx := cap2) n2 (by omega) (Nat.le_refl _)))
      · refine ⟨fun _ _ _ => rfl, fun c _ vals w hC hD K hK => ?_⟩
        have h8 : (fun x w => Bytes w x (b.take k)) (vals 8) w := hD 8 rfl
        refine ite_yes (wanted_none rfl) ?_
        clear hD
        show Oper.wp _ _ ⟨#[(Value.slice ao1 a.length cap1 : Value), (Value.slice ao2 b.length cap2 : Value), (Value.slice ao3 m.length cap3 : Value), c 3, c 4, c 5, vals 20, (Value.int .i64 k : Value), (u8 : Value), c 9, c 10, c 11, c 12, c 13, c 14, c 15, c 16, c 17, c 18, c 19, c 20, c 21, c 22, c 23, c 24, c 25, c 26, c 27, c 28, c 29, c 30, c 31, c 32, c 33, c 34, c 35, c 36, c 37, c 38, c 39, vals 0, vals 1, vals 2, vals 3, vals 4, vals 5, vals 6, vals 7, vals 8, vals 9, vals 10, vals 11, vals 12, vals 13, vals 14, vals 15, vals 16, vals 17, vals 18, vals 19], []⟩ w K _
        go_wp2_with fail
        refine (crc_Of _ _ (b.take k) h8 (by simp; omega)).mono ?_
        rintro e w' ⟨rfl, hb⟩
        exact hK _ _ hb rfl
      · refine ⟨fun _ _ _ => rfl, fun c _ vals w hC hD K hK => ?_⟩
        have h5 : vals 5 = W32 (Crc.of (a.take k)) := hD 5 rfl
        have h9 : vals 9 = W32 (Crc.of (b.take k)) := hD 9 rfl
        refine ite_yes (wanted_none rfl) ?_
        clear hD
        obtain ⟨vals, rfl⟩ := upd_of (vals := vals) (j := 5) (x := W32 (Crc.of (a.take k))) h5
        clear h5
        obtain ⟨vals, rfl⟩ := upd_of (vals := vals) (j := 9) (x := W32 (Crc.of (b.take k))) h9
        clear h9
        show Oper.wp _ _ ⟨#[(Value.slice ao1 a.length cap1 : Value), (Value.slice ao2 b.length cap2 : Value), (Value.slice ao3 m.length cap3 : Value), c 3, c 4, c 5, vals 20, (Value.int .i64 k : Value), (u8 : Value), c 9, c 10, c 11, c 12, c 13, c 14, c 15, c 16, c 17, c 18, c 19, c 20, c 21, c 22, c 23, c 24, c 25, c 26, c 27, c 28, c 29, c 30, c 31, c 32, c 33, c 34, c 35, c 36, c 37, c 38, c 39, vals 0, vals 1, vals 2, vals 3, vals 4, (W32 (Crc.of (a.take k)) : Value), vals 6, vals 7, vals 8, (W32 (Crc.of (b.take k)) : Value), vals 10, vals 11, vals 12, vals 13, vals 14, vals 15, vals 16, vals 17, vals 18, vals 19], []⟩ w K _
        go_wp2_with fail
        exact hK _ _ (Adds.refl _) (by first | rfl | simp)
      · refine ⟨fun _ _ _ => rfl, fun c _ vals w hC hD K hK => ?_⟩
        refine ite_yes (wanted_none rfl) ?_
        clear hD
        show Oper.wp _ _ ⟨#[(Value.slice ao1 a.length cap1 : Value), (Value.slice ao2 b.length cap2 : Value), (Value.slice ao3 m.length cap3 : Value), c 3, c 4, c 5, vals 20, (Value.int .i64 k : Value), (u8 : Value), c 9, c 10, c 11, c 12, c 13, c 14, c 15, c 16, c 17, c 18, c 19, c 20, c 21, c 22, c 23, c 24, c 25, c 26, c 27, c 28, c 29, c 30, c 31, c 32, c 33, c 34, c 35, c 36, c 37, c 38, c 39, vals 0, vals 1, vals 2, vals 3, vals 4, vals 5, vals 6, vals 7, vals 8, vals 9, vals 10, vals 11, vals 12, vals 13, vals 14, vals 15, vals 16, vals 17, vals 18, vals 19], []⟩ w K _
        go_wp2_with fail
        exact hK _ _ (Adds.refl _) (by rfl)
      · refine ⟨fun _ _ _ => rfl, fun c _ vals w hC hD K hK => ?_⟩
        refine ite_yes (wanted_none rfl) ?_
        clear hD
        show Oper.wp _ _ ⟨#[(Value.slice ao1 a.length cap1 : Value), (Value.slice ao2 b.length cap2 : Value), (Value.slice ao3 m.length cap3 : Value), c 3, c 4, c 5, vals 20, (Value.int .i64 k : Value), (u8 : Value), c 9, c 10, c 11, c 12, c 13, c 14, c 15, c 16, c 17, c 18, c 19, c 20, c 21, c 22, c 23, c 24, c 25, c 26, c 27, c 28, c 29, c 30, c 31, c 32, c 33, c 34, c 35, c 36, c 37, c 38, c 39, vals 0, vals 1, vals 2, vals 3, vals 4, vals 5, vals 6, vals 7, vals 8, vals 9, vals 10, vals 11, vals 12, vals 13, vals 14, vals 15, vals 16, vals 17, vals 18, vals 19], []⟩ w K _
        go_wp2_with fail
        exact hK _ _ (Adds.refl _) (by rfl)
      · refine ⟨fun _ _ _ => rfl, fun c _ vals w hC hD K hK => ?_⟩
        have h11 : vals 11 = .slice ao3 m.length cap3 := hD 11 rfl
        have h12 : vals 12 = .int .i64 k := hD 12 rfl
        refine ite_yes (wanted_none rfl) ?_
        clear hD
        obtain ⟨vals, rfl⟩ := upd_of (vals := vals) (j := 11) (x := Value.slice ao3 m.length cap3) h11
        clear h11
        obtain ⟨vals, rfl⟩ := upd_of (vals := vals) (j := 12) (x := Value.int .i64 k) h12
        clear h12
        show Oper.wp _ _ ⟨#[(Value.slice ao1 a.length cap1 : Value), (Value.slice ao2 b.length cap2 : Value), (Value.slice ao3 m.length cap3 : Value), c 3, c 4, c 5, vals 20, (Value.int .i64 k : Value), (u8 : Value), c 9, c 10, c 11, c 12, c 13, c 14, c 15, c 16, c 17, c 18, c 19, c 20, c 21, c 22, c 23, c 24, c 25, c 26, c 27, c 28, c 29, c 30, c 31, c 32, c 33, c 34, c 35, c 36, c 37, c 38, c 39, vals 0, vals 1, vals 2, vals 3, vals 4, vals 5, vals 6, vals 7, vals 8, vals 9, vals 10, (Value.slice ao3 m.length cap3 : Value), (Value.int .i64 k : Value), vals 13, vals 14, vals 15, vals 16, vals 17, vals 18, vals 19], []⟩ w K _
        go_wp2_with fail
        exact hK _ _ (Adds.refl _) (((g3.adds hC).pre (hi := k) (mx := cap3) n3 (by omega) (Nat.le_refl _)))
      · refine ⟨fun _ _ _ => rfl, fun c _ vals w hC hD K hK => ?_⟩
        have h13 : (fun x w => Bytes w x (m.take k)) (vals 13) w := hD 13 rfl
        refine ite_yes (wanted_none rfl) ?_
        clear hD
        show Oper.wp _ _ ⟨#[(Value.slice ao1 a.length cap1 : Value), (Value.slice ao2 b.length cap2 : Value), (Value.slice ao3 m.length cap3 : Value), c 3, c 4, c 5, vals 20, (Value.int .i64 k : Value), (u8 : Value), c 9, c 10, c 11, c 12, c 13, c 14, c 15, c 16, c 17, c 18, c 19, c 20, c 21, c 22, c 23, c 24, c 25, c 26, c 27, c 28, c 29, c 30, c 31, c 32, c 33, c 34, c 35, c 36, c 37, c 38, c 39, vals 0, vals 1, vals 2, vals 3, vals 4, vals 5, vals 6, vals 7, vals 8, vals 9, vals 10, vals 11, vals 12, vals 13, vals 14, vals 15, vals 16, vals 17, vals 18, vals 19], []⟩ w K _
        go_wp2_with fail
        refine (crc_Of _ _ (m.take k) h13 (by simp; omega)).mono ?_
        rintro e w' ⟨rfl, hb⟩
        exact hK _ _ hb rfl
      · refine ⟨fun _ _ _ => rfl, fun c _ vals w hC hD K hK => ?_⟩
        have h10 : vals 10 = W32 (Crc.of (a.take k) ^^^ Crc.of (b.take k)) := hD 10 rfl
        have h14 : vals 14 = W32 (Crc.of (m.take k)) := hD 14 rfl
        refine ite_yes (wanted_none rfl) ?_
        clear hD
        obtain ⟨vals, rfl⟩ := upd_of (vals := vals) (j := 10) (x := W32 (Crc.of (a.take k) ^^^ Crc.of (b.take k))) h10
        clear h10
        obtain ⟨vals, rfl⟩ := upd_of (vals := vals) (j := 14) (x := W32 (Crc.of (m.take k))) h14
        clear h14
        show Oper.wp _ _ ⟨#[(Value.slice ao1 a.length cap1 : Value), (Value.slice ao2 b.length cap2 : Value), (Value.slice ao3 m.length cap3 : Value), c 3, c 4, c 5, vals 20, (Value.int .i64 k : Value), (u8 : Value), c 9, c 10, c 11, c 12, c 13, c 14, c 15, c 16, c 17, c 18, c 19, c 20, c 21, c 22, c 23, c 24, c 25, c 26, c 27, c 28, c 29, c 30, c 31, c 32, c 33, c 34, c 35, c 36, c 37, c 38, c 39, vals 0, vals 1, vals 2, vals 3, vals 4, vals 5, vals 6, vals 7, vals 8, vals 9, (W32 (Crc.of (a.take k) ^^^ Crc.of (b.take k)) : Value), vals 11, vals 12, vals 13, (W32 (Crc.of (m.take k)) : Value), vals 15, vals 16, vals 17, vals 18, vals 19], []⟩ w K _
        go_wp2_with fail
        exact hK _ _ (Adds.refl _) (by first | rfl | simp)
      · refine ⟨fun _ _ _ => rfl, fun c _ vals w hC hD K hK => ?_⟩
        have h1 : vals 1 = W32 (Crc.of (a.take k) ^^^ Crc.of (b.take k) ^^^ Crc.of (m.take k)) := hD 1 rfl
        have h15 : vals 15 = W32 (Crc.of (a.take k) ^^^ Crc.of (b.take k) ^^^ Crc.of (m.take k)) := hD 15 rfl
        refine ite_yes (wanted_none rfl) ?_
        clear hD
        obtain ⟨vals, rfl⟩ := upd_of (vals := vals) (j := 1) (x := W32 (Crc.of (a.take k) ^^^ Crc.of (b.take k) ^^^ Crc.of (m.take k))) h1
        clear h1
        obtain ⟨vals, rfl⟩ := upd_of (vals := vals) (j := 15) (x := W32 (Crc.of (a.take k) ^^^ Crc.of (b.take k) ^^^ Crc.of (m.take k))) h15
        clear h15
        show Oper.wp _ _ ⟨#[(Value.slice ao1 a.length cap1 : Value), (Value.slice ao2 b.length cap2 : Value), (Value.slice ao3 m.length cap3 : Value), c 3, c 4, c 5, vals 20, (Value.int .i64 k : Value), (u8 : Value), c 9, c 10, c 11, c 12, c 13, c 14, c 15, c 16, c 17, c 18, c 19, c 20, c 21, c 22, c 23, c 24, c 25, c 26, c 27, c 28, c 29, c 30, c 31, c 32, c 33, c 34, c 35, c 36, c 37, c 38, c 39, vals 0, (W32 (Crc.of (a.take k) ^^^ Crc.of (b.take k) ^^^ Crc.of (m.take k)) : Value), vals 2, vals 3, vals 4, vals 5, vals 6, vals 7, vals 8, vals 9, vals 10, vals 11, vals 12, vals 13, vals 14, (W32 (Crc.of (a.take k) ^^^ Crc.of (b.take k) ^^^ Crc.of (m.take k)) : Value), vals 16, vals 17, vals 18, vals 19], []⟩ w K _
        go_wp2_with fail
        exact hK _ _ (Adds.refl _) (by rfl)
      · refine ⟨fun _ _ _ => rfl, fun c _ vals w hC hD K hK => ?_⟩
        have h16 : vals 16 = .bool true := hD 16 rfl
        refine ite_yes (wanted_none rfl) ?_
        clear hD
        obtain ⟨vals, rfl⟩ := upd_of (vals := vals) (j := 16) (x := Value.bool true) h16
        clear h16
        show Oper.wp _ _ ⟨#[(Value.slice ao1 a.length cap1 : Value), (Value.slice ao2 b.length cap2 : Value), (Value.slice ao3 m.length cap3 : Value), c 3, c 4, c 5, vals 20, (Value.int .i64 k : Value), (u8 : Value), c 9, c 10, c 11, c 12, c 13, c 14, c 15, c 16, c 17, c 18, c 19, c 20, c 21, c 22, c 23, c 24, c 25, c 26, c 27, c 28, c 29, c 30, c 31, c 32, c 33, c 34, c 35, c 36, c 37, c 38, c 39, vals 0, vals 1, vals 2, vals 3, vals 4, vals 5, vals 6, vals 7, vals 8, vals 9, vals 10, vals 11, vals 12, vals 13, vals 14, vals 15, (Value.bool true : Value), vals 17, vals 18, vals 19], []⟩ w K _
        go_wp2_with fail
        exact hK _ _ (Adds.refl _) (by rfl)
      · refine ⟨fun _ _ _ => rfl, fun c _ vals w hC hD K hK => ?_⟩
        have hg : vals 17 = .bool true := hD 17 rfl
        refine ite_yes (wanted_of rfl rfl rfl rfl hg) ?_
        clear hg
        clear hD
        show Oper.wp _ _ ⟨#[(Value.slice ao1 a.length cap1 : Value), (Value.slice ao2 b.length cap2 : Value), (Value.slice ao3 m.length cap3 : Value), c 3, c 4, c 5, vals 20, (Value.int .i64 k : Value), (u8 : Value), c 9, c 10, c 11, c 12, c 13, c 14, c 15, c 16, c 17, c 18, c 19, c 20, c 21, c 22, c 23, c 24, c 25, c 26, c 27, c 28, c 29, c 30, c 31, c 32, c 33, c 34, c 35, c 36, c 37, c 38, c 39, vals 0, vals 1, vals 2, vals 3, vals 4, vals 5, vals 6, vals 7, vals 8, vals 9, vals 10, vals 11, vals 12, vals 13, vals 14, vals 15, vals 16, vals 17, vals 18, vals 19], []⟩ w K _
        go_wp2_with fail
        refine (law01_fixed _).mono ?_
        rintro e w' ⟨rfl, hb⟩
        exact hK _ _ hb rfl
      · refine ⟨fun _ _ _ => rfl, fun c _ vals w hC hD K hK => ?_⟩
        have h17 : vals 17 = .bool true := hD 17 rfl
        have h18 : vals 18 = .bool true := hD 18 rfl
        refine ite_yes (wanted_none rfl) ?_
        clear hD
        obtain ⟨vals, rfl⟩ := upd_of (vals := vals) (j := 17) (x := Value.bool true) h17
        clear h17
        obtain ⟨vals, rfl⟩ := upd_of (vals := vals) (j := 18) (x := Value.bool true) h18
        clear h18
        show Oper.wp _ _ ⟨#[(Value.slice ao1 a.length cap1 : Value), (Value.slice ao2 b.length cap2 : Value), (Value.slice ao3 m.length cap3 : Value), c 3, c 4, c 5, vals 20, (Value.int .i64 k : Value), (u8 : Value), c 9, c 10, c 11, c 12, c 13, c 14, c 15, c 16, c 17, c 18, c 19, c 20, c 21, c 22, c 23, c 24, c 25, c 26, c 27, c 28, c 29, c 30, c 31, c 32, c 33, c 34, c 35, c 36, c 37, c 38, c 39, vals 0, vals 1, vals 2, vals 3, vals 4, vals 5, vals 6, vals 7, vals 8, vals 9, vals 10, vals 11, vals 12, vals 13, vals 14, vals 15, vals 16, (Value.bool true : Value), (Value.bool true : Value), vals 19], []⟩ w K _
        go_wp2_with fail
        exact hK _ _ (Adds.refl _) (by rfl)
      · refine ⟨fun _ _ _ => rfl, fun c _ vals w hC hD K hK => ?_⟩
        have h19 : vals 19 = .bool true := hD 19 rfl
        refine ite_yes (wanted_none rfl) ?_
        clear hD
        obtain ⟨vals, rfl⟩ := upd_of (vals := vals) (j := 19) (x := Value.bool true) h19
        clear h19
        show Oper.wp _ _ ⟨#[(Value.slice ao1 a.length cap1 : Value), (Value.slice ao2 b.length cap2 : Value), (Value.slice ao3 m.length cap3 : Value), c 3, c 4, c 5, vals 20, (Value.int .i64 k : Value), (u8 : Value), c 9, c 10, c 11, c 12, c 13, c 14, c 15, c 16, c 17, c 18, c 19, c 20, c 21, c 22, c 23, c 24, c 25, c 26, c 27, c 28, c 29, c 30, c 31, c 32, c 33, c 34, c 35, c 36, c 37, c 38, c 39, vals 0, vals 1, vals 2, vals 3, vals 4, vals 5, vals 6, vals 7, vals 8, vals 9, vals 10, vals 11, vals 12, vals 13, vals 14, vals 15, vals 16, vals 17, vals 18, (Value.bool true : Value)], []⟩ w K _
        go_wp2_with fail
        exact hK _ _ (Adds.refl _) (by rfl)
      intro vals w' hC hΦ
      have h20 : vals 20 = .bool true := hΦ 20 (by decide)
      clear hΦ
      simp only [List.getD_eq_getElem?_getD, List.getElem?_cons_zero, List.getElem?_cons_succ, Option.getD_some]
      simp only [h20]
      go_wp2_with fail
      go_ret
      exact ⟨rfl, hb1.trans (hC.mono hb1.size)⟩
end Go.Proofs.Ytmeialegemhlhaa
