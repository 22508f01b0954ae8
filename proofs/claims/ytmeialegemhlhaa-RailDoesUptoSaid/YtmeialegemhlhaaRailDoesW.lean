/-
  The walk of RailDoes.
-/
import Derived.Test.YtmeialegemhlhaaRail5F
import Derived.Test.YtmeialegemhlhaaR
namespace Go.Proofs.Ytmeialegemhlhaa
open Go.RowKit Go.PK

set_option maxHeartbeats 2000000 in
theorem RailDoes_walk (w : World) (v : Value) (l : List UInt8) (hv : Bytes w v l) (hl : l.length ≤ 1048576) (u : Value) (m : List UInt8) (hu : Bytes w u m) (hm : m.length ≤ 1048576) :
    Calls Try.prog 10 #[v, u] w fun e w' => e = .returned (.bool true) ∧ Below w.heap.size w w' := by
  go_enter Try.func10, Try.ntmps10
  go_wp2_with fail
  refine (rail_Get _ _ l hv (by omega)).mono ?_
  rintro e w1 ⟨v1, rfl, ho1, B1⟩
  have hv1 := hv.below B1 (Nat.le_refl _)
  have hx1 := (Bytes.of_owns ho1).2
  generalize hq : (if Rail.right l = true then (0 : Int) else 5) = q
  have HQ := Lib.hid hq
  clear hq
  go_wp2_with fail
  refine (ref05_Get _ _ l hv1 (by omega)).mono ?_
  rintro e w2 ⟨v2, rfl, ho2, B2⟩
  rw [HQ.out]
  have C2 := B1.trans (B2.mono B1.size)
  have hv2 := hv.below C2 (Nat.le_refl _)
  have hu2 := hu.below C2 (Nat.le_refl _)
  have hx2 := hx1.below B2 (Nat.le_refl _)
  have hy2 := (Bytes.of_owns ho2).2
  clear ho1 ho2 B1 B2 hv1 hx1 HQ
  generalize Rail.got l = g at *
  have C2' := C2
  clear C2
  go_wp2_with fail
  refine wp_region_adds (fun c vals => ⟨#[(v : Value), (u : Value), c 2, c 3, vals 47, (v1 : Value), (Value.int .i64 q : Value), (v2 : Value), (Value.int .i64 q : Value), c 9, c 10, c 11, c 12, c 13, c 14, c 15, c 16, c 17, c 18, vals 0, vals 1, vals 2, vals 3, vals 4, vals 5, vals 6, vals 7, vals 8, vals 9, vals 10, vals 11, vals 12, vals 13, vals 14, vals 15, vals 16, vals 17, vals 18, vals 19, vals 20, vals 21, vals 22, vals 23, vals 24, vals 25, vals 26, vals 27, vals 28, vals 29, vals 30, vals 31, vals 32, vals 33, vals 34, vals 35, vals 36, vals 37, vals 38, vals 39, vals 40, vals 41, vals 42, vals 43, vals 44, vals 45, vals 46], []⟩) (fun t => [undef, undef, _, _, undef, undef, undef, undef, undef, _, _, _, _, _, _, _, _, _, _, undef, undef, undef, undef, undef, undef, undef, undef, undef, undef, undef, undef, undef, undef, undef, undef, undef, undef, undef, undef, undef, undef, undef, undef, undef, undef, undef, undef, undef, undef, undef, undef, undef, undef, undef, undef, undef, undef, undef, undef, undef, undef, undef, undef, undef, undef, undef].getD t undef) (fun i => [_, _, _, _, _, _, _, _, _, _, _, _, _, _, _, _, _, _, _, _, _, _, _, _, _, _, _, _, _, _, _, _, _, _, _, _, _, _, _, _, _, _, _, _, _, _, _, _].getD i undef) (by kernel_rfl)
    [[], [0], [0, 1], [], [0, 1, 3], [0, 1, 3, 4], [0, 1, 2, 3, 4, 5], [0, 1, 2, 3, 4, 5, 6], [0, 1, 2, 3, 4, 5, 6, 7], [0, 1, 2, 3, 4, 5, 6, 7, 8], [0, 1, 2, 3, 4, 5, 6, 7], [0, 1, 2, 3, 4, 5, 6, 7, 10], [0, 1, 2, 3, 4, 5, 6, 7, 8, 9, 10, 11], [0, 1, 2, 3, 4, 5, 6, 7, 8, 9, 10, 11, 12], [0, 1, 2, 3, 4, 5, 6, 7, 8, 9, 10, 11, 12, 13], [0, 1, 2, 3, 4, 5, 6, 7, 8, 9, 10, 11, 12, 13, 14], [0, 1, 2, 3, 4, 5, 6, 7, 8, 9, 10, 11, 12, 13, 14], [0, 1, 2, 3, 4, 5, 6, 7, 8, 9, 10, 11, 12, 13, 14, 15, 16], [0, 1, 2, 3, 4, 5, 6, 7, 8, 9, 10, 11, 12, 13, 14, 15, 16, 17], [0, 1, 2, 3, 4, 5, 6, 7, 8, 9, 10, 11, 12, 13, 14, 15, 16, 17, 18], [0, 1, 2, 3, 4, 5, 6, 7, 8, 9, 10, 11, 12, 13, 14, 15, 16, 17, 18, 19], [0, 1, 2, 3, 4, 5, 6, 7, 8, 9, 10, 11, 12, 13, 14, 15, 16, 17, 18, 19, 20], [0, 1, 2, 3, 4, 5, 6, 7, 8, 9, 10, 11, 12, 13, 14, 15, 16, 17, 18, 19], [0, 1, 2, 3, 4, 5, 6, 7, 8, 9, 10, 11, 12, 13, 14, 15, 16, 17, 18, 19, 20, 21, 22], [0, 1, 2, 3, 4, 5, 6, 7, 8, 9, 10, 11, 12, 13, 14, 15, 16, 17, 18, 19, 20, 21, 22, 23], [0, 1, 2, 3, 4, 5, 6, 7, 8, 9, 10, 11, 12, 13, 14, 15, 16, 17, 18, 19, 20, 21, 22, 23, 24], [0, 1, 2, 3, 4, 5, 6, 7, 8, 9, 10, 11, 12, 13, 14, 15, 16, 17, 18, 19, 20, 21, 22, 23, 24, 25], [0, 1, 2, 3, 4, 5, 6, 7, 8, 9, 10, 11, 12, 13, 14, 15, 16, 17, 18, 19, 20, 21, 22, 23, 24, 25, 26], [0, 1, 2, 3, 4, 5, 6, 7, 8, 9, 10, 11, 12, 13, 14, 15, 16, 17, 18, 19, 20, 21, 22, 23, 24, 25, 26], [0, 1, 2, 3, 4, 5, 6, 7, 8, 9, 10, 11, 12, 13, 14, 15, 16, 17, 18, 19, 20, 21, 22, 23, 24, 25, 26, 27, 28], [0, 1, 2, 3, 4, 5, 6, 7, 8, 9, 10, 11, 12, 13, 14, 15, 16, 17, 18, 19, 20, 21, 22, 23, 24, 25, 26], [0, 1, 2, 3, 4, 5, 6, 7, 8, 9, 10, 11, 12, 13, 14, 15, 16, 17, 18, 19, 20, 21, 22, 23, 24, 25, 26], [0, 1, 2, 3, 4, 5, 6, 7, 8, 9, 10, 11, 12, 13, 14, 15, 16, 17, 18, 19, 20, 21, 22, 23, 24, 25, 26, 27, 28, 29, 30, 31], [0, 1, 2, 3, 4, 5, 6, 7, 8, 9, 10, 11, 12, 13, 14, 15, 16, 17, 18, 19, 20, 21, 22, 23, 24, 25, 26, 27, 28, 29, 30, 31, 32], [0, 1, 2, 3, 4, 5, 6, 7, 8, 9, 10, 11, 12, 13, 14, 15, 16, 17, 18, 19, 20, 21, 22, 23, 24, 25, 26, 27, 28, 29, 30, 31, 32, 33], [0, 1, 2, 3, 4, 5, 6, 7, 8, 9, 10, 11, 12, 13, 14, 15, 16, 17, 18, 19, 20, 21, 22, 23, 24, 25, 26, 27, 28, 29, 30, 31, 32, 33, 34], [0, 1, 2, 3, 4, 5, 6, 7, 8, 9, 10, 11, 12, 13, 14, 15, 16, 17, 18, 19, 20, 21, 22, 23, 24, 25, 26, 27, 28, 29, 30, 31, 32, 33, 34, 35], [0, 1, 2, 3, 4, 5, 6, 7, 8, 9, 10, 11, 12, 13, 14, 15, 16, 17, 18, 19, 20, 21, 22, 23, 24, 25, 26, 27, 28, 29, 30, 31, 32, 33, 34, 35], [0, 1, 2, 3, 4, 5, 6, 7, 8, 9, 10, 11, 12, 13, 14, 15, 16, 17, 18, 19, 20, 21, 22, 23, 24, 25, 26, 27, 28, 29, 30, 31, 32, 33, 34, 35, 36, 37], [0, 1, 2, 3, 4, 5, 6, 7, 8, 9, 10, 11, 12, 13, 14, 15, 16, 17, 18, 19, 20, 21, 22, 23, 24, 25, 26, 27, 28, 29, 30, 31, 32, 33, 34, 35], [0, 1, 2, 3, 4, 5, 6, 7, 8, 9, 10, 11, 12, 13, 14, 15, 16, 17, 18, 19, 20, 21, 22, 23, 24, 25, 26, 27, 28, 29, 30, 31, 32, 33, 34, 35], [0, 1, 2, 3, 4, 5, 6, 7, 8, 9, 10, 11, 12, 13, 14, 15, 16, 17, 18, 19, 20, 21, 22, 23, 24, 25, 26, 27, 28, 29, 30, 31, 32, 33, 34, 35, 36, 37, 38, 39, 40], [0, 1, 2, 3, 4, 5, 6, 7, 8, 9, 10, 11, 12, 13, 14, 15, 16, 17, 18, 19, 20, 21, 22, 23, 24, 25, 26, 27, 28, 29, 30, 31, 32, 33, 34, 35, 36, 37, 38, 39, 40, 41], [0, 1, 2, 3, 4, 5, 6, 7, 8, 9, 10, 11, 12, 13, 14, 15, 16, 17, 18, 19, 20, 21, 22, 23, 24, 25, 26, 27, 28, 29, 30, 31, 32, 33, 34, 35, 36, 37, 38, 39, 40, 41, 42], [0, 1, 2, 3, 4, 5, 6, 7, 8, 9, 10, 11, 12, 13, 14, 15, 16, 17, 18, 19, 20, 21, 22, 23, 24, 25, 26, 27, 28, 29, 30, 31, 32, 33, 34, 35, 36, 37, 38, 39, 40, 41, 42, 43], [0, 1, 2, 3, 4, 5, 6, 7, 8, 9, 10, 11, 12, 13, 14, 15, 16, 17, 18, 19, 20, 21, 22, 23, 24, 25, 26, 27, 28, 29, 30, 31, 32, 33, 34, 35, 36, 37, 38, 39, 40, 41, 42, 43, 44], [0, 1, 2, 3, 4, 5, 6, 7, 8, 9, 10, 11, 12, 13, 14, 15, 16, 17, 18, 19, 20, 21, 22, 23, 24, 25, 26, 27, 28, 29, 30, 31, 32, 33, 34, 35, 36, 37, 38, 39, 40, 41, 42, 43, 44, 45], [0, 1, 2, 3, 4, 5, 6, 7, 8, 9, 10, 11, 12, 13, 14, 15, 16, 17, 18, 19, 20, 21, 22, 23, 24, 25, 26, 27, 28, 29, 30, 31, 32, 33, 34, 35, 36, 37, 38, 39, 40, 41, 42, 43, 44, 45, 46]] (by kernel_rfl) (fun _ => True) trivial
    [fun x _ => x = (v : Value),
     fun x w => Bytes w x (Rail.put l),
     fun x _ => x = (Value.string ⟨(Rail.put l).toArray⟩ : Value),
     fun x _ => x = (v : Value),
     fun x w => Bytes w x (Rail.put l),
     fun x _ => x = (Value.string ⟨(Rail.put l).toArray⟩ : Value),
     fun x _ => x = (Value.bool true : Value),
     fun x _ => x = (Value.bool true : Value),
     fun x _ => x = (v1 : Value),
     fun x _ => x = (Value.string ⟨(g).toArray⟩ : Value),
     fun x _ => x = (v2 : Value),
     fun x _ => x = (Value.string ⟨(g).toArray⟩ : Value),
     fun x _ => x = (Value.bool true : Value),
     fun x _ => x = (Value.bool true : Value),
     fun x _ => x = (Value.bool true : Value),
     fun x _ => x = (Value.int .i64 q : Value),
     fun x _ => x = (Value.int .i64 q : Value),
     fun x _ => x = (Value.bool true : Value),
     fun x _ => x = (Value.bool true : Value),
     fun x _ => x = (Value.bool true : Value),
     fun x _ => x = (v : Value),
     fun x _ => x = (Value.bool (Rail.right l) : Value),
     fun x _ => x = (v : Value),
     fun x _ => x = (Value.bool (Rail.right l) : Value),
     fun x _ => x = (Value.bool true : Value),
     fun x _ => x = (Value.bool true : Value),
     fun x _ => x = (Value.bool true : Value),
     fun x _ => x = (v : Value),
     fun x _ => x = (u : Value),
     fun x _ => x = (Value.bool (Rail.below l m) : Value),
     fun x _ => x = (v : Value),
     fun x _ => x = (u : Value),
     fun x _ => x = (Value.bool (Rail.below l m) : Value),
     fun x _ => x = (Value.bool true : Value),
     fun x _ => x = (Value.bool true : Value),
     fun x _ => x = (Value.bool true : Value),
     fun x _ => x = (u : Value),
     fun x _ => x = (v : Value),
     fun x _ => x = (Value.bool (Rail.below m l) : Value),
     fun x _ => x = (u : Value),
     fun x _ => x = (v : Value),
     fun x _ => x = (Value.bool (Rail.below m l) : Value),
     fun x _ => x = (Value.bool true : Value),
     fun x _ => x = (Value.bool true : Value),
     fun x _ => x = (Value.bool true : Value),
     fun x _ => x = (Value.bool true : Value),
     fun x _ => x = (Value.bool true : Value),
     fun x _ => x = (Value.bool true : Value)]
    ⟨fun _ _ _ h _ => h, fun _ _ _ h hb => h.adds hb, fun _ _ _ h _ => h, fun _ _ _ h _ => h, fun _ _ _ h hb => h.adds hb, fun _ _ _ h _ => h, fun _ _ _ h _ => h, fun _ _ _ h _ => h, fun _ _ _ h _ => h, fun _ _ _ h _ => h, fun _ _ _ h _ => h, fun _ _ _ h _ => h, fun _ _ _ h _ => h, fun _ _ _ h _ => h, fun _ _ _ h _ => h, fun _ _ _ h _ => h, fun _ _ _ h _ => h, fun _ _ _ h _ => h, fun _ _ _ h _ => h, fun _ _ _ h _ => h, fun _ _ _ h _ => h, fun _ _ _ h _ => h, fun _ _ _ h _ => h, fun _ _ _ h _ => h, fun _ _ _ h _ => h, fun _ _ _ h _ => h, fun _ _ _ h _ => h, fun _ _ _ h _ => h, fun _ _ _ h _ => h, fun _ _ _ h _ => h, fun _ _ _ h _ => h, fun _ _ _ h _ => h, fun _ _ _ h _ => h, fun _ _ _ h _ => h, fun _ _ _ h _ => h, fun _ _ _ h _ => h, fun _ _ _ h _ => h, fun _ _ _ h _ => h, fun _ _ _ h _ => h, fun _ _ _ h _ => h, fun _ _ _ h _ => h, fun _ _ _ h _ => h, fun _ _ _ h _ => h, fun _ _ _ h _ => h, fun _ _ _ h _ => h, fun _ _ _ h _ => h, fun _ _ _ h _ => h, fun _ _ _ h _ => h, trivial⟩
    ⟨?_, ?_, ?_, ?_, ?_, ?_, ?_, ?_, ?_, ?_, ?_, ?_, ?_, ?_, ?_, ?_, ?_, ?_, ?_, ?_, ?_, ?_, ?_, ?_, ?_, ?_, ?_, ?_, ?_, ?_, ?_, ?_, ?_, ?_, ?_, ?_, ?_, ?_, ?_, ?_, ?_, ?_, ?_, ?_, ?_, ?_, ?_, ?_, trivial⟩ ?_
  · refine ⟨fun _ _ _ => rfl, fun c _ vals w hC hD K hK => ?_⟩
    refine ite_yes (wanted_none rfl) ?_
    clear hD
    show Oper.wp _ _ ⟨#[(v : Value), (u : Value), c 2, c 3, vals 47, (v1 : Value), (Value.int .i64 q : Value), (v2 : Value), (Value.int .i64 q : Value), c 9, c 10, c 11, c 12, c 13, c 14, c 15, c 16, c 17, c 18, vals 0, vals 1, vals 2, vals 3, vals 4, vals 5, vals 6, vals 7, vals 8, vals 9, vals 10, vals 11, vals 12, vals 13, vals 14, vals 15, vals 16, vals 17, vals 18, vals 19, vals 20, vals 21, vals 22, vals 23, vals 24, vals 25, vals 26, vals 27, vals 28, vals 29, vals 30, vals 31, vals 32, vals 33, vals 34, vals 35, vals 36, vals 37, vals 38, vals 39, vals 40, vals 41, vals 42, vals 43, vals 44, vals 45, vals 46], []⟩ w K _
    go_wp2_with fail
    exact hK _ _ (Adds.refl _) (by rfl)
  · refine ⟨fun _ _ _ => rfl, fun c _ vals w hC hD K hK => ?_⟩
    have h0 : vals 0 = v := hD 0 rfl
    refine ite_yes (wanted_none rfl) ?_
    clear hD
    obtain ⟨vals, rfl⟩ := upd_of (vals := vals) (j := 0) (x := v) h0
    clear h0
    show Oper.wp _ _ ⟨#[(v : Value), (u : Value), c 2, c 3, vals 47, (v1 : Value), (Value.int .i64 q : Value), (v2 : Value), (Value.int .i64 q : Value), c 9, c 10, c 11, c 12, c 13, c 14, c 15, c 16, c 17, c 18, (v : Value), vals 1, vals 2, vals 3, vals 4, vals 5, vals 6, vals 7, vals 8, vals 9, vals 10, vals 11, vals 12, vals 13, vals 14, vals 15, vals 16, vals 17, vals 18, vals 19, vals 20, vals 21, vals 22, vals 23, vals 24, vals 25, vals 26, vals 27, vals 28, vals 29, vals 30, vals 31, vals 32, vals 33, vals 34, vals 35, vals 36, vals 37, vals 38, vals 39, vals 40, vals 41, vals 42, vals 43, vals 44, vals 45, vals 46], []⟩ w K _
    go_wp2_with fail
    refine (rail_Put _ _ l (hv2.adds hC) (by omega)).mono ?_
    rintro e w' ⟨v', rfl, ho, hb⟩
    exact hK _ _ hb (Bytes.of_owns ho).2
  · refine ⟨fun _ _ _ => rfl, fun c _ vals w hC hD K hK => ?_⟩
    have h1 : Bytes w (vals 1) (Rail.put l) := hD 1 rfl
    refine ite_yes (wanted_none rfl) ?_
    clear hD
    show Oper.wp _ _ ⟨#[(v : Value), (u : Value), c 2, c 3, vals 47, (v1 : Value), (Value.int .i64 q : Value), (v2 : Value), (Value.int .i64 q : Value), c 9, c 10, c 11, c 12, c 13, c 14, c 15, c 16, c 17, c 18, vals 0, vals 1, vals 2, vals 3, vals 4, vals 5, vals 6, vals 7, vals 8, vals 9, vals 10, vals 11, vals 12, vals 13, vals 14, vals 15, vals 16, vals 17, vals 18, vals 19, vals 20, vals 21, vals 22, vals 23, vals 24, vals 25, vals 26, vals 27, vals 28, vals 29, vals 30, vals 31, vals 32, vals 33, vals 34, vals 35, vals 36, vals 37, vals 38, vals 39, vals 40, vals 41, vals 42, vals 43, vals 44, vals 45, vals 46], []⟩ w K _
    have hs := str_of h1
    go_wp2_with fail
    exact hK _ _ (Adds.refl _) rfl
  · refine ⟨fun _ _ _ => rfl, fun c _ vals w hC hD K hK => ?_⟩
    refine ite_yes (wanted_none rfl) ?_
    clear hD
    show Oper.wp _ _ ⟨#[(v : Value), (u : Value), c 2, c 3, vals 47, (v1 : Value), (Value.int .i64 q : Value), (v2 : Value), (Value.int .i64 q : Value), c 9, c 10, c 11, c 12, c 13, c 14, c 15, c 16, c 17, c 18, vals 0, vals 1, vals 2, vals 3, vals 4, vals 5, vals 6, vals 7, vals 8, vals 9, vals 10, vals 11, vals 12, vals 13, vals 14, vals 15, vals 16, vals 17, vals 18, vals 19, vals 20, vals 21, vals 22, vals 23, vals 24, vals 25, vals 26, vals 27, vals 28, vals 29, vals 30, vals 31, vals 32, vals 33, vals 34, vals 35, vals 36, vals 37, vals 38, vals 39, vals 40, vals 41, vals 42, vals 43, vals 44, vals 45, vals 46], []⟩ w K _
    go_wp2_with fail
    exact hK _ _ (Adds.refl _) (by rfl)
  · refine ⟨fun _ _ _ => rfl, fun c _ vals w hC hD K hK => ?_⟩
    have h3 : vals 3 = v := hD 3 rfl
    refine ite_yes (wanted_none rfl) ?_
    clear hD
    obtain ⟨vals, rfl⟩ := upd_of (vals := vals) (j := 3) (x := v) h3
    clear h3
    show Oper.wp _ _ ⟨#[(v : Value), (u : Value), c 2, c 3, vals 47, (v1 : Value), (Value.int .i64 q : Value), (v2 : Value), (Value.int .i64 q : Value), c 9, c 10, c 11, c 12, c 13, c 14, c 15, c 16, c 17, c 18, vals 0, vals 1, vals 2, (v : Value), vals 4, vals 5, vals 6, vals 7, vals 8, vals 9, vals 10, vals 11, vals 12, vals 13, vals 14, vals 15, vals 16, vals 17, vals 18, vals 19, vals 20, vals 21, vals 22, vals 23, vals 24, vals 25, vals 26, vals 27, vals 28, vals 29, vals 30, vals 31, vals 32, vals 33, vals 34, vals 35, vals 36, vals 37, vals 38, vals 39, vals 40, vals 41, vals 42, vals 43, vals 44, vals 45, vals 46], []⟩ w K _
    go_wp2_with fail
    refine (ref05_Put _ _ l (hv2.adds hC) (by omega)).mono ?_
    rintro e w' ⟨v', rfl, ho, hb⟩
    exact hK _ _ hb (Bytes.of_owns ho).2
  · refine ⟨fun _ _ _ => rfl, fun c _ vals w hC hD K hK => ?_⟩
    have h4 : Bytes w (vals 4) (Rail.put l) := hD 4 rfl
    refine ite_yes (wanted_none rfl) ?_
    clear hD
    show Oper.wp _ _ ⟨#[(v : Value), (u : Value), c 2, c 3, vals 47, (v1 : Value), (Value.int .i64 q : Value), (v2 : Value), (Value.int .i64 q : Value), c 9, c 10, c 11, c 12, c 13, c 14, c 15, c 16, c 17, c 18, vals 0, vals 1, vals 2, vals 3, vals 4, vals 5, vals 6, vals 7, vals 8, vals 9, vals 10, vals 11, vals 12, vals 13, vals 14, vals 15, vals 16, vals 17, vals 18, vals 19, vals 20, vals 21, vals 22, vals 23, vals 24, vals 25, vals 26, vals 27, vals 28, vals 29, vals 30, vals 31, vals 32, vals 33, vals 34, vals 35, vals 36, vals 37, vals 38, vals 39, vals 40, vals 41, vals 42, vals 43, vals 44, vals 45, vals 46], []⟩ w K _
    have hs := str_of h4
    go_wp2_with fail
    exact hK _ _ (Adds.refl _) rfl
  · refine ⟨fun _ _ _ => rfl, fun c _ vals w hC hD K hK => ?_⟩
    have h2 : vals 2 = .string ⟨(Rail.put l).toArray⟩ := hD 2 rfl
    have h5 : vals 5 = .string ⟨(Rail.put l).toArray⟩ := hD 5 rfl
    refine ite_yes (wanted_none rfl) ?_
    clear hD
    obtain ⟨vals, rfl⟩ := upd_of (vals := vals) (j := 2) (x := Value.string ⟨(Rail.put l).toArray⟩) h2
    clear h2
    obtain ⟨vals, rfl⟩ := upd_of (vals := vals) (j := 5) (x := Value.string ⟨(Rail.put l).toArray⟩) h5
    clear h5
    show Oper.wp _ _ ⟨#[(v : Value), (u : Value), c 2, c 3, vals 47, (v1 : Value), (Value.int .i64 q : Value), (v2 : Value), (Value.int .i64 q : Value), c 9, c 10, c 11, c 12, c 13, c 14, c 15, c 16, c 17, c 18, vals 0, vals 1, (Value.string ⟨(Rail.put l).toArray⟩ : Value), vals 3, vals 4, (Value.string ⟨(Rail.put l).toArray⟩ : Value), vals 6, vals 7, vals 8, vals 9, vals 10, vals 11, vals 12, vals 13, vals 14, vals 15, vals 16, vals 17, vals 18, vals 19, vals 20, vals 21, vals 22, vals 23, vals 24, vals 25, vals 26, vals 27, vals 28, vals 29, vals 30, vals 31, vals 32, vals 33, vals 34, vals 35, vals 36, vals 37, vals 38, vals 39, vals 40, vals 41, vals 42, vals 43, vals 44, vals 45, vals 46], []⟩ w K _
    go_wp2_with fail
    exact hK _ _ (Adds.refl _) (by rfl)
  · refine ⟨fun _ _ _ => rfl, fun c _ vals w hC hD K hK => ?_⟩
    have h6 : vals 6 = .bool true := hD 6 rfl
    refine ite_yes (wanted_none rfl) ?_
    clear hD
    obtain ⟨vals, rfl⟩ := upd_of (vals := vals) (j := 6) (x := Value.bool true) h6
    clear h6
    show Oper.wp _ _ ⟨#[(v : Value), (u : Value), c 2, c 3, vals 47, (v1 : Value), (Value.int .i64 q : Value), (v2 : Value), (Value.int .i64 q : Value), c 9, c 10, c 11, c 12, c 13, c 14, c 15, c 16, c 17, c 18, vals 0, vals 1, vals 2, vals 3, vals 4, vals 5, (Value.bool true : Value), vals 7, vals 8, vals 9, vals 10, vals 11, vals 12, vals 13, vals 14, vals 15, vals 16, vals 17, vals 18, vals 19, vals 20, vals 21, vals 22, vals 23, vals 24, vals 25, vals 26, vals 27, vals 28, vals 29, vals 30, vals 31, vals 32, vals 33, vals 34, vals 35, vals 36, vals 37, vals 38, vals 39, vals 40, vals 41, vals 42, vals 43, vals 44, vals 45, vals 46], []⟩ w K _
    go_wp2_with fail
    exact hK _ _ (Adds.refl _) (by rfl)
  · refine ⟨fun _ _ _ => rfl, fun c _ vals w hC hD K hK => ?_⟩
    have hg : vals 7 = .bool true := hD 7 rfl
    refine ite_yes (wanted_of rfl rfl rfl rfl hg) ?_
    clear hg
    clear hD
    show Oper.wp _ _ ⟨#[(v : Value), (u : Value), c 2, c 3, vals 47, (v1 : Value), (Value.int .i64 q : Value), (v2 : Value), (Value.int .i64 q : Value), c 9, c 10, c 11, c 12, c 13, c 14, c 15, c 16, c 17, c 18, vals 0, vals 1, vals 2, vals 3, vals 4, vals 5, vals 6, vals 7, vals 8, vals 9, vals 10, vals 11, vals 12, vals 13, vals 14, vals 15, vals 16, vals 17, vals 18, vals 19, vals 20, vals 21, vals 22, vals 23, vals 24, vals 25, vals 26, vals 27, vals 28, vals 29, vals 30, vals 31, vals 32, vals 33, vals 34, vals 35, vals 36, vals 37, vals 38, vals 39, vals 40, vals 41, vals 42, vals 43, vals 44, vals 45, vals 46], []⟩ w K _
    go_wp2_with fail
    exact hK _ _ (Adds.refl _) (by rfl)
  · refine ⟨fun _ _ _ => rfl, fun c _ vals w hC hD K hK => ?_⟩
    have h8 : vals 8 = v1 := hD 8 rfl
    have hg : vals 7 = .bool true := hD 7 rfl
    refine ite_yes (wanted_of rfl rfl rfl rfl hg) ?_
    clear hg
    clear hD
    obtain ⟨vals, rfl⟩ := upd_of (vals := vals) (j := 8) (x := v1) h8
    clear h8
    show Oper.wp _ _ ⟨#[(v : Value), (u : Value), c 2, c 3, vals 47, (v1 : Value), (Value.int .i64 q : Value), (v2 : Value), (Value.int .i64 q : Value), c 9, c 10, c 11, c 12, c 13, c 14, c 15, c 16, c 17, c 18, vals 0, vals 1, vals 2, vals 3, vals 4, vals 5, vals 6, vals 7, (v1 : Value), vals 9, vals 10, vals 11, vals 12, vals 13, vals 14, vals 15, vals 16, vals 17, vals 18, vals 19, vals 20, vals 21, vals 22, vals 23, vals 24, vals 25, vals 26, vals 27, vals 28, vals 29, vals 30, vals 31, vals 32, vals 33, vals 34, vals 35, vals 36, vals 37, vals 38, vals 39, vals 40, vals 41, vals 42, vals 43, vals 44, vals 45, vals 46], []⟩ w K _
    have hs := str_of (hx2.adds hC)
    go_wp2_with fail
    exact hK _ _ (Adds.refl _) rfl
  · refine ⟨fun _ _ _ => rfl, fun c _ vals w hC hD K hK => ?_⟩
    have hg : vals 7 = .bool true := hD 7 rfl
    refine ite_yes (wanted_of rfl rfl rfl rfl hg) ?_
    clear hg
    clear hD
    show Oper.wp _ _ ⟨#[(v : Value), (u : Value), c 2, c 3, vals 47, (v1 : Value), (Value.int .i64 q : Value), (v2 : Value), (Value.int .i64 q : Value), c 9, c 10, c 11, c 12, c 13, c 14, c 15, c 16, c 17, c 18, vals 0, vals 1, vals 2, vals 3, vals 4, vals 5, vals 6, vals 7, vals 8, vals 9, vals 10, vals 11, vals 12, vals 13, vals 14, vals 15, vals 16, vals 17, vals 18, vals 19, vals 20, vals 21, vals 22, vals 23, vals 24, vals 25, vals 26, vals 27, vals 28, vals 29, vals 30, vals 31, vals 32, vals 33, vals 34, vals 35, vals 36, vals 37, vals 38, vals 39, vals 40, vals 41, vals 42, vals 43, vals 44, vals 45, vals 46], []⟩ w K _
    go_wp2_with fail
    exact hK _ _ (Adds.refl _) (by rfl)
  · refine ⟨fun _ _ _ => rfl, fun c _ vals w hC hD K hK => ?_⟩
    have h10 : vals 10 = v2 := hD 10 rfl
    have hg : vals 7 = .bool true := hD 7 rfl
    refine ite_yes (wanted_of rfl rfl rfl rfl hg) ?_
    clear hg
    clear hD
    obtain ⟨vals, rfl⟩ := upd_of (vals := vals) (j := 10) (x := v2) h10
    clear h10
    show Oper.wp _ _ ⟨#[(v : Value), (u : Value), c 2, c 3, vals 47, (v1 : Value), (Value.int .i64 q : Value), (v2 : Value), (Value.int .i64 q : Value), c 9, c 10, c 11, c 12, c 13, c 14, c 15, c 16, c 17, c 18, vals 0, vals 1, vals 2, vals 3, vals 4, vals 5, vals 6, vals 7, vals 8, vals 9, (v2 : Value), vals 11, vals 12, vals 13, vals 14, vals 15, vals 16, vals 17, vals 18, vals 19, vals 20, vals 21, vals 22, vals 23, vals 24, vals 25, vals 26, vals 27, vals 28, vals 29, vals 30, vals 31, vals 32, vals 33, vals 34, vals 35, vals 36, vals 37, vals 38, vals 39, vals 40, vals 41, vals 42, vals 43, vals 44, vals 45, vals 46], []⟩ w K _
    have hs := str_of (hy2.adds hC)
    go_wp2_with fail
    exact hK _ _ (Adds.refl _) rfl
  · refine ⟨fun _ _ _ => rfl, fun c _ vals w hC hD K hK => ?_⟩
    have h9 : vals 9 = .string ⟨(g).toArray⟩ := hD 9 rfl
    have h11 : vals 11 = .string ⟨(g).toArray⟩ := hD 11 rfl
    have hg : vals 7 = .bool true := hD 7 rfl
    refine ite_yes (wanted_of rfl rfl rfl rfl hg) ?_
    clear hg
    clear hD
    obtain ⟨vals, rfl⟩ := upd_of (vals := vals) (j := 9) (x := Value.string ⟨(g).toArray⟩) h9
    clear h9
    obtain ⟨vals, rfl⟩ := upd_of (vals := vals) (j := 11) (x := Value.string ⟨(g).toArray⟩) h11
    clear h11
    show Oper.wp _ _ ⟨#[(v : Value), (u : Value), c 2, c 3, vals 47, (v1 : Value), (Value.int .i64 q : Value), (v2 : Value), (Value.int .i64 q : Value), c 9, c 10, c 11, c 12, c 13, c 14, c 15, c 16, c 17, c 18, vals 0, vals 1, vals 2, vals 3, vals 4, vals 5, vals 6, vals 7, vals 8, (Value.string ⟨(g).toArray⟩ : Value), vals 10, (Value.string ⟨(g).toArray⟩ : Value), vals 12, vals 13, vals 14, vals 15, vals 16, vals 17, vals 18, vals 19, vals 20, vals 21, vals 22, vals 23, vals 24, vals 25, vals 26, vals 27, vals 28, vals 29, vals 30, vals 31, vals 32, vals 33, vals 34, vals 35, vals 36, vals 37, vals 38, vals 39, vals 40, vals 41, vals 42, vals 43, vals 44, vals 45, vals 46], []⟩ w K _
    go_wp2_with fail
    exact hK _ _ (Adds.refl _) (by rfl)
  · refine ⟨fun _ _ _ => rfl, fun c _ vals w hC hD K hK => ?_⟩
    have h7 : vals 7 = .bool true := hD 7 rfl
    have h12 : vals 12 = .bool true := hD 12 rfl
    refine ite_yes (wanted_none rfl) ?_
    clear hD
    obtain ⟨vals, rfl⟩ := upd_of (vals := vals) (j := 7) (x := Value.bool true) h7
    clear h7
    obtain ⟨vals, rfl⟩ := upd_of (vals := vals) (j := 12) (x := Value.bool true) h12
    clear h12
    show Oper.wp _ _ ⟨#[(v : Value), (u : Value), c 2, c 3, vals 47, (v1 : Value), (Value.int .i64 q : Value), (v2 : Value), (Value.int .i64 q : Value), c 9, c 10, c 11, c 12, c 13, c 14, c 15, c 16, c 17, c 18, vals 0, vals 1, vals 2, vals 3, vals 4, vals 5, vals 6, (Value.bool true : Value), vals 8, vals 9, vals 10, vals 11, (Value.bool true : Value), vals 13, vals 14, vals 15, vals 16, vals 17, vals 18, vals 19, vals 20, vals 21, vals 22, vals 23, vals 24, vals 25, vals 26, vals 27, vals 28, vals 29, vals 30, vals 31, vals 32, vals 33, vals 34, vals 35, vals 36, vals 37, vals 38, vals 39, vals 40, vals 41, vals 42, vals 43, vals 44, vals 45, vals 46], []⟩ w K _
    go_wp2_with fail
    exact hK _ _ (Adds.refl _) (by rfl)
  · refine ⟨fun _ _ _ => rfl, fun c _ vals w hC hD K hK => ?_⟩
    have h13 : vals 13 = .bool true := hD 13 rfl
    refine ite_yes (wanted_none rfl) ?_
    clear hD
    obtain ⟨vals, rfl⟩ := upd_of (vals := vals) (j := 13) (x := Value.bool true) h13
    clear h13
    show Oper.wp _ _ ⟨#[(v : Value), (u : Value), c 2, c 3, vals 47, (v1 : Value), (Value.int .i64 q : Value), (v2 : Value), (Value.int .i64 q : Value), c 9, c 10, c 11, c 12, c 13, c 14, c 15, c 16, c 17, c 18, vals 0, vals 1, vals 2, vals 3, vals 4, vals 5, vals 6, vals 7, vals 8, vals 9, vals 10, vals 11, vals 12, (Value.bool true : Value), vals 14, vals 15, vals 16, vals 17, vals 18, vals 19, vals 20, vals 21, vals 22, vals 23, vals 24, vals 25, vals 26, vals 27, vals 28, vals 29, vals 30, vals 31, vals 32, vals 33, vals 34, vals 35, vals 36, vals 37, vals 38, vals 39, vals 40, vals 41, vals 42, vals 43, vals 44, vals 45, vals 46], []⟩ w K _
    go_wp2_with fail
    exact hK _ _ (Adds.refl _) (by rfl)
  · refine ⟨fun _ _ _ => rfl, fun c _ vals w hC hD K hK => ?_⟩
    have hg : vals 14 = .bool true := hD 14 rfl
    refine ite_yes (wanted_of rfl rfl rfl rfl hg) ?_
    clear hg
    clear hD
    show Oper.wp _ _ ⟨#[(v : Value), (u : Value), c 2, c 3, vals 47, (v1 : Value), (Value.int .i64 q : Value), (v2 : Value), (Value.int .i64 q : Value), c 9, c 10, c 11, c 12, c 13, c 14, c 15, c 16, c 17, c 18, vals 0, vals 1, vals 2, vals 3, vals 4, vals 5, vals 6, vals 7, vals 8, vals 9, vals 10, vals 11, vals 12, vals 13, vals 14, vals 15, vals 16, vals 17, vals 18, vals 19, vals 20, vals 21, vals 22, vals 23, vals 24, vals 25, vals 26, vals 27, vals 28, vals 29, vals 30, vals 31, vals 32, vals 33, vals 34, vals 35, vals 36, vals 37, vals 38, vals 39, vals 40, vals 41, vals 42, vals 43, vals 44, vals 45, vals 46], []⟩ w K _
    go_wp2_with fail
    exact hK _ _ (Adds.refl _) (by rfl)
  · refine ⟨fun _ _ _ => rfl, fun c _ vals w hC hD K hK => ?_⟩
    have hg : vals 14 = .bool true := hD 14 rfl
    refine ite_yes (wanted_of rfl rfl rfl rfl hg) ?_
    clear hg
    clear hD
    show Oper.wp _ _ ⟨#[(v : Value), (u : Value), c 2, c 3, vals 47, (v1 : Value), (Value.int .i64 q : Value), (v2 : Value), (Value.int .i64 q : Value), c 9, c 10, c 11, c 12, c 13, c 14, c 15, c 16, c 17, c 18, vals 0, vals 1, vals 2, vals 3, vals 4, vals 5, vals 6, vals 7, vals 8, vals 9, vals 10, vals 11, vals 12, vals 13, vals 14, vals 15, vals 16, vals 17, vals 18, vals 19, vals 20, vals 21, vals 22, vals 23, vals 24, vals 25, vals 26, vals 27, vals 28, vals 29, vals 30, vals 31, vals 32, vals 33, vals 34, vals 35, vals 36, vals 37, vals 38, vals 39, vals 40, vals 41, vals 42, vals 43, vals 44, vals 45, vals 46], []⟩ w K _
    go_wp2_with fail
    exact hK _ _ (Adds.refl _) (by rfl)
  · refine ⟨fun _ _ _ => rfl, fun c _ vals w hC hD K hK => ?_⟩
    have h15 : vals 15 = .int .i64 q := hD 15 rfl
    have h16 : vals 16 = .int .i64 q := hD 16 rfl
    have hg : vals 14 = .bool true := hD 14 rfl
    refine ite_yes (wanted_of rfl rfl rfl rfl hg) ?_
    clear hg
    clear hD
    obtain ⟨vals, rfl⟩ := upd_of (vals := vals) (j := 15) (x := Value.int .i64 q) h15
    clear h15
    obtain ⟨vals, rfl⟩ := upd_of (vals := vals) (j := 16) (x := Value.int .i64 q) h16
    clear h16
    show Oper.wp _ _ ⟨#[(v : Value), (u : Value), c 2, c 3, vals 47, (v1 : Value), (Value.int .i64 q : Value), (v2 : Value), (Value.int .i64 q : Value), c 9, c 10, c 11, c 12, c 13, c 14, c 15, c 16, c 17, c 18, vals 0, vals 1, vals 2, vals 3, vals 4, vals 5, vals 6, vals 7, vals 8, vals 9, vals 10, vals 11, vals 12, vals 13, vals 14, (Value.int .i64 q : Value), (Value.int .i64 q : Value), vals 17, vals 18, vals 19, vals 20, vals 21, vals 22, vals 23, vals 24, vals 25, vals 26, vals 27, vals 28, vals 29, vals 30, vals 31, vals 32, vals 33, vals 34, vals 35, vals 36, vals 37, vals 38, vals 39, vals 40, vals 41, vals 42, vals 43, vals 44, vals 45, vals 46], []⟩ w K _
    go_wp2_with fail
    exact hK _ _ (Adds.refl _) (by rfl)
  · refine ⟨fun _ _ _ => rfl, fun c _ vals w hC hD K hK => ?_⟩
    have h14 : vals 14 = .bool true := hD 14 rfl
    have h17 : vals 17 = .bool true := hD 17 rfl
    refine ite_yes (wanted_none rfl) ?_
    clear hD
    obtain ⟨vals, rfl⟩ := upd_of (vals := vals) (j := 14) (x := Value.bool true) h14
    clear h14
    obtain ⟨vals, rfl⟩ := upd_of (vals := vals) (j := 17) (x := Value.bool true) h17
    clear h17
    show Oper.wp _ _ ⟨#[(v : Value), (u : Value), c 2, c 3, vals 47, (v1 : Value), (Value.int .i64 q : Value), (v2 : Value), (Value.int .i64 q : Value), c 9, c 10, c 11, c 12, c 13, c 14, c 15, c 16, c 17, c 18, vals 0, vals 1, vals 2, vals 3, vals 4, vals 5, vals 6, vals 7, vals 8, vals 9, vals 10, vals 11, vals 12, vals 13, (Value.bool true : Value), vals 15, vals 16, (Value.bool true : Value), vals 18, vals 19, vals 20, vals 21, vals 22, vals 23, vals 24, vals 25, vals 26, vals 27, vals 28, vals 29, vals 30, vals 31, vals 32, vals 33, vals 34, vals 35, vals 36, vals 37, vals 38, vals 39, vals 40, vals 41, vals 42, vals 43, vals 44, vals 45, vals 46], []⟩ w K _
    go_wp2_with fail
    exact hK _ _ (Adds.refl _) (by rfl)
  · refine ⟨fun _ _ _ => rfl, fun c _ vals w hC hD K hK => ?_⟩
    have h18 : vals 18 = .bool true := hD 18 rfl
    refine ite_yes (wanted_none rfl) ?_
    clear hD
    obtain ⟨vals, rfl⟩ := upd_of (vals := vals) (j := 18) (x := Value.bool true) h18
    clear h18
    show Oper.wp _ _ ⟨#[(v : Value), (u : Value), c 2, c 3, vals 47, (v1 : Value), (Value.int .i64 q : Value), (v2 : Value), (Value.int .i64 q : Value), c 9, c 10, c 11, c 12, c 13, c 14, c 15, c 16, c 17, c 18, vals 0, vals 1, vals 2, vals 3, vals 4, vals 5, vals 6, vals 7, vals 8, vals 9, vals 10, vals 11, vals 12, vals 13, vals 14, vals 15, vals 16, vals 17, (Value.bool true : Value), vals 19, vals 20, vals 21, vals 22, vals 23, vals 24, vals 25, vals 26, vals 27, vals 28, vals 29, vals 30, vals 31, vals 32, vals 33, vals 34, vals 35, vals 36, vals 37, vals 38, vals 39, vals 40, vals 41, vals 42, vals 43, vals 44, vals 45, vals 46], []⟩ w K _
    go_wp2_with fail
    exact hK _ _ (Adds.refl _) (by rfl)
  · refine ⟨fun _ _ _ => rfl, fun c _ vals w hC hD K hK => ?_⟩
    have hg : vals 19 = .bool true := hD 19 rfl
    refine ite_yes (wanted_of rfl rfl rfl rfl hg) ?_
    clear hg
    clear hD
    show Oper.wp _ _ ⟨#[(v : Value), (u : Value), c 2, c 3, vals 47, (v1 : Value), (Value.int .i64 q : Value), (v2 : Value), (Value.int .i64 q : Value), c 9, c 10, c 11, c 12, c 13, c 14, c 15, c 16, c 17, c 18, vals 0, vals 1, vals 2, vals 3, vals 4, vals 5, vals 6, vals 7, vals 8, vals 9, vals 10, vals 11, vals 12, vals 13, vals 14, vals 15, vals 16, vals 17, vals 18, vals 19, vals 20, vals 21, vals 22, vals 23, vals 24, vals 25, vals 26, vals 27, vals 28, vals 29, vals 30, vals 31, vals 32, vals 33, vals 34, vals 35, vals 36, vals 37, vals 38, vals 39, vals 40, vals 41, vals 42, vals 43, vals 44, vals 45, vals 46], []⟩ w K _
    go_wp2_with fail
    exact hK _ _ (Adds.refl _) (by rfl)
  · refine ⟨fun _ _ _ => rfl, fun c _ vals w hC hD K hK => ?_⟩
    have h20 : vals 20 = v := hD 20 rfl
    have hg : vals 19 = .bool true := hD 19 rfl
    refine ite_yes (wanted_of rfl rfl rfl rfl hg) ?_
    clear hg
    clear hD
    obtain ⟨vals, rfl⟩ := upd_of (vals := vals) (j := 20) (x := v) h20
    clear h20
    show Oper.wp _ _ ⟨#[(v : Value), (u : Value), c 2, c 3, vals 47, (v1 : Value), (Value.int .i64 q : Value), (v2 : Value), (Value.int .i64 q : Value), c 9, c 10, c 11, c 12, c 13, c 14, c 15, c 16, c 17, c 18, vals 0, vals 1, vals 2, vals 3, vals 4, vals 5, vals 6, vals 7, vals 8, vals 9, vals 10, vals 11, vals 12, vals 13, vals 14, vals 15, vals 16, vals 17, vals 18, vals 19, (v : Value), vals 21, vals 22, vals 23, vals 24, vals 25, vals 26, vals 27, vals 28, vals 29, vals 30, vals 31, vals 32, vals 33, vals 34, vals 35, vals 36, vals 37, vals 38, vals 39, vals 40, vals 41, vals 42, vals 43, vals 44, vals 45, vals 46], []⟩ w K _
    go_wp2_with fail
    refine (rail_Right_b _ _ l (hv2.adds hC)).mono ?_
    rintro e w' ⟨rfl, hb⟩
    exact hK _ _ hb rfl
  · refine ⟨fun _ _ _ => rfl, fun c _ vals w hC hD K hK => ?_⟩
    have hg : vals 19 = .bool true := hD 19 rfl
    refine ite_yes (wanted_of rfl rfl rfl rfl hg) ?_
    clear hg
    clear hD
    show Oper.wp _ _ ⟨#[(v : Value), (u : Value), c 2, c 3, vals 47, (v1 : Value), (Value.int .i64 q : Value), (v2 : Value), (Value.int .i64 q : Value), c 9, c 10, c 11, c 12, c 13, c 14, c 15, c 16, c 17, c 18, vals 0, vals 1, vals 2, vals 3, vals 4, vals 5, vals 6, vals 7, vals 8, vals 9, vals 10, vals 11, vals 12, vals 13, vals 14, vals 15, vals 16, vals 17, vals 18, vals 19, vals 20, vals 21, vals 22, vals 23, vals 24, vals 25, vals 26, vals 27, vals 28, vals 29, vals 30, vals 31, vals 32, vals 33, vals 34, vals 35, vals 36, vals 37, vals 38, vals 39, vals 40, vals 41, vals 42, vals 43, vals 44, vals 45, vals 46], []⟩ w K _
    go_wp2_with fail
    exact hK _ _ (Adds.refl _) (by rfl)
  · refine ⟨fun _ _ _ => rfl, fun c _ vals w hC hD K hK => ?_⟩
    have h22 : vals 22 = v := hD 22 rfl
    have hg : vals 19 = .bool true := hD 19 rfl
    refine ite_yes (wanted_of rfl rfl rfl rfl hg) ?_
    clear hg
    clear hD
    obtain ⟨vals, rfl⟩ := upd_of (vals := vals) (j := 22) (x := v) h22
    clear h22
    show Oper.wp _ _ ⟨#[(v : Value), (u : Value), c 2, c 3, vals 47, (v1 : Value), (Value.int .i64 q : Value), (v2 : Value), (Value.int .i64 q : Value), c 9, c 10, c 11, c 12, c 13, c 14, c 15, c 16, c 17, c 18, vals 0, vals 1, vals 2, vals 3, vals 4, vals 5, vals 6, vals 7, vals 8, vals 9, vals 10, vals 11, vals 12, vals 13, vals 14, vals 15, vals 16, vals 17, vals 18, vals 19, vals 20, vals 21, (v : Value), vals 23, vals 24, vals 25, vals 26, vals 27, vals 28, vals 29, vals 30, vals 31, vals 32, vals 33, vals 34, vals 35, vals 36, vals 37, vals 38, vals 39, vals 40, vals 41, vals 42, vals 43, vals 44, vals 45, vals 46], []⟩ w K _
    go_wp2_with fail
    refine (ref05_Right_b _ _ l (hv2.adds hC)).mono ?_
    rintro e w' ⟨rfl, hb⟩
    exact hK _ _ hb rfl
  · refine ⟨fun _ _ _ => rfl, fun c _ vals w hC hD K hK => ?_⟩
    have h21 : vals 21 = .bool (Rail.right l) := hD 21 rfl
    have h23 : vals 23 = .bool (Rail.right l) := hD 23 rfl
    have hg : vals 19 = .bool true := hD 19 rfl
    refine ite_yes (wanted_of rfl rfl rfl rfl hg) ?_
    clear hg
    clear hD
    obtain ⟨vals, rfl⟩ := upd_of (vals := vals) (j := 21) (x := Value.bool (Rail.right l)) h21
    clear h21
    obtain ⟨vals, rfl⟩ := upd_of (vals := vals) (j := 23) (x := Value.bool (Rail.right l)) h23
    clear h23
    show Oper.wp _ _ ⟨#[(v : Value), (u : Value), c 2, c 3, vals 47, (v1 : Value), (Value.int .i64 q : Value), (v2 : Value), (Value.int .i64 q : Value), c 9, c 10, c 11, c 12, c 13, c 14, c 15, c 16, c 17, c 18, vals 0, vals 1, vals 2, vals 3, vals 4, vals 5, vals 6, vals 7, vals 8, vals 9, vals 10, vals 11, vals 12, vals 13, vals 14, vals 15, vals 16, vals 17, vals 18, vals 19, vals 20, (Value.bool (Rail.right l) : Value), vals 22, (Value.bool (Rail.right l) : Value), vals 24, vals 25, vals 26, vals 27, vals 28, vals 29, vals 30, vals 31, vals 32, vals 33, vals 34, vals 35, vals 36, vals 37, vals 38, vals 39, vals 40, vals 41, vals 42, vals 43, vals 44, vals 45, vals 46], []⟩ w K _
    go_wp2_with fail
    exact hK _ _ (Adds.refl _) (by rfl)
  · refine ⟨fun _ _ _ => rfl, fun c _ vals w hC hD K hK => ?_⟩
    have h19 : vals 19 = .bool true := hD 19 rfl
    have h24 : vals 24 = .bool true := hD 24 rfl
    refine ite_yes (wanted_none rfl) ?_
    clear hD
    obtain ⟨vals, rfl⟩ := upd_of (vals := vals) (j := 19) (x := Value.bool true) h19
    clear h19
    obtain ⟨vals, rfl⟩ := upd_of (vals := vals) (j := 24) (x := Value.bool true) h24
    clear h24
    show Oper.wp _ _ ⟨#[(v : Value), (u : Value), c 2, c 3, vals 47, (v1 : Value), (Value.int .i64 q : Value), (v2 : Value), (Value.int .i64 q : Value), c 9, c 10, c 11, c 12, c 13, c 14, c 15, c 16, c 17, c 18, vals 0, vals 1, vals 2, vals 3, vals 4, vals 5, vals 6, vals 7, vals 8, vals 9, vals 10, vals 11, vals 12, vals 13, vals 14, vals 15, vals 16, vals 17, vals 18, (Value.bool true : Value), vals 20, vals 21, vals 22, vals 23, (Value.bool true : Value), vals 25, vals 26, vals 27, vals 28, vals 29, vals 30, vals 31, vals 32, vals 33, vals 34, vals 35, vals 36, vals 37, vals 38, vals 39, vals 40, vals 41, vals 42, vals 43, vals 44, vals 45, vals 46], []⟩ w K _
    go_wp2_with fail
    exact hK _ _ (Adds.refl _) (by rfl)
  · refine ⟨fun _ _ _ => rfl, fun c _ vals w hC hD K hK => ?_⟩
    have h25 : vals 25 = .bool true := hD 25 rfl
    refine ite_yes (wanted_none rfl) ?_
    clear hD
    obtain ⟨vals, rfl⟩ := upd_of (vals := vals) (j := 25) (x := Value.bool true) h25
    clear h25
    show Oper.wp _ _ ⟨#[(v : Value), (u : Value), c 2, c 3, vals 47, (v1 : Value), (Value.int .i64 q : Value), (v2 : Value), (Value.int .i64 q : Value), c 9, c 10, c 11, c 12, c 13, c 14, c 15, c 16, c 17, c 18, vals 0, vals 1, vals 2, vals 3, vals 4, vals 5, vals 6, vals 7, vals 8, vals 9, vals 10, vals 11, vals 12, vals 13, vals 14, vals 15, vals 16, vals 17, vals 18, vals 19, vals 20, vals 21, vals 22, vals 23, vals 24, (Value.bool true : Value), vals 26, vals 27, vals 28, vals 29, vals 30, vals 31, vals 32, vals 33, vals 34, vals 35, vals 36, vals 37, vals 38, vals 39, vals 40, vals 41, vals 42, vals 43, vals 44, vals 45, vals 46], []⟩ w K _
    go_wp2_with fail
    exact hK _ _ (Adds.refl _) (by rfl)
  · refine ⟨fun _ _ _ => rfl, fun c _ vals w hC hD K hK => ?_⟩
    have hg : vals 26 = .bool true := hD 26 rfl
    refine ite_yes (wanted_of rfl rfl rfl rfl hg) ?_
    clear hg
    clear hD
    show Oper.wp _ _ ⟨#[(v : Value), (u : Value), c 2, c 3, vals 47, (v1 : Value), (Value.int .i64 q : Value), (v2 : Value), (Value.int .i64 q : Value), c 9, c 10, c 11, c 12, c 13, c 14, c 15, c 16, c 17, c 18, vals 0, vals 1, vals 2, vals 3, vals 4, vals 5, vals 6, vals 7, vals 8, vals 9, vals 10, vals 11, vals 12, vals 13, vals 14, vals 15, vals 16, vals 17, vals 18, vals 19, vals 20, vals 21, vals 22, vals 23, vals 24, vals 25, vals 26, vals 27, vals 28, vals 29, vals 30, vals 31, vals 32, vals 33, vals 34, vals 35, vals 36, vals 37, vals 38, vals 39, vals 40, vals 41, vals 42, vals 43, vals 44, vals 45, vals 46], []⟩ w K _
    go_wp2_with fail
    exact hK _ _ (Adds.refl _) (by rfl)
  · refine ⟨fun _ _ _ => rfl, fun c _ vals w hC hD K hK => ?_⟩
    have hg : vals 26 = .bool true := hD 26 rfl
    refine ite_yes (wanted_of rfl rfl rfl rfl hg) ?_
    clear hg
    clear hD
    show Oper.wp _ _ ⟨#[(v : Value), (u : Value), c 2, c 3, vals 47, (v1 : Value), (Value.int .i64 q : Value), (v2 : Value), (Value.int .i64 q : Value), c 9, c 10, c 11, c 12, c 13, c 14, c 15, c 16, c 17, c 18, vals 0, vals 1, vals 2, vals 3, vals 4, vals 5, vals 6, vals 7, vals 8, vals 9, vals 10, vals 11, vals 12, vals 13, vals 14, vals 15, vals 16, vals 17, vals 18, vals 19, vals 20, vals 21, vals 22, vals 23, vals 24, vals 25, vals 26, vals 27, vals 28, vals 29, vals 30, vals 31, vals 32, vals 33, vals 34, vals 35, vals 36, vals 37, vals 38, vals 39, vals 40, vals 41, vals 42, vals 43, vals 44, vals 45, vals 46], []⟩ w K _
    go_wp2_with fail
    exact hK _ _ (Adds.refl _) (by rfl)
  · refine ⟨fun _ _ _ => rfl, fun c _ vals w hC hD K hK => ?_⟩
    have h27 : vals 27 = v := hD 27 rfl
    have h28 : vals 28 = u := hD 28 rfl
    have hg : vals 26 = .bool true := hD 26 rfl
    refine ite_yes (wanted_of rfl rfl rfl rfl hg) ?_
    clear hg
    clear hD
    obtain ⟨vals, rfl⟩ := upd_of (vals := vals) (j := 27) (x := v) h27
    clear h27
    obtain ⟨vals, rfl⟩ := upd_of (vals := vals) (j := 28) (x := u) h28
    clear h28
    show Oper.wp _ _ ⟨#[(v : Value), (u : Value), c 2, c 3, vals 47, (v1 : Value), (Value.int .i64 q : Value), (v2 : Value), (Value.int .i64 q : Value), c 9, c 10, c 11, c 12, c 13, c 14, c 15, c 16, c 17, c 18, vals 0, vals 1, vals 2, vals 3, vals 4, vals 5, vals 6, vals 7, vals 8, vals 9, vals 10, vals 11, vals 12, vals 13, vals 14, vals 15, vals 16, vals 17, vals 18, vals 19, vals 20, vals 21, vals 22, vals 23, vals 24, vals 25, vals 26, (v : Value), (u : Value), vals 29, vals 30, vals 31, vals 32, vals 33, vals 34, vals 35, vals 36, vals 37, vals 38, vals 39, vals 40, vals 41, vals 42, vals 43, vals 44, vals 45, vals 46], []⟩ w K _
    go_wp2_with fail
    refine (rail_Below_b _ _ _ l m (hv2.adds hC) (hu2.adds hC) (by omega)).mono ?_
    rintro e w' ⟨rfl, hb⟩
    exact hK _ _ hb rfl
  · refine ⟨fun _ _ _ => rfl, fun c _ vals w hC hD K hK => ?_⟩
    have hg : vals 26 = .bool true := hD 26 rfl
    refine ite_yes (wanted_of rfl rfl rfl rfl hg) ?_
    clear hg
    clear hD
    show Oper.wp _ _ ⟨#[(v : Value), (u : Value), c 2, c 3, vals 47, (v1 : Value), (Value.int .i64 q : Value), (v2 : Value), (Value.int .i64 q : Value), c 9, c 10, c 11, c 12, c 13, c 14, c 15, c 16, c 17, c 18, vals 0, vals 1, vals 2, vals 3, vals 4, vals 5, vals 6, vals 7, vals 8, vals 9, vals 10, vals 11, vals 12, vals 13, vals 14, vals 15, vals 16, vals 17, vals 18, vals 19, vals 20, vals 21, vals 22, vals 23, vals 24, vals 25, vals 26, vals 27, vals 28, vals 29, vals 30, vals 31, vals 32, vals 33, vals 34, vals 35, vals 36, vals 37, vals 38, vals 39, vals 40, vals 41, vals 42, vals 43, vals 44, vals 45, vals 46], []⟩ w K _
    go_wp2_with fail
    exact hK _ _ (Adds.refl _) (by rfl)
  · refine ⟨fun _ _ _ => rfl, fun c _ vals w hC hD K hK => ?_⟩
    have hg : vals 26 = .bool true := hD 26 rfl
    refine ite_yes (wanted_of rfl rfl rfl rfl hg) ?_
    clear hg
    clear hD
    show Oper.wp _ _ ⟨#[(v : Value), (u : Value), c 2, c 3, vals 47, (v1 : Value), (Value.int .i64 q : Value), (v2 : Value), (Value.int .i64 q : Value), c 9, c 10, c 11, c 12, c 13, c 14, c 15, c 16, c 17, c 18, vals 0, vals 1, vals 2, vals 3, vals 4, vals 5, vals 6, vals 7, vals 8, vals 9, vals 10, vals 11, vals 12, vals 13, vals 14, vals 15, vals 16, vals 17, vals 18, vals 19, vals 20, vals 21, vals 22, vals 23, vals 24, vals 25, vals 26, vals 27, vals 28, vals 29, vals 30, vals 31, vals 32, vals 33, vals 34, vals 35, vals 36, vals 37, vals 38, vals 39, vals 40, vals 41, vals 42, vals 43, vals 44, vals 45, vals 46], []⟩ w K _
    go_wp2_with fail
    exact hK _ _ (Adds.refl _) (by rfl)
  · refine ⟨fun _ _ _ => rfl, fun c _ vals w hC hD K hK => ?_⟩
    have h30 : vals 30 = v := hD 30 rfl
    have h31 : vals 31 = u := hD 31 rfl
    have hg : vals 26 = .bool true := hD 26 rfl
    refine ite_yes (wanted_of rfl rfl rfl rfl hg) ?_
    clear hg
    clear hD
    obtain ⟨vals, rfl⟩ := upd_of (vals := vals) (j := 30) (x := v) h30
    clear h30
    obtain ⟨vals, rfl⟩ := upd_of (vals := vals) (j := 31) (x := u) h31
    clear h31
    show Oper.wp _ _ ⟨#[(v : Value), (u : Value), c 2, c 3, vals 47, (v1 : Value), (Value.int .i64 q : Value), (v2 : Value), (Value.int .i64 q : Value), c 9, c 10, c 11, c 12, c 13, c 14, c 15, c 16, c 17, c 18, vals 0, vals 1, vals 2, vals 3, vals 4, vals 5, vals 6, vals 7, vals 8, vals 9, vals 10, vals 11, vals 12, vals 13, vals 14, vals 15, vals 16, vals 17, vals 18, vals 19, vals 20, vals 21, vals 22, vals 23, vals 24, vals 25, vals 26, vals 27, vals 28, vals 29, (v : Value), (u : Value), vals 32, vals 33, vals 34, vals 35, vals 36, vals 37, vals 38, vals 39, vals 40, vals 41, vals 42, vals 43, vals 44, vals 45, vals 46], []⟩ w K _
    go_wp2_with fail
    refine (ref05_Below_b _ _ _ l m (hv2.adds hC) (hu2.adds hC) (by omega)).mono ?_
    rintro e w' ⟨rfl, hb⟩
    exact hK _ _ hb rfl
  · refine ⟨fun _ _ _ => rfl, fun c _ vals w hC hD K hK => ?_⟩
    have h29 : vals 29 = .bool (Rail.below l m) := hD 29 rfl
    have h32 : vals 32 = .bool (Rail.below l m) := hD 32 rfl
    have hg : vals 26 = .bool true := hD 26 rfl
    refine ite_yes (wanted_of rfl rfl rfl rfl hg) ?_
    clear hg
    clear hD
    obtain ⟨vals, rfl⟩ := upd_of (vals := vals) (j := 29) (x := Value.bool (Rail.below l m)) h29
    clear h29
    obtain ⟨vals, rfl⟩ := upd_of (vals := vals) (j := 32) (x := Value.bool (Rail.below l m)) h32
    clear h32
    show Oper.wp _ _ ⟨#[(v : Value), (u : Value), c 2, c 3, vals 47, (v1 : Value), (Value.int .i64 q : Value), (v2 : Value), (Value.int .i64 q : Value), c 9, c 10, c 11, c 12, c 13, c 14, c 15, c 16, c 17, c 18, vals 0, vals 1, vals 2, vals 3, vals 4, vals 5, vals 6, vals 7, vals 8, vals 9, vals 10, vals 11, vals 12, vals 13, vals 14, vals 15, vals 16, vals 17, vals 18, vals 19, vals 20, vals 21, vals 22, vals 23, vals 24, vals 25, vals 26, vals 27, vals 28, (Value.bool (Rail.below l m) : Value), vals 30, vals 31, (Value.bool (Rail.below l m) : Value), vals 33, vals 34, vals 35, vals 36, vals 37, vals 38, vals 39, vals 40, vals 41, vals 42, vals 43, vals 44, vals 45, vals 46], []⟩ w K _
    go_wp2_with fail
    exact hK _ _ (Adds.refl _) (by rfl)
  · refine ⟨fun _ _ _ => rfl, fun c _ vals w hC hD K hK => ?_⟩
    have h26 : vals 26 = .bool true := hD 26 rfl
    have h33 : vals 33 = .bool true := hD 33 rfl
    refine ite_yes (wanted_none rfl) ?_
    clear hD
    obtain ⟨vals, rfl⟩ := upd_of (vals := vals) (j := 26) (x := Value.bool true) h26
    clear h26
    obtain ⟨vals, rfl⟩ := upd_of (vals := vals) (j := 33) (x := Value.bool true) h33
    clear h33
    show Oper.wp _ _ ⟨#[(v : Value), (u : Value), c 2, c 3, vals 47, (v1 : Value), (Value.int .i64 q : Value), (v2 : Value), (Value.int .i64 q : Value), c 9, c 10, c 11, c 12, c 13, c 14, c 15, c 16, c 17, c 18, vals 0, vals 1, vals 2, vals 3, vals 4, vals 5, vals 6, vals 7, vals 8, vals 9, vals 10, vals 11, vals 12, vals 13, vals 14, vals 15, vals 16, vals 17, vals 18, vals 19, vals 20, vals 21, vals 22, vals 23, vals 24, vals 25, (Value.bool true : Value), vals 27, vals 28, vals 29, vals 30, vals 31, vals 32, (Value.bool true : Value), vals 34, vals 35, vals 36, vals 37, vals 38, vals 39, vals 40, vals 41, vals 42, vals 43, vals 44, vals 45, vals 46], []⟩ w K _
    go_wp2_with fail
    exact hK _ _ (Adds.refl _) (by rfl)
  · refine ⟨fun _ _ _ => rfl, fun c _ vals w hC hD K hK => ?_⟩
    have h34 : vals 34 = .bool true := hD 34 rfl
    refine ite_yes (wanted_none rfl) ?_
    clear hD
    obtain ⟨vals, rfl⟩ := upd_of (vals := vals) (j := 34) (x := Value.bool true) h34
    clear h34
    show Oper.wp _ _ ⟨#[(v : Value), (u : Value), c 2, c 3, vals 47, (v1 : Value), (Value.int .i64 q : Value), (v2 : Value), (Value.int .i64 q : Value), c 9, c 10, c 11, c 12, c 13, c 14, c 15, c 16, c 17, c 18, vals 0, vals 1, vals 2, vals 3, vals 4, vals 5, vals 6, vals 7, vals 8, vals 9, vals 10, vals 11, vals 12, vals 13, vals 14, vals 15, vals 16, vals 17, vals 18, vals 19, vals 20, vals 21, vals 22, vals 23, vals 24, vals 25, vals 26, vals 27, vals 28, vals 29, vals 30, vals 31, vals 32, vals 33, (Value.bool true : Value), vals 35, vals 36, vals 37, vals 38, vals 39, vals 40, vals 41, vals 42, vals 43, vals 44, vals 45, vals 46], []⟩ w K _
    go_wp2_with fail
    exact hK _ _ (Adds.refl _) (by rfl)
  · refine ⟨fun _ _ _ => rfl, fun c _ vals w hC hD K hK => ?_⟩
    have hg : vals 35 = .bool true := hD 35 rfl
    refine ite_yes (wanted_of rfl rfl rfl rfl hg) ?_
    clear hg
    clear hD
    show Oper.wp _ _ ⟨#[(v : Value), (u : Value), c 2, c 3, vals 47, (v1 : Value), (Value.int .i64 q : Value), (v2 : Value), (Value.int .i64 q : Value), c 9, c 10, c 11, c 12, c 13, c 14, c 15, c 16, c 17, c 18, vals 0, vals 1, vals 2, vals 3, vals 4, vals 5, vals 6, vals 7, vals 8, vals 9, vals 10, vals 11, vals 12, vals 13, vals 14, vals 15, vals 16, vals 17, vals 18, vals 19, vals 20, vals 21, vals 22, vals 23, vals 24, vals 25, vals 26, vals 27, vals 28, vals 29, vals 30, vals 31, vals 32, vals 33, vals 34, vals 35, vals 36, vals 37, vals 38, vals 39, vals 40, vals 41, vals 42, vals 43, vals 44, vals 45, vals 46], []⟩ w K _
    go_wp2_with fail
    exact hK _ _ (Adds.refl _) (by rfl)
  · refine ⟨fun _ _ _ => rfl, fun c _ vals w hC hD K hK => ?_⟩
    have hg : vals 35 = .bool true := hD 35 rfl
    refine ite_yes (wanted_of rfl rfl rfl rfl hg) ?_
    clear hg
    clear hD
    show Oper.wp _ _ ⟨#[(v : Value), (u : Value), c 2, c 3, vals 47, (v1 : Value), (Value.int .i64 q : Value), (v2 : Value), (Value.int .i64 q : Value), c 9, c 10, c 11, c 12, c 13, c 14, c 15, c 16, c 17, c 18, vals 0, vals 1, vals 2, vals 3, vals 4, vals 5, vals 6, vals 7, vals 8, vals 9, vals 10, vals 11, vals 12, vals 13, vals 14, vals 15, vals 16, vals 17, vals 18, vals 19, vals 20, vals 21, vals 22, vals 23, vals 24, vals 25, vals 26, vals 27, vals 28, vals 29, vals 30, vals 31, vals 32, vals 33, vals 34, vals 35, vals 36, vals 37, vals 38, vals 39, vals 40, vals 41, vals 42, vals 43, vals 44, vals 45, vals 46], []⟩ w K _
    go_wp2_with fail
    exact hK _ _ (Adds.refl _) (by rfl)
  · refine ⟨fun _ _ _ => rfl, fun c _ vals w hC hD K hK => ?_⟩
    have h36 : vals 36 = u := hD 36 rfl
    have h37 : vals 37 = v := hD 37 rfl
    have hg : vals 35 = .bool true := hD 35 rfl
    refine ite_yes (wanted_of rfl rfl rfl rfl hg) ?_
    clear hg
    clear hD
    obtain ⟨vals, rfl⟩ := upd_of (vals := vals) (j := 36) (x := u) h36
    clear h36
    obtain ⟨vals, rfl⟩ := upd_of (vals := vals) (j := 37) (x := v) h37
    clear h37
    show Oper.wp _ _ ⟨#[(v : Value), (u : Value), c 2, c 3, vals 47, (v1 : Value), (Value.int .i64 q : Value), (v2 : Value), (Value.int .i64 q : Value), c 9, c 10, c 11, c 12, c 13, c 14, c 15, c 16, c 17, c 18, vals 0, vals 1, vals 2, vals 3, vals 4, vals 5, vals 6, vals 7, vals 8, vals 9, vals 10, vals 11, vals 12, vals 13, vals 14, vals 15, vals 16, vals 17, vals 18, vals 19, vals 20, vals 21, vals 22, vals 23, vals 24, vals 25, vals 26, vals 27, vals 28, vals 29, vals 30, vals 31, vals 32, vals 33, vals 34, vals 35, (u : Value), (v : Value), vals 38, vals 39, vals 40, vals 41, vals 42, vals 43, vals 44, vals 45, vals 46], []⟩ w K _
    go_wp2_with fail
    refine (rail_Below_b _ _ _ m l (hu2.adds hC) (hv2.adds hC) (by omega)).mono ?_
    rintro e w' ⟨rfl, hb⟩
    exact hK _ _ hb rfl
  · refine ⟨fun _ _ _ => rfl, fun c _ vals w hC hD K hK => ?_⟩
    have hg : vals 35 = .bool true := hD 35 rfl
    refine ite_yes (wanted_of rfl rfl rfl rfl hg) ?_
    clear hg
    clear hD
    show Oper.wp _ _ ⟨#[(v : Value), (u : Value), c 2, c 3, vals 47, (v1 : Value), (Value.int .i64 q : Value), (v2 : Value), (Value.int .i64 q : Value), c 9, c 10, c 11, c 12, c 13, c 14, c 15, c 16, c 17, c 18, vals 0, vals 1, vals 2, vals 3, vals 4, vals 5, vals 6, vals 7, vals 8, vals 9, vals 10, vals 11, vals 12, vals 13, vals 14, vals 15, vals 16, vals 17, vals 18, vals 19, vals 20, vals 21, vals 22, vals 23, vals 24, vals 25, vals 26, vals 27, vals 28, vals 29, vals 30, vals 31, vals 32, vals 33, vals 34, vals 35, vals 36, vals 37, vals 38, vals 39, vals 40, vals 41, vals 42, vals 43, vals 44, vals 45, vals 46], []⟩ w K _
    go_wp2_with fail
    exact hK _ _ (Adds.refl _) (by rfl)
  · refine ⟨fun _ _ _ => rfl, fun c _ vals w hC hD K hK => ?_⟩
    have hg : vals 35 = .bool true := hD 35 rfl
    refine ite_yes (wanted_of rfl rfl rfl rfl hg) ?_
    clear hg
    clear hD
    show Oper.wp _ _ ⟨#[(v : Value), (u : Value), c 2, c 3, vals 47, (v1 : Value), (Value.int .i64 q : Value), (v2 : Value), (Value.int .i64 q : Value), c 9, c 10, c 11, c 12, c 13, c 14, c 15, c 16, c 17, c 18, vals 0, vals 1, vals 2, vals 3, vals 4, vals 5, vals 6, vals 7, vals 8, vals 9, vals 10, vals 11, vals 12, vals 13, vals 14, vals 15, vals 16, vals 17, vals 18, vals 19, vals 20, vals 21, vals 22, vals 23, vals 24, vals 25, vals 26, vals 27, vals 28, vals 29, vals 30, vals 31, vals 32, vals 33, vals 34, vals 35, vals 36, vals 37, vals 38, vals 39, vals 40, vals 41, vals 42, vals 43, vals 44, vals 45, vals 46], []⟩ w K _
    go_wp2_with fail
    exact hK _ _ (Adds.refl _) (by rfl)
  · refine ⟨fun _ _ _ => rfl, fun c _ vals w hC hD K hK => ?_⟩
    have h39 : vals 39 = u := hD 39 rfl
    have h40 : vals 40 = v := hD 40 rfl
    have hg : vals 35 = .bool true := hD 35 rfl
    refine ite_yes (wanted_of rfl rfl rfl rfl hg) ?_
    clear hg
    clear hD
    obtain ⟨vals, rfl⟩ := upd_of (vals := vals) (j := 39) (x := u) h39
    clear h39
    obtain ⟨vals, rfl⟩ := upd_of (vals := vals) (j := 40) (x := v) h40
    clear h40
    show Oper.wp _ _ ⟨#[(v : Value), (u : Value), c 2, c 3, vals 47, (v1 : Value), (Value.int .i64 q : Value), (v2 : Value), (Value.int .i64 q : Value), c 9, c 10, c 11, c 12, c 13, c 14, c 15, c 16, c 17, c 18, vals 0, vals 1, vals 2, vals 3, vals 4, vals 5, vals 6, vals 7, vals 8, vals 9, vals 10, vals 11, vals 12, vals 13, vals 14, vals 15, vals 16, vals 17, vals 18, vals 19, vals 20, vals 21, vals 22, vals 23, vals 24, vals 25, vals 26, vals 27, vals 28, vals 29, vals 30, vals 31, vals 32, vals 33, vals 34, vals 35, vals 36, vals 37, vals 38, (u : Value), (v : Value), vals 41, vals 42, vals 43, vals 44, vals 45, vals 46], []⟩ w K _
    go_wp2_with fail
    refine (ref05_Below_b _ _ _ m l (hu2.adds hC) (hv2.adds hC) (by omega)).mono ?_
    rintro e w' ⟨rfl, hb⟩
    exact hK _ _ hb rfl
  · refine ⟨fun _ _ _ => rfl, fun c _ vals w hC hD K hK => ?_⟩
    have h38 : vals 38 = .bool (Rail.below m l) := hD 38 rfl
    have h41 : vals 41 = .bool (Rail.below m l) := hD 41 rfl
    have hg : vals 35 = .bool true := hD 35 rfl
    refine ite_yes (wanted_of rfl rfl rfl rfl hg) ?_
    clear hg
    clear hD
    obtain ⟨vals, rfl⟩ := upd_of (vals := vals) (j := 38) (x := Value.bool (Rail.below m l)) h38
    clear h38
    obtain ⟨vals, rfl⟩ := upd_of (vals := vals) (j := 41) (x := Value.bool (Rail.below m l)) h41
    clear h41
    show Oper.wp _ _ ⟨#[(v : Value), (u : Value), c 2, c 3, vals 47, (v1 : Value), (Value.int .i64 q : Value), (v2 : Value), (Value.int .i64 q : Value), c 9, c 10, c 11, c 12, c 13, c 14, c 15, c 16, c 17, c 18, vals 0, vals 1, vals 2, vals 3, vals 4, vals 5, vals 6, vals 7, vals 8, vals 9, vals 10, vals 11, vals 12, vals 13, vals 14, vals 15, vals 16, vals 17, vals 18, vals 19, vals 20, vals 21, vals 22, vals 23, vals 24, vals 25, vals 26, vals 27, vals 28, vals 29, vals 30, vals 31, vals 32, vals 33, vals 34, vals 35, vals 36, vals 37, (Value.bool (Rail.below m l) : Value), vals 39, vals 40, (Value.bool (Rail.below m l) : Value), vals 42, vals 43, vals 44, vals 45, vals 46], []⟩ w K _
    go_wp2_with fail
    exact hK _ _ (Adds.refl _) (by rfl)
  · refine ⟨fun _ _ _ => rfl, fun c _ vals w hC hD K hK => ?_⟩
    have h35 : vals 35 = .bool true := hD 35 rfl
    have h42 : vals 42 = .bool true := hD 42 rfl
    refine ite_yes (wanted_none rfl) ?_
    clear hD
    obtain ⟨vals, rfl⟩ := upd_of (vals := vals) (j := 35) (x := Value.bool true) h35
    clear h35
    obtain ⟨vals, rfl⟩ := upd_of (vals := vals) (j := 42) (x := Value.bool true) h42
    clear h42
    show Oper.wp _ _ ⟨#[(v : Value), (u : Value), c 2, c 3, vals 47, (v1 : Value), (Value.int .i64 q : Value), (v2 : Value), (Value.int .i64 q : Value), c 9, c 10, c 11, c 12, c 13, c 14, c 15, c 16, c 17, c 18, vals 0, vals 1, vals 2, vals 3, vals 4, vals 5, vals 6, vals 7, vals 8, vals 9, vals 10, vals 11, vals 12, vals 13, vals 14, vals 15, vals 16, vals 17, vals 18, vals 19, vals 20, vals 21, vals 22, vals 23, vals 24, vals 25, vals 26, vals 27, vals 28, vals 29, vals 30, vals 31, vals 32, vals 33, vals 34, (Value.bool true : Value), vals 36, vals 37, vals 38, vals 39, vals 40, vals 41, (Value.bool true : Value), vals 43, vals 44, vals 45, vals 46], []⟩ w K _
    go_wp2_with fail
    exact hK _ _ (Adds.refl _) (by rfl)
  · refine ⟨fun _ _ _ => rfl, fun c _ vals w hC hD K hK => ?_⟩
    have h43 : vals 43 = .bool true := hD 43 rfl
    refine ite_yes (wanted_none rfl) ?_
    clear hD
    obtain ⟨vals, rfl⟩ := upd_of (vals := vals) (j := 43) (x := Value.bool true) h43
    clear h43
    show Oper.wp _ _ ⟨#[(v : Value), (u : Value), c 2, c 3, vals 47, (v1 : Value), (Value.int .i64 q : Value), (v2 : Value), (Value.int .i64 q : Value), c 9, c 10, c 11, c 12, c 13, c 14, c 15, c 16, c 17, c 18, vals 0, vals 1, vals 2, vals 3, vals 4, vals 5, vals 6, vals 7, vals 8, vals 9, vals 10, vals 11, vals 12, vals 13, vals 14, vals 15, vals 16, vals 17, vals 18, vals 19, vals 20, vals 21, vals 22, vals 23, vals 24, vals 25, vals 26, vals 27, vals 28, vals 29, vals 30, vals 31, vals 32, vals 33, vals 34, vals 35, vals 36, vals 37, vals 38, vals 39, vals 40, vals 41, vals 42, (Value.bool true : Value), vals 44, vals 45, vals 46], []⟩ w K _
    go_wp2_with fail
    exact hK _ _ (Adds.refl _) (by rfl)
  · refine ⟨fun _ _ _ => rfl, fun c _ vals w hC hD K hK => ?_⟩
    have hg : vals 44 = .bool true := hD 44 rfl
    refine ite_yes (wanted_of rfl rfl rfl rfl hg) ?_
    clear hg
    clear hD
    show Oper.wp _ _ ⟨#[(v : Value), (u : Value), c 2, c 3, vals 47, (v1 : Value), (Value.int .i64 q : Value), (v2 : Value), (Value.int .i64 q : Value), c 9, c 10, c 11, c 12, c 13, c 14, c 15, c 16, c 17, c 18, vals 0, vals 1, vals 2, vals 3, vals 4, vals 5, vals 6, vals 7, vals 8, vals 9, vals 10, vals 11, vals 12, vals 13, vals 14, vals 15, vals 16, vals 17, vals 18, vals 19, vals 20, vals 21, vals 22, vals 23, vals 24, vals 25, vals 26, vals 27, vals 28, vals 29, vals 30, vals 31, vals 32, vals 33, vals 34, vals 35, vals 36, vals 37, vals 38, vals 39, vals 40, vals 41, vals 42, vals 43, vals 44, vals 45, vals 46], []⟩ w K _
    go_wp2_with fail
    refine (law05_fixed _).mono ?_
    rintro e w' ⟨rfl, hb⟩
    exact hK _ _ hb rfl
  · refine ⟨fun _ _ _ => rfl, fun c _ vals w hC hD K hK => ?_⟩
    have h44 : vals 44 = .bool true := hD 44 rfl
    have h45 : vals 45 = .bool true := hD 45 rfl
    refine ite_yes (wanted_none rfl) ?_
    clear hD
    obtain ⟨vals, rfl⟩ := upd_of (vals := vals) (j := 44) (x := Value.bool true) h44
    clear h44
    obtain ⟨vals, rfl⟩ := upd_of (vals := vals) (j := 45) (x := Value.bool true) h45
    clear h45
    show Oper.wp _ _ ⟨#[(v : Value), (u : Value), c 2, c 3, vals 47, (v1 : Value), (Value.int .i64 q : Value), (v2 : Value), (Value.int .i64 q : Value), c 9, c 10, c 11, c 12, c 13, c 14, c 15, c 16, c 17, c 18, vals 0, vals 1, vals 2, vals 3, vals 4, vals 5, vals 6, vals 7, vals 8, vals 9, vals 10, vals 11, vals 12, vals 13, vals 14, vals 15, vals 16, vals 17, vals 18, vals 19, vals 20, vals 21, vals 22, vals 23, vals 24, vals 25, vals 26, vals 27, vals 28, vals 29, vals 30, vals 31, vals 32, vals 33, vals 34, vals 35, vals 36, vals 37, vals 38, vals 39, vals 40, vals 41, vals 42, vals 43, (Value.bool true : Value), (Value.bool true : Value), vals 46], []⟩ w K _
    go_wp2_with fail
    exact hK _ _ (Adds.refl _) (by rfl)
  · refine ⟨fun _ _ _ => rfl, fun c _ vals w hC hD K hK => ?_⟩
    have h46 : vals 46 = .bool true := hD 46 rfl
    refine ite_yes (wanted_none rfl) ?_
    clear hD
    obtain ⟨vals, rfl⟩ := upd_of (vals := vals) (j := 46) (x := Value.bool true) h46
    clear h46
    show Oper.wp _ _ ⟨#[(v : Value), (u : Value), c 2, c 3, vals 47, (v1 : Value), (Value.int .i64 q : Value), (v2 : Value), (Value.int .i64 q : Value), c 9, c 10, c 11, c 12, c 13, c 14, c 15, c 16, c 17, c 18, vals 0, vals 1, vals 2, vals 3, vals 4, vals 5, vals 6, vals 7, vals 8, vals 9, vals 10, vals 11, vals 12, vals 13, vals 14, vals 15, vals 16, vals 17, vals 18, vals 19, vals 20, vals 21, vals 22, vals 23, vals 24, vals 25, vals 26, vals 27, vals 28, vals 29, vals 30, vals 31, vals 32, vals 33, vals 34, vals 35, vals 36, vals 37, vals 38, vals 39, vals 40, vals 41, vals 42, vals 43, vals 44, vals 45, (Value.bool true : Value)], []⟩ w K _
    go_wp2_with fail
    exact hK _ _ (Adds.refl _) (by rfl)
  intro vals w' hC hΦ
  have h47 : vals 47 = .bool true := hΦ 47 (by decide)
  clear hΦ
  simp only [List.getD_eq_getElem?_getD, List.getElem?_cons_zero, List.getElem?_cons_succ, Option.getD_some]
  simp only [h47]
  go_wp2_with fail
  go_ret
  exact ⟨rfl, C2'.trans (hC.mono C2'.size)⟩
end Go.Proofs.Ytmeialegemhlhaa
