/-
  The walks of package crc and of its reference.
-/
import Derived.Test.YtmeialegemhlhaaProg
import Derived.Test.YtmeialegemhlhaaM
import Derived.Test.YtmeialegemhlhaaCrcSpec
namespace Go.Proofs.Ytmeialegemhlhaa
open Go.RowKit Go.PK

theorem ref01_step (n : UInt32) (w : World) : Calls Try.prog 54 #[W32 n] w fun e w' => e = .returned (W32 (Crc.step n)) ∧ w' = w := by
  go_enter Try.func54, Try.ntmps54
  by_cases h : (n &&& 1 == 1) = true
  · go_wp2
    go_ret
    exact ⟨ret_W32 (by rw [Crc.step, if_pos h]), rfl⟩
  · have h' : (n &&& 1 == 1) = false := by simpa using h
    go_wp2
    go_ret
    exact ⟨ret_W32 (by rw [Crc.step, if_neg h]), rfl⟩

theorem ref01_eight (n : UInt32) (w : World) : Calls Try.prog 49 #[W32 n] w fun e w' => e = .returned (W32 (Crc.eight n)) ∧ w' = w := by
  go_enter Try.func49, Try.ntmps49
  go_wp2
  go_loop [0, 3] (fun x i => ∃ k : Nat, k ≤ 8 ∧ i = .int .i64 k ∧ x = W32 (Crc.steps k n)) (fun _ i => 8 - (intOf i).toNat)
  case atStart => exact ⟨0, by omega, rfl, rfl⟩
  case round =>
    obtain ⟨k, hk, rfl, rfl⟩ := hrel
    by_cases hlt : k < 8
    · go_wp2_with (go_at_call 54; refine (ref01_step _ _).mono ?_; rintro e w' ⟨rfl, rfl⟩)
      go_round
      case rel => exact ⟨k + 1, by omega, by go_num, rfl⟩
      case measure => simp [intOf]; omega
    · have : k = 8 := by omega
      subst this
      go_wp2
      go_ret
      exact ⟨rfl, rfl⟩

theorem crc_eight (b : UInt8) (w : World) : Calls Try.prog 50 #[B8 b] w fun e w' => e = .returned (W32 (Crc.eight b.toUInt32)) ∧ w' = w := by
  go_enter Try.func50, Try.ntmps50
  go_wp2
  go_loop [3, 7] (fun x i => ∃ k : Nat, k ≤ 8 ∧ i = .int .i64 k ∧ x = W32 (Crc.steps k b.toUInt32)) (fun _ i => 8 - (intOf i).toNat)
  case atStart => exact ⟨0, by omega, rfl, rfl⟩
  case round =>
    obtain ⟨k, hk, rfl, rfl⟩ := hrel
    generalize hx : Crc.steps k b.toUInt32 = x
    have HX := Lib.hid hx
    clear hx
    by_cases hlt : k < 8
    · by_cases h : (x &&& 1 == 1) = true
      · go_wp2
        go_round
        case rel => exact ⟨k + 1, by omega, by go_num, by rw [Crc.steps, HX.out, Crc.step, if_pos h]⟩
        case measure => simp [intOf]; omega
      · have h' : (x &&& 1 == 1) = false := by simpa using h
        go_wp2
        go_round
        case rel => exact ⟨k + 1, by omega, by go_num, by rw [Crc.steps, HX.out, Crc.step, if_neg h]⟩
        case measure => simp [intOf]; omega
    · have : k = 8 := by omega
      subst this
      go_wp2
      go_ret
      exact ⟨ret_W32 HX.out.symm, rfl⟩

/-- block b is a crc.Sum whose number is x -/
def SumAt (w : World) (b : Nat) (x : UInt32) : Prop := w.heap[b]? = some (.cells #[W32 x] 69)
theorem SumAt.cell {w : World} {b : Nat} {x : UInt32} (h : SumAt w b x) : w.cell? ⟨b, 0, none⟩ = some (W32 x) := by
  rw [cell_row h]; rfl
theorem SumAt.free {w : World} {b : Nat} {x : UInt32} (h : SumAt w b x) : w.frozen? ⟨b, 0, none⟩ = false := frozen_of_row w b 0 _ _ h
theorem SumAt.set {w : World} {b : Nat} {x : UInt32} (h : SumAt w b x) (y : UInt32) : SumAt (w.setCell ⟨b, 0, none⟩ (W32 y)) b y := by
  unfold SumAt
  rw [heap_setCell_same w b 0 _ _ _ h]
  rfl

theorem crc_New (w : World) : Calls Try.prog 31 #[] w fun e w' => e = .returned (.pointer (some ⟨w.heap.size, 0, none⟩)) ∧ w' = w.alloc (.cells #[W32 0] 69) := by
  go_enter Try.func31, Try.ntmps31
  go_wp2
  go_ret
  exact ⟨rfl, rfl⟩

theorem crc_Sum (w : World) (b : Nat) (x : UInt32) (h : SumAt w b x) : Calls Try.prog 33 #[.pointer (some ⟨b, 0, none⟩)] w fun e w' => e = .returned (W32 x) ∧ w' = w := by
  have hc := h.cell
  go_enter Try.func33, Try.ntmps33
  go_wp2
  go_ret
  exact ⟨rfl, rfl⟩

theorem crc_Write (w : World) (b : Nat) (x : UInt32) (v : Value) (l : List UInt8) (h : SumAt w b x) (hv : Bytes w v l) (hl : l.length ≤ 140737488351232) :
    Calls Try.prog 32 #[.pointer (some ⟨b, 0, none⟩), v] w fun e w' => e = .returned (.tuple #[]) ∧ w' = w.setCell ⟨b, 0, none⟩ (W32 (~~~(Crc.feed (~~~x) l))) := by
  have hc := h.cell
  have hf := h.free
  obtain ⟨ao, cap, rfl, h1, h2, -⟩ := id hv
  go_enter Try.func32, Try.ntmps32
  go_wp2
  go_loop [4, 6, 14] (fun y _ i => ∃ k : Nat, k ≤ l.length ∧ i = .int .i64 k ∧ y = W32 (Crc.feed (~~~x) (l.take k))) (fun _ _ i => l.length - (intOf i).toNat)
  case atStart => exact ⟨0, by omega, rfl, rfl⟩
  case round =>
    obtain ⟨k, hk, rfl, rfl⟩ := hrel
    by_cases hlt : k < l.length
    · obtain ⟨bb, off, rfl, hbb, hcell⟩ := hv.at hlt
      have hs : Hid (Crc.feed (~~~x) (l.take (k + 1)) = Crc.eight ((Crc.feed (~~~x) (l.take k)) % 256 ^^^ (l.getD k 0).toUInt32) ^^^ (Crc.feed (~~~x) (l.take k)) >>> 8) := by
        have := Crc.write_step (Crc.feed (~~~x) (l.take k)) (l.getD k 0)
        rw [← Crc.feed_snoc, ← take_succ_getD l k hlt] at this
        rw [← this]
        simp [Hid]
      generalize Crc.feed (~~~x) (l.take k) = y at *
      generalize l.getD k 0 = c at *
      clear hv
      go_wp2_with (go_at_call 50; refine (crc_eight _ _).mono ?_; rintro e w' ⟨rfl, rfl⟩)
      go_round
      case rel => exact ⟨k + 1, by omega, by go_num, by rw [hs.out]⟩
      case measure => simp [intOf]; omega
    · have : k = l.length := by omega
      subst this
      go_wp2
      go_end0
      exact ⟨rfl, by first | rfl | rw [List.take_length]⟩

theorem crc_Of (w : World) (v : Value) (l : List UInt8) (hv : Bytes w v l) (hl : l.length ≤ 140737488351232) :
    Calls Try.prog 27 #[v] w fun e w' => e = .returned (W32 (Crc.of l)) ∧ Below w.heap.size w w' := by
  go_enter Try.func27, Try.ntmps27
  go_wp2_with fail
  refine (crc_New _).mono ?_
  rintro e w1 ⟨rfl, rfl⟩
  have hs : SumAt (w.alloc (.cells #[W32 0] 69)) w.heap.size 0 := heap_alloc_new w _
  have hb : Below w.heap.size w (w.alloc (.cells #[W32 0] 69)) := (Below.refl _ _).alloc (Nat.le_refl _) _
  have hv' := hv.below hb (Nat.le_refl _)
  generalize w.alloc (.cells #[W32 0] 69) = w1 at *
  go_wp2_with fail
  refine (crc_Write w1 w.heap.size 0 v l hs hv' hl).mono ?_
  rintro e w2 ⟨rfl, rfl⟩
  have hs2 := hs.set (~~~(Crc.feed (~~~0) l))
  have hb2 := hb.setCell (p := ⟨w.heap.size, 0, none⟩) (Nat.le_refl _) (W32 (~~~(Crc.feed (~~~0) l)))
  generalize w1.setCell ⟨w.heap.size, 0, none⟩ (W32 (~~~(Crc.feed (~~~0) l))) = w2 at *
  go_wp2_with fail
  refine (crc_Sum w2 _ _ hs2).mono ?_
  rintro e w3 ⟨rfl, rfl⟩
  go_wp2_with fail
  go_ret
  exact ⟨rfl, hb2⟩

theorem ref01_Of (w : World) (v : Value) (l : List UInt8) (hv : Bytes w v l) (hl : l.length ≤ 140737488351232) :
    Calls Try.prog 28 #[v] w fun e w' => e = .returned (W32 (Crc.of l)) ∧ w' = w := by
  obtain ⟨ao, cap, rfl, h1, h2, -⟩ := id hv
  go_enter Try.func28, Try.ntmps28
  go_wp2
  go_loop [3, 4] (fun y i => ∃ k : Nat, k ≤ l.length ∧ i = .int .i64 k ∧ y = W32 (Crc.feed 0xFFFFFFFF (l.take k))) (fun _ i => l.length - (intOf i).toNat)
  case atStart => exact ⟨0, by omega, rfl, rfl⟩
  case round =>
    obtain ⟨k, hk, rfl, rfl⟩ := hrel
    by_cases hlt : k < l.length
    · obtain ⟨bb, off, rfl, hbb, hcell⟩ := hv.at hlt
      have hs : Hid (Crc.feed 0xFFFFFFFF (l.take (k + 1)) = Crc.eight (Crc.feed 0xFFFFFFFF (l.take k) ^^^ (l.getD k 0).toUInt32)) :=
        show _ = _ from by rw [take_succ_getD l k hlt, Crc.feed_snoc]
      generalize Crc.feed 0xFFFFFFFF (l.take k) = y at *
      generalize l.getD k 0 = c at *
      clear hv
      go_wp2_with (go_at_call 49; refine (ref01_eight _ _).mono ?_; rintro e w' ⟨rfl, rfl⟩)
      go_round
      case rel => exact ⟨k + 1, by omega, by go_num, by rw [hs.out]⟩
      case measure => simp [intOf]; omega
    · have : k = l.length := by omega
      subst this
      go_wp2
      go_ret
      exact ⟨by first | rfl | (rw [List.take_length]; rfl), rfl⟩
end Go.Proofs.Ytmeialegemhlhaa
