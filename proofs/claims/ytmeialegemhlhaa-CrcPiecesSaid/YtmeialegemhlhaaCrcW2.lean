/-
  The walks of the tables, and of 'fixed' of the statements of layer 1.
-/
import Derived.Test.YtmeialegemhlhaaA
import Derived.Test.YtmeialegemhlhaaCrcW
import Derived.Test.YtmeialegemhlhaaCrcSpec2
namespace Go.Proofs.Ytmeialegemhlhaa
open Go.RowKit Go.PK

theorem tabInfo : (Try.prog.info? 34).map (·.size) = some 256 := by kernel_rfl
theorem tabZero : (Try.prog.info? 34).map (·.zero) = some (some (.agg ((Crc.laying 0).map W32).toArray)) := by kernel_rfl
theorem W32_one {l : List UInt32} : ∀ v ∈ l.map W32, v.oneCell' = true := by
  intro v hv
  obtain ⟨x, _, rfl⟩ := List.mem_map.1 hv
  rfl
theorem B8_one {l : List UInt8} : ∀ v ∈ l.map B8, v.oneCell' = true := by
  intro v hv
  obtain ⟨x, _, rfl⟩ := List.mem_map.1 hv
  rfl
theorem ofInt8_small (k : Nat) (h : k < 256) : (UInt8.ofInt (k : Int)).toUInt32 = UInt32.ofNat k := by
  rw [ofInt8_nat]
  apply UInt32.toNat_inj.1
  simp
  omega

set_option maxRecDepth 100000 in
set_option maxHeartbeats 400000 in
theorem crc_Table (w : World) : Calls Try.prog 29 #[] w fun e w' => e = .returned (.agg (Crc.tab.map W32).toArray) ∧ Below w.heap.size w w' := by
  go_enter Try.func29, Try.ntmps29
  go_wp2_with (refine wpList_alloc_row rfl 34 rfl _ tabZero ?_)
  have hB : Below w.heap.size w ((w.alloc (.cells ((Crc.laying 0).map W32).toArray 34)).alloc (.cells ((Crc.laying 0).map W32).toArray 34)) := ((Below.refl _ _).alloc (Nat.le_refl _) _).alloc (by simp) _
  have h0 : Row ((w.alloc (.cells ((Crc.laying 0).map W32).toArray 34)).alloc (.cells ((Crc.laying 0).map W32).toArray 34)) w.heap.size 34 ((Crc.laying 0).map W32) := (Row.new w _ _).alloc _
  have h1 : Row ((w.alloc (.cells ((Crc.laying 0).map W32).toArray 34)).alloc (.cells ((Crc.laying 0).map W32).toArray 34)) (w.heap.size + 1) 34 ((Crc.laying 0).map W32) := by
    have := Row.new (w.alloc (.cells ((Crc.laying 0).map W32).toArray 34)) 34 ((Crc.laying 0).map W32)
    simpa using this
  generalize (w.alloc (.cells ((Crc.laying 0).map W32).toArray 34)).alloc (.cells ((Crc.laying 0).map W32).toArray 34) = w1 at *
  go_loopw [2, 3] (fun _ i wr => ∃ k : Nat, k ≤ 256 ∧ i = .int .i64 k ∧ Row wr w.heap.size 34 ((Crc.laying 0).map W32) ∧ Row wr (w.heap.size + 1) 34 ((Crc.laying k).map W32) ∧ Below w.heap.size w wr) (fun _ i _ => 256 - (intOf i).toNat)
  case atStart => exact ⟨0, by omega, rfl, h0, h1, hB⟩
  case round =>
    clear h0 h1 hB
    obtain ⟨k, hk, rfl, h0, h1, hB⟩ := hrel
    by_cases hlt : k < 256
    · obtain ⟨old, c1⟩ : ∃ old, wr.cell? ⟨w.heap.size + 1, k, none⟩ = some (W32 old) := ⟨_, h1.at (j := k) (by rw [Crc.laying_length]; exact hlt) 0⟩
      have f1 := h1.free k
      have HS := Lib.hid (Crc.laying_succ k)
      have HO := Lib.hid (ofInt8_small k hlt)
      go_wp2_with (go_at_call 50; refine (crc_eight _ _).mono ?_; rintro e w' ⟨rfl, rfl⟩)
      go_roundw
      case rel =>
        refine ⟨k + 1, by omega, by go_num, h0.other (by omega) _, ?_, hB.setCell (by simp) _⟩
        rw [← HS.out, ← HO.out]
        simpa using h1.set_map k (Crc.eight (UInt8.ofInt (k : Int)).toUInt32)
      case measure => simp [intOf]; omega
    · have : k = 256 := by omega
      subst this
      rw [Crc.laying_all] at h1
      have hi : (Try.prog.info? 34).map (·.size) = some (Crc.tab.map W32).length := by rw [List.length_map, Crc.tab_length]; exact tabInfo
      have hl : (Crc.tab.map W32).length = ((Crc.laying 0).map W32).length := by rw [List.length_map, List.length_map, Crc.tab_length, Crc.laying_length]
      have HI := Lib.hid hi
      have HL := Lib.hid hl
      clear hi hl
      go_wp2_with (first
        | (refine wpList_load_all rfl 34 (.tmp 1) rfl (w.heap.size + 1) rfl h1 Try.underlying34 rfl HI.out ?_)
        | (refine wpList_store_all rfl 34 (.tmp 0) (.tmp 12) rfl w.heap.size rfl rfl h0 HL.out HI.out W32_one ?_))
      have h2 := h0.setRow (Crc.tab.map W32)
      have hB2 := hB.setRow (g := w.heap.size) (Nat.le_refl _) (Crc.tab.map W32).toArray
      refine bodyPost_cell rfl rfl rfl h2 ?_ Try.underlying34 rfl tabInfo ⟨rfl, hB2⟩
      rw [List.length_map, Crc.tab_length]
end Go.Proofs.Ytmeialegemhlhaa
