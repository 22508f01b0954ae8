/-
  The walk of CrcTells.
-/
import Derived.Test.YtmeialegemhlhaaCrcW3
import Derived.Test.YtmeialegemhlhaaCrcSpec3
import Derived.Test.YtmeialegemhlhaaU
namespace Go.Proofs.Ytmeialegemhlhaa
open Go.RowKit Go.PK

theorem xor_bit (m : Nat) (hm : m < 8) (t : TypeId) (x : UInt8) : binOp .xor t (B8 x) (.int .u8 (2 ^ m % 256)) = pure (B8 (x ^^^ 1 <<< UInt8.ofNat m)) := by
  have h : (.int .u8 (2 ^ m % 256) : Value) = B8 (1 <<< UInt8.ofNat m) := by
    have : ∀ m : Fin 8, (.int .u8 (2 ^ m.val % 256) : Value) = B8 (1 <<< UInt8.ofNat m.val) := by
      intro m
      show _ = Value.int .u8 _
      congr 1
      revert m
      decide
    exact this ⟨m, hm⟩
  rw [h, bin_xor_B8]

set_option maxHeartbeats 1000000 in
theorem CrcTells_walk (w : World) (v : Value) (b : List UInt8) (hv : Bytes w v b) (hl : b.length ≤ 140737488351232) (at' : Int) (_ha : -9223372036854775808 ≤ at' ∧ at' ≤ 9223372036854775807) (tu : UInt32) :
    Calls Try.prog 9 #[v, .int .i64 at', W32 tu] w fun e w' => e = .returned (.bool true) ∧ Below w.heap.size w w' := by
  obtain ⟨ao, cap, rfl, p1, q1, -⟩ := id hv
  by_cases hn : b.length = 0
  · have hb : b = [] := List.eq_nil_of_length_eq_zero hn
    subst hb
    have HV := Lib.hid (show Crc.of [] = 0 by decide)
    go_enter Try.func9, Try.ntmps9
    go_wp2_with fail
    refine (crc_Of _ _ [] hv (by decide)).mono ?_
    rintro e w1 ⟨rfl, B1⟩
    rw [HV.out]
    go_wp2_with fail
    refine (law01_fixed _).mono ?_
    rintro e w2 ⟨rfl, B2⟩
    go_wp2_with fail
    go_ret
    exact ⟨rfl, B1.trans (B2.mono B1.size)⟩
  · obtain ⟨r, hr⟩ : ∃ r : Int, at'.tmod (8 * (b.length : Int)) = r := ⟨_, rfl⟩
    have hrem : ∃ t : Nat, t < 8 * b.length ∧ ((r < 0 ∧ r + 8 * (b.length : Int) = t) ∨ (0 ≤ r ∧ r = t)) := by
      have h1 : 0 < 8 * (b.length : Int) := by omega
      have h2 := Int.tmod_lt_of_pos at' h1
      have h3 := Int.lt_tmod_of_pos at' h1
      rw [hr] at h2 h3
      by_cases h : r < 0
      · exact ⟨(r + 8 * (b.length : Int)).toNat, by omega, .inl ⟨h, by omega⟩⟩
      · exact ⟨r.toNat, by omega, .inr ⟨by omega, by omega⟩⟩
    obtain ⟨t, ht, hcase⟩ := hrem
    rcases hcase with ⟨hneg, hsum⟩ | ⟨hpos, rfl⟩
    all_goals
      go_enter Try.func9, Try.ntmps9
      go_wp2_with (at_builtin; refine wpList_append_B8 rfl (.const (.slice none 0 0)) (.tmp 30) 23 rfl w.heap.size 5 Try.underlying23 u8info _ 0 [] rfl (World.ownsRow_nil _ _ _ _) _ b rfl hv (by omega) (Nat.le_refl _) ?_)
      intro v1 w1 ho _ hb1
      obtain ⟨g, cap', rfl, hg1, hg2⟩ := owns_form ho (by omega)
      go_wp2_with fail
      go_loopw [9, 10] (fun y i wr => ∃ (k : Nat) (l : List UInt8) (any : Bool), k ≤ 32 ∧ i = .int .i64 k ∧ y = .bool any ∧ wr.ownsRow w.heap.size 5 1 (.slice (some ⟨g, 0, none⟩) b.length cap') b.length (l.map B8) ∧ Hid (Crc.Turned b l t k any) ∧ Below w.heap.size w wr) (fun _ i _ => 32 - (intOf i).toNat)
      case atStart => exact ⟨0, b, false, by omega, rfl, rfl, by simpa using ho, Lib.hid (Crc.Turned.start b t), hb1⟩
      case round =>
        clear ho hb1
        obtain ⟨k, l, any, hk, rfl, rfl, ho, HT, hb1⟩ := hrel
        by_cases hlt : k < 32 ∧ t + k < 8 * b.length
        · have hq : ((t : Int) + (k : Int)).tdiv 8 = (((t + k) / 8 : Nat) : Int) := by
            rw [← Int.natCast_add, Int.tdiv_eq_ediv_of_nonneg (by omega)]; omega
          have hm : ((t : Int) + (k : Int)).tmod 8 = (((t + k) % 8 : Nat) : Int) := by
            rw [← Int.natCast_add, Int.tmod_eq_emod_of_nonneg (by omega)]; omega
          have hj : (t + k) / 8 < b.length := by omega
          have hlen := HT.out.1
          have hc := owns_cell ho (j := (t + k) / 8) (by omega)
          have hf := owns_free ho ((t + k) / 8)
          obtain ⟨lt1, lt2⟩ := hlt
          by_cases hbit : (shr32 tu k &&& 1 == 1) = true
          · go_wp2_with fail
            have hxor := fun x => xor_bit ((t + k) % 8) (by omega) 5 x
            go_region
            have he : l.getD ((t + k) / 8) 0 = l[(t + k) / 8] := by
              rw [List.getD_eq_getElem?_getD, List.getElem?_eq_getElem (by omega)]
              rfl
            have ho2 : ((wr.setCell ⟨g, (t + k) / 8, none⟩ (B8 (l[(t + k) / 8] ^^^ 1 <<< UInt8.ofNat ((t + k) % 8)))).drew).ownsRow w.heap.size 5 1 (.slice (some ⟨g, 0, none⟩) b.length cap') b.length ((Crc.flip l (t + k)).map B8) := by
              unfold Crc.flip
              rw [he]
              exact owns_set ho _ _
            have hb2 : Below w.heap.size w ((wr.setCell ⟨g, (t + k) / 8, none⟩ (B8 (l[(t + k) / 8] ^^^ 1 <<< UInt8.ofNat ((t + k) % 8)))).drew) := (hb1.setCell (p := ⟨g, (t + k) / 8, none⟩) hg1 _).drew
            generalize (wr.setCell ⟨g, (t + k) / 8, none⟩ (B8 (l[(t + k) / 8] ^^^ 1 <<< UInt8.ofNat ((t + k) % 8)))).drew = w3 at *
            clear ho hb1 hc hf hxor hq hm he
            go_wp2_with fail
            go_roundw
            case rel => exact ⟨k + 1, Crc.flip l (t + k), true, by omega, by go_num, rfl, ho2, Lib.hid (HT.out.yes lt1 lt2), hb2⟩
            case measure => simp [intOf]; omega
          · replace hbit : (shr32 tu k &&& 1 == 1) = false := by simpa using hbit
            go_wp2_with fail
            go_roundw
            case rel => exact ⟨k + 1, l, any, by omega, by go_num, rfl, ho, Lib.hid HT.out.no, hb1⟩
            case measure => simp [intOf]; omega
        · have hx := (Bytes.of_owns ho).2
          have hy := hv.below hb1 (Nat.le_refl _)
          have hll := HT.out.1
          have htold := HT.out.told
          obtain ⟨x, hxx⟩ : ∃ x, Crc.of l = x := ⟨_, rfl⟩
          obtain ⟨y, hyy⟩ : ∃ y, Crc.of b = y := ⟨_, rfl⟩
          rw [hxx, hyy] at htold
          subst htold
          have HX := Lib.hid hxx
          have HY := Lib.hid hyy
          clear hxx hyy HT
          by_cases h1 : k < 32
          all_goals
            have h2 : ¬ k < 32 ∨ ¬ t + k < 8 * b.length := by omega
            clear hlt
            go_wp2_with fail
            refine (crc_Of_as _ _ l hx (by omega) x HX.out).mono ?_
            rintro e w3 ⟨rfl, B3⟩
            have hy3 := hy.adds B3
            have C3 := hb1.trans (B3.mono hb1.size)
            go_wp2_with fail
            refine (crc_Of_as _ _ b hy3 (by omega) y HY.out).mono ?_
            rintro e w4 ⟨rfl, B4⟩
            have C4 := C3.trans (B4.mono C3.size)
            go_wp2_with fail
            refine (law01_fixed _).mono ?_
            rintro e w5 ⟨rfl, B5⟩
            go_wp2_with fail
            go_ret
            exact ⟨rfl, C4.trans (B5.mono C4.size)⟩
end Go.Proofs.Ytmeialegemhlhaa
