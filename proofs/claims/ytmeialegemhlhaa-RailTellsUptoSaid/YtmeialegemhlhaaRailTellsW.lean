/-
  The walk of RailTells.
-/
import Derived.Test.YtmeialegemhlhaaRail5F
import Derived.Test.YtmeialegemhlhaaRailSpec2
import Derived.Test.YtmeialegemhlhaaU
import Derived.Test.YtmeialegemhlhaaR
namespace Go.Proofs.Ytmeialegemhlhaa
open Go.RowKit Go.PK

theorem rail_Right_as (w : World) (v : Value) (l : List UInt8) (hv : Bytes w v l) (b : Bool) (h : Rail.right l = b) :
    Calls Try.prog 21 #[v] w fun e w' => e = .returned (.bool b) ∧ Below w.heap.size w w' := h ▸ rail_Right_b w v l hv
theorem beq_dec (a b : List UInt8) : decide (a = b) = (a == b) := by rw [Bool.eq_iff_iff]; simp

set_option maxHeartbeats 2000000 in
theorem RailTells_walk (w : World) (v : Value) (l : List UInt8) (hv : Bytes w v l) (hl : l.length ≤ 1048576) (u : Value) (m : List UInt8) (hu : Bytes w u m) (hm : m.length ≤ 1048576)
    (kv : Value) (ma : List UInt8) (hk : Bytes w kv ma) (_hma : ma.length ≤ 1048576) :
    Calls Try.prog 11 #[v, u, kv] w fun e w' => e = .returned (.bool true) ∧ Below w.heap.size w w' := by
  obtain ⟨ak, kc, rfl, kc1, kc2, -⟩ := id hk
  go_enter Try.func11, Try.ntmps11
  go_wp2_with fail
  refine (rail_Put _ _ l hv (by omega)).mono ?_
  rintro e w1 ⟨r, rfl, ho1, B1⟩
  go_wp2_with fail
  refine (rail_Put _ _ m (hu.below B1 (Nat.le_refl _)) (by omega)).mono ?_
  rintro e w2 ⟨s, rfl, ho2, B2⟩
  have C2 := B1.trans (B2.mono B1.size)
  have hr2 := ((Bytes.of_owns ho1).2.below B2 (Nat.le_refl _))
  have hs2 := (Bytes.of_owns ho2).2
  clear ho1 ho2 B1 B2
  go_wp2_with fail
  refine (rail_Right_b _ _ _ hr2).mono ?_
  rintro e w3 ⟨rfl, B3⟩
  rw [Rail.right_put]
  go_wp2_with fail
  refine (rail_Right_b _ _ _ (hs2.below B3 (Nat.le_refl _))).mono ?_
  rintro e w4 ⟨rfl, B4⟩
  rw [Rail.right_put]
  have D4 := B3.trans (B4.mono B3.size)
  have C4 := C2.trans (D4.mono C2.size)
  have hr4 := hr2.below D4 (Nat.le_refl _)
  have hs4 := hs2.below D4 (Nat.le_refl _)
  have hv4 := hv.below C4 (Nat.le_refl _)
  have hu4 := hu.below C4 (Nat.le_refl _)
  have hk4 := hk.below C4 (Nat.le_refl _)
  clear B3 B4 D4 hr2 hs2 C2 hv hu hk
  have hrl : (Rail.put l).length = 2 * l.length := Rail.put_length l
  obtain ⟨ar, rc, rfl, rc1, rc2, -⟩ := id hr4
  obtain ⟨av, vc, rfl, vc1, vc2, -⟩ := id hv4
  generalize hR : Rail.put l = R at *
  have HR := Lib.hid hR
  have HL := Lib.hid hrl
  rw [hrl] at hr4 rc1 ⊢
  clear hR hrl
  go_wp2_with (at_builtin; refine wpList_append_B8 rfl (.const (.slice none 0 0)) (.tmp 33) 23 rfl w4.heap.size 5 Try.underlying23 u8info _ 0 [] rfl (World.ownsRow_nil _ _ _ _) _ R rfl hr4 (by rw [HL.out]; omega) (Nat.le_refl _) ?_)
  intro up w5 ho5 _ B5
  have ho5 : w5.ownsRow w4.heap.size 5 1 up (2 * l.length) (R.map B8) := by rw [← HL.out]; simpa using ho5
  have hr5 := hr4.below B5 (Nat.le_refl _)
  have hup := Lib.hid (fun h : 0 < 2 * l.length => owns_form ho5 h)
  go_wp2_with (at_builtin; refine wpList_append_B8 rfl (.const (.slice none 0 0)) (.tmp 35) 23 rfl w5.heap.size 5 Try.underlying23 u8info _ 0 [] rfl (World.ownsRow_nil _ _ _ _) _ R rfl hr5 (by rw [HL.out]; omega) (Nat.le_refl _) ?_)
  intro dn w6 ho6 _ B6
  have ho6 : w6.ownsRow w5.heap.size 5 1 dn (2 * l.length) (R.map B8) := by rw [← HL.out]; simpa using ho6
  have hdn := Lib.hid (fun h : 0 < 2 * l.length => owns_form ho6 h)
  replace ho5 := ownsRow_below ho5 B6 (Nat.le_refl _)
  have C6 : Below w4.heap.size w4 w6 := B5.trans (B6.mono B5.size)
  have hz := B5.size
  clear hr5 B5 B6
  go_wp2_with fail
  go_loopw [11] (fun i wr => ∃ k : Nat, k ≤ 2 * l.length ∧ i = .int .i64 k ∧ wr.ownsRow w4.heap.size 5 1 up (2 * l.length) ((Rail.turned (· ||| ·) R ma k).map B8) ∧ wr.ownsRow w5.heap.size 5 1 dn (2 * l.length) ((Rail.turned (fun x y => x &&& ~~~y) R ma k).map B8) ∧ Below w4.heap.size w4 wr) (fun i _ => 2 * l.length - (intOf i).toNat)
  case atStart => exact ⟨0, by omega, rfl, by rw [Rail.turned_zero]; exact ho5, by rw [Rail.turned_zero]; exact ho6, C6⟩
  case round =>
    clear ho5 ho6 C6
    obtain ⟨k, hk, rfl, ho5, ho6, C6⟩ := hrel
    by_cases hlt : k < 2 * l.length ∧ k < ma.length
    · obtain ⟨lt1, lt2⟩ := hlt
      obtain ⟨g9, c9, rfl, hb9, hg9⟩ := hup.out (by omega)
      obtain ⟨g10, c10, rfl, hb10, -⟩ := hdn.out (by omega)
      have hne : g9 ≠ g10 := by omega
      have hne' : g10 ≠ g9 := by omega
      have hRk : k < R.length := by rw [HL.out]; exact lt1
      have hsu := Lib.hid (Rail.turned_succ (· ||| ·) R ma k hRk)
      have hsd := Lib.hid (Rail.turned_succ (fun x y => x &&& ~~~y) R ma k hRk)
      have c5 := owns_cell ho5 (j := k) (by rw [Rail.turned_length]; exact hRk)
      have c6 := owns_cell ho6 (j := k) (by rw [Rail.turned_length]; exact hRk)
      rw [Rail.turned_get _ R ma k k hRk, if_neg (by omega)] at c5 c6
      have f5 := owns_free ho5 k
      obtain ⟨b2, o2, rfl, hb2, cm4⟩ := hk4.at (k := k) lt2
      have cm : wr.cell? ⟨b2, o2 + k, none⟩ = some (B8 (ma.getD k 0)) := by rw [cell_below C6 (by exact hb2)]; exact cm4
      generalize R.getD k 0 = x at *
      generalize ma.getD k 0 = y at *
      clear hk4 hr4 hv4 hu4 hs4 hRk
      go_wp2_with fail
      go_region
      have ho5' : ((wr.setCell ⟨g9, k, none⟩ (B8 (x ||| y))).drew).ownsRow w4.heap.size 5 1 (.slice (some ⟨g9, 0, none⟩) (2 * l.length) c9) (2 * l.length) ((Rail.turned (· ||| ·) R ma (k + 1)).map B8) := by
        rw [← hsu.out]; exact owns_set ho5 k (x ||| y)
      have ho6' : ((wr.setCell ⟨g9, k, none⟩ (B8 (x ||| y))).drew).ownsRow w5.heap.size 5 1 (.slice (some ⟨g10, 0, none⟩) (2 * l.length) c10) (2 * l.length) ((Rail.turned (fun x y => x &&& ~~~y) R ma k).map B8) := owns_other ho6 hne' _
      have C7 : Below w4.heap.size w4 ((wr.setCell ⟨g9, k, none⟩ (B8 (x ||| y))).drew) := (C6.setCell (p := ⟨g9, k, none⟩) hb9 _).drew
      have c7 : ((wr.setCell ⟨g9, k, none⟩ (B8 (x ||| y))).drew).cell? ⟨g10, k, none⟩ = some (B8 x) := by
        have : (wr.setCell ⟨g9, k, none⟩ (B8 (x ||| y))).cell? ⟨g10, k, none⟩ = wr.cell? ⟨g10, k, none⟩ := by
          unfold World.cell?
          rw [heap_setCell_other wr ⟨g9, k, none⟩ g10 _ hne']
        exact this.trans c6
      have f7 := owns_free ho6' k
      have cm7 : ((wr.setCell ⟨g9, k, none⟩ (B8 (x ||| y))).drew).cell? ⟨b2, o2 + k, none⟩ = some (B8 y) := by rw [cell_below C7 (by exact hb2)]; exact cm4
      generalize (wr.setCell ⟨g9, k, none⟩ (B8 (x ||| y))).drew = w7 at *
      clear c5 c6 f5 cm ho5 ho6 C6
      go_wp2_with fail
      go_region
      have ho8 : ((w7.setCell ⟨g10, k, none⟩ (B8 (x &&& ~~~y))).drew).ownsRow w5.heap.size 5 1 (.slice (some ⟨g10, 0, none⟩) (2 * l.length) c10) (2 * l.length) ((Rail.turned (fun x y => x &&& ~~~y) R ma (k + 1)).map B8) := by
        rw [← hsd.out]; exact owns_set ho6' k (x &&& ~~~y)
      have ho7 : ((w7.setCell ⟨g10, k, none⟩ (B8 (x &&& ~~~y))).drew).ownsRow w4.heap.size 5 1 (.slice (some ⟨g9, 0, none⟩) (2 * l.length) c9) (2 * l.length) ((Rail.turned (· ||| ·) R ma (k + 1)).map B8) := owns_other ho5' hne _
      have C8 : Below w4.heap.size w4 ((w7.setCell ⟨g10, k, none⟩ (B8 (x &&& ~~~y))).drew) := (C7.setCell (p := ⟨g10, k, none⟩) (Nat.le_trans hz hb10) _).drew
      generalize (w7.setCell ⟨g10, k, none⟩ (B8 (x &&& ~~~y))).drew = w8 at *
      clear c7 f7 cm7 ho5' ho6' C7
      go_wp2_with fail
      go_roundw
      case rel => exact ⟨k + 1, by omega, by go_num, ho7, ho8, C8⟩
      case measure => simp [intOf]; omega
    · have hr := hr4.below C6 (Nat.le_refl _)
      have hs := hs4.below C6 (Nat.le_refl _)
      have hv := hv4.below C6 (Nat.le_refl _)
      have hu := hu4.below C6 (Nat.le_refl _)
      have hx5 := (Bytes.of_owns ho5).2
      have hx6 := (Bytes.of_owns ho6).2
      have hR2 := HL.out
      have hbu := Lib.hid (Rail.below_up R ma k)
      have hbd := Lib.hid (Rail.below_down R ma k)
      have hru := Rail.right_up l ma k
      have hrd := Rail.right_down l ma k
      rw [HR.out, beq_dec] at hru hrd
      have hb1 := Rail.below_put l m
      have hb2 := Rail.below_put m l
      rw [HR.out, beq_dec] at hb1 hb2
      have HB1 := Lib.hid hb1
      have HB2 := Lib.hid (show Rail.below (Rail.put m) R = (l == m) by rw [hb2, Bool.eq_iff_iff, beq_iff_eq, beq_iff_eq]; exact eq_comm)
      clear hb1 hb2
      have HRU := Lib.hid hru
      have HRD := Lib.hid hrd
      have hul : (Rail.turned (· ||| ·) R ma k).length = R.length := Rail.turned_length _ _ _ _
      have hdl : (Rail.turned (fun x y => x &&& ~~~y) R ma k).length = R.length := Rail.turned_length _ _ _ _
      have HUL := Lib.hid hul
      have HDL := Lib.hid hdl
      have HR2 := Lib.hid hR2
      generalize Rail.turned (· ||| ·) R ma k = U at *
      generalize Rail.turned (fun x y => x &&& ~~~y) R ma k = D at *
      clear hr4 hs4 hv4 hu4 hk4 ho5 ho6 hup hdn hru hrd hul hdl hR2
      by_cases hk1 : k < 2 * l.length
      all_goals
        have hor : ¬ k < 2 * l.length ∨ ¬ k < ma.length := by omega
        clear hlt
        go_wp2_with fail
        refine (rail_Below_b _ _ _ R U hr hx5 (by rw [HR2.out]; omega)).mono ?_
        rintro e w9 ⟨rfl, B9⟩
        rw [hbu.out]
        go_wp2_with fail
        refine (rail_Below_b _ _ _ D R (hx6.adds B9) (hr.adds B9) (by rw [HDL.out, HR2.out]; omega)).mono ?_
        rintro e w10 ⟨rfl, B10⟩
        rw [hbd.out]
        have D10 := Adds.trans B9 B10
        have C10 := C6.trans (D10.mono C6.size)
        have hr10 := hr.adds D10
        have hs10 := hs.adds D10
        have hv10 := hv.adds D10
        have hu10 := hu.adds D10
        have hU10 := hx5.adds D10
        have hD10 := hx6.adds D10
        clear hr hs hv hu hx5 hx6 D10 B9 B10 C6
        go_wp2_with fail
        refine wp_region_adds (fun c vals => ⟨#[c 0, c 1, c 2, c 3, c 4, c 5, c 6, (Value.slice ar (2 * l.length) rc : Value), c 8, (up : Value), (dn : Value), c 11, c 12, c 13, c 14, c 15, c 16, c 17, c 18, c 19, c 20, c 21, c 22, c 23, c 24, c 25, c 26, c 27, c 28, c 29, c 30, c 31, c 32, c 33, c 34, c 35, c 36, c 37, c 38, c 39, c 40, c 41, c 42, c 43, c 44, c 45, c 46, c 47, c 48, c 49, c 50, c 51, c 52, c 53, c 54, c 55, c 56, c 57, c 58, c 59, c 60, c 61, c 62, c 63, c 64, c 65, c 66, c 67, c 68, c 69, c 70, c 71, c 72, c 73, c 74, c 75, c 76, c 77, c 78, vals 0, vals 1, vals 2, vals 3, vals 4, vals 5, vals 6, vals 7, vals 8, vals 9, vals 10, vals 11, vals 12, vals 13, vals 14, vals 15, vals 16, vals 17, c 97, c 98, c 99, c 100, c 101, c 102, c 103, c 104, c 105, c 106, c 107, c 108, c 109, c 110, c 111, c 112, c 113, c 114, c 115, c 116], []⟩) (fun t => [_, _, _, _, _, _, _, undef, _, undef, undef, _, _, _, _, _, _, _, _, _, _, _, _, _, _, _, _, _, _, _, _, _, _, _, _, _, _, _, _, _, _, _, _, _, _, _, _, _, _, _, _, _, _, _, _, _, _, _, _, _, _, _, _, _, _, _, _, _, _, _, _, _, _, _, _, _, _, _, _, undef, undef, undef, undef, undef, undef, undef, undef, undef, undef, undef, undef, undef, undef, undef, undef, undef, undef, _, _, _, _, _, _, _, _, _, _, _, _, _, _, _, _, _, _, _, _].getD t undef) (fun i => [_, _, _, _, _, _, _, _, _, _, _, _, _, _, _, _, _, _].getD i undef) (by kernel_rfl)
          [[], [0], [], [2], [], [4], [2, 3, 4, 5], [0, 1, 2, 3, 4, 5, 6], [0, 1, 2, 3, 4, 5, 6, 7], [0, 1, 2, 3, 4, 5, 6, 7, 8], [0, 1, 2, 3, 4, 5, 6, 7, 8, 9], [0, 1, 2, 3, 4, 5, 6, 7, 8], [0, 1, 2, 3, 4, 5, 6, 7, 8, 11], [0, 1, 2, 3, 4, 5, 6, 7, 8], [0, 1, 2, 3, 4, 5, 6, 7, 8, 13], [0, 1, 2, 3, 4, 5, 6, 7, 8, 11, 12, 13, 14], [0, 1, 2, 3, 4, 5, 6, 7, 8, 9, 10, 11, 12, 13, 14, 15], [0, 1, 2, 3, 4, 5, 6, 7, 8, 9, 10, 11, 12, 13, 14, 15, 16]] (by kernel_rfl) (fun _ => True) trivial
          [fun x _ => x = (up : Value),
           fun x _ => x = (Value.bool (U == R) : Value),
           fun x _ => x = (up : Value),
           fun x _ => x = (Value.string ⟨(U).toArray⟩ : Value),
           fun x _ => x = (Value.slice ar (2 * l.length) rc : Value),
           fun x _ => x = (Value.string ⟨(R).toArray⟩ : Value),
           fun x _ => x = (Value.bool (U == R) : Value),
           fun x _ => x = (Value.bool false : Value),
           fun x _ => x = (Value.bool false : Value),
           fun x _ => x = (dn : Value),
           fun x _ => x = (Value.bool (D == R) : Value),
           fun x _ => x = (dn : Value),
           fun x _ => x = (Value.string ⟨(D).toArray⟩ : Value),
           fun x _ => x = (Value.slice ar (2 * l.length) rc : Value),
           fun x _ => x = (Value.string ⟨(R).toArray⟩ : Value),
           fun x _ => x = (Value.bool (D == R) : Value),
           fun x _ => x = (Value.bool false : Value),
           fun x _ => x = (Value.bool false : Value)]
          ⟨fun _ _ _ h _ => h, fun _ _ _ h _ => h, fun _ _ _ h _ => h, fun _ _ _ h _ => h, fun _ _ _ h _ => h, fun _ _ _ h _ => h, fun _ _ _ h _ => h, fun _ _ _ h _ => h, fun _ _ _ h _ => h, fun _ _ _ h _ => h, fun _ _ _ h _ => h, fun _ _ _ h _ => h, fun _ _ _ h _ => h, fun _ _ _ h _ => h, fun _ _ _ h _ => h, fun _ _ _ h _ => h, fun _ _ _ h _ => h, fun _ _ _ h _ => h, trivial⟩
          ⟨?_, ?_, ?_, ?_, ?_, ?_, ?_, ?_, ?_, ?_, ?_, ?_, ?_, ?_, ?_, ?_, ?_, ?_, trivial⟩ ?_
        · refine ⟨fun _ _ _ => rfl, fun c _ vals w hC hD K hK => ?_⟩
          refine ite_yes (wanted_none rfl) ?_
          clear hD
          show Oper.wp _ _ ⟨#[c 0, c 1, c 2, c 3, c 4, c 5, c 6, (Value.slice ar (2 * l.length) rc : Value), c 8, (up : Value), (dn : Value), c 11, c 12, c 13, c 14, c 15, c 16, c 17, c 18, c 19, c 20, c 21, c 22, c 23, c 24, c 25, c 26, c 27, c 28, c 29, c 30, c 31, c 32, c 33, c 34, c 35, c 36, c 37, c 38, c 39, c 40, c 41, c 42, c 43, c 44, c 45, c 46, c 47, c 48, c 49, c 50, c 51, c 52, c 53, c 54, c 55, c 56, c 57, c 58, c 59, c 60, c 61, c 62, c 63, c 64, c 65, c 66, c 67, c 68, c 69, c 70, c 71, c 72, c 73, c 74, c 75, c 76, c 77, c 78, vals 0, vals 1, vals 2, vals 3, vals 4, vals 5, vals 6, vals 7, vals 8, vals 9, vals 10, vals 11, vals 12, vals 13, vals 14, vals 15, vals 16, vals 17, c 97, c 98, c 99, c 100, c 101, c 102, c 103, c 104, c 105, c 106, c 107, c 108, c 109, c 110, c 111, c 112, c 113, c 114, c 115, c 116], []⟩ w K _
          go_wp2_with fail
          exact hK _ _ (Adds.refl _) (by rfl)
        · refine ⟨fun _ _ _ => rfl, fun c _ vals w hC hD K hK => ?_⟩
          have h0 : vals 0 = up := hD 0 rfl
          refine ite_yes (wanted_none rfl) ?_
          clear hD
          obtain ⟨vals, rfl⟩ := upd_of (vals := vals) (j := 0) (x := up) h0
          clear h0
          show Oper.wp _ _ ⟨#[c 0, c 1, c 2, c 3, c 4, c 5, c 6, (Value.slice ar (2 * l.length) rc : Value), c 8, (up : Value), (dn : Value), c 11, c 12, c 13, c 14, c 15, c 16, c 17, c 18, c 19, c 20, c 21, c 22, c 23, c 24, c 25, c 26, c 27, c 28, c 29, c 30, c 31, c 32, c 33, c 34, c 35, c 36, c 37, c 38, c 39, c 40, c 41, c 42, c 43, c 44, c 45, c 46, c 47, c 48, c 49, c 50, c 51, c 52, c 53, c 54, c 55, c 56, c 57, c 58, c 59, c 60, c 61, c 62, c 63, c 64, c 65, c 66, c 67, c 68, c 69, c 70, c 71, c 72, c 73, c 74, c 75, c 76, c 77, c 78, (up : Value), vals 1, vals 2, vals 3, vals 4, vals 5, vals 6, vals 7, vals 8, vals 9, vals 10, vals 11, vals 12, vals 13, vals 14, vals 15, vals 16, vals 17, c 97, c 98, c 99, c 100, c 101, c 102, c 103, c 104, c 105, c 106, c 107, c 108, c 109, c 110, c 111, c 112, c 113, c 114, c 115, c 116], []⟩ w K _
          go_wp2_with fail
          refine (rail_Right_as _ _ U (hU10.adds hC) _ HRU.out).mono ?_
          rintro e w' ⟨rfl, hb⟩
          exact hK _ _ hb rfl
        · refine ⟨fun _ _ _ => rfl, fun c _ vals w hC hD K hK => ?_⟩
          refine ite_yes (wanted_none rfl) ?_
          clear hD
          show Oper.wp _ _ ⟨#[c 0, c 1, c 2, c 3, c 4, c 5, c 6, (Value.slice ar (2 * l.length) rc : Value), c 8, (up : Value), (dn : Value), c 11, c 12, c 13, c 14, c 15, c 16, c 17, c 18, c 19, c 20, c 21, c 22, c 23, c 24, c 25, c 26, c 27, c 28, c 29, c 30, c 31, c 32, c 33, c 34, c 35, c 36, c 37, c 38, c 39, c 40, c 41, c 42, c 43, c 44, c 45, c 46, c 47, c 48, c 49, c 50, c 51, c 52, c 53, c 54, c 55, c 56, c 57, c 58, c 59, c 60, c 61, c 62, c 63, c 64, c 65, c 66, c 67, c 68, c 69, c 70, c 71, c 72, c 73, c 74, c 75, c 76, c 77, c 78, vals 0, vals 1, vals 2, vals 3, vals 4, vals 5, vals 6, vals 7, vals 8, vals 9, vals 10, vals 11, vals 12, vals 13, vals 14, vals 15, vals 16, vals 17, c 97, c 98, c 99, c 100, c 101, c 102, c 103, c 104, c 105, c 106, c 107, c 108, c 109, c 110, c 111, c 112, c 113, c 114, c 115, c 116], []⟩ w K _
          go_wp2_with fail
          exact hK _ _ (Adds.refl _) (by rfl)
        · refine ⟨fun _ _ _ => rfl, fun c _ vals w hC hD K hK => ?_⟩
          have h2 : vals 2 = up := hD 2 rfl
          refine ite_yes (wanted_none rfl) ?_
          clear hD
          obtain ⟨vals, rfl⟩ := upd_of (vals := vals) (j := 2) (x := up) h2
          clear h2
          show Oper.wp _ _ ⟨#[c 0, c 1, c 2, c 3, c 4, c 5, c 6, (Value.slice ar (2 * l.length) rc : Value), c 8, (up : Value), (dn : Value), c 11, c 12, c 13, c 14, c 15, c 16, c 17, c 18, c 19, c 20, c 21, c 22, c 23, c 24, c 25, c 26, c 27, c 28, c 29, c 30, c 31, c 32, c 33, c 34, c 35, c 36, c 37, c 38, c 39, c 40, c 41, c 42, c 43, c 44, c 45, c 46, c 47, c 48, c 49, c 50, c 51, c 52, c 53, c 54, c 55, c 56, c 57, c 58, c 59, c 60, c 61, c 62, c 63, c 64, c 65, c 66, c 67, c 68, c 69, c 70, c 71, c 72, c 73, c 74, c 75, c 76, c 77, c 78, vals 0, vals 1, (up : Value), vals 3, vals 4, vals 5, vals 6, vals 7, vals 8, vals 9, vals 10, vals 11, vals 12, vals 13, vals 14, vals 15, vals 16, vals 17, c 97, c 98, c 99, c 100, c 101, c 102, c 103, c 104, c 105, c 106, c 107, c 108, c 109, c 110, c 111, c 112, c 113, c 114, c 115, c 116], []⟩ w K _
          have hs := str_of (hU10.adds hC)
          go_wp2_with fail
          exact hK _ _ (Adds.refl _) rfl
        · refine ⟨fun _ _ _ => rfl, fun c _ vals w hC hD K hK => ?_⟩
          refine ite_yes (wanted_none rfl) ?_
          clear hD
          show Oper.wp _ _ ⟨#[c 0, c 1, c 2, c 3, c 4, c 5, c 6, (Value.slice ar (2 * l.length) rc : Value), c 8, (up : Value), (dn : Value), c 11, c 12, c 13, c 14, c 15, c 16, c 17, c 18, c 19, c 20, c 21, c 22, c 23, c 24, c 25, c 26, c 27, c 28, c 29, c 30, c 31, c 32, c 33, c 34, c 35, c 36, c 37, c 38, c 39, c 40, c 41, c 42, c 43, c 44, c 45, c 46, c 47, c 48, c 49, c 50, c 51, c 52, c 53, c 54, c 55, c 56, c 57, c 58, c 59, c 60, c 61, c 62, c 63, c 64, c 65, c 66, c 67, c 68, c 69, c 70, c 71, c 72, c 73, c 74, c 75, c 76, c 77, c 78, vals 0, vals 1, vals 2, vals 3, vals 4, vals 5, vals 6, vals 7, vals 8, vals 9, vals 10, vals 11, vals 12, vals 13, vals 14, vals 15, vals 16, vals 17, c 97, c 98, c 99, c 100, c 101, c 102, c 103, c 104, c 105, c 106, c 107, c 108, c 109, c 110, c 111, c 112, c 113, c 114, c 115, c 116], []⟩ w K _
          go_wp2_with fail
          exact hK _ _ (Adds.refl _) (by rfl)
        · refine ⟨fun _ _ _ => rfl, fun c _ vals w hC hD K hK => ?_⟩
          have h4 : vals 4 = .slice ar (2 * l.length) rc := hD 4 rfl
          refine ite_yes (wanted_none rfl) ?_
          clear hD
          obtain ⟨vals, rfl⟩ := upd_of (vals := vals) (j := 4) (x := Value.slice ar (2 * l.length) rc) h4
          clear h4
          show Oper.wp _ _ ⟨#[c 0, c 1, c 2, c 3, c 4, c 5, c 6, (Value.slice ar (2 * l.length) rc : Value), c 8, (up : Value), (dn : Value), c 11, c 12, c 13, c 14, c 15, c 16, c 17, c 18, c 19, c 20, c 21, c 22, c 23, c 24, c 25, c 26, c 27, c 28, c 29, c 30, c 31, c 32, c 33, c 34, c 35, c 36, c 37, c 38, c 39, c 40, c 41, c 42, c 43, c 44, c 45, c 46, c 47, c 48, c 49, c 50, c 51, c 52, c 53, c 54, c 55, c 56, c 57, c 58, c 59, c 60, c 61, c 62, c 63, c 64, c 65, c 66, c 67, c 68, c 69, c 70, c 71, c 72, c 73, c 74, c 75, c 76, c 77, c 78, vals 0, vals 1, vals 2, vals 3, (Value.slice ar (2 * l.length) rc : Value), vals 5, vals 6, vals 7, vals 8, vals 9, vals 10, vals 11, vals 12, vals 13, vals 14, vals 15, vals 16, vals 17, c 97, c 98, c 99, c 100, c 101, c 102, c 103, c 104, c 105, c 106, c 107, c 108, c 109, c 110, c 111, c 112, c 113, c 114, c 115, c 116], []⟩ w K _
          have hs := str_of (hr10.adds hC)
          go_wp2_with fail
          exact hK _ _ (Adds.refl _) rfl
        · refine ⟨fun _ _ _ => rfl, fun c _ vals w hC hD K hK => ?_⟩
          have h3 : vals 3 = .string ⟨(U).toArray⟩ := hD 3 rfl
          have h5 : vals 5 = .string ⟨(R).toArray⟩ := hD 5 rfl
          refine ite_yes (wanted_none rfl) ?_
          clear hD
          obtain ⟨vals, rfl⟩ := upd_of (vals := vals) (j := 3) (x := Value.string ⟨(U).toArray⟩) h3
          clear h3
          obtain ⟨vals, rfl⟩ := upd_of (vals := vals) (j := 5) (x := Value.string ⟨(R).toArray⟩) h5
          clear h5
          show Oper.wp _ _ ⟨#[c 0, c 1, c 2, c 3, c 4, c 5, c 6, (Value.slice ar (2 * l.length) rc : Value), c 8, (up : Value), (dn : Value), c 11, c 12, c 13, c 14, c 15, c 16, c 17, c 18, c 19, c 20, c 21, c 22, c 23, c 24, c 25, c 26, c 27, c 28, c 29, c 30, c 31, c 32, c 33, c 34, c 35, c 36, c 37, c 38, c 39, c 40, c 41, c 42, c 43, c 44, c 45, c 46, c 47, c 48, c 49, c 50, c 51, c 52, c 53, c 54, c 55, c 56, c 57, c 58, c 59, c 60, c 61, c 62, c 63, c 64, c 65, c 66, c 67, c 68, c 69, c 70, c 71, c 72, c 73, c 74, c 75, c 76, c 77, c 78, vals 0, vals 1, vals 2, (Value.string ⟨(U).toArray⟩ : Value), vals 4, (Value.string ⟨(R).toArray⟩ : Value), vals 6, vals 7, vals 8, vals 9, vals 10, vals 11, vals 12, vals 13, vals 14, vals 15, vals 16, vals 17, c 97, c 98, c 99, c 100, c 101, c 102, c 103, c 104, c 105, c 106, c 107, c 108, c 109, c 110, c 111, c 112, c 113, c 114, c 115, c 116], []⟩ w K _
          go_wp2_with fail
          exact hK _ _ (Adds.refl _) (by first | rfl | simp)
        · refine ⟨fun _ _ _ => rfl, fun c _ vals w hC hD K hK => ?_⟩
          have h1 : vals 1 = .bool (U == R) := hD 1 rfl
          have h6 : vals 6 = .bool (U == R) := hD 6 rfl
          refine ite_yes (wanted_none rfl) ?_
          clear hD
          obtain ⟨vals, rfl⟩ := upd_of (vals := vals) (j := 1) (x := Value.bool (U == R)) h1
          clear h1
          obtain ⟨vals, rfl⟩ := upd_of (vals := vals) (j := 6) (x := Value.bool (U == R)) h6
          clear h6
          show Oper.wp _ _ ⟨#[c 0, c 1, c 2, c 3, c 4, c 5, c 6, (Value.slice ar (2 * l.length) rc : Value), c 8, (up : Value), (dn : Value), c 11, c 12, c 13, c 14, c 15, c 16, c 17, c 18, c 19, c 20, c 21, c 22, c 23, c 24, c 25, c 26, c 27, c 28, c 29, c 30, c 31, c 32, c 33, c 34, c 35, c 36, c 37, c 38, c 39, c 40, c 41, c 42, c 43, c 44, c 45, c 46, c 47, c 48, c 49, c 50, c 51, c 52, c 53, c 54, c 55, c 56, c 57, c 58, c 59, c 60, c 61, c 62, c 63, c 64, c 65, c 66, c 67, c 68, c 69, c 70, c 71, c 72, c 73, c 74, c 75, c 76, c 77, c 78, vals 0, (Value.bool (U == R) : Value), vals 2, vals 3, vals 4, vals 5, (Value.bool (U == R) : Value), vals 7, vals 8, vals 9, vals 10, vals 11, vals 12, vals 13, vals 14, vals 15, vals 16, vals 17, c 97, c 98, c 99, c 100, c 101, c 102, c 103, c 104, c 105, c 106, c 107, c 108, c 109, c 110, c 111, c 112, c 113, c 114, c 115, c 116], []⟩ w K _
          go_wp2_with fail
          exact hK _ _ (Adds.refl _) (by rfl)
        · refine ⟨fun _ _ _ => rfl, fun c _ vals w hC hD K hK => ?_⟩
          have h7 : vals 7 = .bool false := hD 7 rfl
          refine ite_yes (wanted_none rfl) ?_
          clear hD
          obtain ⟨vals, rfl⟩ := upd_of (vals := vals) (j := 7) (x := Value.bool false) h7
          clear h7
          show Oper.wp _ _ ⟨#[c 0, c 1, c 2, c 3, c 4, c 5, c 6, (Value.slice ar (2 * l.length) rc : Value), c 8, (up : Value), (dn : Value), c 11, c 12, c 13, c 14, c 15, c 16, c 17, c 18, c 19, c 20, c 21, c 22, c 23, c 24, c 25, c 26, c 27, c 28, c 29, c 30, c 31, c 32, c 33, c 34, c 35, c 36, c 37, c 38, c 39, c 40, c 41, c 42, c 43, c 44, c 45, c 46, c 47, c 48, c 49, c 50, c 51, c 52, c 53, c 54, c 55, c 56, c 57, c 58, c 59, c 60, c 61, c 62, c 63, c 64, c 65, c 66, c 67, c 68, c 69, c 70, c 71, c 72, c 73, c 74, c 75, c 76, c 77, c 78, vals 0, vals 1, vals 2, vals 3, vals 4, vals 5, vals 6, (Value.bool false : Value), vals 8, vals 9, vals 10, vals 11, vals 12, vals 13, vals 14, vals 15, vals 16, vals 17, c 97, c 98, c 99, c 100, c 101, c 102, c 103, c 104, c 105, c 106, c 107, c 108, c 109, c 110, c 111, c 112, c 113, c 114, c 115, c 116], []⟩ w K _
          go_wp2_with fail
          exact hK _ _ (Adds.refl _) (by rfl)
        · refine ⟨fun _ _ _ => rfl, fun c _ vals w hC hD K hK => ?_⟩
          have hg : vals 8 = .bool false := hD 8 rfl
          refine ite_yes (wanted_of rfl rfl rfl rfl hg) ?_
          clear hg
          clear hD
          show Oper.wp _ _ ⟨#[c 0, c 1, c 2, c 3, c 4, c 5, c 6, (Value.slice ar (2 * l.length) rc : Value), c 8, (up : Value), (dn : Value), c 11, c 12, c 13, c 14, c 15, c 16, c 17, c 18, c 19, c 20, c 21, c 22, c 23, c 24, c 25, c 26, c 27, c 28, c 29, c 30, c 31, c 32, c 33, c 34, c 35, c 36, c 37, c 38, c 39, c 40, c 41, c 42, c 43, c 44, c 45, c 46, c 47, c 48, c 49, c 50, c 51, c 52, c 53, c 54, c 55, c 56, c 57, c 58, c 59, c 60, c 61, c 62, c 63, c 64, c 65, c 66, c 67, c 68, c 69, c 70, c 71, c 72, c 73, c 74, c 75, c 76, c 77, c 78, vals 0, vals 1, vals 2, vals 3, vals 4, vals 5, vals 6, vals 7, vals 8, vals 9, vals 10, vals 11, vals 12, vals 13, vals 14, vals 15, vals 16, vals 17, c 97, c 98, c 99, c 100, c 101, c 102, c 103, c 104, c 105, c 106, c 107, c 108, c 109, c 110, c 111, c 112, c 113, c 114, c 115, c 116], []⟩ w K _
          go_wp2_with fail
          exact hK _ _ (Adds.refl _) (by rfl)
        · refine ⟨fun _ _ _ => rfl, fun c _ vals w hC hD K hK => ?_⟩
          have h9 : vals 9 = dn := hD 9 rfl
          have hg : vals 8 = .bool false := hD 8 rfl
          refine ite_yes (wanted_of rfl rfl rfl rfl hg) ?_
          clear hg
          clear hD
          obtain ⟨vals, rfl⟩ := upd_of (vals := vals) (j := 9) (x := dn) h9
          clear h9
          show Oper.wp _ _ ⟨#[c 0, c 1, c 2, c 3, c 4, c 5, c 6, (Value.slice ar (2 * l.length) rc : Value), c 8, (up : Value), (dn : Value), c 11, c 12, c 13, c 14, c 15, c 16, c 17, c 18, c 19, c 20, c 21, c 22, c 23, c 24, c 25, c 26, c 27, c 28, c 29, c 30, c 31, c 32, c 33, c 34, c 35, c 36, c 37, c 38, c 39, c 40, c 41, c 42, c 43, c 44, c 45, c 46, c 47, c 48, c 49, c 50, c 51, c 52, c 53, c 54, c 55, c 56, c 57, c 58, c 59, c 60, c 61, c 62, c 63, c 64, c 65, c 66, c 67, c 68, c 69, c 70, c 71, c 72, c 73, c 74, c 75, c 76, c 77, c 78, vals 0, vals 1, vals 2, vals 3, vals 4, vals 5, vals 6, vals 7, vals 8, (dn : Value), vals 10, vals 11, vals 12, vals 13, vals 14, vals 15, vals 16, vals 17, c 97, c 98, c 99, c 100, c 101, c 102, c 103, c 104, c 105, c 106, c 107, c 108, c 109, c 110, c 111, c 112, c 113, c 114, c 115, c 116], []⟩ w K _
          go_wp2_with fail
          refine (rail_Right_as _ _ D (hD10.adds hC) _ HRD.out).mono ?_
          rintro e w' ⟨rfl, hb⟩
          exact hK _ _ hb rfl
        · refine ⟨fun _ _ _ => rfl, fun c _ vals w hC hD K hK => ?_⟩
          have hg : vals 8 = .bool false := hD 8 rfl
          refine ite_yes (wanted_of rfl rfl rfl rfl hg) ?_
          clear hg
          clear hD
          show Oper.wp _ _ ⟨#[c 0, c 1, c 2, c 3, c 4, c 5, c 6, (Value.slice ar (2 * l.length) rc : Value), c 8, (up : Value), (dn : Value), c 11, c 12, c 13, c 14, c 15, c 16, c 17, c 18, c 19, c 20, c 21, c 22, c 23, c 24, c 25, c 26, c 27, c 28, c 29, c 30, c 31, c 32, c 33, c 34, c 35, c 36, c 37, c 38, c 39, c 40, c 41, c 42, c 43, c 44, c 45, c 46, c 47, c 48, c 49, c 50, c 51, c 52, c 53, c 54, c 55, c 56, c 57, c 58, c 59, c 60, c 61, c 62, c 63, c 64, c 65, c 66, c 67, c 68, c 69, c 70, c 71, c 72, c 73, c 74, c 75, c 76, c 77, c 78, vals 0, vals 1, vals 2, vals 3, vals 4, vals 5, vals 6, vals 7, vals 8, vals 9, vals 10, vals 11, vals 12, vals 13, vals 14, vals 15, vals 16, vals 17, c 97, c 98, c 99, c 100, c 101, c 102, c 103, c 104, c 105, c 106, c 107, c 108, c 109, c 110, c 111, c 112, c 113, c 114, c 115, c 116], []⟩ w K _
          go_wp2_with fail
          exact hK _ _ (Adds.refl _) (by rfl)
        · refine ⟨fun _ _ _ => rfl, fun c _ vals w hC hD K hK => ?_⟩
          have h11 : vals 11 = dn := hD 11 rfl
          have hg : vals 8 = .bool false := hD 8 rfl
          refine ite_yes (wanted_of rfl rfl rfl rfl hg) ?_
          clear hg
          clear hD
          obtain ⟨vals, rfl⟩ := upd_of (vals := vals) (j := 11) (x := dn) h11
          clear h11
          show Oper.wp _ _ ⟨#[c 0, c 1, c 2, c 3, c 4, c 5, c 6, (Value.slice ar (2 * l.length) rc : Value), c 8, (up : Value), (dn : Value), c 11, c 12, c 13, c 14, c 15, c 16, c 17, c 18, c 19, c 20, c 21, c 22, c 23, c 24, c 25, c 26, c 27, c 28, c 29, c 30, c 31, c 32, c 33, c 34, c 35, c 36, c 37, c 38, c 39, c 40, c 41, c 42, c 43, c 44, c 45, c 46, c 47, c 48, c 49, c 50, c 51, c 52, c 53, c 54, c 55, c 56, c 57, c 58, c 59, c 60, c 61, c 62, c 63, c 64, c 65, c 66, c 67, c 68, c 69, c 70, c 71, c 72, c 73, c 74, c 75, c 76, c 77, c 78, vals 0, vals 1, vals 2, vals 3, vals 4, vals 5, vals 6, vals 7, vals 8, vals 9, vals 10, (dn : Value), vals 12, vals 13, vals 14, vals 15, vals 16, vals 17, c 97, c 98, c 99, c 100, c 101, c 102, c 103, c 104, c 105, c 106, c 107, c 108, c 109, c 110, c 111, c 112, c 113, c 114, c 115, c 116], []⟩ w K _
          have hs := str_of (hD10.adds hC)
          go_wp2_with fail
          exact hK _ _ (Adds.refl _) rfl
        · refine ⟨fun _ _ _ => rfl, fun c _ vals w hC hD K hK => ?_⟩
          have hg : vals 8 = .bool false := hD 8 rfl
          refine ite_yes (wanted_of rfl rfl rfl rfl hg) ?_
          clear hg
          clear hD
          show Oper.wp _ _ ⟨#[c 0, c 1, c 2, c 3, c 4, c 5, c 6, (Value.slice ar (2 * l.length) rc : Value), c 8, (up : Value), (dn : Value), c 11, c 12, c 13, c 14, c 15, c 16, c 17, c 18, c 19, c 20, c 21, c 22, c 23, c 24, c 25, c 26, c 27, c 28, c 29, c 30, c 31, c 32, c 33, c 34, c 35, c 36, c 37, c 38, c 39, c 40, c 41, c 42, c 43, c 44, c 45, c 46, c 47, c 48, c 49, c 50, c 51, c 52, c 53, c 54, c 55, c 56, c 57, c 58, c 59, c 60, c 61, c 62, c 63, c 64, c 65, c 66, c 67, c 68, c 69, c 70, c 71, c 72, c 73, c 74, c 75, c 76, c 77, c 78, vals 0, vals 1, vals 2, vals 3, vals 4, vals 5, vals 6, vals 7, vals 8, vals 9, vals 10, vals 11, vals 12, vals 13, vals 14, vals 15, vals 16, vals 17, c 97, c 98, c 99, c 100, c 101, c 102, c 103, c 104, c 105, c 106, c 107, c 108, c 109, c 110, c 111, c 112, c 113, c 114, c 115, c 116], []⟩ w K _
          go_wp2_with fail
          exact hK _ _ (Adds.refl _) (by rfl)
        · refine ⟨fun _ _ _ => rfl, fun c _ vals w hC hD K hK => ?_⟩
          have h13 : vals 13 = .slice ar (2 * l.length) rc := hD 13 rfl
          have hg : vals 8 = .bool false := hD 8 rfl
          refine ite_yes (wanted_of rfl rfl rfl rfl hg) ?_
          clear hg
          clear hD
          obtain ⟨vals, rfl⟩ := upd_of (vals := vals) (j := 13) (x := Value.slice ar (2 * l.length) rc) h13
          clear h13
          show Oper.wp _ _ ⟨#[c 0, c 1, c 2, c 3, c 4, c 5, c 6, (Value.slice ar (2 * l.length) rc : Value), c 8, (up : Value), (dn : Value), c 11, c 12, c 13, c 14, c 15, c 16, c 17, c 18, c 19, c 20, c 21, c 22, c 23, c 24, c 25, c 26, c 27, c 28, c 29, c 30, c 31, c 32, c 33, c 34, c 35, c 36, c 37, c 38, c 39, c 40, c 41, c 42, c 43, c 44, c 45, c 46, c 47, c 48, c 49, c 50, c 51, c 52, c 53, c 54, c 55, c 56, c 57, c 58, c 59, c 60, c 61, c 62, c 63, c 64, c 65, c 66, c 67, c 68, c 69, c 70, c 71, c 72, c 73, c 74, c 75, c 76, c 77, c 78, vals 0, vals 1, vals 2, vals 3, vals 4, vals 5, vals 6, vals 7, vals 8, vals 9, vals 10, vals 11, vals 12, (Value.slice ar (2 * l.length) rc : Value), vals 14, vals 15, vals 16, vals 17, c 97, c 98, c 99, c 100, c 101, c 102, c 103, c 104, c 105, c 106, c 107, c 108, c 109, c 110, c 111, c 112, c 113, c 114, c 115, c 116], []⟩ w K _
          have hs := str_of (hr10.adds hC)
          go_wp2_with fail
          exact hK _ _ (Adds.refl _) rfl
        · refine ⟨fun _ _ _ => rfl, fun c _ vals w hC hD K hK => ?_⟩
          have h12 : vals 12 = .string ⟨(D).toArray⟩ := hD 12 rfl
          have h14 : vals 14 = .string ⟨(R).toArray⟩ := hD 14 rfl
          have hg : vals 8 = .bool false := hD 8 rfl
          refine ite_yes (wanted_of rfl rfl rfl rfl hg) ?_
          clear hg
          clear hD
          obtain ⟨vals, rfl⟩ := upd_of (vals := vals) (j := 12) (x := Value.string ⟨(D).toArray⟩) h12
          clear h12
          obtain ⟨vals, rfl⟩ := upd_of (vals := vals) (j := 14) (x := Value.string ⟨(R).toArray⟩) h14
          clear h14
          show Oper.wp _ _ ⟨#[c 0, c 1, c 2, c 3, c 4, c 5, c 6, (Value.slice ar (2 * l.length) rc : Value), c 8, (up : Value), (dn : Value), c 11, c 12, c 13, c 14, c 15, c 16, c 17, c 18, c 19, c 20, c 21, c 22, c 23, c 24, c 25, c 26, c 27, c 28, c 29, c 30, c 31, c 32, c 33, c 34, c 35, c 36, c 37, c 38, c 39, c 40, c 41, c 42, c 43, c 44, c 45, c 46, c 47, c 48, c 49, c 50, c 51, c 52, c 53, c 54, c 55, c 56, c 57, c 58, c 59, c 60, c 61, c 62, c 63, c 64, c 65, c 66, c 67, c 68, c 69, c 70, c 71, c 72, c 73, c 74, c 75, c 76, c 77, c 78, vals 0, vals 1, vals 2, vals 3, vals 4, vals 5, vals 6, vals 7, vals 8, vals 9, vals 10, vals 11, (Value.string ⟨(D).toArray⟩ : Value), vals 13, (Value.string ⟨(R).toArray⟩ : Value), vals 15, vals 16, vals 17, c 97, c 98, c 99, c 100, c 101, c 102, c 103, c 104, c 105, c 106, c 107, c 108, c 109, c 110, c 111, c 112, c 113, c 114, c 115, c 116], []⟩ w K _
          go_wp2_with fail
          exact hK _ _ (Adds.refl _) (by first | rfl | simp)
        · refine ⟨fun _ _ _ => rfl, fun c _ vals w hC hD K hK => ?_⟩
          have h10 : vals 10 = .bool (D == R) := hD 10 rfl
          have h15 : vals 15 = .bool (D == R) := hD 15 rfl
          have hg : vals 8 = .bool false := hD 8 rfl
          refine ite_yes (wanted_of rfl rfl rfl rfl hg) ?_
          clear hg
          clear hD
          obtain ⟨vals, rfl⟩ := upd_of (vals := vals) (j := 10) (x := Value.bool (D == R)) h10
          clear h10
          obtain ⟨vals, rfl⟩ := upd_of (vals := vals) (j := 15) (x := Value.bool (D == R)) h15
          clear h15
          show Oper.wp _ _ ⟨#[c 0, c 1, c 2, c 3, c 4, c 5, c 6, (Value.slice ar (2 * l.length) rc : Value), c 8, (up : Value), (dn : Value), c 11, c 12, c 13, c 14, c 15, c 16, c 17, c 18, c 19, c 20, c 21, c 22, c 23, c 24, c 25, c 26, c 27, c 28, c 29, c 30, c 31, c 32, c 33, c 34, c 35, c 36, c 37, c 38, c 39, c 40, c 41, c 42, c 43, c 44, c 45, c 46, c 47, c 48, c 49, c 50, c 51, c 52, c 53, c 54, c 55, c 56, c 57, c 58, c 59, c 60, c 61, c 62, c 63, c 64, c 65, c 66, c 67, c 68, c 69, c 70, c 71, c 72, c 73, c 74, c 75, c 76, c 77, c 78, vals 0, vals 1, vals 2, vals 3, vals 4, vals 5, vals 6, vals 7, vals 8, vals 9, (Value.bool (D == R) : Value), vals 11, vals 12, vals 13, vals 14, (Value.bool (D == R) : Value), vals 16, vals 17, c 97, c 98, c 99, c 100, c 101, c 102, c 103, c 104, c 105, c 106, c 107, c 108, c 109, c 110, c 111, c 112, c 113, c 114, c 115, c 116], []⟩ w K _
          go_wp2_with fail
          exact hK _ _ (Adds.refl _) (by rfl)
        · refine ⟨fun _ _ _ => rfl, fun c _ vals w hC hD K hK => ?_⟩
          have h8 : vals 8 = .bool false := hD 8 rfl
          have h16 : vals 16 = .bool false := hD 16 rfl
          refine ite_yes (wanted_none rfl) ?_
          clear hD
          obtain ⟨vals, rfl⟩ := upd_of (vals := vals) (j := 8) (x := Value.bool false) h8
          clear h8
          obtain ⟨vals, rfl⟩ := upd_of (vals := vals) (j := 16) (x := Value.bool false) h16
          clear h16
          show Oper.wp _ _ ⟨#[c 0, c 1, c 2, c 3, c 4, c 5, c 6, (Value.slice ar (2 * l.length) rc : Value), c 8, (up : Value), (dn : Value), c 11, c 12, c 13, c 14, c 15, c 16, c 17, c 18, c 19, c 20, c 21, c 22, c 23, c 24, c 25, c 26, c 27, c 28, c 29, c 30, c 31, c 32, c 33, c 34, c 35, c 36, c 37, c 38, c 39, c 40, c 41, c 42, c 43, c 44, c 45, c 46, c 47, c 48, c 49, c 50, c 51, c 52, c 53, c 54, c 55, c 56, c 57, c 58, c 59, c 60, c 61, c 62, c 63, c 64, c 65, c 66, c 67, c 68, c 69, c 70, c 71, c 72, c 73, c 74, c 75, c 76, c 77, c 78, vals 0, vals 1, vals 2, vals 3, vals 4, vals 5, vals 6, vals 7, (Value.bool false : Value), vals 9, vals 10, vals 11, vals 12, vals 13, vals 14, vals 15, (Value.bool false : Value), vals 17, c 97, c 98, c 99, c 100, c 101, c 102, c 103, c 104, c 105, c 106, c 107, c 108, c 109, c 110, c 111, c 112, c 113, c 114, c 115, c 116], []⟩ w K _
          go_wp2_with fail
          exact hK _ _ (Adds.refl _) (by rfl)
        intro vals w' hC hΦ
        have h17 : vals 17 = .bool false := hΦ 17 (by decide)
        clear hΦ
        simp only [List.getD_eq_getElem?_getD, List.getElem?_cons_zero, List.getElem?_cons_succ, Option.getD_some]
        simp only [h17]
        try simp only [tuple_undef]
        have C11 := C10.trans (hC.mono C10.size)
        have hr11 := hr10.adds hC
        have hs11 := hs10.adds hC
        have s1 := str_of (hv10.adds hC)
        have s2 := str_of (hu10.adds hC)
        clear hr10 hs10 hv10 hu10 hU10 hD10 hC C10
        go_wp2_with fail
        refine (rail_Below_b _ _ _ R (Rail.put m) hr11 hs11 (by rw [HR2.out]; omega)).mono ?_
        rintro e w12 ⟨rfl, B12⟩
        rw [HB1.out]
        go_wp2_with fail
        refine (rail_Below_b _ _ _ (Rail.put m) R (hs11.adds B12) (hr11.adds B12) (by rw [Rail.put_length]; omega)).mono ?_
        rintro e w13 ⟨rfl, B13⟩
        rw [HB2.out]
        go_wp2_with fail
        refine (law05_fixed _).mono ?_
        rintro e w14 ⟨rfl, B14⟩
        have C13 := C11.trans ((Adds.trans (Adds.trans B12 B13) B14).mono C11.size)
        go_wp2_with fail
        go_ret
        exact ⟨rfl, C4.trans (C13.mono C4.size)⟩
end Go.Proofs.Ytmeialegemhlhaa
