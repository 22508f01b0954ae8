/-
  The walk of keeps, for whatever function makes new bytes out of bytes.
-/
import Derived.Test.YtmeialegemhlhaaRail5F
import Derived.Test.YtmeialegemhlhaaU
import Derived.Test.YtmeialegemhlhaaR
import Derived.Test.YtmeialegemhlhaaW
namespace Go.Proofs.Ytmeialegemhlhaa
open Go.RowKit Go.PK

/-- F makes of bytes l new bytes f l -/
def Maker (F : FuncId) (f : List UInt8 → List UInt8) : Prop :=
  ∀ (w : World) (v : Value) (l : List UInt8), Bytes w v l → l.length ≤ 2097152 →
    Calls Try.prog F #[v] w fun e w' => ∃ v', e = .returned v' ∧ w'.ownsRow w.heap.size 5 1 v' (f l).length ((f l).map B8) ∧ Below w.heap.size w w'

set_option maxHeartbeats 2000000 in
theorem law05_keeps (F : FuncId) (f : List UInt8 → List UInt8) (hF : Maker F f) (hE : ∀ (args : Array Value) (w : World), (callFunc F args).run Try.prog w = .ok (.enter F args) w) (w : World) (v : Value) (l : List UInt8) (hv : Bytes w v l) (hl : l.length ≤ 2097152) (hfl : (f l).length ≤ 4194304) :
    Calls Try.prog 23 #[.func (.func F) #[] #[], v] w fun e w' => e = .returned (.bool true) ∧ Below w.heap.size w w' := by
  obtain ⟨av, vc, rfl, vc1, vc2, -⟩ := id hv
  go_enter Try.func23, Try.ntmps23
  go_wp2_with (at_builtin; refine wpList_append_B8 rfl (.const (.slice none 0 0)) (.tmp 13) 23 rfl w.heap.size 5 Try.underlying23 u8info _ 0 [] rfl (World.ownsRow_nil _ _ _ _) _ l rfl hv (by omega) (Nat.le_refl _) ?_)
  intro v1 w1 ho1 _ B1
  have ho1 : w1.ownsRow w.heap.size 5 1 v1 l.length (l.map B8) := by simpa using ho1
  have hz1 := B1.size
  have hy1 := Bytes.new w1 5 #[.int .u8 119, .int .u8 120] [119, 120] rfl (by decide)
  have ho1' := ho1.alloc (.cells #[.int .u8 119, .int .u8 120] 5)
  go_wp2_with (at_builtin; refine wpList_append_B8 rfl (.tmp 14) (.tmp 15) 23 rfl w.heap.size 5 Try.underlying23 u8info _ l.length l rfl ho1' _ [119, 120] rfl hy1 (by simp; omega) (by simp; omega) ?_)
  intro v2 w2 ho2 _ B2
  have B2' : Below w.heap.size w w2 := (B1.alloc hz1 (.cells #[.int .u8 119, .int .u8 120] 5)).trans B2
  have ho2 : w2.ownsRow w.heap.size 5 1 v2 (l.length + 2) ((l ++ [119, 120]).map B8) := by simpa using ho2
  clear ho1 ho1' hy1 B1 B2
  obtain ⟨g, gc, rfl, hg1, hg2⟩ := owns_form ho2 (by omega)
  have hown := (Bytes.of_owns ho2).2
  have hgl : l.length + 2 ≤ gc := by
    obtain ⟨ao, cap, he, hc, _⟩ := hown
    simp at he
    obtain ⟨rfl, h2, rfl⟩ := he
    simpa using hc
  have hgc : gc ≤ 9223372036854775807 := by
    obtain ⟨ao, cap, he, hc, h2, _⟩ := hown
    simp at he
    obtain ⟨rfl, _, rfl⟩ := he
    exact h2
  have hin : Bytes w2 (.slice (some ⟨g, 0, none⟩) l.length gc) l := by
    have := Bytes.pre (w := w2) (ao := some ⟨g, 0, none⟩) (n := l.length + 2) (cap := gc) (l := l ++ [119, 120]) hown (hi := l.length) (mx := gc) (by simp) (by omega) (Nat.le_refl _)
    simpa using this
  have hv2 := hv.below B2' (Nat.le_refl _)
  generalize hfl0 : f l = fl at *
  have HF := Lib.hid hfl0
  clear hfl0
  go_wp2_with fail
  refine (hF _ _ l hin hl).mono ?_
  rintro e w3 ⟨x, rfl, hx3, B3⟩
  rw [HF.out] at hx3
  go_wp2_with fail
  refine (hF _ _ l (hin.below B3 (Nat.le_refl _)) hl).mono ?_
  rintro e w4 ⟨y, rfl, hy4, B4⟩
  rw [HF.out] at hy4
  have hz2 := B3.size
  have hz3 := B4.size
  have lx := Lib.hid (owns_lies hx3)
  have ly := Lib.hid (owns_lies hy4)
  have C4 : Below w2.heap.size w2 w4 := B3.trans (B4.mono B3.size)
  have hx4 := ownsRow_below hx3 B4 (Nat.le_refl _)
  have hy := (Bytes.of_owns hy4).2
  obtain ⟨ax, xc, rfl, -⟩ := (Bytes.of_owns hx4).2
  have sx := str_of (Bytes.of_owns hx4).2
  have sy := str_of hy
  have si := str_of (hin.below C4 (Nat.le_refl _))
  have sv := str_of (hv2.below C4 (Nat.le_refl _))
  have c1 : w2.cell? ⟨g, l.length, none⟩ = some (B8 119) := by
    have := owns_cell ho2 (j := l.length) (by simp)
    simpa using this
  have c2 : w2.cell? ⟨g, l.length + 1, none⟩ = some (B8 120) := by
    have := owns_cell ho2 (j := l.length + 1) (by simp)
    simpa using this
  have d1 : w4.cell? ⟨g, l.length, none⟩ = some (B8 119) := by rw [cell_below C4 (by exact hg2)]; exact c1
  have d2 : w4.cell? ⟨g, l.length + 1, none⟩ = some (B8 120) := by rw [cell_below C4 (by exact hg2)]; exact c2
  have hxn : ∃ lx : List UInt8, w4.ownsRow w2.heap.size 5 1 (.slice ax fl.length xc) fl.length (lx.map B8) := ⟨_, hx4⟩
  clear hx3 hy4 B3 B4 hx4 c2
  go_wp2_with fail
  clear sx sy si sv d1 d2
  go_loopw [10] (fun i wr => ∃ k : Nat, k ≤ fl.length ∧ i = .int .i64 k ∧ (∃ lx : List UInt8, wr.ownsRow w2.heap.size 5 1 (.slice ax fl.length xc) fl.length (lx.map B8)) ∧ Bytes wr y fl ∧ Below w2.heap.size w2 wr ∧ w4.heap.size ≤ wr.heap.size) (fun i _ => fl.length - (intOf i).toNat)
  case atStart => exact ⟨0, by omega, rfl, hxn, hy, C4, Nat.le_refl _⟩
  case round =>
    clear hxn hy C4
    obtain ⟨k, hk, rfl, ⟨lx', hxo⟩, hy, C4, hz4⟩ := hrel
    by_cases hlt : k < fl.length
    · obtain ⟨gx, xc', he, hb9, hg9⟩ := owns_form hxo (by omega)
      cases he
      have hll : lx'.length = fl.length := by simpa using hxo.1
      have cx := owns_cell hxo (j := k) (by omega)
      have fx := owns_free hxo k
      obtain ⟨lx1, lx2⟩ := lx.out gx 0 _ _ rfl
      go_wp2_with fail
      go_roundw
      case rel =>
        refine ⟨k + 1, by omega, by go_num, ⟨lx'.set k 17, owns_set hxo k 17⟩, hy.set_other _ (fun b off n cap he => ?_), C4.setCell (p := ⟨gx, k, none⟩) hb9 _, by simpa using hz4⟩
        have := (ly.out b off n cap he).1
        omega
      case measure => simp [intOf]; omega
    · have : k = fl.length := by omega
      subst this
      go_wp2_with fail
      have l0 : ∀ gx, Value.ownBlock (.slice ax fl.length xc) = some gx → gx < w3.heap.size ∨ w4.heap.size ≤ gx := by
        intro gx hgx
        rcases hxo.2 with ⟨h', _⟩ | ⟨g', cap', cur, h', hb, hg, r⟩
        · rw [h'] at hgx; simp [Value.ownBlock] at hgx
        · rw [h'] at hgx
          have := (lx.out g' 0 _ _ h').2
          simp [Value.ownBlock] at hgx
          omega
      go_loopw [7, 11] (fun x i wr => ∃ k : Nat, k ≤ 40 ∧ i = .int .i64 k ∧ (∃ lx : List UInt8, wr.ownsRow w2.heap.size 5 1 x (fl.length + k) (lx.map B8)) ∧ (∀ gx, x.ownBlock = some gx → gx < w3.heap.size ∨ w4.heap.size ≤ gx) ∧ Bytes wr y fl ∧ Below w2.heap.size w2 wr ∧ w4.heap.size ≤ wr.heap.size) (fun _ i _ => 40 - (intOf i).toNat)
      case atStart => exact ⟨0, by omega, rfl, ⟨lx', hxo⟩, l0, hy, C4, hz4⟩
      case round =>
        clear hxo l0 hy C4 hz4
        obtain ⟨k, hk, rfl, ⟨lx', hxo⟩, l0, hy, C4, hz4⟩ := hrel
        by_cases hlt : k < 40
        · have hsz := C4.size
          have hel : (World.alloc wr (.cells #[.int .u8 18] 5)).cell? ⟨wr.heap.size, 0, none⟩ = some (B8 18) := by
            rw [cell_row (heap_alloc_new wr _)]; rfl
          have L0 := Lib.hid l0
          clear l0
          go_wp2_with (at_builtin; refine wpList_append_one rfl (.tmp 70) (.tmp 71) 23 rfl w2.heap.size 5 Try.underlying23 u8info _ (fl.length + k) lx' rfl (hxo.alloc _) wr.heap.size 1 18 rfl hel (by omega) (by simp; omega) ?_)
          intro g' cap' w' ho' hgr B' hlie
          have ho'' : w'.ownsRow w2.heap.size 5 1 (.slice (some ⟨g', 0, none⟩) (fl.length + (k + 1)) cap') (fl.length + (k + 1)) ((lx' ++ [18]).map B8) := by
            rw [List.map_append]; exact ho'
          have hy' := (hy.below ((Below.refl _ wr).alloc (Nat.le_refl _) (.cells #[.int .u8 18] 5)) (Nat.le_refl _)).grown hgr (fun b off n cap he hh => by
            have := ly.out b off n cap he
            have := L0.out b hh.symm
            omega)
          have l0' : ∀ gx, Value.ownBlock (.slice (some ⟨g', 0, none⟩) (fl.length + (k + 1)) cap') = some gx → gx < w3.heap.size ∨ w4.heap.size ≤ gx := by
            intro gx hgx
            simp only [Value.ownBlock, Option.some.injEq] at hgx
            subst hgx
            rcases hlie with h | h
            · exact L0.out _ h
            · right; omega
          have C' := (C4.alloc hsz (.cells #[.int .u8 18] 5)).trans B'
          have hz' : w4.heap.size ≤ w'.heap.size := by
            have := hgr.size
            simp at this
            omega
          have HL := Lib.hid l0'
          clear ho' hgr B' hlie hxo hy C4 l0'
          go_wp2_with fail
          go_roundw
          case rel => exact ⟨k + 1, by omega, by go_num, ⟨_, ho''⟩, HL.out, hy', C', hz'⟩
          case measure => simp [intOf]; omega
        · have hin4 := hin.below C4 (Nat.le_refl _)
          have sy := str_of hy
          have si := str_of hin4
          have sv := str_of (hv2.below C4 (Nat.le_refl _))
          have d1 : wr.cell? ⟨g, l.length, none⟩ = some (B8 119) := by rw [cell_below C4 (by exact hg2)]; exact c1
          clear hxo l0
          go_wp2_with fail
          refine (hF _ _ l hin4 hl).mono ?_
          rintro e w5 ⟨z, rfl, hz5, B5⟩
          rw [HF.out] at hz5
          have sz := str_of (Bytes.of_owns hz5).2
          have C5 := C4.trans (B5.mono C4.size)
          have ho5 := ownsRow_below ho2 C5 (Nat.le_refl _)
          have hy5 := hy.below B5 (Nat.le_refl _)
          have D5 := B2'.trans (C5.mono B2'.size)
          clear sy si sv d1 hz5 B5 C4 hin4 hy
          go_wp2_with fail
          clear sz
          go_loopw [12] (fun i wr => ∃ k : Nat, k ≤ l.length ∧ i = .int .i64 k ∧ (∃ lo : List UInt8, wr.ownsRow w.heap.size 5 1 (.slice (some ⟨g, 0, none⟩) (l.length + 2) gc) (l.length + 2) (lo.map B8)) ∧ Bytes wr y fl ∧ Below w.heap.size w wr) (fun i _ => l.length - (intOf i).toNat)
          case atStart => exact ⟨0, by omega, rfl, ⟨_, ho5⟩, hy5, D5⟩
          case round =>
            clear ho5 hy5 D5 C5
            obtain ⟨k, hk, rfl, ⟨lo, hlo⟩, hy, D⟩ := hrel
            by_cases hlt : k < l.length
            · have hll : lo.length = l.length + 2 := by simpa using hlo.1
              have cx := owns_cell hlo (j := k) (by omega)
              have fx := owns_free hlo k
              generalize lo.getD k 0 = q at *
              go_wp2_with fail
              go_roundw
              case rel =>
                refine ⟨k + 1, by omega, by go_num, ⟨_, owns_set hlo k _⟩, hy.set_other _ (fun b off n cap he => ?_), D.setCell (p := ⟨g, k, none⟩) hg1 _⟩
                have := (ly.out b off n cap he).1
                omega
              case measure => simp [intOf]; omega
            · have sy := str_of hy
              go_wp2_with fail
              go_ret
              exact ⟨rfl, D⟩
end Go.Proofs.Ytmeialegemhlhaa
