/-
  The walks of the reference of layer 5.
-/
import Derived.Test.YtmeialegemhlhaaRailW
namespace Go.Proofs.Ytmeialegemhlhaa
open Go.RowKit Go.PK

theorem ref05_Right (w : World) (v : Value) (l : List UInt8) (hv : Bytes w v l) :
    Calls Try.prog 35 #[v] w fun e w' => e = .returned (.bool (Rail.right l)) ∧ ∃ m, w' = w.drewN m := by
  obtain ⟨ao, cap, rfl, h1, h2, -⟩ := id hv
  generalize hh : l.length / 2 = h
  have hle : 2 * h ≤ l.length := by omega
  have HH := Lib.hid hh
  by_cases hp : l.length = 2 * h
  · have hp1 : ((l.length : Int) != 2 * ((l.length : Int) / 2)) = false := by simp; omega
    have hq : (l.length : Int) / 2 = (h : Int) := by omega
    have HP := Lib.hid hp
    have HQ := Lib.hid hq
    clear hp hq hh
    go_enter Try.func35, Try.ntmps35
    go_wp2_with fail
    rw [HQ.out]
    go_loopw [4] (fun i wr => ∃ k : Nat, k ≤ h ∧ i = .int .i64 k ∧ Hid (Rail.upto l h k = true) ∧ ∃ m, wr = w.drewN m) (fun i _ => h - (intOf i).toNat)
    case atStart => exact ⟨0, by omega, rfl, Rail.upto_zero _ _, 0, rfl⟩
    case round =>
      clear hp1
      obtain ⟨k, hk, rfl, hr, m', rfl⟩ := hrel
      by_cases hlt : k < h
      · obtain ⟨bb, off, rfl, hbb, hcell⟩ := hv.at (k := k) (by omega)
        obtain ⟨bb', off', he, -, hcell2⟩ := hv.at (k := h + k) (by omega)
        cases he
        have hs := Rail.upto_succ l h k
        rw [hr.out] at hs
        have hf := Rail.upto_false l h k
        generalize l.getD k 0 = x at *
        generalize l.getD (h + k) 0 = y at *
        have HS := Lib.hid hs
        have HF := Lib.hid hf
        clear hs hf hv
        have hx := Rail.xor_full x y
        by_cases hc : x = ~~~y
        · have hc1 : (x ^^^ y != 255) = false := by rw [hx]; simpa using hc
          have HC := Lib.hid hc
          clear hc hx
          go_wp2
          go_quiet (fail)
          go_wp2
          go_roundw
          case rel => exact ⟨k + 1, by omega, by go_num, by show _ = _; rw [HS.out, HC.out]; simp, m' + nq, by simp⟩
          case measure => simp [intOf]; omega
        · have hc1 : (x ^^^ y != 255) = true := by rw [hx]; simpa using hc
          have HC := Lib.hid hc
          clear hc hx
          go_wp2
          go_quiet (fail)
          go_wp2
          go_ret
          exact ⟨ret_bool (by rw [Rail.right, HH.out, HF.out h HC.out hlt]; rfl), m' + nq, by simp⟩
      · have : k = h := by omega
        subst this
        go_wp2
        go_ret
        refine ⟨ret_bool ?_, _, rfl⟩
        rw [Rail.right, HH.out, hr.out, Bool.true_and]
        have := HP.out
        simp; omega
  · have hp1 : ((l.length : Int) != 2 * ((l.length : Int) / 2)) = true := by simp; omega
    clear hh
    have HP := Lib.hid hp
    clear hp
    go_enter Try.func35, Try.ntmps35
    go_wp2
    go_ret
    refine ⟨ret_bool ?_, 0, rfl⟩
    have := HP.out
    have hh := HH.out
    have : (l.length % 2 == 0) = false := by simp; omega
    rw [Rail.right, this, Bool.and_false]

theorem ref05_Below (w : World) (v v' : Value) (l l' : List UInt8) (hv : Bytes w v l) (hv' : Bytes w v' l') (hl : l.length ≤ 9223372036854775807) :
    Calls Try.prog 37 #[v, v'] w fun e w' => e = .returned (.bool (Rail.below l l')) ∧ ∃ m, w' = w.drewN m := by
  obtain ⟨ao, cap, rfl, h1, h2, -⟩ := id hv
  obtain ⟨ao', cap', rfl, h1', h2', -⟩ := id hv'
  by_cases hn : l.length = l'.length
  · have hB : Rail.below l l' = Rail.belowTo l l' l.length := by rw [Rail.below, hn]; simp
    have HB := Lib.hid hB
    clear hB
    have hn1 : ((l.length : Int) != (l'.length : Int)) = false := by simp [hn]
    have HN := Lib.hid hn
    clear hn
    go_enter Try.func37, Try.ntmps37
    go_wp2_with fail
    go_loopw [5] (fun i wr => ∃ k : Nat, k ≤ l.length ∧ i = .int .i64 k ∧ Hid (Rail.belowTo l l' k = true) ∧ ∃ m, wr = w.drewN m) (fun i _ => l.length - (intOf i).toNat)
    case atStart => exact ⟨0, by omega, rfl, Rail.belowTo_zero _ _, 0, rfl⟩
    case round =>
      obtain ⟨k, hk, rfl, hr, m', rfl⟩ := hrel
      by_cases hlt : k < l.length
      · have hlt' : k < l'.length := by have := HN.out; omega
        obtain ⟨bb, off, rfl, hbb, hcell⟩ := hv.at (k := k) hlt
        obtain ⟨bb', off', rfl, -, hcell2⟩ := hv'.at (k := k) hlt'
        have hs := Rail.belowTo_succ l l' k
        rw [hr.out] at hs
        have hf := Rail.belowTo_false l l' k
        generalize l.getD k 0 = x at *
        generalize l'.getD k 0 = y at *
        have HS := Lib.hid hs
        have HF := Lib.hid hf
        clear hs hf hv hv'
        have hx := Rail.or_same x y
        by_cases hc : x &&& ~~~y = 0
        · have hc1 : (x ||| y != y) = false := by rw [hx]; simpa using hc
          have HC := Lib.hid hc
          clear hc hx
          go_wp2
          go_quiet (fail)
          go_wp2
          go_roundw
          case rel => exact ⟨k + 1, by omega, by go_num, by show _ = _; rw [HS.out, HC.out]; simp, m' + nq, by simp⟩
          case measure => simp [intOf]; omega
        · have hc1 : (x ||| y != y) = true := by rw [hx]; simpa using hc
          have HC := Lib.hid hc
          clear hc hx
          go_wp2
          go_quiet (fail)
          go_wp2
          go_ret
          exact ⟨ret_bool (by rw [HB.out, HF.out l.length HC.out hlt]), m' + nq, by simp⟩
      · have : k = l.length := by omega
        subst this
        go_wp2
        go_ret
        exact ⟨ret_bool (by rw [HB.out, hr.out]), m', rfl⟩
  · have hB : Rail.below l l' = false := by rw [Rail.below]; simp [hn]
    have hn1 : ((l.length : Int) != (l'.length : Int)) = true := by simp; omega
    have HB := Lib.hid hB
    clear hB hn
    go_enter Try.func37, Try.ntmps37
    go_wp2
    go_ret
    exact ⟨ret_bool HB.out.symm, 0, rfl⟩

set_option maxHeartbeats 400000 in
theorem ref05_Put (w : World) (v : Value) (l : List UInt8) (hv : Bytes w v l) (hl : l.length ≤ 35184372088832) :
    Calls Try.prog 24 #[v] w fun e w' => ∃ v', e = .returned v' ∧ w'.ownsRow w.heap.size 5 1 v' (Rail.put l).length ((Rail.put l).map B8) ∧ Below w.heap.size w w' := by
  obtain ⟨ao, cap, rfl, h1, h2, -⟩ := id hv
  go_enter Try.func24, Try.ntmps24
  have hv1 := hv.below ((Below.refl w.heap.size w).alloc (Nat.le_refl _) (.cells #[] 5)) (Nat.le_refl _)
  go_wp2_with (at_builtin; refine wpList_append_B8 rfl (.tmp 5) (.tmp 6) 23 rfl w.heap.size 5 Try.underlying23 u8info _ 0 [] rfl (World.ownsRow_made w #[] 0 (Nat.le_refl _) (by decide) rfl) _ l rfl hv1 (by omega) (by simp) ?_)
  intro v1 w1 ho hg hb
  have hb1 : Below w.heap.size w w1 := ((Below.refl w.heap.size w).alloc (Nat.le_refl _) _).trans hb
  have hsz : w.heap.size ≤ w1.heap.size := hb1.size
  clear hb hg hv1
  generalize hB : w.heap.size = B at *
  have HB := Lib.hid hB
  clear hB
  go_wp2_with fail
  go_loopw [3, 4] (fun y i wr => ∃ k : Nat, k ≤ l.length ∧ i = .int .i64 k ∧ wr.ownsRow B 5 1 y (l.length + k) ((l ++ (l.take k).map (~~~·)).map B8) ∧ Below B w wr) (fun _ i _ => l.length - (intOf i).toNat)
  case atStart => exact ⟨0, by omega, rfl, by simpa using ho, hb1⟩
  case round =>
    clear ho hb1 hsz
    obtain ⟨k, hk, rfl, ho, hb1⟩ := hrel
    by_cases hlt : k < l.length
    · have hvr := hv.below hb1 (Nat.le_of_eq HB.out)
      obtain ⟨bb, off, rfl, hbb, hcell⟩ := hvr.at (k := k) hlt
      have hsz : B ≤ wr.heap.size := by rw [← HB.out]; exact hb1.size
      have hs : Hid (l ++ (l.take k).map (~~~·) ++ [~~~(l.getD k 0)] = l ++ (l.take (k + 1)).map (~~~·)) := by
        show _ = _
        rw [take_succ_getD l k hlt, List.map_append, List.append_assoc]; rfl
      have hx := Rail.not_xor (l.getD k 0)
      generalize l.getD k 0 = x at *
      generalize l ++ (l.take k).map (~~~·) = m at *
      clear hv hvr
      have hel : ∀ c, Bytes (wr.alloc (.cells #[B8 c] 5)) (.slice (some ⟨wr.heap.size, 0, none⟩) 1 1) [c] := fun c => Bytes.one wr _ c
      go_wp2_with (at_builtin; refine wpList_append_B8 rfl (.tmp 14) (.tmp 20) 23 rfl B 5 Try.underlying23 u8info _ (l.length + k) m rfl (ho.alloc _) _ [~~~x] rfl (hel _) (by simp; omega) (by simp; omega) ?_)
      intro v2 w2 ho2 hg2 hb2
      have ho2 : w2.ownsRow B 5 1 v2 (l.length + (k + 1)) ((l ++ (l.take (k + 1)).map (~~~·)).map B8) := by
        rw [← hs.out, List.map_append]; exact ho2
      have hb3 := (hb1.alloc hsz (.cells #[B8 (~~~x)] 5)).trans hb2
      clear hg2 hb2 hb1 ho
      go_wp2
      go_roundw
      case rel => exact ⟨k + 1, by omega, by go_num, ho2, hb3⟩
      case measure => simp [intOf]; omega
    · have : k = l.length := by omega
      subst this
      go_wp2
      go_ret
      refine ⟨_, rfl, ?_, ?_⟩
      · rw [HB.out, Rail.put_length, Nat.two_mul]
        simpa [Rail.put] using ho
      · rw [HB.out]; exact hb1

theorem ref05_Get (w : World) (v : Value) (l : List UInt8) (hv : Bytes w v l) (hl : l.length ≤ 281474976710656) :
    Calls Try.prog 34 #[v] w fun e w' => ∃ v', e = .returned (.tuple #[v', .int .i64 (if Rail.right l then 0 else 5)]) ∧
      w'.ownsRow w.heap.size 5 1 v' (Rail.got l).length ((Rail.got l).map B8) ∧ Below w.heap.size w w' := by
  obtain ⟨ao, cap, rfl, h1, h2, -⟩ := id hv
  have hR := ref05_Right w _ l hv
  have hgot : Rail.got l = if Rail.right l then l.take (l.length / 2) else [] := rfl
  generalize Rail.got l = g at *
  generalize Rail.right l = r at *
  have HR := Lib.hid hR
  clear hR
  cases r with
  | false =>
    obtain rfl := hgot
    go_enter Try.func34, Try.ntmps34
    go_wp2_with fail
    refine HR.out.mono ?_
    rintro e w1 ⟨rfl, m, rfl⟩
    go_wp2_with fail
    go_ret2
    exact ⟨_, rfl, World.ownsRow_nil _ _ _ _, drewN_below _ _ (Below.refl _ _)⟩
  | true =>
    have hlen : g.length = l.length / 2 := by rw [hgot]; simp; omega
    go_enter Try.func34, Try.ntmps34
    go_wp2_with fail
    refine HR.out.mono ?_
    rintro e w1 ⟨rfl, m, rfl⟩
    have hv1 : Bytes ((w.drewN m).alloc (.cells #[] 5)) (.slice ao (l.length / 2) cap) g := by
      have := (hv.below (drewN_below _ m (Below.refl w.heap.size w)) (Nat.le_refl _)).pre (hi := l.length / 2) (mx := cap) (by omega) (by omega) (by omega)
      have h := this.below ((Below.refl _ _).alloc (Nat.le_refl _) (.cells #[] 5)) (Nat.le_refl _)
      rw [hgot]
      exact h
    have hb := ((drewN_below _ m (Below.refl w.heap.size w)).alloc (by exact Nat.le_refl _) (.cells #[] 5))
    have hl2 : 0 + g.length ≤ 140737488355328 := by omega
    clear hlen hv hgot HR
    go_wp2_with (at_builtin; refine wpList_append_B8 rfl (.tmp 9) (.tmp 14) 23 rfl w.heap.size 5 Try.underlying23 u8info _ 0 [] rfl (World.ownsRow_made (w.drewN m) #[] 0 (Nat.le_refl _) (by decide) rfl) _ g rfl hv1 hl2 (by simp) ?_)
    intro v' w2 ho hg hb2
    go_wp2
    go_ret2
    exact ⟨_, rfl, by simpa using ho, hb.trans hb2⟩

theorem ref05_Right_b (w : World) (v : Value) (l : List UInt8) (hv : Bytes w v l) :
    Calls Try.prog 35 #[v] w fun e w' => e = .returned (.bool (Rail.right l)) ∧ Below w.heap.size w w' :=
  (ref05_Right w v l hv).mono fun _ _ ⟨he, m, hm⟩ => ⟨he, by rw [hm]; exact drewN_below _ m (Below.refl _ _)⟩
theorem ref05_Below_b (w : World) (v v' : Value) (l l' : List UInt8) (hv : Bytes w v l) (hv' : Bytes w v' l') (hl : l.length ≤ 9223372036854775807) :
    Calls Try.prog 37 #[v, v'] w fun e w' => e = .returned (.bool (Rail.below l l')) ∧ Below w.heap.size w w' :=
  (ref05_Below w v v' l l' hv hv' hl).mono fun _ _ ⟨he, m, hm⟩ => ⟨he, by rw [hm]; exact drewN_below _ m (Below.refl _ _)⟩
end Go.Proofs.Ytmeialegemhlhaa
