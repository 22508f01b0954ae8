/-
  The walks of package rail and of its reference.
-/
import Derived.Test.YtmeialegemhlhaaProg
import Derived.Test.YtmeialegemhlhaaU
import Derived.Test.YtmeialegemhlhaaRailSpec
namespace Go.Proofs.Ytmeialegemhlhaa
open Go.RowKit Go.PK

def halfAddr (ao : Option Addr) (h : Nat) : Option Addr := if h = 0 then ao else ao.map (fun x => x.add h)

theorem rail_halves (ao : Option Addr) (n cap h : Nat) (hh : n / 2 = h) (hc : n ≤ cap) (hc2 : cap ≤ 9223372036854775807) (w : World) :
    Calls Try.prog 48 #[.slice ao n cap] w fun e w' => e = .returned (.tuple #[.slice ao h h, .slice (halfAddr ao h) h h]) ∧ ∃ m, w' = w.drewN m := by
  subst hh
  go_enter Try.func48, Try.ntmps48
  go_wp2
  go_quiet (fail)
  go_wp2
  all_goals go_ret2
  · refine ⟨ret_val ?_, nq, rfl⟩
    have : n / 2 = 0 := by omega
    simp [halfAddr, this]
  · refine ⟨ret_val ?_, nq, rfl⟩
    have : ¬ n / 2 = 0 := by omega
    have e : 2 * (n / 2) - n / 2 = n / 2 := by omega
    simp [halfAddr, this, e]


theorem drewN_below (w : World) (m : Nat) {B : Nat} {w0 : World} (h : Below B w0 w) : Below B w0 (w.drewN m) := ⟨h.os, h.tape, h.output, h.size, h.block⟩

set_option maxHeartbeats 400000 in
theorem rail_Put (w : World) (v : Value) (l : List UInt8) (hv : Bytes w v l) (hl : l.length ≤ 140737488351232) :
    Calls Try.prog 20 #[v] w fun e w' => ∃ v', e = .returned v' ∧ w'.ownsRow w.heap.size 5 1 v' (Rail.put l).length ((Rail.put l).map B8) ∧ Below w.heap.size w w' := by
  obtain ⟨ao, cap, rfl, h1, h2, -⟩ := id hv
  go_enter Try.func20, Try.ntmps20
  go_wp2_with (at_make; refine wpList_make_one rfl (.tmp 9) (.tmp 9) 23 rfl 5 (B8 0) 1 Try.underlying23 u8info rfl (2 * l.length) (2 * l.length) rfl rfl (Nat.le_refl _) (by omega) (by omega) ?_)
  refine (rail_halves _ _ _ l.length (by omega) (Nat.le_refl _) (by omega) _).mono ?_
  rintro e w1 ⟨rfl, m, hw1⟩
  have hr : RowB w1 w.heap.size 5 (Rail.laying l 0) := by
    rw [hw1, Rail.laying_zero]; exact RowB.new w _ _
  have hb : Below w.heap.size w w1 := by
    rw [hw1]; exact drewN_below _ _ ((Below.refl _ _).alloc (Nat.le_refl _) _)
  clear hw1
  generalize hB : w.heap.size = B at hr hb ⊢
  have HB := Lib.hid hB
  clear hB
  obtain ⟨bo, hbo, he⟩ : ∃ bo, halfAddr (some ⟨B, 0, none⟩) l.length = bo ∧ (0 < l.length → bo = some ⟨B, l.length, none⟩) :=
    ⟨_, rfl, fun h => by simp [halfAddr, show ¬ l.length = 0 by omega, Addr.add_lit]⟩
  rw [hbo]
  clear hbo
  have HE := Lib.hid he
  clear he
  go_wp2_with fail
  go_loopw [6, 18] (fun _ i wr => ∃ k : Nat, k ≤ l.length ∧ i = .int .i64 k ∧ RowB wr B 5 (Rail.laying l k) ∧ Below B w wr) (fun _ i _ => l.length - (intOf i).toNat)
  case atStart => exact ⟨0, by omega, rfl, hr, hb⟩
  case round =>
    clear hr hb
    obtain ⟨k, hk, rfl, hr, hb⟩ := hrel
    by_cases hlt : k < l.length
    · obtain rfl := HE.out (by omega)
      have hv' := hv.below hb (Nat.le_of_eq HB.out)
      obtain ⟨bb, off, rfl, hbb, hcell⟩ := hv'.at hlt
      have c1 := hr.cell (j := k) (by rw [Rail.laying_length _ _ hk]; omega)
      have c2 := hr.cell (j := l.length + k) (by rw [Rail.laying_length _ _ hk]; omega)
      have f1 := hr.free k
      have f2 := hr.free (l.length + k)
      have hs := Rail.laying_succ l k hlt
      have HS := Lib.hid hs
      clear hs
      go_wp2
      go_region
      all_goals
        go_wp2
        go_roundw
        case rel =>
          refine ⟨k + 1, by omega, by go_num, ?_, ?_⟩
          · rw [← HS.out]
            have := ((hr.set k (l.getD k 0)).set (l.length + k) (~~~(l.getD k 0))).drew
            simpa [hlt] using this
          · exact (hb.drew.setCell (Nat.le_refl _) _).setCell (Nat.le_refl _) _
        case measure => simp [intOf]; omega
    · have : k = l.length := by omega
      subst this
      go_wp2
      go_ret
      rw [Rail.laying_all] at hr
      have hl2 : (Rail.put l).length = 2 * l.length := Rail.put_length l
      obtain rfl := HB.out
      refine ⟨_, rfl, ?_, hb⟩
      have := hr.owns (base := w.heap.size) (Nat.le_refl _) (by omega)
      rwa [hl2] at this ⊢

theorem rail_Right (w : World) (v : Value) (l : List UInt8) (hv : Bytes w v l) :
    Calls Try.prog 21 #[v] w fun e w' => e = .returned (.bool (Rail.right l)) ∧ ∃ m, w' = w.drewN m := by
  obtain ⟨ao, cap, rfl, h1, h2, -⟩ := id hv
  generalize hh : l.length / 2 = h
  have hle : 2 * h ≤ l.length := by omega
  have HH := Lib.hid hh
  go_enter Try.func21, Try.ntmps21
  go_wp2_with fail
  refine (rail_halves _ _ _ h hh h1 h2 _).mono ?_
  rintro e w1 ⟨rfl, m, rfl⟩
  clear hh
  obtain ⟨bo, hbo, he⟩ : ∃ bo, halfAddr ao h = bo ∧ (0 < h → ∀ b off, ao = some ⟨b, off, none⟩ → bo = some ⟨b, off + h, none⟩) :=
    ⟨_, rfl, fun h0 b off e => by simp [halfAddr, show ¬ h = 0 by omega, Addr.add_lit, e]⟩
  rw [hbo]
  clear hbo
  have HE := Lib.hid he
  clear he
  go_wp2_with fail
  go_loopw [5, 13] (fun _ i wr => ∃ k : Nat, k ≤ h ∧ i = .int .i64 k ∧ Hid (Rail.upto l h k = true) ∧ ∃ m, wr = w.drewN m) (fun _ i _ => h - (intOf i).toNat)
  case atStart => exact ⟨0, by omega, rfl, Rail.upto_zero _ _, m, rfl⟩
  case round =>
    obtain ⟨k, hk, rfl, hr, m', rfl⟩ := hrel
    by_cases hlt : k < h
    · obtain ⟨bb, off, rfl, hbb, hcell⟩ := hv.at (k := k) (by omega)
      obtain ⟨bb', off', he, -, hcell2⟩ := hv.at (k := h + k) (by omega)
      cases he
      obtain rfl := HE.out (by omega) bb off rfl
      have hs := Rail.upto_succ l h k
      rw [hr.out] at hs
      have hf := Rail.upto_false l h k
      generalize l.getD k 0 = x at *
      generalize l.getD (h + k) 0 = y at *
      have HS := Lib.hid hs
      have HF := Lib.hid hf
      clear hs hf hv
      rw [← Nat.add_assoc] at hcell2
      by_cases hc : x = ~~~y
      · have hc1 : (x != ~~~y) = false := by simpa using hc
        have HC := Lib.hid hc
        clear hc
        go_wp2
        go_quiet (fail)
        go_wp2
        go_roundw
        case rel => exact ⟨k + 1, by omega, by go_num, by show _ = _; rw [HS.out, HC.out]; simp, m' + nq, by simp⟩
        case measure => simp [intOf]; omega
      · have hc1 : (x != ~~~y) = true := by simpa using hc
        have HC := Lib.hid hc
        clear hc
        go_wp2
        go_quiet (fail)
        go_wp2
        go_ret
        exact ⟨ret_bool (by rw [Rail.right, HH.out, HF.out h HC.out hlt]; rfl), m' + nq, by simp⟩
    · have : k = h := by omega
      subst this
      go_wp2
      go_ret
      refine ⟨ret_bool ?_, _, rfl⟩
      rw [Rail.right, HH.out, hr.out, Bool.true_and]
      exact mod2_beq _

theorem rail_Get (w : World) (v : Value) (l : List UInt8) (hv : Bytes w v l) (hl : l.length ≤ 281474976710656) :
    Calls Try.prog 19 #[v] w fun e w' => ∃ v', e = .returned (.tuple #[v', .int .i64 (if Rail.right l then 0 else 5)]) ∧
      w'.ownsRow w.heap.size 5 1 v' (Rail.got l).length ((Rail.got l).map B8) ∧ Below w.heap.size w w' := by
  obtain ⟨ao, cap, rfl, h1, h2, -⟩ := id hv
  have hR := rail_Right w _ l hv
  have hgot : Rail.got l = if Rail.right l then l.take (l.length / 2) else [] := rfl
  generalize Rail.got l = g at *
  generalize Rail.right l = r at *
  have HR := Lib.hid hR
  clear hR
  cases r with
  | false =>
    obtain rfl := hgot
    go_enter Try.func19, Try.ntmps19
    go_wp2_with fail
    refine HR.out.mono ?_
    rintro e w1 ⟨rfl, m, rfl⟩
    go_wp2_with fail
    go_ret2
    exact ⟨_, rfl, World.ownsRow_nil _ _ _ _, drewN_below _ _ (Below.refl _ _)⟩
  | true =>
    have hlen : g.length = l.length / 2 := by rw [hgot]; simp; omega
    go_enter Try.func19, Try.ntmps19
    go_wp2_with fail
    refine HR.out.mono ?_
    rintro e w1 ⟨rfl, m, rfl⟩
    go_wp2_with fail
    refine (rail_halves _ _ _ (l.length / 2) rfl h1 h2 _).mono ?_
    rintro e w1 ⟨rfl, m', rfl⟩
    have hv1 : Bytes ((w.drewN m).drewN m') (.slice ao (l.length / 2) (l.length / 2)) g := by
      have := (hv.below (drewN_below _ m (Below.refl w.heap.size w)) (Nat.le_refl _)).pre (hi := l.length / 2) (mx := l.length / 2) (by omega) (by omega) (by omega)
      have h := this.below (drewN_below _ m' (Below.refl _ _)) (Nat.le_refl _)
      rw [hgot]
      exact h
    have hb := drewN_below _ m' (drewN_below _ m (Below.refl w.heap.size w))
    have hsz : w.heap.size ≤ ((w.drewN m).drewN m').heap.size := Nat.le_refl _
    have hl2 : 0 + g.length ≤ 140737488355328 := by omega
    rw [← hlen] at hv1 ⊢
    clear hlen hv hgot HR
    generalize (w.drewN m).drewN m' = w1 at *
    go_wp2_with (at_builtin; refine wpList_append_B8 rfl (.const (.slice none 0 0)) (.tmp 14) 23 rfl w.heap.size 5 Try.underlying23 u8info (.slice none 0 0) 0 [] rfl (World.ownsRow_nil _ _ _ _) _ g rfl hv1 hl2 hsz ?_)
    intro v' w2 ho hg hb2
    go_wp2
    go_ret2
    exact ⟨_, rfl, by simpa using ho, hb.trans hb2⟩

theorem rail_Below (w : World) (v v' : Value) (l l' : List UInt8) (hv : Bytes w v l) (hv' : Bytes w v' l') (hl : l.length ≤ 9223372036854775807) :
    Calls Try.prog 36 #[v, v'] w fun e w' => e = .returned (.bool (Rail.below l l')) ∧ ∃ m, w' = w.drewN m := by
  obtain ⟨ao, cap, rfl, h1, h2, -⟩ := id hv
  obtain ⟨ao', cap', rfl, h1', h2', -⟩ := id hv'
  by_cases hn : l.length = l'.length
  · have hB : Rail.below l l' = Rail.belowTo l l' l.length := by rw [Rail.below, hn]; simp
    have HB := Lib.hid hB
    clear hB
    have hn1 : ((l.length : Int) != (l'.length : Int)) = false := by simp [hn]
    have HN := Lib.hid hn
    clear hn
    go_enter Try.func36, Try.ntmps36
    go_wp2_with fail
    go_loopw [5, 13] (fun _ i wr => ∃ k : Nat, k ≤ l.length ∧ i = .int .i64 k ∧ Hid (Rail.belowTo l l' k = true) ∧ ∃ m, wr = w.drewN m) (fun _ i _ => l.length - (intOf i).toNat)
    case atStart => exact ⟨0, by omega, rfl, Rail.belowTo_zero _ _, 0, rfl⟩
    case round =>
      obtain ⟨k, hk, rfl, hr, m', rfl⟩ := hrel
      by_cases hlt : k < l.length
      · have hlt' : k < l'.length := by have := HN.out; omega
        obtain ⟨bb, off, rfl, hbb, hcell⟩ := hv.at (k := k) hlt
        obtain ⟨bb', off', rfl, -, hcell2⟩ := hv'.at (k := k) hlt'
        have hs := Rail.belowTo_succ l l' k
        rw [hr.out] at hs
        have hf := Rail.belowTo_false l l' k
        generalize l.getD k 0 = x at *
        generalize l'.getD k 0 = y at *
        have HS := Lib.hid hs
        have HF := Lib.hid hf
        clear hs hf hv hv'
        by_cases hc : x &&& ~~~y = 0
        · have hc1 : (x &&& ~~~y != 0) = false := by simpa using hc
          have HC := Lib.hid hc
          clear hc
          go_wp2
          go_quiet (fail)
          go_wp2
          go_roundw
          case rel => exact ⟨k + 1, by omega, by go_num, by show _ = _; rw [HS.out, HC.out]; simp, m' + nq, by simp⟩
          case measure => simp [intOf]; omega
        · have hc1 : (x &&& ~~~y != 0) = true := by simpa using hc
          have HC := Lib.hid hc
          clear hc
          go_wp2
          go_quiet (fail)
          go_wp2
          go_ret
          exact ⟨ret_bool (by rw [HB.out, HF.out l.length HC.out hlt]), m' + nq, by simp⟩
      · have : k = l.length := by omega
        subst this
        go_wp2
        go_ret
        exact ⟨ret_bool (by rw [HB.out, hr.out]), m', rfl⟩
  · have hB : Rail.below l l' = false := by rw [Rail.below]; simp [hn]
    have hn1 : ((l.length : Int) != (l'.length : Int)) = true := by simp; omega
    have HB := Lib.hid hB
    clear hB hn
    go_enter Try.func36, Try.ntmps36
    go_wp2
    go_ret
    exact ⟨ret_bool HB.out.symm, 0, rfl⟩

theorem rail_Right_b (w : World) (v : Value) (l : List UInt8) (hv : Bytes w v l) :
    Calls Try.prog 21 #[v] w fun e w' => e = .returned (.bool (Rail.right l)) ∧ Below w.heap.size w w' :=
  (rail_Right w v l hv).mono fun _ _ ⟨he, m, hm⟩ => ⟨he, by rw [hm]; exact drewN_below _ m (Below.refl _ _)⟩
theorem rail_Below_b (w : World) (v v' : Value) (l l' : List UInt8) (hv : Bytes w v l) (hv' : Bytes w v' l') (hl : l.length ≤ 9223372036854775807) :
    Calls Try.prog 36 #[v, v'] w fun e w' => e = .returned (.bool (Rail.below l l')) ∧ Below w.heap.size w w' :=
  (rail_Below w v v' l l' hv hv' hl).mono fun _ _ ⟨he, m, hm⟩ => ⟨he, by rw [hm]; exact drewN_below _ m (Below.refl _ _)⟩
end Go.Proofs.Ytmeialegemhlhaa
