/-
  The walks of law 12's awake and of KeysNames.
-/
import Derived.Test.YtejmbkljnhnklaaKyU
namespace Go.PK
open Go.RowKit
section
variable {P : Program} {Q : Exit → Act → World → Prop} {ops : Array Oper} {rest : List Oper} {a : Act} {w : World} {G : List Nat} {w0 : World} {L : List Blk} {dst : Option Tmp} {type : TypeId} {pos : String} {after : Array Edge}
theorem gL_bs2 (hM : Mem G w0 w L) {t : TypeId} {x y : Operand} (h : ∃ (e : TypeId) (bytes : Nat) (X Y : Value) (C D : List Value), P.underlying t = some (.slice e) ∧ El P e 2 bytes ∧ a.eval x = X ∧ a.eval y = Y ∧ X.cells = C.toArray ∧ Y.cells = D.toArray ∧ Len C 2 ∧ Len D 2 ∧
    ∀ g w', Mem G w0 w' (⟨some g, e, C ++ D, 4⟩ :: L) → wpList P ops Q rest (a.put dst (.slice (some ⟨g, 0, none⟩) 2 2)) w') :
    wpList P ops Q (Oper.mk dst (.buildSlice t 2 #[(0, x), (1, y)]) type pos after none :: rest) a w := by
  obtain ⟨e, bytes, X, Y, C, D, hu, hel, hx, hy, cx, cy, lc, ld, h⟩ := h
  refine wpList_plain rfl fun K hk => hM.wp_buildSlice (parts := [(0, x), (1, y)]) (C := C ++ D) rfl hu hel (by decide) (by decide) rfl ?_ ?_ (by decide) (fun g w' hm => hk _ _ (h g w' hm))
  · simp [hx, hy, cx, cy]
  · intro v hv
    simp [hx, hy] at hv
    rcases hv with rfl | rfl
    · rw [cx]; exact List.size_toArray.trans lc.eq
    · rw [cy]; exact List.size_toArray.trans ld.eq
end
end Go.PK
namespace Go.Proofs.Ytejmbkljnhnklaa
open Go.RowKit Go.PK Go.Maps
/-- a ring's numbers, in memory of their own -/
theorem ring_nums (w : World) (gr gm : Nat) (S : List Sec) (hR : Ring w gr gm S) :
    Calls Try.prog 60 #[.pointer (some ⟨gr, 0, none⟩)] w fun e w' => ∃ ob cap, e = .returned (sl ob S.length cap) ∧ cap ≤ maxLen ∧ Len (kNums S) S.length ∧ Mem [] w w' [⟨ob, 3, (kNums S).map (Value.int .i64), cap * 1⟩] := by
  refine (ring_Numbers w gr gm S hR).mono ?_
  rintro e w' ⟨v, ss, rfl, hp, hrow, hb⟩
  have hp2 := hp.trans (kNums_perm hR).symm
  have hs : ss.mergeSort (fun x y => decide (x ≤ y)) = kNums S := mergeSort_of_perm_i hp2
  have hl : ss.length = S.length := by rw [hp2.length_eq, List.length_map]
  rw [hs, hl] at hrow
  have hkl : Len (kNums S) S.length := Len.of (by unfold kNums; rw [List.length_mergeSort, List.length_map])
  have hM := (Mem.start w).adds hb
  rcases hrow.2 with ⟨rfl, h0⟩ | ⟨g, cap, cur, rfl, hbg, hcell, hc1, hc2, hc3, hc4⟩
  · have hk0 : kNums S = [] := List.eq_nil_of_length_eq_zero (by rw [hkl.eq, h0])
    refine ⟨none, 0, by rw [h0]; rfl, by decide, hkl, ?_⟩
    rw [hk0]
    exact hM.addNil _
  · refine ⟨some g, cap, rfl, hc2, hkl, (Mem.start w).addNew hb ⟨cur.toList.drop (S.length * 1), ?_, ?_⟩ hbg⟩
    · rw [hcell, show (kNums S).map (Value.int .i64) = (kNums S).map encZ from rfl, ← hc4, List.take_append_drop]
    · simp only [List.length_map, hkl.eq, List.length_drop, Array.length_toList, hc3]
      omega

/-- a secret of a list that lies in memory -/
theorem sec_cells {w : World} {g : Nat} {C : List Value} {l : List (Int × List UInt8)} (hR : Row w g 99 C) (h : ∀ j k B, l[j]? = some (k, B) → ∃ v, C[j * 2]? = some (.int .i64 k) ∧ C[j * 2 + 1]? = some v ∧ Bytes w v B) : Elems rSec w (some ⟨g, 0, none⟩) l := by
  intro j a hj
  obtain ⟨k, B⟩ := a
  obtain ⟨v, h1, h2, h3⟩ := h j k B hj
  refine ⟨g, 0, rfl, hR.lt, [.int .i64 k, v], ⟨_, _, rfl, rfl, Bytes.to_K h3⟩, fun i hi => ?_⟩
  rw [Nat.zero_add]
  rcases i with _ | _ | i
  · rw [Nat.add_zero]
    exact hR.cell h1
  · exact hR.cell h2
  · have : i + 2 < 2 := hi
    omega

theorem sec_ok {x : Int × List UInt8} (h1 : -9223372036854775808 ≤ x.1 ∧ x.1 ≤ 9223372036854775807) (h2 : x.2.length ≤ 140737488351232) : rSec.ok x := ⟨h1, h2, fun _ _ => trivial⟩

set_option maxRecDepth 100000 in
set_option maxHeartbeats 4000000 in
theorem law12_awake (w0 : World) : Calls Try.prog 52 #[] w0 fun e w' => e = .returned (.bool true) ∧ Below w0.heap.size w0 w' := by
  have hM := Mem.start w0
  go_enter Try.func52, Try.ntmps52
  go_wp2_with (first
    | ((with_reducible refine gL_buildBytes (dst := some 11) hM ?_); refine ⟨_, _, (us_of rfl), (el_of rfl), (by decide), (by decide), rfl, (by (repeat (first | exact EvB.nil | apply EvB.cons rfl (by first | exact (rfl : B8 _ = B8 _) | exact lit8 _ (by decide)))); done), ?_⟩; intro g11 _ hM2; clear hM; have hM := hM2; clear hM2)
    | ((with_reducible refine gL_buildBytes (dst := some 13) hM ?_); refine ⟨_, _, (us_of rfl), (el_of rfl), (by decide), (by decide), rfl, (by (repeat (first | exact EvB.nil | apply EvB.cons rfl (by first | exact (rfl : B8 _ = B8 _) | exact lit8 _ (by decide)))); done), ?_⟩; intro g13 _ hM2; clear hM; have hM := hM2; clear hM2)
    | ((with_reducible refine gL_bs2 (dst := some 15) hM ?_); refine ⟨_, _, _, _, [.int .i64 5, .slice (some ⟨g11, 0, none⟩) 1 1], [.int .i64 3, .slice (some ⟨g13, 0, none⟩) 1 1], (us_of rfl), (el_of rfl), rfl, rfl, rfl, rfl, rfl, rfl, ?_⟩; intro g15 wA hM2; clear hM; have hM := hM2; clear hM2))
  have hb1 : Bytes wA (.slice (some ⟨g11, 0, none⟩) 1 1) [1] := hM.whole (ob := some g11) (n := 1) (l := [1]) (N := 1) (.tail _ (.tail _ (.head _))) rfl (by decide)
  have hb2 : Bytes wA (.slice (some ⟨g13, 0, none⟩) 1 1) [7] := hM.whole (ob := some g13) (n := 1) (l := [7]) (N := 1) (.tail _ (.head _)) rfl (by decide)
  have hE : Elems rSec wA (some ⟨g15, 0, none⟩) [(5, [1]), (3, [7])] := sec_cells (hM.rowN (.head _) (Len.of rfl)) fun j k B h => by
    rcases j with _ | _ | j
    · simp at h
      obtain ⟨rfl, rfl⟩ := h
      exact ⟨_, rfl, rfl, hb1⟩
    · simp at h
      obtain ⟨rfl, rfl⟩ := h
      exact ⟨_, rfl, rfl, hb2⟩
    · simp at h
  refine (ring_New wA _ 2 _ hE (fun x hx => by simp at hx; rcases hx with rfl | rfl <;> exact sec_ok (by decide) (by decide))).mono ?_
  rintro _ w2 ⟨B1, ⟨ec, i, hk, -⟩ | ⟨-, gr, gm, S, hS, rfl, hR⟩⟩
  · exact absurd hk (by rw [show kNew [(5, [1]), (3, [7])] = none from by decide]; nofun)
  replace hM := hM.adds B1
  clear B1 hE hb1 hb2
  have hmap : S.map (·.1) = [5, 3] := by
    have := congrArg (List.map fun x : Int × List UInt8 => x.1) hS
    rw [List.map_map] at this
    exact this
  have hn2 : S.length = 2 := by
    have := congrArg List.length hmap
    simpa using this
  have hk4 : kLook S 4 = none := by
    cases h : kLook S 4 with
    | none => rfl
    | some x =>
      have h2 := kLook_some.1 (show (kLook S 4).isSome = true by rw [h]; rfl)
      rw [hmap] at h2
      exact absurd h2 (by decide)
  have hk3 : (kLook S 3).isSome = true := kLook_some.2 (by rw [hmap]; decide)
  have hnum : kNums S = [3, 5] := by unfold kNums; rw [hmap, mergeSort_of_perm_i (List.Perm.swap 3 5 [])]; exact List.mergeSort_of_pairwise (by simp)
  clear hS hmap
  have hA02 := hM.done
  clear hM
  have hM := Mem.start w2
  go_wp2_with (first
    | ((with_reducible refine gL_buildBytes (dst := some 21) hM ?_); refine ⟨_, _, (us_of rfl), (el_of rfl), (by decide), (by decide), rfl, (by (repeat (first | exact EvB.nil | apply EvB.cons rfl (by first | exact (rfl : B8 _ = B8 _) | exact lit8 _ (by decide)))); done), ?_⟩; intro g21 _ hM2; clear hM; have hM := hM2; clear hM2)
    | ((with_reducible refine gL_buildSlice1 (dst := some 23) hM ?_); refine ⟨_, [.int .i64 64, .slice (some ⟨g21, 0, none⟩) 1 1], _, _, _, (us_of rfl), (el_of rfl), (by decide), rfl, rfl, rfl, ?_⟩; intro g23 wC hM2; clear hM; have hM := hM2; clear hM2))
  have hb3 : Bytes wC (.slice (some ⟨g21, 0, none⟩) 1 1) [1] := hM.whole (ob := some g21) (n := 1) (l := [1]) (N := 1) (.tail _ (.head _)) rfl (by decide)
  have hE : Elems rSec wC (some ⟨g23, 0, none⟩) [(64, [1])] := sec_cells (hM.rowN (.head _) (Len.of rfl)) fun j k B h => by
    rcases j with _ | j
    · simp at h
      obtain ⟨rfl, rfl⟩ := h
      exact ⟨_, rfl, rfl, hb3⟩
    · simp at h
  refine (ring_New wC _ 1 _ hE (fun x hx => by simp at hx; subst hx; exact sec_ok (by decide) (by decide))).mono ?_
  rintro _ w3 ⟨B1, ⟨ec, i, hk, rfl⟩ | ⟨hk, -⟩⟩
  case inr => exact absurd hk (by rw [show kNew [(64, [1])] = some (2, 0) from by decide]; nofun)
  rw [show kNew [(64, [1])] = some (2, 0) from by decide] at hk
  cases hk
  replace hM := hM.adds B1
  clear B1 hE hb3
  go_wp2_with fail
  obtain ⟨Z, hZ, hZl⟩ : ∃ Z : List UInt8, List.replicate 32 0 = Z ∧ Len Z 32 := ⟨_, rfl, Len.rep 32 0⟩
  refine (ring_Sign w3 gr gm S (hR.adds hM.done) 4 (by decide) (.slice none 0 0) [] (Bytes.nil _) (by decide) Z 13 (by rw [hk4, hZ])).mono ?_
  clear hZ
  rintro _ w4 ⟨rfl, B1⟩
  replace hM := hM.adds B1
  clear B1
  go_wp2_with (first
    | ((first | ((with_reducible refine gL_alloc (dst := some 7) hM ?_); refine ⟨_, _, (zr_of rfl), ?_⟩) | ((with_reducible refine gL_box (dst := some 7) hM ?_); refine ⟨_, _, _, rfl, rfl, (by first | assumption | exact Len.map (by assumption) _ | rfl | exact Len.map (by rfl) _ | exact Len.of (by simp; done)), ?_⟩)); intro g7 _ hM2; clear hM; have hM := hM2; clear hM2)
    | ((with_reducible refine gL_store hM ?_); refine ⟨_, _, _, rfl, rfl, hM.stores_all (.here _ _ _) (ag_of rfl) (hZl.map _) (by rfl) B8_one, ?_⟩; intro wD hM2; clear hM; have hM := hM2; clear hM2))
  refine (ring_nums wD gr gm S (hR.adds hM.done)).mono ?_
  rintro _ w5 ⟨ob, cap, rfl, hcap, hkl, hM3⟩
  rw [hn2] at hkl ⊢
  rw [hnum] at hM3
  obtain ⟨gN, rfl⟩ := hM3.some_of (.head _) (n := 2) rfl (by decide)
  replace hM := hM.addMem hM3
  clear hM3 hkl
  simp only [List.cons_append, List.nil_append] at hM
  have hH3 : ∀ w', Adds w2 w' → _ := fun w' hw => ring_Has w' gr gm S (hR.adds hw) 3 (by decide)
  have hH4 : ∀ w', Adds w2 w' → _ := fun w' hw => ring_Has w' gr gm S (hR.adds hw) 4 (by decide)
  rw [hk3] at hH3
  rw [hk4] at hH4
  go_wp2_with fail
  refine (hH3 _ hM.done).mono ?_
  rintro _ w6 ⟨rfl, B1⟩
  replace hM := hM.adds B1
  clear B1
  go_wp2_with fail
  refine (hH4 _ hM.done).mono ?_
  rintro _ w7 ⟨rfl, B1⟩
  replace hM := hM.adds B1
  clear B1
  go_wp2_with (first
    | ((with_reducible refine gG_load (dst := some 72) ?_ ?_); (exact wanted_of rfl rfl rfl rfl rfl); refine ⟨_, _, rfl, hM.loads_one (.head _) (on_of rfl) rfl, ?_⟩))
  go_ret
  exact ⟨rfl, Adds.trans hA02 hM.done⟩

set_option maxRecDepth 100000 in
set_option maxHeartbeats 4000000 in
theorem KeysNames_walk (w0 : World) : Calls Try.prog 14 #[] w0 fun e w' => e = .returned (.bool true) ∧ Below w0.heap.size w0 w' := by
  have hM := Mem.start w0
  go_enter Try.func14, Try.ntmps14
  go_wp2_with fail
  refine (law12_awake _).mono ?_
  rintro _ w1 ⟨rfl, B1⟩
  replace hM := hM.adds B1
  go_wp2_with fail
  go_ret
  exact ⟨rfl, hM.done⟩
end Go.Proofs.Ytejmbkljnhnklaa
