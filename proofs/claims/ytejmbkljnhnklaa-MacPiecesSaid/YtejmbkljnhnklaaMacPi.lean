/-
  The walk of MacPieces.
-/
import Derived.Test.YtejmbkljnhnklaaMacGd
import Derived.Deep.CutRange
import Derived.Deep.CutBlock
namespace Go.Proofs.Ytejmbkljnhnklaa
open Go.RowKit Go.PK

theorem perm5 {α : Type} (a b c d : α) : [d, a, b, c].Perm [b, c, a, d] := by
  refine (List.perm_append_singleton d [a, b, c]).symm.trans ?_
  show [a, b, c, d].Perm [b, c, a, d]
  exact (List.Perm.swap b a [c, d]).trans (List.Perm.cons b (List.Perm.swap c a [d]))
set_option maxRecDepth 100000 in
set_option maxHeartbeats 4000000 in
theorem MacPieces_walk (w0 : World) (v0 v : Value) (key : List UInt8) (l : List Step) (hv : Bytes w0 v0 key) (hkl : key.length ≤ 140737488351232) (hK : (rSlice rOp).K w0 [v] l) (ho : (rSlice rOp).ok l) :
    Calls Try.prog 6 #[v0, v] w0 fun e w' => e = .returned (.bool true) ∧ Below w0.heap.size w0 w' := by
  obtain ⟨ao, capl, rfl, hc1, hc2⟩ := steps_form hK
  have hst : ∀ j (hj : j < l.length + 1), _ := fun j hj => mstep_at hK hv hkl ho hj
  have hln : l.length ≤ 140737488351232 := ho.1
  obtain ⟨l', hl'⟩ : ∃ l', l' = (1, 0, key) :: l := ⟨_, rfl⟩
  have hp1 : pre l' 1 = key.length + 1 := by rw [hl', pre_succ (l := (1, 0, key) :: l) (k := 0) (by simp)]; simp [pre_zero]
  have hll : l'.length = l.length + 1 := by rw [hl']; rfl
  rw [← hl'] at hst
  clear hl'
  have hpm : ∀ k, pre l' k ≤ pre l' (l.length + 1) := fun k => hll ▸ pre_mono l' k
  have hpl : l.length + 1 ≤ pre l' (l.length + 1) := le_pre l' (by omega)
  clear hK ho
  obtain ⟨n, hn⟩ : ∃ n, n = l.length := ⟨_, rfl⟩
  have hM := Mem.start w0
  rw [← hn]
  rw [← hn] at hln hc1 hpm hpl hst hll
  clear hn
  obtain ⟨nk, hnk⟩ : ∃ nk, nk = key.length := ⟨_, rfl⟩
  obtain ⟨a0, c0, rfl, hk1, hk2, -⟩ := id hv
  rw [← hnk] at hp1 hkl hst ⊢
  clear hnk hk1 hk2
  have HP00 : ∀ _ : Unit, (pre l' (0 + 1) : Int) ≤ 2147483648 + 140737488351234 := fun _ => by
    have e1 : (pre l' (0 + 1) : Int) = nk + 1 := by simp only [Nat.zero_add, hp1]; omega
    omega
  have HP0 : ∀ _ : Unit, Value.int .i64 (2147483647 - (nk : Int)) = .int .i64 (2147483648 - (pre l' (0 + 1) : Int)) := fun _ => by
    have e1 : (pre l' (0 + 1) : Int) = nk + 1 := by simp only [Nat.zero_add, hp1]; omega
    exact congrArg (Value.int .i64) (by omega)
  clear hp1
  go_enter Try.func6, Try.ntmps6
  go_wp2_with fail
  go_loopw [5, 6] (fun lf i wr => ∃ (j : Nat), j ≤ n ∧ i = .int .i64 j ∧ lf = .int .i64 (2147483648 - (pre l' (j + 1) : Int)) ∧ (pre l' (j + 1) : Int) ≤ 2147483648 + 140737488351234 ∧ Mem [] w0 wr []) (fun _ i _ => n - (intOf i).toNat)
  case atStart => exact ⟨0, by omega, rfl, HP0 (), HP00 (), hM⟩
  case round =>
    clear hM HP0 HP00
    obtain ⟨j, hj, rfl, rfl, hsm, hM⟩ := hrel
    by_cases hlt : j < n
    · have hti : (j : Int) < (n : Int) := by omega
      by_cases hge : (pre l' (j + 1) : Int) ≤ 2147483648
      · have hgi : (2147483648 : Int) - (pre l' (j + 1) : Int) ≥ 0 := by omega
        obtain ⟨kd, onk, B, vB, hpj, hkl, -, hB, hway⟩ := hst (j + 1) (by omega)
        rcases hway with ⟨h0, -⟩ | ⟨j', b, off, hj', rfl, hL⟩
        · exact absurd h0 (by omega)
        obtain rfl : j = j' := by omega
        obtain ⟨aB, cB, rfl, -⟩ := hB _ (Adds.refl w0)
        obtain ⟨nb, hnb⟩ : ∃ nb, nb = B.length := ⟨_, rfl⟩
        have hcB := (hL _ hM.done).2
        clear hL hst hpl hpm hj' hB
        rw [← hnb] at hpj hkl hcB
        clear hnb
        obtain ⟨p1, hp1⟩ : ∃ p, p = pre l' (j + 1 + 1) := ⟨_, rfl⟩
        rw [← hp1] at hpj
        have HP1 : ∀ _ : Unit, p1 = pre l' (j + 1 + 1) := fun _ => hp1
        clear hp1
        generalize pre l' (j + 1) = p at *
        go_wp2_with (first | ((with_reducible refine gL_load (dst := some 37) ?_); refine ⟨_, _, rfl, loads_cell hcB (on_of rfl), ?_⟩))
        go_roundw
        case rel => exact ⟨j + 1, by omega, by go_num, congrArg (Value.int .i64) (by rw [← HP1 ()]; omega), by rw [← HP1 ()]; omega, hM⟩
        case measure => simp [intOf]; omega
      · have hgi : ¬ (2147483648 : Int) - (pre l' (j + 1) : Int) ≥ 0 := by omega
        generalize pre l' (j + 1) = p at *
        clear hst hpl hpm
        go_wp2_with (first | (go_at_call 27; (with_reducible refine (law03_fixed _).mono ?_); rintro _ _ ⟨rfl, B1⟩; replace hM := hM.adds B1; clear B1))
        go_ret
        exact ⟨rfl, hM.done⟩
    · have hje : n = j := by omega
      subst hje
      by_cases hge : (pre l' (n + 1) : Int) ≤ 2147483648
      case neg =>
        have hgi : (2147483648 : Int) - (pre l' (n + 1) : Int) < 0 := by omega
        generalize pre l' (n + 1) = p at *
        clear hst hpl hpm
        go_wp2_with (first | (go_at_call 27; (with_reducible refine (law03_fixed _).mono ?_); rintro _ _ ⟨rfl, B1⟩; replace hM := hM.adds B1; clear B1))
        go_ret
        exact ⟨rfl, hM.done⟩
      have hgi : ¬ (2147483648 : Int) - (pre l' (n + 1) : Int) < 0 := by omega
      have hge2 : pre l' (n + 1) ≤ 2147483648 := by omega
      have HG : ∀ _ : Unit, pre l' (n + 1) ≤ 2147483648 := fun _ => hge2
      obtain ⟨p, hp⟩ : ∃ p, p = pre l' (n + 1) := ⟨_, rfl⟩
      rw [← hp] at hgi ⊢
      clear hge hsm hge2 hp hj hlt
      go_wp2_with (first
        | ((with_reducible refine gL_buildEmpty (dst := some 44) hM ?_); refine ⟨_, _, _, (us_of rfl), (el_of rfl), ?_⟩; intro g44 _ hM2; clear hM; have hM := hM2; clear hM2)
        | ((with_reducible refine gL_buildEmpty (dst := some 45) hM ?_); refine ⟨_, _, _, (us_of rfl), (el_of rfl), ?_⟩; intro g45 _ hM2; clear hM; have hM := hM2; clear hM2)
        | ((with_reducible refine gL_buildEmpty (dst := some 46) hM ?_); refine ⟨_, _, _, (us_of rfl), (el_of rfl), ?_⟩; intro g46 _ hM2; clear hM; have hM := hM2; clear hM2))
      replace hM : Mem [] w0 _ ([⟨some g45, 45, ([] : List Md).map Md.p, 0 * 1⟩, ⟨some g44, 22, ([] : List Md).map Md.kv, 0 * 1⟩, ⟨some g46, 22, ([] : List Md).map Md.v, 0 * 1⟩] ++ mcO [] [PR.nil]) := (hM.addNil 5).perm (perm5 _ _ _ _)
      go_loopw [7, 8, 9, 10, 11, 12, 13, 14, 15, 16, 17] (fun kv pv av i _ _ _ _ _ _ _ wr => ∃ (j gP gK gA capP capK capA : Nat) (ms : List Md) (ps : List PR), j ≤ n + 1 ∧ i = .int .i64 ((j : Int) - 1) ∧ pv = .slice (some ⟨gP, 0, none⟩) ms.length capP ∧ kv = .slice (some ⟨gK, 0, none⟩) ms.length capK ∧ av = .slice (some ⟨gA, 0, none⟩) ms.length capA ∧ capP ≤ maxLen ∧ capK ≤ maxLen ∧ capA ≤ maxLen ∧ MGood w0 l' j ms ps ∧
        Mem [] w0 wr ([⟨some gP, 45, ms.map Md.p, capP * 1⟩, ⟨some gK, 22, ms.map Md.kv, capK * 1⟩, ⟨some gA, 22, ms.map Md.v, capA * 1⟩] ++ mcO ms ps)) (fun _ _ _ i _ _ _ _ _ _ _ _ => (n - intOf i).toNat)
      case atStart => exact ⟨0, g45, g44, g46, 0, 0, 0, [], [PR.nil], by omega, rfl, rfl, rfl, rfl, by decide, by decide, by decide, MGood.start, hM⟩
      case round =>
        clear hM
        obtain ⟨j, gP, gK, gA, capP, capK, capA, ms, ps, hj, rfl, rfl, rfl, rfl, hcP, hcK, hcA, hG, hM⟩ := hrel
        have hm0 := hG.pos
        have hm1 := hG.most
        obtain ⟨m, hm⟩ : ∃ m, m = ms.length := ⟨_, rfl⟩
        obtain ⟨PL, hPL⟩ : ∃ PL, PL = ms.map Md.p := ⟨_, rfl⟩
        obtain ⟨KL, hKL⟩ : ∃ KL, KL = ms.map Md.kv := ⟨_, rfl⟩
        obtain ⟨AL, hAL⟩ : ∃ AL, AL = ms.map Md.v := ⟨_, rfl⟩
        obtain ⟨OL, hOL⟩ : ∃ OL, OL = mcO ms ps := ⟨_, rfl⟩
        have hPll : Len PL m := by rw [hPL, hm]; exact Len.of (by simp)
        have hKll : Len KL m := by rw [hKL, hm]; exact Len.of (by simp)
        have hAll : Len AL m := by rw [hAL, hm]; exact Len.of (by simp)
        rw [← hPL, ← hKL, ← hAL, ← hOL] at hM
        replace hM : Mem [] w0 wr (⟨some gP, 45, PL, capP * 1⟩ :: ⟨some gK, 22, KL, capK * 1⟩ :: ⟨some gA, 22, AL, capA * 1⟩ :: OL) := hM
        rw [← hm] at hm0 hm1 ⊢
        have Hm : ∀ _ : Unit, m = ms.length := fun _ => hm
        have HPL : ∀ _ : Unit, PL = ms.map Md.p := fun _ => hPL
        have HKL : ∀ _ : Unit, KL = ms.map Md.kv := fun _ => hKL
        have HAL : ∀ _ : Unit, AL = ms.map Md.v := fun _ => hAL
        have HOL : ∀ _ : Unit, OL = mcO ms ps := fun _ => hOL
        clear hm hPL hKL hAL hOL
        obtain ⟨z, hz⟩ : ∃ z : Int, (j : Int) - 1 = z := ⟨_, rfl⟩
        rw [hz]
        have HZ : ∀ _ : Unit, (j : Int) - 1 = z := fun _ => hz
        by_cases hlt : j < n + 1
        · have hti : z < (n : Int) := by omega
          obtain ⟨kd, onk, B, vB, hpj, hbl, hki, hB, hway⟩ := hst j hlt
          have hpn : pre l' (j + 1) ≤ pre l' (n + 1) := hpm (j + 1)
          have hpg : pre l' (n + 1) ≤ 2147483648 := HG ()
          have hnp : n + 1 ≤ pre l' (n + 1) := hpl
          obtain ⟨aB, cB, rfl, -⟩ := hB _ (Adds.refl w0)
          obtain ⟨nb, hnb⟩ : ∃ nb, nb = B.length := ⟨_, rfl⟩
          rw [← hnb] at hpj hbl hB hway
          have HNB : ∀ _ : Unit, nb = B.length := fun _ => hnb
          clear hnb hst hpl hpm
          obtain ⟨pj, hpje⟩ : ∃ p, p = pre l' j := ⟨_, rfl⟩
          obtain ⟨pj1, hpj1e⟩ : ∃ p, p = pre l' (j + 1) := ⟨_, rfl⟩
          rw [← hpje] at hpj
          rw [← hpj1e] at hpj hpn
          have HPJ : ∀ _ : Unit, pj = pre l' j := fun _ => hpje
          have HPJ1 : ∀ _ : Unit, pj1 = pre l' (j + 1) := fun _ => hpj1e
          generalize pre l' (n + 1) = pn at *
          clear hpje hpj1e HG
          have hj0 : 0 < j ∨ kd = 1 := by
            rcases hway with ⟨-, h, -⟩ | ⟨j', _, _, h, -⟩
            · exact .inr h
            · exact .inl (by omega)
          have hkd : kd = 1 ∨ (0 < j ∧ kd = 2) ∨ (0 < j ∧ ¬ kd = 1 ∧ ¬ kd = 2) := by omega
          clear hj0 hz
          go_upto_if 56 with (first | ((first | ((with_reducible refine gL_alloc (dst := some 11) hM ?_); refine ⟨_, _, (zr_of rfl), ?_⟩) | ((with_reducible refine gL_box (dst := some 11) hM ?_); refine ⟨_, _, _, rfl, rfl, (by first | assumption | exact Len.map (by assumption) _ | rfl | exact Len.map (by rfl) _ | exact Len.of (by simp; done)), ?_⟩)); intro gO _ hM2; clear hM; have hM := hM2; clear hM2) | go_skip | ((first | (with_reducible refine gL_load ?_) | ((with_reducible refine gG_load ?_ ?_); (exact wanted_of rfl rfl rfl rfl rfl))); refine ⟨_, _, rfl, (by (first | (assumption) | (exact hM.loads_B8 (by (repeat (first | exact .head _ | apply List.Mem.tail)); done) (on_of rfl) (by first | omega | (simp only [Len] at *; omega) | (simp; omega))) | (exact hM.loads_all (by (repeat (first | exact .head _ | apply List.Mem.tail)); done) (ag_of rfl) (by first | assumption | exact Len.map (by assumption) _ | rfl | exact Len.map (by rfl) _ | exact Len.of (by simp; done))) | (exact hM.loads_one (by (repeat (first | exact .head _ | apply List.Mem.tail)); done) (on_of rfl) rfl) | (exact hM.loads_W32 (by (repeat (first | exact .head _ | apply List.Mem.tail)); done) (on_of rfl) (by first | omega | (simp only [Len] at *; omega) | (simp; omega))) | (exact loads_cell (by assumption) (on_of rfl)))), ?_⟩) | ((with_reducible refine gL_store hM ?_); refine ⟨_, _, _, rfl, rfl, (by (first | (exact hM.stores_B8 (by first | exact (rfl : B8 _ = B8 _) | exact lit8 _ (by decide)) (by (repeat (first | exact .here _ _ _ | apply Has.there)); done) (on_of rfl) (by first | omega | (simp only [Len] at *; omega) | (simp; omega))) | (exact hM.stores_all (by (repeat (first | exact .here _ _ _ | apply Has.there)); done) (ag_of rfl) (by first | assumption | exact Len.map (by assumption) _ | rfl | exact Len.map (by rfl) _ | exact Len.of (by simp; done)) (by first | assumption | exact Len.map (by assumption) _ | rfl | exact Len.map (by rfl) _ | exact Len.of (by simp; done)) (by first | exact B8_one | exact W32_one | exact one_of_all rfl)) | (exact hM.stores_W32 rfl (by (repeat (first | exact .here _ _ _ | apply Has.there)); done) (on_of rfl) (by first | omega | (simp only [Len] at *; omega) | (simp; omega))) | (exact hM.stores_one (by (repeat (first | exact .here _ _ _ | apply Has.there)); done) (on_of rfl) (by first | omega | (simp only [Len] at *; omega) | (simp; omega)) rfl rfl))), ?_⟩; intro _ hM2; clear hM; have hM := hM2; clear hM2) | ((with_reducible refine gL_alloc hM ?_); refine ⟨_, _, (zr_of rfl), ?_⟩; intro _ _ hM2; clear hM; have hM := hM2; clear hM2) | ((with_reducible refine gL_box hM ?_); refine ⟨_, _, _, rfl, rfl, (by first | assumption | exact Len.map (by assumption) _ | rfl | exact Len.map (by rfl) _ | exact Len.of (by simp; done)), ?_⟩; intro _ _ hM2; clear hM; have hM := hM2; clear hM2) | ((with_reducible refine gL_build0 ?_); refine ⟨_, _, _, _, _, _, (zr_of rfl), (ua_of rfl), (ag_of rfl), (el_of rfl), ?_⟩) | ((with_reducible refine gL_buildBytes hM ?_); refine ⟨_, _, (us_of rfl), (el_of rfl), (by decide), (by decide), rfl, (by (repeat (first | exact EvB.nil | apply EvB.cons rfl (by first | exact (rfl : B8 _ = B8 _) | exact lit8 _ (by decide)))); done), ?_⟩; intro _ _ hM2; clear hM; have hM := hM2; clear hM2) | ((with_reducible refine gL_append_B hM ?_); refine ⟨_, _, _, _, _, _, _, _, _, _, rfl, rfl, (by first | exact (rfl : Value.slice (some ⟨_, 0, none⟩) _ _ = sl (some _) _ _) | exact (rfl : Value.slice none _ _ = sl none _ _) | rfl), (us_of rfl), (el_of rfl), (by first | exact hM.src (by (repeat (first | exact .head _ | apply List.Mem.tail)); done) | exact (hM.bytes0 (by assumption)).src), (fun _ _ => by (repeat (first | exact .here _ _ _ | apply Swap.there)); done), (by first | assumption | exact Len.map (by assumption) _ | rfl | exact Len.map (by rfl) _ | exact Len.of (by simp; done)), (by first | assumption | exact Len.map (by assumption) _ | rfl | exact Len.map (by rfl) _ | exact Len.of (by simp; done)), (by first | assumption | (simp [maxLen]; done) | omega | (simp [maxLen]; omega)), (by first | omega | (simp only [Len] at *; omega) | (simp; omega)), ?_⟩; intro _ _ _ hM2 _ _; clear hM; have hM := hM2; clear hM2) | ((first | (with_reducible refine gL_field ?_) | ((with_reducible refine gG_field ?_ ?_); (exact wanted_of rfl rfl rfl rfl rfl))); refine ⟨_, _, rfl, (by (first | (exact field_one (fb_of rfl) rfl) | (exact field_agg (fa_of rfl) rfl))), ?_⟩))
          go_cut [11] from 47 to 175 (fun o11 wx => ∃ gO, o11 = .pointer (some ⟨gO, 0, none⟩) ∧ Mem [] w0 wx (⟨some gO, 43, [.int .i64 kd, .int .i64 onk, .slice aB nb cB], 3⟩ :: ⟨some gP, 45, PL, capP * 1⟩ :: ⟨some gK, 22, KL, capK * 1⟩ :: ⟨some gA, 22, AL, capA * 1⟩ :: OL))
          case first =>
            rcases hway with ⟨rfl, rfl, rfl, hv0⟩ | ⟨j', b, off, rfl, rfl, hL⟩
            · have hz0 : ¬ (z ≥ 0) := by have := HZ (); omega
              rw [← hv0] at hM
              clear hv0 hkd
              go_wp2_with fail
              go_meet
              exact ⟨_, rfl, hM⟩
            · obtain rfl : z = (j' : Int) := by have := HZ (); omega
              have hz0 : (j' : Int) ≥ 0 := by omega
              have hjn : j' < n := by omega
              have hL0 := (hL _ hM.done).1
              clear hL hkd HZ HPJ HPJ1 hlt
              go_wp2_with (first
                | ((with_reducible refine gL_load (dst := some 60) ?_); refine ⟨_, _, rfl, hL0, ?_⟩)
                | go_skip | ((first | (with_reducible refine gL_load ?_) | ((with_reducible refine gG_load ?_ ?_); (exact wanted_of rfl rfl rfl rfl rfl))); refine ⟨_, _, rfl, (by (first | (assumption) | (exact hM.loads_B8 (by (repeat (first | exact .head _ | apply List.Mem.tail)); done) (on_of rfl) (by first | omega | (simp only [Len] at *; omega) | (simp; omega))) | (exact hM.loads_all (by (repeat (first | exact .head _ | apply List.Mem.tail)); done) (ag_of rfl) (by first | assumption | exact Len.map (by assumption) _ | rfl | exact Len.map (by rfl) _ | exact Len.of (by simp; done))) | (exact hM.loads_one (by (repeat (first | exact .head _ | apply List.Mem.tail)); done) (on_of rfl) rfl) | (exact hM.loads_W32 (by (repeat (first | exact .head _ | apply List.Mem.tail)); done) (on_of rfl) (by first | omega | (simp only [Len] at *; omega) | (simp; omega))) | (exact loads_cell (by assumption) (on_of rfl)))), ?_⟩) | ((with_reducible refine gL_store hM ?_); refine ⟨_, _, _, rfl, rfl, (by (first | (exact hM.stores_B8 (by first | exact (rfl : B8 _ = B8 _) | exact lit8 _ (by decide)) (by (repeat (first | exact .here _ _ _ | apply Has.there)); done) (on_of rfl) (by first | omega | (simp only [Len] at *; omega) | (simp; omega))) | (exact hM.stores_all (by (repeat (first | exact .here _ _ _ | apply Has.there)); done) (ag_of rfl) (by first | assumption | exact Len.map (by assumption) _ | rfl | exact Len.map (by rfl) _ | exact Len.of (by simp; done)) (by first | assumption | exact Len.map (by assumption) _ | rfl | exact Len.map (by rfl) _ | exact Len.of (by simp; done)) (by first | exact B8_one | exact W32_one | exact one_of_all rfl)) | (exact hM.stores_W32 rfl (by (repeat (first | exact .here _ _ _ | apply Has.there)); done) (on_of rfl) (by first | omega | (simp only [Len] at *; omega) | (simp; omega))) | (exact hM.stores_one (by (repeat (first | exact .here _ _ _ | apply Has.there)); done) (on_of rfl) (by first | omega | (simp only [Len] at *; omega) | (simp; omega)) rfl rfl))), ?_⟩; intro _ hM2; clear hM; have hM := hM2; clear hM2) | ((with_reducible refine gL_alloc hM ?_); refine ⟨_, _, (zr_of rfl), ?_⟩; intro _ _ hM2; clear hM; have hM := hM2; clear hM2) | ((with_reducible refine gL_box hM ?_); refine ⟨_, _, _, rfl, rfl, (by first | assumption | exact Len.map (by assumption) _ | rfl | exact Len.map (by rfl) _ | exact Len.of (by simp; done)), ?_⟩; intro _ _ hM2; clear hM; have hM := hM2; clear hM2) | ((with_reducible refine gL_build0 ?_); refine ⟨_, _, _, _, _, _, (zr_of rfl), (ua_of rfl), (ag_of rfl), (el_of rfl), ?_⟩) | ((with_reducible refine gL_buildBytes hM ?_); refine ⟨_, _, (us_of rfl), (el_of rfl), (by decide), (by decide), rfl, (by (repeat (first | exact EvB.nil | apply EvB.cons rfl (by first | exact (rfl : B8 _ = B8 _) | exact lit8 _ (by decide)))); done), ?_⟩; intro _ _ hM2; clear hM; have hM := hM2; clear hM2) | ((with_reducible refine gL_append_B hM ?_); refine ⟨_, _, _, _, _, _, _, _, _, _, rfl, rfl, (by first | exact (rfl : Value.slice (some ⟨_, 0, none⟩) _ _ = sl (some _) _ _) | exact (rfl : Value.slice none _ _ = sl none _ _) | rfl), (us_of rfl), (el_of rfl), (by first | exact hM.src (by (repeat (first | exact .head _ | apply List.Mem.tail)); done) | exact (hM.bytes0 (by assumption)).src), (fun _ _ => by (repeat (first | exact .here _ _ _ | apply Swap.there)); done), (by first | assumption | exact Len.map (by assumption) _ | rfl | exact Len.map (by rfl) _ | exact Len.of (by simp; done)), (by first | assumption | exact Len.map (by assumption) _ | rfl | exact Len.map (by rfl) _ | exact Len.of (by simp; done)), (by first | assumption | (simp [maxLen]; done) | omega | (simp [maxLen]; omega)), (by first | omega | (simp only [Len] at *; omega) | (simp; omega)), ?_⟩; intro _ _ _ hM2 _ _; clear hM; have hM := hM2; clear hM2) | ((first | (with_reducible refine gL_field ?_) | ((with_reducible refine gG_field ?_ ?_); (exact wanted_of rfl rfl rfl rfl rfl))); refine ⟨_, _, rfl, (by (first | (exact field_one (fb_of rfl) rfl) | (exact field_agg (fa_of rfl) rfl))), ?_⟩))
              go_meet
              exact ⟨_, rfl, hM⟩
          case rest =>
          clear hM hway
          obtain ⟨gO, rfl, hM⟩ := hcut
          have hBl : Len B nb := Len.of (HNB ()).symm
          have hBsl : ∀ w', Adds w0 w' → Src w' (.slice aB nb cB) nb (B.map B8) := fun w' hw => by
            have h := (hB w' hw).src
            rwa [← HNB ()] at h
          replace hM : Mem [] w0 _ (⟨none, 5, ([] : List UInt8).map B8, 0⟩ :: ⟨some gO, 43, [.int .i64 kd, .int .i64 onk, .slice aB nb cB], 3⟩ :: ⟨some gP, 45, PL, capP * 1⟩ :: ⟨some gK, 22, KL, capK * 1⟩ :: ⟨some gA, 22, AL, capA * 1⟩ :: OL) := hM.addNil 5
          go_upto_block 4 with (first
            | ((with_reducible refine gL_append_B (dst := some 63) hM ?_); refine ⟨_, _, none, 0, 0, 5, [], B, nb, _, rfl, rfl, rfl, (us_of rfl), (el_of rfl), hBsl _ hM.done, (fun _ _ => .here _ _ _), rfl, hBl, (by decide), (by omega), ?_⟩; intro ob1 cap1 _ hM2 h11 h12; rw [Nat.zero_add] at h11 ⊢; rw [List.nil_append] at hM2; clear hM; have hM := hM2; clear hM2)
            | ((with_reducible refine gL_buildBytes (dst := some 64) hM ?_); refine ⟨_, _, (us_of rfl), (el_of rfl), (by decide), (by decide), rfl, (by (repeat (first | exact EvB.nil | apply EvB.cons rfl (by first | exact (rfl : B8 _ = B8 _) | exact lit8 _ (by decide)))); done), ?_⟩; intro g64 _ hM2; clear hM; have hM := hM2; clear hM2)
            | ((with_reducible refine gL_append_B (dst := some 65) hM ?_); have hx := hM.src (m := 1) (cap := 1) (.head _); refine ⟨_, _, ob1, nb, cap1, 5, B, [119], 1, _, rfl, rfl, rfl, (us_of rfl), (el_of rfl), hx, (fun _ _ => .there _ (.here _ _ _)), hBl, rfl, h12, (by omega), ?_⟩; clear hx; intro ob2 cap2 wA hM2 h21 h22; obtain ⟨gW, rfl⟩ := hM2.some_of (.tail _ (.head _)) (n := nb + 1) (Len.of (by simp [hBl.eq])) (by omega); clear hM; have hM := hM2; clear hM2; have hcapi : (nb : Int) ≤ (cap2 : Int) := by omega)
            | ((with_reducible refine gL_load (dst := some 62) ?_); refine ⟨_, _, rfl, hM.loads_one (.tail _ (.head _)) (on_of rfl) rfl, ?_⟩)
            | ((with_reducible refine gL_load (dst := some 68) ?_); refine ⟨_, _, rfl, hM.loads_one (.tail _ (.tail _ (.head _))) (on_of rfl) rfl, ?_⟩)
            | ((with_reducible refine gL_load (dst := some 72) ?_); refine ⟨_, _, rfl, hM.loads_one (.tail _ (.tail _ (.head _))) (on_of rfl) rfl, ?_⟩))
          replace hM := hM.drop
          have hBt : (B ++ [119]).take nb = B := List.take_left' hBl.eq
          have hBt1 : (B ++ [119]).length = nb + 1 := by simp [hBl.eq]
          go_simp
          go_cut [7, 8, 9, 14, 15, 16] from 47 to 175 (fun kv pv av _ _ _ wx => ∃ (gP gK gA capP capK capA : Nat) (ms : List Md) (ps : List PR), pv = .slice (some ⟨gP, 0, none⟩) ms.length capP ∧ kv = .slice (some ⟨gK, 0, none⟩) ms.length capK ∧ av = .slice (some ⟨gA, 0, none⟩) ms.length capA ∧ capP ≤ maxLen ∧ capK ≤ maxLen ∧ capA ≤ maxLen ∧ MGood w0 l' (j + 1) ms ps ∧
            Mem [] w0 wx ([⟨some gW, 5, (B ++ [119]).map B8, cap2⟩, ⟨some gO, 43, [.int .i64 kd, .int .i64 onk, .slice aB nb cB], 3⟩, ⟨some gP, 45, ms.map Md.p, capP * 1⟩, ⟨some gK, 22, ms.map Md.kv, capK * 1⟩, ⟨some gA, 22, ms.map Md.v, capA * 1⟩] ++ mcO ms ps))
          case first =>
            rcases hkd with rfl | ⟨hjp, rfl⟩ | ⟨hjp, hn1, hn2⟩
            · --[
              have hin := hM.part' (off := 0) (n := nb) (cap := cap2) (.head _) (by omega) (by omega) h22
              rw [List.drop_zero, hBt] at hin
              have hnew := mac_New _ _ B hin (by rw [← HNB ()]; omega)
              obtain ⟨OB, hOB⟩ : ∃ O, O = Mac.over (Mac.block B) 0x5C := ⟨_, rfl⟩
              obtain ⟨IB, hIB⟩ : ∃ O, O = Mac.over (Mac.block B) 0x36 := ⟨_, rfl⟩
              rw [← hOB, ← hIB] at hnew
              have HOB : ∀ _ : Unit, OB = Mac.over (Mac.block B) 0x5C := fun _ => hOB
              have HIB : ∀ _ : Unit, IB = Mac.over (Mac.block B) 0x36 := fun _ => hIB
              clear hOB hIB hin
              go_wp2_with fail
              refine hnew.mono ?_
              clear hnew
              rintro _ w4 ⟨gm, gd, CD, rfl, hM3, hD⟩
              replace hM := hM.addMem hM3
              clear hM3
              simp only [List.cons_append, List.nil_append] at hM
              go_wp2_with (first
                | ((with_reducible refine gL_buildSlice1 (dst := some 107) hM ?_); refine ⟨_, [.pointer (some ⟨gm, 0, none⟩)], _, _, _, (us_of rfl), (el_of rfl), (by decide), rfl, rfl, rfl, ?_⟩; intro g107 _ hM2; clear hM; have hM := hM2; clear hM2)
                | ((with_reducible refine gL_push (dst := some 108) hM ?_); refine ⟨_, _, some gP, m, capP, _, _, PL, .pointer (some ⟨gm, 0, none⟩), _, rfl, rfl, rfl, (us_of rfl), (el_of rfl), hM.src (.head _), (fun _ _ => .there _ (.there _ (.there _ (.there _ (.there _ (.here _ _ _)))))), hPll, rfl, hcP, (by simp only [maxLen]; omega), (by omega), ?_⟩; intro oP' cP' _ hM2 _ hP2; obtain ⟨gP', rfl⟩ := hM2.some_of (.tail _ (.tail _ (.tail _ (.tail _ (.tail _ (.head _)))))) (n := m + 1) (Len.of (by rw [List.length_append, hPll.eq]; rfl)) (by omega); clear hM; have hM := hM2; clear hM2)
                | ((with_reducible refine gL_load (dst := some 111) ?_); refine ⟨_, _, rfl, hM.loads_one (.tail _ (.tail _ (.tail _ (.tail _ (.head _))))) (on_of rfl) rfl, ?_⟩)
                | ((with_reducible refine gL_buildSlice1 (dst := some 112) hM ?_); refine ⟨_, [.slice aB nb cB], _, _, _, (us_of rfl), (el_of rfl), (by decide), rfl, rfl, rfl, ?_⟩; intro g112 _ hM2; clear hM; have hM := hM2; clear hM2)
                | ((with_reducible refine gL_push (dst := some 113) hM ?_); refine ⟨_, _, some gK, m, capK, _, _, KL, .slice aB nb cB, _, rfl, rfl, rfl, (us_of rfl), (el_of rfl), hM.src (.head _), (fun _ _ => .there _ (.there _ (.there _ (.there _ (.there _ (.there _ (.there _ (.here _ _ _)))))))), hKll, rfl, hcK, (by simp only [maxLen]; omega), (by omega), ?_⟩; intro oK' cK' _ hM2 _ hK2; obtain ⟨gK', rfl⟩ := hM2.some_of (.tail _ (.tail _ (.tail _ (.tail _ (.tail _ (.tail _ (.tail _ (.head _)))))))) (n := m + 1) (Len.of (by rw [List.length_append, hKll.eq]; rfl)) (by omega); clear hM; have hM := hM2; clear hM2)
                | ((with_reducible refine gL_buildSlice1 (dst := some 115) hM ?_); refine ⟨_, [.slice none 0 0], _, _, _, (us_of rfl), (el_of rfl), (by decide), rfl, rfl, rfl, ?_⟩; intro g115 _ hM2; clear hM; have hM := hM2; clear hM2)
                | ((with_reducible refine gL_push (dst := some 116) hM ?_); refine ⟨_, _, some gA, m, capA, _, _, AL, .slice none 0 0, _, rfl, rfl, rfl, (us_of rfl), (el_of rfl), hM.src (.head _), (fun _ _ => .there _ (.there _ (.there _ (.there _ (.there _ (.there _ (.there _ (.there _ (.there _ (.here _ _ _)))))))))), hAll, rfl, hcA, (by simp only [maxLen]; omega), (by omega), ?_⟩; intro oA' cA' _ hM2 _ hA2; obtain ⟨gA', rfl⟩ := hM2.some_of (.tail _ (.tail _ (.tail _ (.tail _ (.tail _ (.tail _ (.tail _ (.tail _ (.tail _ (.head _)))))))))) (n := m + 1) (Len.of (by rw [List.length_append, hAll.eq]; rfl)) (by omega); clear hM; have hM := hM2; clear hM2))
              go_meet
              replace hM := hM.drop.drop.drop
              rw [HPL (), HKL (), HAL (), HOL (), HOB ()] at hM
              rw [HIB ()] at hD
              have e1 : m + 1 = (ms ++ [(⟨gm, .slice aB nb cB, B, ⟨gd, CD, PR.nil⟩⟩ : Md)]).length := by rw [List.length_append, ← Hm ()]; rfl
              refine ⟨gP', gK', gA', cP', cK', cA', ms ++ [⟨gm, .slice aB nb cB, B, ⟨gd, CD, PR.nil⟩⟩], ps, by rw [← e1], by rw [← e1], by rw [← e1], hP2, hK2, hA2, hG.new (by rw [← HPJ (), ← HPJ1 ()]; omega) hD hB (by rw [← HNB ()]; exact hbl) rfl, ?_⟩
              rw [List.map_append (f := Md.p), List.map_append (f := Md.kv), List.map_append (f := Md.v)]
              exact Mem.mc_new (m := ⟨gm, .slice aB nb cB, B, ⟨gd, CD, PR.nil⟩⟩) (R := [_, _, _, _, _]) hM
              --]
            · --[
              have hmp : 0 < m := hm0 hjp
              obtain ⟨r, hr⟩ : ∃ r : Int, onk.tmod (m : Int) = r := ⟨_, rfl⟩
              obtain ⟨k, hkm, hway⟩ : ∃ k : Nat, k < m ∧ ((r < 0 ∧ r + (m : Int) = (k : Int)) ∨ (¬ r < 0 ∧ r = (k : Int))) := by
                refine ⟨wrapI onk m, wrapI_lt _ (by omega), ?_⟩
                rw [← hr]
                by_cases h : onk.tmod (m : Int) < 0
                · exact .inl ⟨h, wrapI_neg (by omega) h⟩
                · exact .inr ⟨h, wrapI_pos h⟩
              have hkmi : (k : Int) < (m : Int) := by omega
              obtain ⟨d, hd⟩ : ∃ d, ms[k]? = some d := ⟨_, List.getElem?_eq_getElem (by rw [← Hm ()]; exact hkm)⟩
              have hPk : PL[k]? = some (.pointer (some ⟨d.gm, 0, none⟩)) := by rw [HPL ()]; simp [hd, Md.p]
              have hKk : KL[k]? = some d.kv := by rw [HKL ()]; simp [hd]
              have hAk : AL[k]? = some (sl d.d.r.ob d.d.r.m.length d.d.r.cap) := by rw [HAL ()]; simp [hd, Md.v, PR.v]
              have hdm := List.mem_of_getElem? hd
              obtain ⟨I, hI⟩ : ∃ I, I = Mac.over (Mac.block d.key) 0x36 := ⟨_, rfl⟩
              obtain ⟨O, hO⟩ : ∃ O, O = Mac.over (Mac.block d.key) 0x5C := ⟨_, rfl⟩
              have hIl : I.length = 64 := by rw [hI, Mac.over_len]; exact Mac.block_len _
              have hOl : O.length = 64 := by rw [hO, Mac.over_len]; exact Mac.block_len _
              have hOd : (⟨some d.d.g, 118, d.d.C, 137⟩ : Blk) ∈ OL := by rw [HOL ()]; exact mcO_dig hdm
              have hOm : (⟨some d.gm, 49, macC d.d.g O, 65⟩ : Blk) ∈ OL := by rw [HOL (), hO]; exact mcO_mac hdm
              have hdig := hG.dig d hdm
              rw [← hI] at hdig
              have hdr := hG.mem d hdm
              have hOr : PR.blk 5 d.d.r ∈ OL := by rw [HOL ()]; exact mcO_row hdr
              have hdc := hG.cap d hdm
              have hds := hG.short d hdm
              have hdk := hG.keyb d hdm
              have hdkl := hG.keyl d hdm
              have HI : ∀ _ : Unit, I = Mac.over (Mac.block d.key) 0x36 := fun _ => hI
              have HO : ∀ _ : Unit, O = Mac.over (Mac.block d.key) 0x5C := fun _ => hO
              clear hI hO
              rw [← HPJ ()] at hds
              go_upto_if 125 with (first
                | ((with_reducible refine gL_load (dst := some 120) ?_); refine ⟨_, _, rfl, hM.loads_one (.tail _ (.head _)) (on_of rfl) rfl, ?_⟩))
              go_cut [15] from 47 to 175 (fun k15 wx => k15 = .int .i64 (k : Int) ∧ wA = wx)
              case first =>
                rcases hway with ⟨h1, h2⟩ | ⟨h1, rfl⟩
                all_goals
                  go_wp2_with fail
                  go_meet
                  exact ⟨rfl, rfl⟩
              case rest =>
              obtain ⟨rfl, hwc⟩ := hcut
              subst hwc
              clear hway hr
              go_wp2_with (first
                | ((with_reducible refine gL_load (dst := some 133) ?_); refine ⟨_, _, rfl, hM.loads_one (.tail _ (.tail _ (.head _))) (on_of rfl) hPk, ?_⟩)
                | ((with_reducible refine gL_load (dst := some 136) ?_); refine ⟨_, _, rfl, hM.loads_one (.tail _ (.tail _ (.tail _ (.tail _ (.tail _ hOm))))) (on_of rfl) rfl, ?_⟩))
              have hne : gW ≠ d.d.g := hM.head_ne (.tail _ (.tail _ (.tail _ (.tail _ hOd)))) rfl
              have hin := hM.part' (off := 0) (n := nb) (cap := cap2) (.head _) (by omega) (by omega) h22
              rw [List.drop_zero, hBt] at hin
              have hdl : (I ++ d.d.r.m).length + B.length ≤ 4611686018427387904 := by rw [List.length_append, hIl, hBl.eq]; omega
              have hRo := hM.rowN (.tail _ (.tail _ (.tail _ (.tail _ (.tail _ hOd))))) hdig.len
              have hwr := sha_Write _ d.d.g d.d.C (I ++ d.d.r.m) hRo hdig _ B hin (fun _ a n cap he => by cases he; exact hne) hdl
              refine hwr.mono ?_
              clear hwr hRo hdl
              rintro _ w5 ⟨rfl, C', hT, hR', hD'⟩
              have hHas : Has OL (Md.dig d) (Md.dig ⟨d.gm, d.kv, d.key, ⟨d.d.g, C', d.d.r⟩⟩) ((ms.set k ⟨d.gm, d.kv, d.key, ⟨d.d.g, C', d.d.r⟩⟩).map Md.dig ++ (ps.map (PR.blk 5) ++ ms.map Md.mac)) := by rw [HOL ()]; exact Has.map_at Md.dig hd _
              obtain ⟨O2, hO2⟩ : ∃ O, O = (ms.set k ⟨d.gm, d.kv, d.key, ⟨d.d.g, C', d.d.r⟩⟩).map Md.dig ++ (ps.map (PR.blk 5) ++ ms.map Md.mac) := ⟨_, rfl⟩
              rw [← hO2] at hHas
              have HO2 : ∀ _ : Unit, O2 = (ms.set k ⟨d.gm, d.kv, d.key, ⟨d.d.g, C', d.d.r⟩⟩).map Md.dig ++ (ps.map (PR.blk 5) ++ ms.map Md.mac) := fun _ => hO2
              have hOr2 : PR.blk 5 d.d.r ∈ O2 := by rw [hO2]; exact List.mem_append_right _ (List.mem_append_left _ (List.mem_map.2 ⟨_, hdr, rfl⟩))
              clear hO2
              replace hM := hM.calls (.there _ (.there _ (.there _ (.there _ (.there _ hHas))))) hT hR' hD'.len
              rw [List.append_assoc] at hD'
              rw [HI ()] at hD'
              clear hin hT hR' hne hHas hOr hOd hOm hdig HI HO hIl hOl hdk hdkl
              have hBd : ∀ w', Adds w5 w' → Bytes w' (sl d.d.r.ob d.d.r.m.length d.d.r.cap) d.d.r.m := fun w' hb => PR.bytes (t := 5) (hM.adds hb) (.tail _ (.tail _ (.tail _ (.tail _ (.tail _ hOr2))))) hdc
              obtain ⟨mm, hmm⟩ : ∃ mm, mm = d.d.r.m.length := ⟨_, rfl⟩
              have hBdS : ∀ w', Adds w5 w' → Src w' (sl d.d.r.ob mm d.d.r.cap) mm (d.d.r.m.map B8) := fun w' hb => by rw [hmm]; exact (hBd w' hb).src
              rw [← hmm] at hAk hds
              have HMM : ∀ _ : Unit, mm = d.d.r.m.length := fun _ => hmm
              clear hBd hmm
              have HD := Lib.hid hD'
              clear hD'
              go_wp2_with fail
              try simp only [Act.put, List.setIfInBounds_toArray, List.set_cons_succ, List.set_cons_zero]
              refine wp_region_writer 9 (by decide) [0, 1] (fun c vals => ⟨#[c 0, c 1, c 2, c 3, c 4, c 5, c 6, c 7, c 8, (Value.slice (some ⟨gA, 0, none⟩) m capA : Value), c 10, (Value.pointer (some ⟨gO, 0, none⟩) : Value), c 12, c 13, c 14, (Value.int .i64 (k : Int) : Value), c 16, c 17, c 18, c 19, c 20, c 21, c 22, c 23, c 24, c 25, c 26, c 27, c 28, c 29, c 30, c 31, c 32, c 33, c 34, c 35, c 36, c 37, c 38, c 39, c 40, c 41, c 42, c 43, c 44, c 45, c 46, c 47, c 48, c 49, c 50, c 51, c 52, c 53, c 54, c 55, c 56, c 57, c 58, c 59, c 60, c 61, c 62, c 63, c 64, c 65, c 66, c 67, c 68, c 69, c 70, c 71, c 72, c 73, c 74, c 75, c 76, c 77, c 78, c 79, c 80, c 81, c 82, c 83, c 84, c 85, c 86, c 87, c 88, c 89, c 90, c 91, c 92, c 93, c 94, c 95, c 96, c 97, c 98, c 99, c 100, c 101, c 102, c 103, c 104, c 105, c 106, c 107, c 108, c 109, c 110, c 111, c 112, c 113, c 114, c 115, c 116, c 117, c 118, c 119, c 120, c 121, c 122, c 123, c 124, c 125, c 126, c 127, c 128, c 129, c 130, c 131, c 132, c 133, c 134, c 135, c 136, c 137, c 138, vals 0, vals 1, vals 2, vals 3, vals 4, vals 5, vals 6, vals 7, vals 8, vals 9, c 149, c 150, c 151, c 152, c 153, c 154, c 155, c 156, c 157, c 158, c 159, c 160, c 161, c 162, c 163, c 164, c 165, c 166, c 167, c 168, c 169, c 170, c 171, c 172, c 173, c 174, c 175, c 176, c 177, c 178, c 179, c 180, c 181, c 182, c 183, c 184, c 185, c 186, c 187, c 188, c 189, c 190, c 191, c 192, c 193, c 194, c 195, c 196, c 197, c 198, c 199, c 200, c 201, c 202, c 203, c 204, c 205, c 206, c 207, c 208, c 209, c 210, c 211, c 212, c 213, c 214], []⟩) (fun t => [_, _, _, _, _, _, _, _, _, undef, _, undef, _, _, _, undef, _, _, _, _, _, _, _, _, _, _, _, _, _, _, _, _, _, _, _, _, _, _, _, _, _, _, _, _, _, _, _, _, _, _, _, _, _, _, _, _, _, _, _, _, _, _, _, _, _, _, _, _, _, _, _, _, _, _, _, _, _, _, _, _, _, _, _, _, _, _, _, _, _, _, _, _, _, _, _, _, _, _, _, _, _, _, _, _, _, _, _, _, _, _, _, _, _, _, _, _, _, _, _, _, _, _, _, _, _, _, _, _, _, _, _, _, _, _, _, _, _, _, _, undef, undef, undef, undef, undef, undef, undef, undef, undef, undef, _, _, _, _, _, _, _, _, _, _, _, _, _, _, _, _, _, _, _, _, _, _, _, _, _, _, _, _, _, _, _, _, _, _, _, _, _, _, _, _, _, _, _, _, _, _, _, _, _, _, _, _, _, _, _, _, _, _, _, _, _, _, _, _, _, _].getD t undef) (fun i => [_, _, _, _, _, _, _, _, _, _].getD i undef) (by kernel_rfl)
                [[], [], [], [], [2, 3], [2, 3, 4], [2, 3, 4, 5], [], [7], [2, 3, 4, 5, 6, 7, 8], [0, 1, 2, 3, 4, 5, 6, 7, 8, 9], [0, 1, 2, 3, 4, 5, 6, 7, 8, 9, 10]] (by kernel_rfl) (by kernel_rfl) (fun _ => True) trivial
                [fun x _ => x = (Value.slice (some ⟨gA, 0, none⟩) m capA : Value),
                 fun x _ => x = (Value.int .i64 (k : Int) : Value),
                 fun x _ => x = (Value.slice (some ⟨gA, 0, none⟩) m capA : Value),
                 fun x _ => x = (Value.int .i64 (k : Int) : Value),
                 fun x _ => x = (Value.pointer (some ⟨gA, 0 + k * 1, none⟩) : Value),
                 fun x _ => x = (sl d.d.r.ob mm d.d.r.cap : Value),
                 fun (xx : Value) (ww : World) => ∃ o6 c6, xx = sl o6 mm c6 ∧ c6 ≤ maxLen ∧ Mem [] w5 ww [⟨o6, 5, d.d.r.m.map B8, c6 * 1⟩],
                 fun x _ => x = (Value.pointer (some ⟨gO, 2, none⟩) : Value),
                 fun x _ => x = (Value.slice aB nb cB : Value)]
                ⟨fun _ _ _ h _ => h, fun _ _ _ h _ => h, fun _ _ _ h _ => h, fun _ _ _ h _ => h, fun _ _ _ h _ => h, fun _ _ _ h _ => h, fun _ _ _ h hb => (let ⟨o6, c6, h1, h2, h3⟩ := h; ⟨o6, c6, h1, h2, h3.adds hb⟩), fun _ _ _ h _ => h, fun _ _ _ h _ => h, trivial⟩
                [fun x => x = (Value.slice (some ⟨gA, 0, none⟩) m capA : Value), fun x => x = (Value.int .i64 (k : Int) : Value), fun x => x = (Value.slice (some ⟨gA, 0, none⟩) m capA : Value), fun x => x = (Value.int .i64 (k : Int) : Value), fun x => x = (Value.pointer (some ⟨gA, 0 + k * 1, none⟩) : Value), fun x => x = (sl d.d.r.ob mm d.d.r.cap : Value), fun _ => True, fun x => x = (Value.pointer (some ⟨gO, 2, none⟩) : Value), fun x => x = (Value.slice aB nb cB : Value)]
                (fun i => match i with | 0 => fun _ _ _ h => h | 1 => fun _ _ _ h => h | 2 => fun _ _ _ h => h | 3 => fun _ _ _ h => h | 4 => fun _ _ _ h => h | 5 => fun _ _ _ h => h | 6 => fun _ _ _ h => trivial | 7 => fun _ _ _ h => h | 8 => fun _ _ _ h => h | (_ + 9) => fun _ _ h _ => absurd h (by omega))
                (fun v w' => ∃ ob' cap', v = sl ob' (mm + nb) cap' ∧ cap' ≤ maxLen ∧ Mem [] w0 w' (⟨ob', 5, d.d.r.m.map B8 ++ B.map B8, cap' * 1⟩ :: ⟨some gW, 5, (B ++ [119]).map B8, cap2⟩ :: ⟨some gO, 43, [.int .i64 2, .int .i64 onk, .slice aB nb cB], 3⟩ :: ⟨some gP, 45, PL, capP * 1⟩ :: ⟨some gK, 22, KL, capK * 1⟩ :: ⟨some gA, 22, AL, capA * 1⟩ :: O2))
                ⟨?_, ?_, ?_, ?_, ?_, ?_, ?_, ?_, ?_, trivial⟩ ?_ ?_ ?_
              · refine showA_op 0 (by intro _ _ _; kernel_rfl) rfl rfl (fun c vals w hC hD => ?_)
                clear hD
                refine makes1 (x := .tmp 9) (X := Value.slice (some ⟨gA, 0, none⟩) m capA) (by kernel_rfl : _ = (Value.slice (some ⟨gA, 0, none⟩) m capA : Value)) (fun ρ rc rf q9 => ?_)
                exact makes_move (.inl rfl) q9 ⟨Adds.refl _, rfl⟩
              · refine showA_op 1 (by intro _ _ _; kernel_rfl) rfl rfl (fun c vals w hC hD => ?_)
                clear hD
                refine makes1 (x := .tmp 15) (X := Value.int .i64 (k : Int)) (by kernel_rfl : _ = (Value.int .i64 (k : Int) : Value)) (fun ρ rc rf q15 => ?_)
                exact makes_move (.inl rfl) q15 ⟨Adds.refl _, rfl⟩
              · refine showA_op 2 (by intro _ _ _; kernel_rfl) rfl rfl (fun c vals w hC hD => ?_)
                clear hD
                refine makes1 (x := .tmp 9) (X := Value.slice (some ⟨gA, 0, none⟩) m capA) (by kernel_rfl : _ = (Value.slice (some ⟨gA, 0, none⟩) m capA : Value)) (fun ρ rc rf q9 => ?_)
                exact makes_move (.inl rfl) q9 ⟨Adds.refl _, rfl⟩
              · refine showA_op 3 (by intro _ _ _; kernel_rfl) rfl rfl (fun c vals w hC hD => ?_)
                clear hD
                refine makes1 (x := .tmp 15) (X := Value.int .i64 (k : Int)) (by kernel_rfl : _ = (Value.int .i64 (k : Int) : Value)) (fun ρ rc rf q15 => ?_)
                exact makes_move (.inl rfl) q15 ⟨Adds.refl _, rfl⟩
              · refine showA_op 4 (by intro _ _ _; kernel_rfl) rfl rfl (fun c vals w hC hD => ?_)
                have h2 : vals 2 = .slice (some ⟨gA, 0, none⟩) m capA := hD 2 rfl
                have h3 : vals 3 = .int .i64 (k : Int) := hD 3 rfl
                clear hD
                refine makes2 (x := .tmp 141) (X := Value.slice (some ⟨gA, 0, none⟩) m capA) (y := .tmp 142) (Y := Value.int .i64 (k : Int)) ((by kernel_rfl : _ = vals 2).trans h2) ((by kernel_rfl : _ = vals 3).trans h3) (fun ρ rc rf q141 q142 => ?_)
                clear h2 h3
                exact makes_index (us_of rfl) (el_of rfl) hkm rfl q141 q142 ⟨Adds.refl _, rfl⟩
              · refine showA_op 5 (by intro _ _ _; kernel_rfl) rfl rfl (fun c vals w hC hD => ?_)
                have h4 : vals 4 = .pointer (some ⟨gA, 0 + k * 1, none⟩) := hD 4 rfl
                clear hD
                refine makes1 (x := .tmp 143) (X := Value.pointer (some ⟨gA, 0 + k * 1, none⟩)) ((by kernel_rfl : _ = vals 4).trans h4) (fun ρ rc rf q143 => ?_)
                clear h4
                exact makes_load ((hM.adds hC).loads_one (.tail _ (.tail _ (.tail _ (.tail _ (.head _))))) (on_of rfl) (by rw [Nat.zero_add, Nat.mul_one]; exact hAk)) rfl q143 ⟨Adds.refl _, rfl⟩
              · refine showA_op 6 (by intro _ _ _; kernel_rfl) rfl rfl (fun c vals w hC hD => ?_)
                have h5 : vals 5 = sl d.d.r.ob mm d.d.r.cap := hD 5 rfl
                clear hD
                refine makes1 (x := .tmp 144) (X := sl d.d.r.ob mm d.d.r.cap) ((by kernel_rfl : _ = vals 5).trans h5) (fun ρ rc rf q144 => ?_)
                clear h5
                exact makes_append_nil rfl (rc _) (us_of rfl) (el_of rfl) q144 (hBdS _ hC) (by rw [List.length_map, Nat.mul_one]; exact (HMM ()).symm) B8_one (by simp only [maxLen]; omega) (by omega) (fun o6 c6 w' h1 h2 h3 => ⟨h1.done, o6, c6, rfl, h3, ((Mem.start _).adds hC).join h1 (by simp)⟩)
              · refine showA_op 7 (by intro _ _ _; kernel_rfl) rfl rfl (fun c vals w hC hD => ?_)
                clear hD
                refine makes1 (x := .tmp 11) (X := Value.pointer (some ⟨gO, 0, none⟩)) (by kernel_rfl : _ = (Value.pointer (some ⟨gO, 0, none⟩) : Value)) (fun ρ rc rf q11 => ?_)
                refine makes_value (v := Value.pointer (some ⟨gO, 2, none⟩)) ?_ ⟨Adds.refl _, rfl⟩
                go_simp
                all_goals first | done | rfl | (rw [if_pos (by omega)]; refine congrArg (fun x => Result.ok (Next.value (Value.pointer (some ⟨_, x, none⟩))) _) ?_; omega) | (rw [wrapP_i64]; omega) | go_num | (simp; done) | (simp; omega) | (congr 1; first | rfl | (rw [wrapP_i64]; omega) | (congr 1; first | rfl | (simp; done) | (simp; omega) | (congr 2; omega) | go_num))
              · refine showA_op 8 (by intro _ _ _; kernel_rfl) rfl rfl (fun c vals w hC hD => ?_)
                have h7 : vals 7 = .pointer (some ⟨gO, 2, none⟩) := hD 7 rfl
                clear hD
                refine makes1 (x := .tmp 146) (X := Value.pointer (some ⟨gO, 2, none⟩)) ((by kernel_rfl : _ = vals 7).trans h7) (fun ρ rc rf q146 => ?_)
                clear h7
                exact makes_load ((hM.adds hC).loads_one (.tail _ (.head _)) (on_of rfl) rfl) rfl q146 ⟨Adds.refl _, rfl⟩
              · intro i o hi hF ho vals w' K hK
                obtain rfl | rfl : i = 0 ∨ i = 1 := by simpa using hF
                all_goals (cases ho; exact free_move rfl rfl rfl hK (by intro _; kernel_rfl) rfl)
              · intro o ho vals w' hC hD K hK
                cases ho
                have h2 : vals 2 = Value.slice (some ⟨gA, 0, none⟩) m capA := hD 2 (by decide) rfl
                have h3 : vals 3 = Value.int .i64 (k : Int) := hD 3 (by decide) rfl
                have h4 : vals 4 = Value.pointer (some ⟨gA, 0 + k * 1, none⟩) := hD 4 (by decide) rfl
                have h5 : vals 5 = sl d.d.r.ob mm d.d.r.cap := hD 5 (by decide) rfl
                have h6 : (fun (xx : Value) (ww : World) => ∃ o6 c6, xx = sl o6 mm c6 ∧ c6 ≤ maxLen ∧ Mem [] w5 ww [⟨o6, 5, d.d.r.m.map B8, c6 * 1⟩]) (vals 6) w' := hD 6 (by decide) rfl
                have h7 : vals 7 = Value.pointer (some ⟨gO, 2, none⟩) := hD 7 (by decide) rfl
                have h8 : vals 8 = Value.slice aB nb cB := hD 8 (by decide) rfl
                clear hD
                refine writer_of rfl hK (by intro _; kernel_rfl) (fun K2 hK2 => ?_)
                clear hK
                (obtain ⟨o6, c6, e6, hc6, m6⟩ := h6; have m7 := hM.addMem m6; simp only [List.cons_append, List.nil_append] at m7; exact m7.wp_append rfl ((by kernel_rfl : _ = vals 6).trans e6) (us_of rfl) (el_of rfl) (fun _ _ => .here _ _ _) rfl (by rw [List.length_map, Nat.mul_one]; exact (HMM ()).symm) hc6 ((by kernel_rfl : _ = vals 8).trans h8) (hBsl _ (hM.adds hC).done) (by rw [List.length_map, Nat.mul_one]; exact hBl.eq) B8_one (by simp only [maxLen]; omega) (by omega) (fun ob' cap' w2 hM2 g1 g2 => hK2 _ _ ⟨ob', cap', rfl, g2, hM2⟩))
              intro vals w' hS hΦ
              have h0 : vals 0 = .slice (some ⟨gA, 0, none⟩) m capA := hΦ 0 (by decide)
              have h1 : vals 1 = .int .i64 (k : Int) := hΦ 1 (by decide)
              have h8 : vals 8 = .slice aB nb cB := hΦ 8 (by decide)
              clear hΦ
              simp only [List.drop_succ_cons, List.drop_zero]
              simp only [h0, h1, h8]
              clear h0 h1 h8
              simp only [List.getD_eq_getElem?_getD, List.getElem?_cons_zero, List.getElem?_cons_succ, Option.getD_some]
              obtain ⟨ob', cap', e7, h8, hM2⟩ := hS
              clear hM
              have hM := hM2
              clear hM2
              rw [e7]
              clear e7
              go_wp2_with (first
                | ((with_reducible refine gL_store hM ?_); refine ⟨_, _, _, rfl, rfl, hM.stores_one (.there _ (.there _ (.there _ (.there _ (.there _ (.here _ _ _)))))) (on_of rfl) (by have := hAll.eq; omega) rfl rfl, ?_⟩; intro _ hM2; clear hM; have hM := hM2; clear hM2))
              go_meet
              have hrv : sl ob' (mm + nb) cap' = (PR.mk ob' (d.d.r.m ++ B) cap').v := by simp [PR.v, hBl.eq, HMM ()]
              rw [hrv, HPL (), HKL (), HAL (), HO2 (), Nat.mul_one cap', ← List.map_append] at hM
              have e1 : m = (ms.set k ⟨d.gm, d.kv, d.key, ⟨d.d.g, C', ⟨ob', d.d.r.m ++ B, cap'⟩⟩⟩).length := by rw [List.length_set, ← Hm ()]
              refine ⟨gP, gK, gA, capP, capK, capA, ms.set k ⟨d.gm, d.kv, d.key, ⟨d.d.g, C', ⟨ob', d.d.r.m ++ B, cap'⟩⟩⟩, ps ++ [⟨ob', d.d.r.m ++ B, cap'⟩], by rw [← e1], by rw [← e1], by rw [← e1], hcP, hcK, hcA, hG.wrote (by rw [← HPJ (), ← HPJ1 (), hBl.eq]; exact hpj) hd rfl HD.out h8, ?_⟩
              rw [set_same (y := ⟨d.gm, d.kv, d.key, ⟨d.d.g, C', ⟨ob', d.d.r.m ++ B, cap'⟩⟩⟩) Md.p hd rfl, set_same (y := ⟨d.gm, d.kv, d.key, ⟨d.d.g, C', ⟨ob', d.d.r.m ++ B, cap'⟩⟩⟩) Md.kv hd rfl, set_map Md.v]
              exact Mem.mc_wrote (r := ⟨ob', d.d.r.m ++ B, cap'⟩) (R := [_, _, _, _, _]) hd hM
              --]
            · --[
              have hmp : 0 < m := hm0 hjp
              obtain ⟨r, hr⟩ : ∃ r : Int, onk.tmod (m : Int) = r := ⟨_, rfl⟩
              obtain ⟨k, hkm, hway⟩ : ∃ k : Nat, k < m ∧ ((r < 0 ∧ r + (m : Int) = (k : Int)) ∨ (¬ r < 0 ∧ r = (k : Int))) := by
                refine ⟨wrapI onk m, wrapI_lt _ (by omega), ?_⟩
                rw [← hr]
                by_cases h : onk.tmod (m : Int) < 0
                · exact .inl ⟨h, wrapI_neg (by omega) h⟩
                · exact .inr ⟨h, wrapI_pos h⟩
              have hkmi : (k : Int) < (m : Int) := by omega
              obtain ⟨d, hd⟩ : ∃ d, ms[k]? = some d := ⟨_, List.getElem?_eq_getElem (by rw [← Hm ()]; exact hkm)⟩
              have hPk : PL[k]? = some (.pointer (some ⟨d.gm, 0, none⟩)) := by rw [HPL ()]; simp [hd, Md.p]
              have hKk : KL[k]? = some d.kv := by rw [HKL ()]; simp [hd]
              have hAk : AL[k]? = some (sl d.d.r.ob d.d.r.m.length d.d.r.cap) := by rw [HAL ()]; simp [hd, Md.v, PR.v]
              have hdm := List.mem_of_getElem? hd
              obtain ⟨I, hI⟩ : ∃ I, I = Mac.over (Mac.block d.key) 0x36 := ⟨_, rfl⟩
              obtain ⟨O, hO⟩ : ∃ O, O = Mac.over (Mac.block d.key) 0x5C := ⟨_, rfl⟩
              have hIl : I.length = 64 := by rw [hI, Mac.over_len]; exact Mac.block_len _
              have hOl : O.length = 64 := by rw [hO, Mac.over_len]; exact Mac.block_len _
              have hOd : (⟨some d.d.g, 118, d.d.C, 137⟩ : Blk) ∈ OL := by rw [HOL ()]; exact mcO_dig hdm
              have hOm : (⟨some d.gm, 49, macC d.d.g O, 65⟩ : Blk) ∈ OL := by rw [HOL (), hO]; exact mcO_mac hdm
              have hdig := hG.dig d hdm
              rw [← hI] at hdig
              have hdr := hG.mem d hdm
              have hOr : PR.blk 5 d.d.r ∈ OL := by rw [HOL ()]; exact mcO_row hdr
              have hdc := hG.cap d hdm
              have hds := hG.short d hdm
              have hdk := hG.keyb d hdm
              have hdkl := hG.keyl d hdm
              have HI : ∀ _ : Unit, I = Mac.over (Mac.block d.key) 0x36 := fun _ => hI
              have HO : ∀ _ : Unit, O = Mac.over (Mac.block d.key) 0x5C := fun _ => hO
              clear hI hO
              rw [← HPJ ()] at hds
              go_upto_if 79 with (first
                | ((with_reducible refine gL_load (dst := some 74) ?_); refine ⟨_, _, rfl, hM.loads_one (.tail _ (.head _)) (on_of rfl) rfl, ?_⟩))
              go_cut [16] from 47 to 175 (fun k15 wx => k15 = .int .i64 (k : Int) ∧ wA = wx)
              case first =>
                rcases hway with ⟨h1, h2⟩ | ⟨h1, rfl⟩
                all_goals
                  go_wp2_with fail
                  go_meet
                  exact ⟨rfl, rfl⟩
              case rest =>
              obtain ⟨rfl, hwc⟩ := hcut
              subst hwc
              clear hway hr
              have hBd : ∀ w', Adds wA w' → Bytes w' (sl d.d.r.ob d.d.r.m.length d.d.r.cap) d.d.r.m := fun w' hb => PR.bytes (t := 5) (hM.adds hb) (.tail _ (.tail _ (.tail _ (.tail _ (.tail _ hOr))))) hdc
              obtain ⟨T, hT⟩ : ∃ T, Mac.tag d.key d.d.r.m = T := ⟨_, rfl⟩
              have hTl : Len T 32 := by rw [← hT]; exact Len.of (Mac.tag_len _ _)
              have hT2 : Sha.of (O ++ Sha.of (I ++ d.d.r.m)) = T := by rw [HO (), HI ()]; exact hT
              have hsum : ∀ w', Adds wA w' → Calls Try.prog 29 #[.pointer (some ⟨d.gm, 0, none⟩)] w' fun e w'' => e = .returned (.agg (T.map B8).toArray) ∧ Below w'.heap.size w' w'' := fun w' hb => hT2 ▸ mac_Sum w' d.gm d.d.g O d.d.C (I ++ d.d.r.m) ((hM.adds hb).rowN (.tail _ (.tail _ (.tail _ (.tail _ (.tail _ hOm))))) (macC_len hOl)) hOl ((hM.adds hb).rowN (.tail _ (.tail _ (.tail _ (.tail _ (.tail _ hOd))))) hdig.len) hdig (by rw [List.length_append, hIl]; omega)
              have href : ∀ w', Adds wA w' → Calls Try.prog 30 #[d.kv, sl d.d.r.ob d.d.r.m.length d.d.r.cap] w' fun e w'' => e = .returned (.agg (T.map B8).toArray) ∧ Below w'.heap.size w' w'' := fun w' hb => ref03_Of w' _ _ d.key d.d.r.m (hdk w' ((hM.adds hb).done)) (hBd w' hb) (by omega) (by omega) T hT
              clear hT hBd hT2 HI HO
              go_wp2_with fail
              try simp only [Act.put, List.setIfInBounds_toArray, List.set_cons_succ, List.set_cons_zero]
              refine wp_region_tail 15 (by decide) (fun c vals => ⟨#[c 0, c 1, c 2, c 3, c 4, c 5, c 6, (Value.slice (some ⟨gK, 0, none⟩) m capK : Value), (Value.slice (some ⟨gP, 0, none⟩) m capP : Value), (Value.slice (some ⟨gA, 0, none⟩) m capA : Value), c 10, c 11, c 12, c 13, c 14, c 15, (Value.int .i64 (k : Int) : Value), c 17, c 18, c 19, c 20, c 21, c 22, c 23, c 24, c 25, c 26, c 27, c 28, c 29, c 30, c 31, c 32, c 33, c 34, c 35, c 36, c 37, c 38, c 39, c 40, c 41, c 42, c 43, c 44, c 45, c 46, c 47, c 48, c 49, c 50, c 51, c 52, c 53, c 54, c 55, c 56, c 57, c 58, c 59, c 60, c 61, c 62, c 63, c 64, c 65, c 66, c 67, c 68, c 69, c 70, c 71, c 72, c 73, c 74, c 75, c 76, c 77, c 78, c 79, c 80, c 81, c 82, c 83, vals 0, vals 1, vals 2, vals 3, vals 4, vals 5, vals 6, vals 7, vals 8, vals 9, vals 10, vals 11, vals 12, vals 13, vals 14, c 99, c 100, c 101, c 102, c 103, c 104, c 105, c 106, c 107, c 108, c 109, c 110, c 111, c 112, c 113, c 114, c 115, c 116, c 117, c 118, c 119, c 120, c 121, c 122, c 123, c 124, c 125, c 126, c 127, c 128, c 129, c 130, c 131, c 132, c 133, c 134, c 135, c 136, c 137, c 138, c 139, c 140, c 141, c 142, c 143, c 144, c 145, c 146, c 147, c 148, c 149, c 150, c 151, c 152, c 153, c 154, c 155, c 156, c 157, c 158, c 159, c 160, c 161, c 162, c 163, c 164, c 165, c 166, c 167, c 168, c 169, c 170, c 171, c 172, c 173, c 174, c 175, c 176, c 177, c 178, c 179, c 180, c 181, c 182, c 183, c 184, c 185, c 186, c 187, c 188, c 189, c 190, c 191, c 192, c 193, c 194, c 195, c 196, c 197, c 198, c 199, c 200, c 201, c 202, c 203, c 204, c 205, c 206, c 207, c 208, c 209, c 210, c 211, c 212, c 213, c 214], []⟩) (fun t => [_, _, _, _, _, _, _, undef, undef, undef, _, _, _, _, _, _, undef, _, _, _, _, _, _, _, _, _, _, _, _, _, _, _, _, _, _, _, _, _, _, _, _, _, _, _, _, _, _, _, _, _, _, _, _, _, _, _, _, _, _, _, _, _, _, _, _, _, _, _, _, _, _, _, _, _, _, _, _, _, _, _, _, _, _, _, undef, undef, undef, undef, undef, undef, undef, undef, undef, undef, undef, undef, undef, undef, undef, _, _, _, _, _, _, _, _, _, _, _, _, _, _, _, _, _, _, _, _, _, _, _, _, _, _, _, _, _, _, _, _, _, _, _, _, _, _, _, _, _, _, _, _, _, _, _, _, _, _, _, _, _, _, _, _, _, _, _, _, _, _, _, _, _, _, _, _, _, _, _, _, _, _, _, _, _, _, _, _, _, _, _, _, _, _, _, _, _, _, _, _, _, _, _, _, _, _, _, _, _, _, _, _, _, _, _, _, _, _, _, _, _, _, _, _].getD t undef) (fun i => [_, _, _, _, _, _, _, _, _, _, _, _, _, _, _].getD i undef) (by kernel_rfl)
                [[], [], [0, 1], [0, 1, 2], [0, 1, 2, 3], [], [], [5, 6], [5, 6, 7], [], [], [9, 10], [9, 10, 11], [0, 1, 2, 3, 4, 5, 6, 7, 8, 9, 10, 11, 12], [0, 1, 2, 3, 4, 5, 6, 7, 8, 9, 10, 11, 12, 13]] (by kernel_rfl) (by kernel_rfl) (fun _ => True) trivial
                [fun x _ => x = (Value.slice (some ⟨gP, 0, none⟩) m capP : Value),
                 fun x _ => x = (Value.int .i64 (k : Int) : Value),
                 fun x _ => x = (Value.pointer (some ⟨gP, 0 + k * 1, none⟩) : Value),
                 fun x _ => x = (Value.pointer (some ⟨d.gm, 0, none⟩) : Value),
                 fun x _ => x = (Value.agg (T.map B8).toArray : Value),
                 fun x _ => x = (Value.slice (some ⟨gK, 0, none⟩) m capK : Value),
                 fun x _ => x = (Value.int .i64 (k : Int) : Value),
                 fun x _ => x = (Value.pointer (some ⟨gK, 0 + k * 1, none⟩) : Value),
                 fun x _ => x = (d.kv : Value),
                 fun x _ => x = (Value.slice (some ⟨gA, 0, none⟩) m capA : Value),
                 fun x _ => x = (Value.int .i64 (k : Int) : Value),
                 fun x _ => x = (Value.pointer (some ⟨gA, 0 + k * 1, none⟩) : Value),
                 fun x _ => x = (sl d.d.r.ob d.d.r.m.length d.d.r.cap : Value),
                 fun x _ => x = (Value.agg (T.map B8).toArray : Value),
                 fun x _ => x = (Value.bool false : Value)]
                ⟨fun _ _ _ h _ => h, fun _ _ _ h _ => h, fun _ _ _ h _ => h, fun _ _ _ h _ => h, fun _ _ _ h _ => h, fun _ _ _ h _ => h, fun _ _ _ h _ => h, fun _ _ _ h _ => h, fun _ _ _ h _ => h, fun _ _ _ h _ => h, fun _ _ _ h _ => h, fun _ _ _ h _ => h, fun _ _ _ h _ => h, fun _ _ _ h _ => h, fun _ _ _ h _ => h, trivial⟩ []
                ⟨?_, ?_, ?_, ?_, ?_, ?_, ?_, ?_, ?_, ?_, ?_, ?_, ?_, ?_, ?_, trivial⟩ ?_
              · refine showA_op 0 (by intro _ _ _; kernel_rfl) rfl rfl (fun c vals w hC hD => ?_)
                clear hD
                refine makes1 (x := .tmp 8) (X := Value.slice (some ⟨gP, 0, none⟩) m capP) (by kernel_rfl : _ = (Value.slice (some ⟨gP, 0, none⟩) m capP : Value)) (fun ρ rc rf q8 => ?_)
                exact makes_move (.inl rfl) q8 ⟨Adds.refl _, rfl⟩
              · refine showA_op 1 (by intro _ _ _; kernel_rfl) rfl rfl (fun c vals w hC hD => ?_)
                clear hD
                refine makes1 (x := .tmp 16) (X := Value.int .i64 (k : Int)) (by kernel_rfl : _ = (Value.int .i64 (k : Int) : Value)) (fun ρ rc rf q16 => ?_)
                exact makes_move (.inl rfl) q16 ⟨Adds.refl _, rfl⟩
              · refine showA_op 2 (by intro _ _ _; kernel_rfl) rfl rfl (fun c vals w hC hD => ?_)
                have h0 : vals 0 = .slice (some ⟨gP, 0, none⟩) m capP := hD 0 rfl
                have h1 : vals 1 = .int .i64 (k : Int) := hD 1 rfl
                clear hD
                refine makes2 (x := .tmp 84) (X := Value.slice (some ⟨gP, 0, none⟩) m capP) (y := .tmp 85) (Y := Value.int .i64 (k : Int)) ((by kernel_rfl : _ = vals 0).trans h0) ((by kernel_rfl : _ = vals 1).trans h1) (fun ρ rc rf q84 q85 => ?_)
                clear h0 h1
                exact makes_index (us_of rfl) (el_of rfl) hkm rfl q84 q85 ⟨Adds.refl _, rfl⟩
              · refine showA_op 3 (by intro _ _ _; kernel_rfl) rfl rfl (fun c vals w hC hD => ?_)
                have h2 : vals 2 = .pointer (some ⟨gP, 0 + k * 1, none⟩) := hD 2 rfl
                clear hD
                refine makes1 (x := .tmp 86) (X := Value.pointer (some ⟨gP, 0 + k * 1, none⟩)) ((by kernel_rfl : _ = vals 2).trans h2) (fun ρ rc rf q86 => ?_)
                clear h2
                exact makes_load ((hM.adds hC).loads_one (.tail _ (.tail _ (.head _))) (on_of rfl) (by rw [Nat.zero_add, Nat.mul_one]; exact hPk)) rfl q86 ⟨Adds.refl _, rfl⟩
              · refine showA_op 4 (by intro _ _ _; kernel_rfl) rfl rfl (fun c vals w hC hD => ?_)
                have h3 : vals 3 = .pointer (some ⟨d.gm, 0, none⟩) := hD 3 rfl
                clear hD
                refine makes1 (x := .tmp 87) (X := Value.pointer (some ⟨d.gm, 0, none⟩)) ((by kernel_rfl : _ = vals 3).trans h3) (fun ρ rc rf q87 => ?_)
                clear h3
                refine makes_call (hsum _ hC) ?_ (by rintro e w' ⟨rfl, hb⟩; exact ⟨_, rfl, hb, rfl⟩)
                go_simp
              · refine showA_op 5 (by intro _ _ _; kernel_rfl) rfl rfl (fun c vals w hC hD => ?_)
                clear hD
                refine makes1 (x := .tmp 7) (X := Value.slice (some ⟨gK, 0, none⟩) m capK) (by kernel_rfl : _ = (Value.slice (some ⟨gK, 0, none⟩) m capK : Value)) (fun ρ rc rf q7 => ?_)
                exact makes_move (.inl rfl) q7 ⟨Adds.refl _, rfl⟩
              · refine showA_op 6 (by intro _ _ _; kernel_rfl) rfl rfl (fun c vals w hC hD => ?_)
                clear hD
                refine makes1 (x := .tmp 16) (X := Value.int .i64 (k : Int)) (by kernel_rfl : _ = (Value.int .i64 (k : Int) : Value)) (fun ρ rc rf q16 => ?_)
                exact makes_move (.inl rfl) q16 ⟨Adds.refl _, rfl⟩
              · refine showA_op 7 (by intro _ _ _; kernel_rfl) rfl rfl (fun c vals w hC hD => ?_)
                have h5 : vals 5 = .slice (some ⟨gK, 0, none⟩) m capK := hD 5 rfl
                have h6 : vals 6 = .int .i64 (k : Int) := hD 6 rfl
                clear hD
                refine makes2 (x := .tmp 89) (X := Value.slice (some ⟨gK, 0, none⟩) m capK) (y := .tmp 90) (Y := Value.int .i64 (k : Int)) ((by kernel_rfl : _ = vals 5).trans h5) ((by kernel_rfl : _ = vals 6).trans h6) (fun ρ rc rf q89 q90 => ?_)
                clear h5 h6
                exact makes_index (us_of rfl) (el_of rfl) hkm rfl q89 q90 ⟨Adds.refl _, rfl⟩
              · refine showA_op 8 (by intro _ _ _; kernel_rfl) rfl rfl (fun c vals w hC hD => ?_)
                have h7 : vals 7 = .pointer (some ⟨gK, 0 + k * 1, none⟩) := hD 7 rfl
                clear hD
                refine makes1 (x := .tmp 91) (X := Value.pointer (some ⟨gK, 0 + k * 1, none⟩)) ((by kernel_rfl : _ = vals 7).trans h7) (fun ρ rc rf q91 => ?_)
                clear h7
                exact makes_load ((hM.adds hC).loads_one (.tail _ (.tail _ (.tail _ (.head _)))) (on_of rfl) (by rw [Nat.zero_add, Nat.mul_one]; exact hKk)) rfl q91 ⟨Adds.refl _, rfl⟩
              · refine showA_op 9 (by intro _ _ _; kernel_rfl) rfl rfl (fun c vals w hC hD => ?_)
                clear hD
                refine makes1 (x := .tmp 9) (X := Value.slice (some ⟨gA, 0, none⟩) m capA) (by kernel_rfl : _ = (Value.slice (some ⟨gA, 0, none⟩) m capA : Value)) (fun ρ rc rf q9 => ?_)
                exact makes_move (.inl rfl) q9 ⟨Adds.refl _, rfl⟩
              · refine showA_op 10 (by intro _ _ _; kernel_rfl) rfl rfl (fun c vals w hC hD => ?_)
                clear hD
                refine makes1 (x := .tmp 16) (X := Value.int .i64 (k : Int)) (by kernel_rfl : _ = (Value.int .i64 (k : Int) : Value)) (fun ρ rc rf q16 => ?_)
                exact makes_move (.inl rfl) q16 ⟨Adds.refl _, rfl⟩
              · refine showA_op 11 (by intro _ _ _; kernel_rfl) rfl rfl (fun c vals w hC hD => ?_)
                have h9 : vals 9 = .slice (some ⟨gA, 0, none⟩) m capA := hD 9 rfl
                have h10 : vals 10 = .int .i64 (k : Int) := hD 10 rfl
                clear hD
                refine makes2 (x := .tmp 93) (X := Value.slice (some ⟨gA, 0, none⟩) m capA) (y := .tmp 94) (Y := Value.int .i64 (k : Int)) ((by kernel_rfl : _ = vals 9).trans h9) ((by kernel_rfl : _ = vals 10).trans h10) (fun ρ rc rf q93 q94 => ?_)
                clear h9 h10
                exact makes_index (us_of rfl) (el_of rfl) hkm rfl q93 q94 ⟨Adds.refl _, rfl⟩
              · refine showA_op 12 (by intro _ _ _; kernel_rfl) rfl rfl (fun c vals w hC hD => ?_)
                have h11 : vals 11 = .pointer (some ⟨gA, 0 + k * 1, none⟩) := hD 11 rfl
                clear hD
                refine makes1 (x := .tmp 95) (X := Value.pointer (some ⟨gA, 0 + k * 1, none⟩)) ((by kernel_rfl : _ = vals 11).trans h11) (fun ρ rc rf q95 => ?_)
                clear h11
                exact makes_load ((hM.adds hC).loads_one (.tail _ (.tail _ (.tail _ (.tail _ (.head _))))) (on_of rfl) (by rw [Nat.zero_add, Nat.mul_one]; exact hAk)) rfl q95 ⟨Adds.refl _, rfl⟩
              · refine showA_op 13 (by intro _ _ _; kernel_rfl) rfl rfl (fun c vals w hC hD => ?_)
                have h8 : vals 8 = d.kv := hD 8 rfl
                have h12 : vals 12 = sl d.d.r.ob d.d.r.m.length d.d.r.cap := hD 12 rfl
                clear hD
                refine makes2 (x := .tmp 92) (X := d.kv) (y := .tmp 96) (Y := sl d.d.r.ob d.d.r.m.length d.d.r.cap) ((by kernel_rfl : _ = vals 8).trans h8) ((by kernel_rfl : _ = vals 12).trans h12) (fun ρ rc rf q92 q96 => ?_)
                clear h8 h12
                refine makes_call (href _ hC) ?_ (by rintro e w' ⟨rfl, hb⟩; exact ⟨_, rfl, hb, rfl⟩)
                go_simp
              · refine showA_op 14 (by intro _ _ _; kernel_rfl) rfl rfl (fun c vals w hC hD => ?_)
                have h4 : vals 4 = .agg (T.map B8).toArray := hD 4 rfl
                have h13 : vals 13 = .agg (T.map B8).toArray := hD 13 rfl
                clear hD
                refine makes2 (x := .tmp 88) (X := Value.agg (T.map B8).toArray) (y := .tmp 97) (Y := Value.agg (T.map B8).toArray) ((by kernel_rfl : _ = vals 4).trans h4) ((by kernel_rfl : _ = vals 13).trans h13) (fun ρ rc rf q88 q97 => ?_)
                clear h4 h13
                exact makes_neq (hash_self _ hTl) rfl q88 q97 ⟨Adds.refl _, rfl⟩
              intro vals w' hC hΦ hne
              have h14 : vals 14 = .bool false := hΦ 14 (by decide)
              clear hΦ hne
              simp only [List.getD_eq_getElem?_getD, List.getElem?_cons_zero, List.getElem?_cons_succ, Option.getD_some, List.drop_succ_cons, List.drop_zero]
              simp only [h14]
              clear h14
              try simp only [tuple_undef]
              replace hM := hM.adds hC
              clear hC hsum href
              go_wp2_with fail
              go_meet
              rw [HPL (), HKL (), HAL (), HOL ()] at hM
              exact ⟨gP, gK, gA, capP, capK, capA, ms, ps, by rw [← Hm ()], by rw [← Hm ()], by rw [← Hm ()], hcP, hcK, hcA, hG.keep (by rw [← HPJ (), ← HPJ1 ()]; omega) hjp, hM⟩
              --]
          case rest =>
          clear hM hkd hm0 hm1 hPll hKll hAll Hm HPL HKL HAL HOL hcP hcK hcA hG
          obtain ⟨gP, gK, gA, capP, capK, capA, ms, ps, rfl, rfl, rfl, hcP, hcK, hcA, hG, hM⟩ := hcut
          obtain ⟨m, hm⟩ : ∃ m, m = ms.length := ⟨_, rfl⟩
          obtain ⟨PL, hPL⟩ : ∃ PL, PL = ms.map Md.p := ⟨_, rfl⟩
          obtain ⟨KL, hKL⟩ : ∃ KL, KL = ms.map Md.kv := ⟨_, rfl⟩
          obtain ⟨AL, hAL⟩ : ∃ AL, AL = ms.map Md.v := ⟨_, rfl⟩
          obtain ⟨OL, hOL⟩ : ∃ OL, OL = mcO ms ps := ⟨_, rfl⟩
          rw [← hPL, ← hKL, ← hAL, ← hOL] at hM
          rw [← hm]
          have Hm : ∀ _ : Unit, m = ms.length := fun _ => hm
          have HPL : ∀ _ : Unit, PL = ms.map Md.p := fun _ => hPL
          have HKL : ∀ _ : Unit, KL = ms.map Md.kv := fun _ => hKL
          have HAL : ∀ _ : Unit, AL = ms.map Md.v := fun _ => hAL
          have HOL : ∀ _ : Unit, OL = mcO ms ps := fun _ => hOL
          clear hm hPL hKL hAL hOL
          replace hM : Mem [] w0 wc (⟨some gW, 5, (B ++ [119]).map B8, cap2⟩ :: ⟨some gO, 43, [.int .i64 kd, .int .i64 onk, .slice aB nb cB], 3⟩ :: ⟨some gP, 45, PL, capP * 1⟩ :: ⟨some gK, 22, KL, capK * 1⟩ :: ⟨some gA, 22, AL, capA * 1⟩ :: OL) := hM
          have hin := hM.part' (off := 0) (n := nb) (cap := cap2) (.head _) (by omega) (by omega) h22
          rw [List.drop_zero, hBt] at hin
          have hs1 := str_of hin
          have hs2 := str_of (hB _ hM.done)
          have h119 : Loads Try.prog wc 5 ⟨gW, nb, none⟩ (B8 119) := hM.loads_one (.head _) (on_of rfl) (by rw [List.map_append, List.getElem?_append_right (by rw [List.length_map, hBl.eq]; exact Nat.le_refl _), List.length_map, hBl.eq, Nat.sub_self]; rfl)
          have hwi : (nb : Int) < ((nb : Int) + 1) := by omega
          have hzl : -1 ≤ z := by have := HZ (); omega
          clear hin
          go_wp2_with (first
            | ((with_reducible refine gL_load (dst := some 153) ?_); refine ⟨_, _, rfl, hM.loads_one (.tail _ (.head _)) (on_of rfl) rfl, ?_⟩)
            | ((with_reducible refine gG_load (dst := some 161) ?_ ?_); (exact wanted_of rfl rfl rfl rfl rfl); refine ⟨_, _, rfl, h119, ?_⟩))
          clear hs1 hs2 h119 hwi
          go_loopw [17] (fun i wr => ∃ (q : Nat) (X : List UInt8), q ≤ nb ∧ i = .int .i64 q ∧ Len X (nb + 1) ∧ Mem [] w0 wr (⟨some gW, 5, X.map B8, cap2⟩ :: ⟨some gO, 43, [.int .i64 kd, .int .i64 onk, .slice aB nb cB], 3⟩ :: ⟨some gP, 45, PL, capP * 1⟩ :: ⟨some gK, 22, KL, capK * 1⟩ :: ⟨some gA, 22, AL, capA * 1⟩ :: OL)) (fun i _ => nb - (intOf i).toNat)
          case atStart => exact ⟨0, B ++ [119], by omega, rfl, hBt1, hM⟩
          case round =>
            clear hM
            obtain ⟨q, X, hq, rfl, hXl, hM⟩ := hrel
            by_cases hqn : q < nb
            · have hqi : (q : Int) < (nb : Int) := by omega
              go_wp2_with (first
                | ((with_reducible refine gL_load (dst := some 173) ?_); refine ⟨_, _, rfl, hM.loads_B8 (.head _) (on_of rfl) (by have := hXl.eq; omega), ?_⟩)
                | ((with_reducible refine gL_store hM ?_); refine ⟨_, _, _, rfl, rfl, hM.stores_B8 (by first | exact (rfl : B8 _ = B8 _) | exact lit8 _ (by decide)) (.here _ _ _) (on_of rfl) (by have := hXl.eq; omega), ?_⟩; intro _ hM2; clear hM; have hM := hM2; clear hM2))
              go_roundw
              case rel => exact ⟨q + 1, _, by omega, by go_num, hXl.set _ _, hM⟩
              case measure => simp [intOf]; omega
            · have hqe : nb = q := by omega
              subst hqe
              have hqi : ¬ (nb : Int) < (nb : Int) := by omega
              go_wp2_with fail
              replace hM := hM.drop.drop
              rw [HPL (), HKL (), HAL (), HOL ()] at hM
              go_roundw
              case rel => exact ⟨j + 1, gP, gK, gA, capP, capK, capA, ms, ps, by omega, congrArg (Value.int .i64) (by have := HZ (); omega), by rw [← Hm ()], by rw [← Hm ()], by rw [← Hm ()], hcP, hcK, hcA, hG, hM⟩
              case measure => simp [intOf]; omega
        · have hje : j = n + 1 := by omega
          subst hje
          obtain rfl : (n : Int) = z := by omega
          have hti : ¬ (n : Int) < (n : Int) := by omega
          have hpg : pre l' (n + 1) ≤ 2147483648 := HG ()
          clear hst hpl hpm hz HZ
          go_wp2_with fail
          go_loopw [18] (fun i wr => ∃ (q : Nat), q ≤ m ∧ i = .int .i64 q ∧ Mem [] w0 wr (⟨some gP, 45, PL, capP * 1⟩ :: ⟨some gK, 22, KL, capK * 1⟩ :: ⟨some gA, 22, AL, capA * 1⟩ :: OL)) (fun i _ => m - (intOf i).toNat)
          case atStart => exact ⟨0, by omega, rfl, hM⟩
          case round =>
            clear hM
            obtain ⟨q, hq, rfl, hM⟩ := hrel
            by_cases hqm : q < m
            · have hqi : (q : Int) < (m : Int) := by omega
              obtain ⟨d, hd⟩ : ∃ d, ms[q]? = some d := ⟨_, List.getElem?_eq_getElem (by rw [← Hm ()]; exact hqm)⟩
              have hPk : PL[q]? = some (.pointer (some ⟨d.gm, 0, none⟩)) := by rw [HPL ()]; simp [hd, Md.p]
              have hKk : KL[q]? = some d.kv := by rw [HKL ()]; simp [hd]
              have hAk : AL[q]? = some (sl d.d.r.ob d.d.r.m.length d.d.r.cap) := by rw [HAL ()]; simp [hd, Md.v, PR.v]
              have hdm := List.mem_of_getElem? hd
              obtain ⟨I, hI⟩ : ∃ I, I = Mac.over (Mac.block d.key) 0x36 := ⟨_, rfl⟩
              obtain ⟨O, hO⟩ : ∃ O, O = Mac.over (Mac.block d.key) 0x5C := ⟨_, rfl⟩
              have hIl : I.length = 64 := by rw [hI, Mac.over_len]; exact Mac.block_len _
              have hOl : O.length = 64 := by rw [hO, Mac.over_len]; exact Mac.block_len _
              have hOd : (⟨some d.d.g, 118, d.d.C, 137⟩ : Blk) ∈ OL := by rw [HOL ()]; exact mcO_dig hdm
              have hOm : (⟨some d.gm, 49, macC d.d.g O, 65⟩ : Blk) ∈ OL := by rw [HOL (), hO]; exact mcO_mac hdm
              have hdig := hG.dig d hdm
              rw [← hI] at hdig
              have hdr := hG.mem d hdm
              have hOr : PR.blk 5 d.d.r ∈ OL := by rw [HOL ()]; exact mcO_row hdr
              have hdc := hG.cap d hdm
              have hds := hG.short d hdm
              have hdk := hG.keyb d hdm
              have hdkl := hG.keyl d hdm
              have HI : ∀ _ : Unit, I = Mac.over (Mac.block d.key) 0x36 := fun _ => hI
              have HO : ∀ _ : Unit, O = Mac.over (Mac.block d.key) 0x5C := fun _ => hO
              clear hI hO
              obtain ⟨pn, hpn⟩ : ∃ p, p = pre l' (n + 1) := ⟨_, rfl⟩
              rw [← hpn] at hds hpg
              clear hpn hd hdm hdr HG
              go_wp2_with fail
              have hBd : ∀ w', Adds wr w' → Bytes w' (sl d.d.r.ob d.d.r.m.length d.d.r.cap) d.d.r.m := fun w' hb => PR.bytes (t := 5) (hM.adds hb) (.tail _ (.tail _ (.tail _ hOr))) hdc
              obtain ⟨T, hT⟩ : ∃ T, Mac.tag d.key d.d.r.m = T := ⟨_, rfl⟩
              have hTl : Len T 32 := by rw [← hT]; exact Len.of (Mac.tag_len _ _)
              have hT2 : Sha.of (O ++ Sha.of (I ++ d.d.r.m)) = T := by rw [HO (), HI ()]; exact hT
              have hsum : ∀ w', Adds wr w' → Calls Try.prog 29 #[.pointer (some ⟨d.gm, 0, none⟩)] w' fun e w'' => e = .returned (.agg (T.map B8).toArray) ∧ Below w'.heap.size w' w'' := fun w' hb => hT2 ▸ mac_Sum w' d.gm d.d.g O d.d.C (I ++ d.d.r.m) ((hM.adds hb).rowN (.tail _ (.tail _ (.tail _ hOm))) (macC_len hOl)) hOl ((hM.adds hb).rowN (.tail _ (.tail _ (.tail _ hOd))) hdig.len) hdig (by rw [List.length_append, hIl]; omega)
              have href : ∀ w', Adds wr w' → Calls Try.prog 30 #[d.kv, sl d.d.r.ob d.d.r.m.length d.d.r.cap] w' fun e w'' => e = .returned (.agg (T.map B8).toArray) ∧ Below w'.heap.size w' w'' := fun w' hb => ref03_Of w' _ _ d.key d.d.r.m (hdk w' ((hM.adds hb).done)) (hBd w' hb) (by omega) (by omega) T hT
              have hof : ∀ w', Adds wr w' → Calls Try.prog 31 #[d.kv, sl d.d.r.ob d.d.r.m.length d.d.r.cap] w' fun e w'' => e = .returned (.agg (T.map B8).toArray) ∧ Below w'.heap.size w' w'' := fun w' hb => mac_Of_as w' _ _ d.key d.d.r.m (hdk w' ((hM.adds hb).done)) (hBd w' hb) (by omega) (by omega) T hT
              clear hT hBd hT2 HI HO
              try simp only [Act.put, List.setIfInBounds_toArray, List.set_cons_succ, List.set_cons_zero]
              refine wp_region_tail 32 (by decide) (fun c vals => ⟨#[c 0, c 1, c 2, c 3, c 4, c 5, c 6, (Value.slice (some ⟨gK, 0, none⟩) m capK : Value), (Value.slice (some ⟨gP, 0, none⟩) m capP : Value), (Value.slice (some ⟨gA, 0, none⟩) m capA : Value), c 10, c 11, c 12, c 13, c 14, c 15, c 16, c 17, (Value.int .i64 (q : Int) : Value), c 19, c 20, c 21, c 22, c 23, c 24, c 25, c 26, c 27, c 28, c 29, c 30, c 31, c 32, c 33, c 34, c 35, c 36, c 37, c 38, c 39, c 40, c 41, c 42, c 43, c 44, c 45, c 46, c 47, c 48, c 49, c 50, c 51, c 52, c 53, c 54, c 55, c 56, c 57, c 58, c 59, c 60, c 61, c 62, c 63, c 64, c 65, c 66, c 67, c 68, c 69, c 70, c 71, c 72, c 73, c 74, c 75, c 76, c 77, c 78, c 79, c 80, c 81, c 82, c 83, c 84, c 85, c 86, c 87, c 88, c 89, c 90, c 91, c 92, c 93, c 94, c 95, c 96, c 97, c 98, c 99, c 100, c 101, c 102, c 103, c 104, c 105, c 106, c 107, c 108, c 109, c 110, c 111, c 112, c 113, c 114, c 115, c 116, c 117, c 118, c 119, c 120, c 121, c 122, c 123, c 124, c 125, c 126, c 127, c 128, c 129, c 130, c 131, c 132, c 133, c 134, c 135, c 136, c 137, c 138, c 139, c 140, c 141, c 142, c 143, c 144, c 145, c 146, c 147, c 148, c 149, c 150, c 151, c 152, c 153, c 154, c 155, c 156, c 157, c 158, c 159, c 160, c 161, c 162, c 163, c 164, c 165, c 166, c 167, c 168, c 169, c 170, c 171, c 172, c 173, c 174, c 175, c 176, c 177, c 178, c 179, c 180, c 181, vals 0, vals 1, vals 2, vals 3, vals 4, vals 5, vals 6, vals 7, vals 8, vals 9, vals 10, vals 11, vals 12, vals 13, vals 14, vals 15, vals 16, vals 17, vals 18, vals 19, vals 20, vals 21, vals 22, vals 23, vals 24, vals 25, vals 26, vals 27, vals 28, vals 29, vals 30, vals 31, c 214], []⟩) (fun t => [_, _, _, _, _, _, _, undef, undef, undef, _, _, _, _, _, _, _, _, undef, _, _, _, _, _, _, _, _, _, _, _, _, _, _, _, _, _, _, _, _, _, _, _, _, _, _, _, _, _, _, _, _, _, _, _, _, _, _, _, _, _, _, _, _, _, _, _, _, _, _, _, _, _, _, _, _, _, _, _, _, _, _, _, _, _, _, _, _, _, _, _, _, _, _, _, _, _, _, _, _, _, _, _, _, _, _, _, _, _, _, _, _, _, _, _, _, _, _, _, _, _, _, _, _, _, _, _, _, _, _, _, _, _, _, _, _, _, _, _, _, _, _, _, _, _, _, _, _, _, _, _, _, _, _, _, _, _, _, _, _, _, _, _, _, _, _, _, _, _, _, _, _, _, _, _, _, _, _, _, _, _, _, _, undef, undef, undef, undef, undef, undef, undef, undef, undef, undef, undef, undef, undef, undef, undef, undef, undef, undef, undef, undef, undef, undef, undef, undef, undef, undef, undef, undef, undef, undef, undef, undef, _].getD t undef) (fun i => [_, _, _, _, _, _, _, _, _, _, _, _, _, _, _, _, _, _, _, _, _, _, _, _, _, _, _, _, _, _, _, _].getD i undef) (by kernel_rfl)
                [[], [], [0, 1], [0, 1, 2], [0, 1, 2, 3], [], [], [5, 6], [5, 6, 7], [], [], [9, 10], [9, 10, 11], [0, 1, 2, 3, 4, 5, 6, 7, 8, 9, 10, 11, 12], [0, 1, 2, 3, 4, 5, 6, 7, 8, 9, 10, 11, 12, 13], [0, 1, 2, 3, 4, 5, 6, 7, 8, 9, 10, 11, 12, 13, 14], [0, 1, 2, 3, 4, 5, 6, 7, 8, 9, 10, 11, 12, 13, 14, 15], [0, 1, 2, 3, 4, 5, 6, 7, 8, 9, 10, 11, 12, 13, 14, 15], [0, 1, 2, 3, 4, 5, 6, 7, 8, 9, 10, 11, 12, 13, 14, 15, 16, 17], [0, 1, 2, 3, 4, 5, 6, 7, 8, 9, 10, 11, 12, 13, 14, 15, 16, 17, 18], [0, 1, 2, 3, 4, 5, 6, 7, 8, 9, 10, 11, 12, 13, 14, 15, 16, 17, 18, 19], [0, 1, 2, 3, 4, 5, 6, 7, 8, 9, 10, 11, 12, 13, 14, 15], [0, 1, 2, 3, 4, 5, 6, 7, 8, 9, 10, 11, 12, 13, 14, 15], [0, 1, 2, 3, 4, 5, 6, 7, 8, 9, 10, 11, 12, 13, 14, 15, 21, 22], [0, 1, 2, 3, 4, 5, 6, 7, 8, 9, 10, 11, 12, 13, 14, 15, 21, 22, 23], [0, 1, 2, 3, 4, 5, 6, 7, 8, 9, 10, 11, 12, 13, 14, 15], [0, 1, 2, 3, 4, 5, 6, 7, 8, 9, 10, 11, 12, 13, 14, 15], [0, 1, 2, 3, 4, 5, 6, 7, 8, 9, 10, 11, 12, 13, 14, 15, 25, 26], [0, 1, 2, 3, 4, 5, 6, 7, 8, 9, 10, 11, 12, 13, 14, 15, 25, 26, 27], [0, 1, 2, 3, 4, 5, 6, 7, 8, 9, 10, 11, 12, 13, 14, 15, 16, 17, 18, 19, 20, 21, 22, 23, 24, 25, 26, 27, 28], [0, 1, 2, 3, 4, 5, 6, 7, 8, 9, 10, 11, 12, 13, 14, 15, 16, 17, 18, 19, 20, 21, 22, 23, 24, 25, 26, 27, 28, 29], [0, 1, 2, 3, 4, 5, 6, 7, 8, 9, 10, 11, 12, 13, 14, 15, 16, 17, 18, 19, 20, 21, 22, 23, 24, 25, 26, 27, 28, 29, 30]] (by kernel_rfl) (by kernel_rfl) (fun _ => True) trivial
                [fun x _ => x = (Value.slice (some ⟨gP, 0, none⟩) m capP : Value),
                 fun x _ => x = (Value.int .i64 (q : Int) : Value),
                 fun x _ => x = (Value.pointer (some ⟨gP, 0 + q * 1, none⟩) : Value),
                 fun x _ => x = (Value.pointer (some ⟨d.gm, 0, none⟩) : Value),
                 fun x _ => x = (Value.agg (T.map B8).toArray : Value),
                 fun x _ => x = (Value.slice (some ⟨gK, 0, none⟩) m capK : Value),
                 fun x _ => x = (Value.int .i64 (q : Int) : Value),
                 fun x _ => x = (Value.pointer (some ⟨gK, 0 + q * 1, none⟩) : Value),
                 fun x _ => x = (d.kv : Value),
                 fun x _ => x = (Value.slice (some ⟨gA, 0, none⟩) m capA : Value),
                 fun x _ => x = (Value.int .i64 (q : Int) : Value),
                 fun x _ => x = (Value.pointer (some ⟨gA, 0 + q * 1, none⟩) : Value),
                 fun x _ => x = (sl d.d.r.ob d.d.r.m.length d.d.r.cap : Value),
                 fun x _ => x = (Value.agg (T.map B8).toArray : Value),
                 fun x _ => x = (Value.bool false : Value),
                 fun x _ => x = (Value.bool false : Value),
                 fun x _ => x = (Value.slice (some ⟨gP, 0, none⟩) m capP : Value),
                 fun x _ => x = (Value.int .i64 (q : Int) : Value),
                 fun x _ => x = (Value.pointer (some ⟨gP, 0 + q * 1, none⟩) : Value),
                 fun x _ => x = (Value.pointer (some ⟨d.gm, 0, none⟩) : Value),
                 fun x _ => x = (Value.agg (T.map B8).toArray : Value),
                 fun x _ => x = (Value.slice (some ⟨gK, 0, none⟩) m capK : Value),
                 fun x _ => x = (Value.int .i64 (q : Int) : Value),
                 fun x _ => x = (Value.pointer (some ⟨gK, 0 + q * 1, none⟩) : Value),
                 fun x _ => x = (d.kv : Value),
                 fun x _ => x = (Value.slice (some ⟨gA, 0, none⟩) m capA : Value),
                 fun x _ => x = (Value.int .i64 (q : Int) : Value),
                 fun x _ => x = (Value.pointer (some ⟨gA, 0 + q * 1, none⟩) : Value),
                 fun x _ => x = (sl d.d.r.ob d.d.r.m.length d.d.r.cap : Value),
                 fun x _ => x = (Value.agg (T.map B8).toArray : Value),
                 fun x _ => x = (Value.bool false : Value),
                 fun x _ => x = (Value.bool false : Value)]
                ⟨fun _ _ _ h _ => h, fun _ _ _ h _ => h, fun _ _ _ h _ => h, fun _ _ _ h _ => h, fun _ _ _ h _ => h, fun _ _ _ h _ => h, fun _ _ _ h _ => h, fun _ _ _ h _ => h, fun _ _ _ h _ => h, fun _ _ _ h _ => h, fun _ _ _ h _ => h, fun _ _ _ h _ => h, fun _ _ _ h _ => h, fun _ _ _ h _ => h, fun _ _ _ h _ => h, fun _ _ _ h _ => h, fun _ _ _ h _ => h, fun _ _ _ h _ => h, fun _ _ _ h _ => h, fun _ _ _ h _ => h, fun _ _ _ h _ => h, fun _ _ _ h _ => h, fun _ _ _ h _ => h, fun _ _ _ h _ => h, fun _ _ _ h _ => h, fun _ _ _ h _ => h, fun _ _ _ h _ => h, fun _ _ _ h _ => h, fun _ _ _ h _ => h, fun _ _ _ h _ => h, fun _ _ _ h _ => h, fun _ _ _ h _ => h, trivial⟩ []
                ⟨?_, ?_, ?_, ?_, ?_, ?_, ?_, ?_, ?_, ?_, ?_, ?_, ?_, ?_, ?_, ?_, ?_, ?_, ?_, ?_, ?_, ?_, ?_, ?_, ?_, ?_, ?_, ?_, ?_, ?_, ?_, ?_, trivial⟩ ?_
              · refine showA_op 0 (by intro _ _ _; kernel_rfl) rfl rfl (fun c vals w hC hD => ?_)
                clear hD
                refine makes1 (x := .tmp 8) (X := Value.slice (some ⟨gP, 0, none⟩) m capP) (by kernel_rfl : _ = (Value.slice (some ⟨gP, 0, none⟩) m capP : Value)) (fun ρ rc rf q8 => ?_)
                exact makes_move (.inl rfl) q8 ⟨Adds.refl _, rfl⟩
              · refine showA_op 1 (by intro _ _ _; kernel_rfl) rfl rfl (fun c vals w hC hD => ?_)
                clear hD
                refine makes1 (x := .tmp 18) (X := Value.int .i64 (q : Int)) (by kernel_rfl : _ = (Value.int .i64 (q : Int) : Value)) (fun ρ rc rf q18 => ?_)
                exact makes_move (.inl rfl) q18 ⟨Adds.refl _, rfl⟩
              · refine showA_op 2 (by intro _ _ _; kernel_rfl) rfl rfl (fun c vals w hC hD => ?_)
                have h0 : vals 0 = .slice (some ⟨gP, 0, none⟩) m capP := hD 0 rfl
                have h1 : vals 1 = .int .i64 (q : Int) := hD 1 rfl
                clear hD
                refine makes2 (x := .tmp 182) (X := Value.slice (some ⟨gP, 0, none⟩) m capP) (y := .tmp 183) (Y := Value.int .i64 (q : Int)) ((by kernel_rfl : _ = vals 0).trans h0) ((by kernel_rfl : _ = vals 1).trans h1) (fun ρ rc rf q182 q183 => ?_)
                clear h0 h1
                exact makes_index (us_of rfl) (el_of rfl) hqm rfl q182 q183 ⟨Adds.refl _, rfl⟩
              · refine showA_op 3 (by intro _ _ _; kernel_rfl) rfl rfl (fun c vals w hC hD => ?_)
                have h2 : vals 2 = .pointer (some ⟨gP, 0 + q * 1, none⟩) := hD 2 rfl
                clear hD
                refine makes1 (x := .tmp 184) (X := Value.pointer (some ⟨gP, 0 + q * 1, none⟩)) ((by kernel_rfl : _ = vals 2).trans h2) (fun ρ rc rf q184 => ?_)
                clear h2
                exact makes_load ((hM.adds hC).loads_one (.head _) (on_of rfl) (by rw [Nat.zero_add, Nat.mul_one]; exact hPk)) rfl q184 ⟨Adds.refl _, rfl⟩
              · refine showA_op 4 (by intro _ _ _; kernel_rfl) rfl rfl (fun c vals w hC hD => ?_)
                have h3 : vals 3 = .pointer (some ⟨d.gm, 0, none⟩) := hD 3 rfl
                clear hD
                refine makes1 (x := .tmp 185) (X := Value.pointer (some ⟨d.gm, 0, none⟩)) ((by kernel_rfl : _ = vals 3).trans h3) (fun ρ rc rf q185 => ?_)
                clear h3
                refine makes_call (hsum _ hC) ?_ (by rintro e w' ⟨rfl, hb⟩; exact ⟨_, rfl, hb, rfl⟩)
                go_simp
              · refine showA_op 5 (by intro _ _ _; kernel_rfl) rfl rfl (fun c vals w hC hD => ?_)
                clear hD
                refine makes1 (x := .tmp 7) (X := Value.slice (some ⟨gK, 0, none⟩) m capK) (by kernel_rfl : _ = (Value.slice (some ⟨gK, 0, none⟩) m capK : Value)) (fun ρ rc rf q7 => ?_)
                exact makes_move (.inl rfl) q7 ⟨Adds.refl _, rfl⟩
              · refine showA_op 6 (by intro _ _ _; kernel_rfl) rfl rfl (fun c vals w hC hD => ?_)
                clear hD
                refine makes1 (x := .tmp 18) (X := Value.int .i64 (q : Int)) (by kernel_rfl : _ = (Value.int .i64 (q : Int) : Value)) (fun ρ rc rf q18 => ?_)
                exact makes_move (.inl rfl) q18 ⟨Adds.refl _, rfl⟩
              · refine showA_op 7 (by intro _ _ _; kernel_rfl) rfl rfl (fun c vals w hC hD => ?_)
                have h5 : vals 5 = .slice (some ⟨gK, 0, none⟩) m capK := hD 5 rfl
                have h6 : vals 6 = .int .i64 (q : Int) := hD 6 rfl
                clear hD
                refine makes2 (x := .tmp 187) (X := Value.slice (some ⟨gK, 0, none⟩) m capK) (y := .tmp 188) (Y := Value.int .i64 (q : Int)) ((by kernel_rfl : _ = vals 5).trans h5) ((by kernel_rfl : _ = vals 6).trans h6) (fun ρ rc rf q187 q188 => ?_)
                clear h5 h6
                exact makes_index (us_of rfl) (el_of rfl) hqm rfl q187 q188 ⟨Adds.refl _, rfl⟩
              · refine showA_op 8 (by intro _ _ _; kernel_rfl) rfl rfl (fun c vals w hC hD => ?_)
                have h7 : vals 7 = .pointer (some ⟨gK, 0 + q * 1, none⟩) := hD 7 rfl
                clear hD
                refine makes1 (x := .tmp 189) (X := Value.pointer (some ⟨gK, 0 + q * 1, none⟩)) ((by kernel_rfl : _ = vals 7).trans h7) (fun ρ rc rf q189 => ?_)
                clear h7
                exact makes_load ((hM.adds hC).loads_one (.tail _ (.head _)) (on_of rfl) (by rw [Nat.zero_add, Nat.mul_one]; exact hKk)) rfl q189 ⟨Adds.refl _, rfl⟩
              · refine showA_op 9 (by intro _ _ _; kernel_rfl) rfl rfl (fun c vals w hC hD => ?_)
                clear hD
                refine makes1 (x := .tmp 9) (X := Value.slice (some ⟨gA, 0, none⟩) m capA) (by kernel_rfl : _ = (Value.slice (some ⟨gA, 0, none⟩) m capA : Value)) (fun ρ rc rf q9 => ?_)
                exact makes_move (.inl rfl) q9 ⟨Adds.refl _, rfl⟩
              · refine showA_op 10 (by intro _ _ _; kernel_rfl) rfl rfl (fun c vals w hC hD => ?_)
                clear hD
                refine makes1 (x := .tmp 18) (X := Value.int .i64 (q : Int)) (by kernel_rfl : _ = (Value.int .i64 (q : Int) : Value)) (fun ρ rc rf q18 => ?_)
                exact makes_move (.inl rfl) q18 ⟨Adds.refl _, rfl⟩
              · refine showA_op 11 (by intro _ _ _; kernel_rfl) rfl rfl (fun c vals w hC hD => ?_)
                have h9 : vals 9 = .slice (some ⟨gA, 0, none⟩) m capA := hD 9 rfl
                have h10 : vals 10 = .int .i64 (q : Int) := hD 10 rfl
                clear hD
                refine makes2 (x := .tmp 191) (X := Value.slice (some ⟨gA, 0, none⟩) m capA) (y := .tmp 192) (Y := Value.int .i64 (q : Int)) ((by kernel_rfl : _ = vals 9).trans h9) ((by kernel_rfl : _ = vals 10).trans h10) (fun ρ rc rf q191 q192 => ?_)
                clear h9 h10
                exact makes_index (us_of rfl) (el_of rfl) hqm rfl q191 q192 ⟨Adds.refl _, rfl⟩
              · refine showA_op 12 (by intro _ _ _; kernel_rfl) rfl rfl (fun c vals w hC hD => ?_)
                have h11 : vals 11 = .pointer (some ⟨gA, 0 + q * 1, none⟩) := hD 11 rfl
                clear hD
                refine makes1 (x := .tmp 193) (X := Value.pointer (some ⟨gA, 0 + q * 1, none⟩)) ((by kernel_rfl : _ = vals 11).trans h11) (fun ρ rc rf q193 => ?_)
                clear h11
                exact makes_load ((hM.adds hC).loads_one (.tail _ (.tail _ (.head _))) (on_of rfl) (by rw [Nat.zero_add, Nat.mul_one]; exact hAk)) rfl q193 ⟨Adds.refl _, rfl⟩
              · refine showA_op 13 (by intro _ _ _; kernel_rfl) rfl rfl (fun c vals w hC hD => ?_)
                have h8 : vals 8 = d.kv := hD 8 rfl
                have h12 : vals 12 = sl d.d.r.ob d.d.r.m.length d.d.r.cap := hD 12 rfl
                clear hD
                refine makes2 (x := .tmp 190) (X := d.kv) (y := .tmp 194) (Y := sl d.d.r.ob d.d.r.m.length d.d.r.cap) ((by kernel_rfl : _ = vals 8).trans h8) ((by kernel_rfl : _ = vals 12).trans h12) (fun ρ rc rf q190 q194 => ?_)
                clear h8 h12
                refine makes_call (href _ hC) ?_ (by rintro e w' ⟨rfl, hb⟩; exact ⟨_, rfl, hb, rfl⟩)
                go_simp
              · refine showA_op 14 (by intro _ _ _; kernel_rfl) rfl rfl (fun c vals w hC hD => ?_)
                have h4 : vals 4 = .agg (T.map B8).toArray := hD 4 rfl
                have h13 : vals 13 = .agg (T.map B8).toArray := hD 13 rfl
                clear hD
                refine makes2 (x := .tmp 186) (X := Value.agg (T.map B8).toArray) (y := .tmp 195) (Y := Value.agg (T.map B8).toArray) ((by kernel_rfl : _ = vals 4).trans h4) ((by kernel_rfl : _ = vals 13).trans h13) (fun ρ rc rf q186 q195 => ?_)
                clear h4 h13
                exact makes_neq (hash_self _ hTl) rfl q186 q195 ⟨Adds.refl _, rfl⟩
              · refine showA_op 15 (by intro _ _ _; kernel_rfl) rfl rfl (fun c vals w hC hD => ?_)
                have h14 : vals 14 = .bool false := hD 14 rfl
                clear hD
                refine makes1 (x := .tmp 196) (X := Value.bool false) ((by kernel_rfl : _ = vals 14).trans h14) (fun ρ rc rf q196 => ?_)
                clear h14
                exact makes_move (.inl rfl) q196 ⟨Adds.refl _, rfl⟩
              · refine showA_run 16 (by intro _ _ _; kernel_rfl) (j := 15) (want := false) rfl rfl rfl (by intro _ _; kernel_rfl) rfl (fun c vals w hC hD => ⟨hD 15 rfl, ?_⟩)
                clear hD
                refine makes1 (x := .tmp 8) (X := Value.slice (some ⟨gP, 0, none⟩) m capP) (by kernel_rfl : _ = (Value.slice (some ⟨gP, 0, none⟩) m capP : Value)) (fun ρ rc rf q8 => ?_)
                exact makes_move (.inl rfl) q8 ⟨Adds.refl _, rfl⟩
              · refine showA_run 17 (by intro _ _ _; kernel_rfl) (j := 15) (want := false) rfl rfl rfl (by intro _ _; kernel_rfl) rfl (fun c vals w hC hD => ⟨hD 15 rfl, ?_⟩)
                clear hD
                refine makes1 (x := .tmp 18) (X := Value.int .i64 (q : Int)) (by kernel_rfl : _ = (Value.int .i64 (q : Int) : Value)) (fun ρ rc rf q18 => ?_)
                exact makes_move (.inl rfl) q18 ⟨Adds.refl _, rfl⟩
              · refine showA_run 18 (by intro _ _ _; kernel_rfl) (j := 15) (want := false) rfl rfl rfl (by intro _ _; kernel_rfl) rfl (fun c vals w hC hD => ⟨hD 15 rfl, ?_⟩)
                have h16 : vals 16 = .slice (some ⟨gP, 0, none⟩) m capP := hD 16 rfl
                have h17 : vals 17 = .int .i64 (q : Int) := hD 17 rfl
                clear hD
                refine makes2 (x := .tmp 198) (X := Value.slice (some ⟨gP, 0, none⟩) m capP) (y := .tmp 199) (Y := Value.int .i64 (q : Int)) ((by kernel_rfl : _ = vals 16).trans h16) ((by kernel_rfl : _ = vals 17).trans h17) (fun ρ rc rf q198 q199 => ?_)
                clear h16 h17
                exact makes_index (us_of rfl) (el_of rfl) hqm rfl q198 q199 ⟨Adds.refl _, rfl⟩
              · refine showA_run 19 (by intro _ _ _; kernel_rfl) (j := 15) (want := false) rfl rfl rfl (by intro _ _; kernel_rfl) rfl (fun c vals w hC hD => ⟨hD 15 rfl, ?_⟩)
                have h18 : vals 18 = .pointer (some ⟨gP, 0 + q * 1, none⟩) := hD 18 rfl
                clear hD
                refine makes1 (x := .tmp 200) (X := Value.pointer (some ⟨gP, 0 + q * 1, none⟩)) ((by kernel_rfl : _ = vals 18).trans h18) (fun ρ rc rf q200 => ?_)
                clear h18
                exact makes_load ((hM.adds hC).loads_one (.head _) (on_of rfl) (by rw [Nat.zero_add, Nat.mul_one]; exact hPk)) rfl q200 ⟨Adds.refl _, rfl⟩
              · refine showA_run 20 (by intro _ _ _; kernel_rfl) (j := 15) (want := false) rfl rfl rfl (by intro _ _; kernel_rfl) rfl (fun c vals w hC hD => ⟨hD 15 rfl, ?_⟩)
                have h19 : vals 19 = .pointer (some ⟨d.gm, 0, none⟩) := hD 19 rfl
                clear hD
                refine makes1 (x := .tmp 201) (X := Value.pointer (some ⟨d.gm, 0, none⟩)) ((by kernel_rfl : _ = vals 19).trans h19) (fun ρ rc rf q201 => ?_)
                clear h19
                refine makes_call (hsum _ hC) ?_ (by rintro e w' ⟨rfl, hb⟩; exact ⟨_, rfl, hb, rfl⟩)
                go_simp
              · refine showA_run 21 (by intro _ _ _; kernel_rfl) (j := 15) (want := false) rfl rfl rfl (by intro _ _; kernel_rfl) rfl (fun c vals w hC hD => ⟨hD 15 rfl, ?_⟩)
                clear hD
                refine makes1 (x := .tmp 7) (X := Value.slice (some ⟨gK, 0, none⟩) m capK) (by kernel_rfl : _ = (Value.slice (some ⟨gK, 0, none⟩) m capK : Value)) (fun ρ rc rf q7 => ?_)
                exact makes_move (.inl rfl) q7 ⟨Adds.refl _, rfl⟩
              · refine showA_run 22 (by intro _ _ _; kernel_rfl) (j := 15) (want := false) rfl rfl rfl (by intro _ _; kernel_rfl) rfl (fun c vals w hC hD => ⟨hD 15 rfl, ?_⟩)
                clear hD
                refine makes1 (x := .tmp 18) (X := Value.int .i64 (q : Int)) (by kernel_rfl : _ = (Value.int .i64 (q : Int) : Value)) (fun ρ rc rf q18 => ?_)
                exact makes_move (.inl rfl) q18 ⟨Adds.refl _, rfl⟩
              · refine showA_run 23 (by intro _ _ _; kernel_rfl) (j := 15) (want := false) rfl rfl rfl (by intro _ _; kernel_rfl) rfl (fun c vals w hC hD => ⟨hD 15 rfl, ?_⟩)
                have h21 : vals 21 = .slice (some ⟨gK, 0, none⟩) m capK := hD 21 rfl
                have h22 : vals 22 = .int .i64 (q : Int) := hD 22 rfl
                clear hD
                refine makes2 (x := .tmp 203) (X := Value.slice (some ⟨gK, 0, none⟩) m capK) (y := .tmp 204) (Y := Value.int .i64 (q : Int)) ((by kernel_rfl : _ = vals 21).trans h21) ((by kernel_rfl : _ = vals 22).trans h22) (fun ρ rc rf q203 q204 => ?_)
                clear h21 h22
                exact makes_index (us_of rfl) (el_of rfl) hqm rfl q203 q204 ⟨Adds.refl _, rfl⟩
              · refine showA_run 24 (by intro _ _ _; kernel_rfl) (j := 15) (want := false) rfl rfl rfl (by intro _ _; kernel_rfl) rfl (fun c vals w hC hD => ⟨hD 15 rfl, ?_⟩)
                have h23 : vals 23 = .pointer (some ⟨gK, 0 + q * 1, none⟩) := hD 23 rfl
                clear hD
                refine makes1 (x := .tmp 205) (X := Value.pointer (some ⟨gK, 0 + q * 1, none⟩)) ((by kernel_rfl : _ = vals 23).trans h23) (fun ρ rc rf q205 => ?_)
                clear h23
                exact makes_load ((hM.adds hC).loads_one (.tail _ (.head _)) (on_of rfl) (by rw [Nat.zero_add, Nat.mul_one]; exact hKk)) rfl q205 ⟨Adds.refl _, rfl⟩
              · refine showA_run 25 (by intro _ _ _; kernel_rfl) (j := 15) (want := false) rfl rfl rfl (by intro _ _; kernel_rfl) rfl (fun c vals w hC hD => ⟨hD 15 rfl, ?_⟩)
                clear hD
                refine makes1 (x := .tmp 9) (X := Value.slice (some ⟨gA, 0, none⟩) m capA) (by kernel_rfl : _ = (Value.slice (some ⟨gA, 0, none⟩) m capA : Value)) (fun ρ rc rf q9 => ?_)
                exact makes_move (.inl rfl) q9 ⟨Adds.refl _, rfl⟩
              · refine showA_run 26 (by intro _ _ _; kernel_rfl) (j := 15) (want := false) rfl rfl rfl (by intro _ _; kernel_rfl) rfl (fun c vals w hC hD => ⟨hD 15 rfl, ?_⟩)
                clear hD
                refine makes1 (x := .tmp 18) (X := Value.int .i64 (q : Int)) (by kernel_rfl : _ = (Value.int .i64 (q : Int) : Value)) (fun ρ rc rf q18 => ?_)
                exact makes_move (.inl rfl) q18 ⟨Adds.refl _, rfl⟩
              · refine showA_run 27 (by intro _ _ _; kernel_rfl) (j := 15) (want := false) rfl rfl rfl (by intro _ _; kernel_rfl) rfl (fun c vals w hC hD => ⟨hD 15 rfl, ?_⟩)
                have h25 : vals 25 = .slice (some ⟨gA, 0, none⟩) m capA := hD 25 rfl
                have h26 : vals 26 = .int .i64 (q : Int) := hD 26 rfl
                clear hD
                refine makes2 (x := .tmp 207) (X := Value.slice (some ⟨gA, 0, none⟩) m capA) (y := .tmp 208) (Y := Value.int .i64 (q : Int)) ((by kernel_rfl : _ = vals 25).trans h25) ((by kernel_rfl : _ = vals 26).trans h26) (fun ρ rc rf q207 q208 => ?_)
                clear h25 h26
                exact makes_index (us_of rfl) (el_of rfl) hqm rfl q207 q208 ⟨Adds.refl _, rfl⟩
              · refine showA_run 28 (by intro _ _ _; kernel_rfl) (j := 15) (want := false) rfl rfl rfl (by intro _ _; kernel_rfl) rfl (fun c vals w hC hD => ⟨hD 15 rfl, ?_⟩)
                have h27 : vals 27 = .pointer (some ⟨gA, 0 + q * 1, none⟩) := hD 27 rfl
                clear hD
                refine makes1 (x := .tmp 209) (X := Value.pointer (some ⟨gA, 0 + q * 1, none⟩)) ((by kernel_rfl : _ = vals 27).trans h27) (fun ρ rc rf q209 => ?_)
                clear h27
                exact makes_load ((hM.adds hC).loads_one (.tail _ (.tail _ (.head _))) (on_of rfl) (by rw [Nat.zero_add, Nat.mul_one]; exact hAk)) rfl q209 ⟨Adds.refl _, rfl⟩
              · refine showA_run 29 (by intro _ _ _; kernel_rfl) (j := 15) (want := false) rfl rfl rfl (by intro _ _; kernel_rfl) rfl (fun c vals w hC hD => ⟨hD 15 rfl, ?_⟩)
                have h24 : vals 24 = d.kv := hD 24 rfl
                have h28 : vals 28 = sl d.d.r.ob d.d.r.m.length d.d.r.cap := hD 28 rfl
                clear hD
                refine makes2 (x := .tmp 206) (X := d.kv) (y := .tmp 210) (Y := sl d.d.r.ob d.d.r.m.length d.d.r.cap) ((by kernel_rfl : _ = vals 24).trans h24) ((by kernel_rfl : _ = vals 28).trans h28) (fun ρ rc rf q206 q210 => ?_)
                clear h24 h28
                refine makes_call (hof _ hC) ?_ (by rintro e w' ⟨rfl, hb⟩; exact ⟨_, rfl, hb, rfl⟩)
                go_simp
              · refine showA_run 30 (by intro _ _ _; kernel_rfl) (j := 15) (want := false) rfl rfl rfl (by intro _ _; kernel_rfl) rfl (fun c vals w hC hD => ⟨hD 15 rfl, ?_⟩)
                have h20 : vals 20 = .agg (T.map B8).toArray := hD 20 rfl
                have h29 : vals 29 = .agg (T.map B8).toArray := hD 29 rfl
                clear hD
                refine makes2 (x := .tmp 202) (X := Value.agg (T.map B8).toArray) (y := .tmp 211) (Y := Value.agg (T.map B8).toArray) ((by kernel_rfl : _ = vals 20).trans h20) ((by kernel_rfl : _ = vals 29).trans h29) (fun ρ rc rf q202 q211 => ?_)
                clear h20 h29
                exact makes_neq (hash_self _ hTl) rfl q202 q211 ⟨Adds.refl _, rfl⟩
              · refine showA_op 31 (by intro _ _ _; kernel_rfl) rfl rfl (fun c vals w hC hD => ?_)
                have h15 : vals 15 = .bool false := hD 15 rfl
                have h30 : vals 30 = .bool false := hD 30 rfl
                clear hD
                refine makes2 (x := .tmp 197) (X := Value.bool false) (y := .tmp 212) (Y := Value.bool false) ((by kernel_rfl : _ = vals 15).trans h15) ((by kernel_rfl : _ = vals 30).trans h30) (fun ρ rc rf q197 q212 => ?_)
                clear h15 h30
                refine makes_value (v := Value.bool false) ?_ ⟨Adds.refl _, rfl⟩
                go_simp
                all_goals first | done | rfl | (rw [if_pos (by omega)]; refine congrArg (fun x => Result.ok (Next.value (Value.pointer (some ⟨_, x, none⟩))) _) ?_; omega) | (rw [wrapP_i64]; omega) | go_num | (simp; done) | (simp; omega) | (congr 1; first | rfl | (rw [wrapP_i64]; omega) | (congr 1; first | rfl | (simp; done) | (simp; omega) | (congr 2; omega) | go_num))
              intro vals w' hC hΦ hne
              have h31 : vals 31 = .bool false := hΦ 31 (by decide)
              clear hΦ hne
              simp only [List.getD_eq_getElem?_getD, List.getElem?_cons_zero, List.getElem?_cons_succ, Option.getD_some, List.drop_succ_cons, List.drop_zero]
              simp only [h31]
              clear h31
              try simp only [tuple_undef]
              replace hM := hM.adds hC
              clear hC hsum href hof
              go_wp2_with fail
              go_roundw
              case rel => exact ⟨q + 1, by omega, by go_num, hM⟩
              case measure => simp [intOf]; omega
            · have hqi : ¬ (q : Int) < (m : Int) := by omega
              clear HG
              go_wp2_with (first | (go_at_call 27; (with_reducible refine (law03_fixed _).mono ?_); rintro _ _ ⟨rfl, B1⟩; replace hM := hM.adds B1; clear B1))
              go_ret
              exact ⟨rfl, hM.done⟩
end Go.Proofs.Ytejmbkljnhnklaa
