/-
  The walk of ChainTells.
-/
import Derived.Test.YtejmbkljnhnklaaPk
namespace Go.PK
open Go.RowKit
/-- what a call made, beside what is owned -/
theorem Mem.addMem {G : List Nat} {w0 w w' : World} {L L' : List Blk} (h : Mem G w0 w L) (k : Mem [] w w' L') : Mem G w0 w' (L' ++ L) := by
  have h2 := h.adds k.done
  refine ⟨h2.touch, fun b hb => ?_, fun b hb g hg => ?_, ?_⟩
  · rcases List.mem_append.1 hb with hb | hb
    · exact k.holds b hb
    · exact h2.holds b hb
  · rcases List.mem_append.1 hb with hb | hb
    · exact .inr (Nat.le_trans h.touch.size ((k.own b hb g hg).resolve_left (by simp)))
    · exact h.own b hb g hg
  · rw [List.filterMap_append, List.nodup_append]
    refine ⟨k.nodup, h.nodup, fun a ha b hb hab => ?_⟩
    subst hab
    obtain ⟨x, hx, hxe⟩ := mem_ids.1 ha
    obtain ⟨y, hy, hye⟩ := mem_ids.1 hb
    have h3 := (k.own x hx a hxe).resolve_left (by simp)
    have h4 := (h.holds y hy).lt hye
    omega
section
variable {P : Program}
/-- x[:k] of a slice -/
theorem slice_upto {t e n cap k : Nat} (hu : P.underlying t = some (.slice e)) {z : Nat} (he : (P.info? e).map (·.size) = some z) {ao : Option Addr} (h : k ≤ cap) :
    Sliced P t (.slice ao n cap) none (some (.int .i64 (k : Int))) none (.slice ao k cap) := by
  intro w
  cases hq : P.info? e with
  | none => simp [hq] at he
  | some i =>
    have hb : (Instr.sliceBounds true n cap none (some (.int .i64 (k : Int))) none).run P w = .ok (0, k, cap) w := by
      have : (k : Int) ≤ cap := by omega
      simp [Instr.sliceBounds, run_sliceBound, this]
    simp only [Instr.sliceAt, Instr.slice, Sem.run_bind, run_underlying hu, Sem.run_pure, Result.andThen_ok, hb, sizeOf, typeInfo]
    simp [hq]
    intro h0
    cases ao <;> simp [Addr.add]
end
theorem Elems.take {α : Type} {r : Rd α} {w : World} {ao : Option Addr} {l : List α} (h : Elems r w ao l) (k : Nat) : Elems r w ao (l.take k) := fun j a hj => by
  rw [List.getElem?_take] at hj
  split at hj
  · exact h j a hj
  · cases hj
end Go.PK
namespace Go.Proofs.Ytejmbkljnhnklaa
open Go.RowKit Go.PK
theorem kept_all (l : List Ev) : kept l l.length = l.take 1024 := by rw [kept, List.take_length]
set_option maxRecDepth 100000 in
set_option maxHeartbeats 4000000 in
theorem ChainTells_walk (w0 : World) (cs : List Value) (y : List UInt8 × List UInt8 × List Ev × List UInt8) (hK : rAsked.K w0 cs y) (ho : rAsked.ok y) (v2 : Value) (n2 : List UInt8) (hv2 : Bytes w0 v2 n2) (h2 : n2.length ≤ 140737488351232)
    (v3 : Value) (l2 : List Ev) (hK2 : (rSlice rEv).K w0 [v3] l2) (ho2 : (rSlice rEv).ok l2) :
    Calls Try.prog 12 #[.agg cs.toArray, v2, v3] w0 fun e w' => e = .returned (.bool true) ∧ Below w0.heap.size w0 w' := by
  obtain ⟨key, n1, l1, q⟩ := y
  obtain ⟨ak, ck, an, cn, ao, cap, rfl, hvk, hvn, hE, hq⟩ := asked_cells hK
  obtain ⟨ao2, cap2, e3, hc2a, hc2b, hc2c, hE2⟩ := hK2
  obtain rfl : v3 = .slice ao2 l2.length cap2 := by simpa using e3
  clear e3 hc2a hc2b hc2c
  have hcap : l1.length ≤ cap := by
    obtain ⟨c1, c2, e0, e1, c3, c4, e2, e3, c5, c6, e4, ⟨ao', cap', f3, f4, -⟩, e5⟩ := hK
    have := congrArg (fun l : List Value => l[2]?) e0
    obtain ⟨a1, k1, g1, -⟩ := id e1
    obtain ⟨a2, k2, g2, -⟩ := id e3
    subst e2
    subst e4
    subst f3
    subst g1
    subst g2
    simp at this
    obtain ⟨-, -, h⟩ := this
    omega
  have hk1 : key.length ≤ 140737488351232 := ho.1.1
  have hn1 : n1.length ≤ 140737488351232 := ho.2.1.1
  have hl1 : l1.length ≤ 140737488351232 := ho.2.2.1.1
  have hg1 : ∀ e ∈ l1, Chain.Good e := ho.2.2.1.2
  have hl2 : l2.length ≤ 140737488351232 := ho2.1
  have hg2 : ∀ e ∈ l2, Chain.Good e := ho2.2
  clear hK ho ho2
  dsimp only at hvk hvn hE hq hcap ⊢
  obtain ⟨hv, hhv⟩ : ∃ h, h = kept l1 l1.length := ⟨_, rfl⟩
  have hht : hv = l1.take 1024 := by rw [hhv, kept_all]
  have hgl : ∀ e ∈ hv, Len e.1 32 := fun e he => (hg1 e (by rw [hht] at he; exact List.mem_of_mem_take he)).1
  have hgh : ∀ e ∈ hv, Chain.Good e := fun e he => hg1 e (by rw [hht] at he; exact List.mem_of_mem_take he)
  have hEh : Elems rEv w0 ao hv := by rw [hht]; exact hE.take _
  have hhl : hv.length ≤ 1024 := by rw [hht, List.length_take]; omega
  obtain ⟨m, hm⟩ : ∃ m, m = hv.length := ⟨_, rfl⟩
  have hmn : m = min 1024 l1.length := by rw [hm, hht, List.length_take]
  have hlog : ∀ w, Adds w0 w → _ := fun w hw => law16_logged w ao cap l1 (hE.adds hw) (by omega)
  rw [← hhv, ← hm] at hlog
  obtain ⟨T, hT⟩ : ∃ T, Chain.quote key n1 hv = T := ⟨_, rfl⟩
  have hTl : Len T 32 := by rw [← hT]; exact Len.of (Chain.quote_len _ _ _)
  obtain ⟨ec, hec⟩ : ∃ ec, Chain.check key n2 l2 T = ec := ⟨_, rfl⟩
  obtain ⟨zs, hzs⟩ : ∃ z, (hv == l2) = z := ⟨_, rfl⟩
  obtain ⟨zc, hzc⟩ : ∃ z, Chain.clash key n1 hv n2 l2 = z := ⟨_, rfl⟩
  obtain ⟨b, hb⟩ : ∃ b, (Chain.quote key n2 l2 == T) = b := ⟨_, rfl⟩
  have hquo : ∀ w, Adds w0 w → ∀ gl ob capL, Row w gl 122 [sl ob m capL] → Elems rEv w (ob.map fun g => ⟨g, 0, none⟩) hv → _ := fun w hw gl ob capL hR hE => log_Quote w gl ob m capL hv hR hE hm.symm (by omega) _ key (hvk.below hw (Nat.le_refl _)) (by omega) _ n1 (hvn.below hw (Nat.le_refl _)) (by omega) T hT
  have hchk : ∀ w, Adds w0 w → _ := fun w hw => chain_Check w _ key (hvk.below hw (Nat.le_refl _)) (by omega) v2 n2 (hv2.below hw (Nat.le_refl _)) (by omega) ao2 cap2 l2 (hE2.adds hw) (by omega) T hTl ec hec
  have hsame : ∀ w, Adds w0 w → _ := fun w hw => ref16_Same w ao cap hv (hEh.adds hw) (by omega) ao2 cap2 l2 (hE2.adds hw) zs hzs
  have hcl : l2.length ≤ 1024 → ∀ w, Adds w0 w → _ := fun h w hw => ref16_Clash w _ key (hvk.below hw (Nat.le_refl _)) hk1 _ n1 (hvn.below hw (Nat.le_refl _)) hn1 ao cap hv (hEh.adds hw) (by omega) v2 n2 (hv2.below hw (Nat.le_refl _)) h2 ao2 cap2 l2 (hE2.adds hw) (by omega) zc hzc
  have HB : l2.length ≤ 1024 → b = true → (n1 = n2 ∧ hv = l2) ∨ zc = true := fun h hbt => by
    rw [hbt] at hb
    rw [← hzc]
    exact Chain.quote_like hhl h hgh hg2 (by rw [hT]; exact (eq_of_beq hb).symm)
  have HS : n1 = n2 → hv = l2 → b = true := fun h1 h2 => by rw [← hb, ← hT, h1, h2]; exact beq_self_eq_true _
  have Hbig : 1024 < l2.length → ec = 3 := fun h => by rw [← hec, Chain.check, if_pos h]
  have Hsm : ¬ 1024 < l2.length → ec = if b = true then 0 else 19 := fun h => by rw [← hec, Chain.check, if_neg h, hb]
  have Hz : zs = true ↔ hv = l2 := by rw [← hzs, beq_iff_eq]
  have hstr1 : ∀ w, Adds w0 w → _ := fun w hw => str_of (hvn.below (w' := w) hw (Nat.le_refl _))
  have hstr2 : ∀ w, Adds w0 w → _ := fun w hw => str_of (hv2.below (w' := w) hw (Nat.le_refl _))
  obtain ⟨ao4, cap4, rfl, -, -, -⟩ := id hv2
  clear hT hec hzs hzc hb hht hhv hgh hg1 hg2 hvk hvn hv2 hE hE2 hEh
  rw [← hm] at hhl hsame hcl
  obtain ⟨k1, hk1e⟩ : ∃ k, k = l1.length := ⟨_, rfl⟩
  obtain ⟨k2, hk2e⟩ : ∃ k, k = l2.length := ⟨_, rfl⟩
  rw [← hk1e] at hlog hmn hl1 hcap ⊢
  rw [← hk2e] at hchk hsame hcl HB Hbig Hsm hl2 ⊢
  clear hk1e hk2e hm
  generalize key.length = nk at *
  generalize hn1e : n1.length = nn1 at *
  generalize hn2e : n2.length = nn2 at *
  clear hn1e hn2e
  have hM := Mem.start w0
  go_enter Try.func12, Try.ntmps12
  go_wp2_with (first
    | ((with_reducible refine gL_box (dst := some 3) hM ?_); refine ⟨_, [.slice ak nk ck, .slice an nn1 cn, .slice ao k1 cap] ++ q.map B8, 35, rfl, rfl, Len.of (by simp [hq.eq]), ?_⟩; intro g3 _ hM2; clear hM; have hM := hM2; clear hM2)
    | ((with_reducible refine gL_load (dst := some 13) ?_); refine ⟨_, _, rfl, hM.loads_one (.head _) (on_of rfl) rfl, ?_⟩))
  refine (hlog _ hM.done).mono ?_
  rintro _ w1 ⟨gl, ob, capL, rfl, hcapL, hM3⟩
  replace hM := hM.addMem hM3
  clear hM3 hlog
  simp only [List.cons_append, List.nil_append] at hM
  have hcut := slice_upto (P := Try.prog) (t := 58) (e := 64) (n := k1) (cap := cap) (k := 1024) (us_of rfl) (z := 33) (by kernel_rfl) (ao := ao)
  rcases (by omega : (1024 < k1 ∧ m = 1024) ∨ (¬ 1024 < k1 ∧ k1 = m)) with ⟨hbig, rfl⟩ | ⟨hbig, rfl⟩
  case' inl => have hbi : (1024 : Int) < (k1 : Int) := by omega
  case' inr => have hbi : ¬ (1024 : Int) < (k1 : Int) := by omega
  all_goals
    clear hmn
    go_wp2_with (first
      | ((with_reducible refine gL_load (dst := some 18) ?_); refine ⟨_, _, rfl, hM.loads_one (.tail _ (.tail _ (.head _))) (on_of rfl) rfl, ?_⟩)
      | ((with_reducible refine gL_slice ?_); refine ⟨_, hcut (by omega), ?_⟩)
      | ((with_reducible refine gL_load (dst := some 26) ?_); refine ⟨_, _, rfl, hM.loads_one (.tail _ (.tail _ (.head _))) (on_of rfl) rfl, ?_⟩)
      | ((with_reducible refine gL_load (dst := some 28) ?_); refine ⟨_, _, rfl, hM.loads_one (.tail _ (.tail _ (.head _))) (on_of rfl) rfl, ?_⟩))
    refine (hquo _ hM.done gl ob capL (hM.rowN (.head _) rfl) (evs_elems hM (.tail _ (.head _)) hgl)).mono ?_
    rintro _ w2 ⟨rfl, hB⟩
    replace hM := hM.adds hB
    clear hB hquo
    go_wp2_with (first
      | ((first | ((with_reducible refine gL_alloc (dst := some 9) hM ?_); refine ⟨_, _, (zr_of rfl), ?_⟩) | ((with_reducible refine gL_box (dst := some 9) hM ?_); refine ⟨_, _, _, rfl, rfl, (by first | assumption | exact Len.map (by assumption) _ | rfl | exact Len.map (by rfl) _ | exact Len.of (by simp; done)), ?_⟩)); intro g9 _ hM2; clear hM; have hM := hM2; clear hM2)
      | ((with_reducible refine gL_store hM ?_); refine ⟨_, _, _, rfl, rfl, hM.stores_all (.here _ _ _) (ag_of rfl) (hTl.map _) (by rfl) B8_one, ?_⟩; intro _ hM2; clear hM; have hM := hM2; clear hM2)
      | ((with_reducible refine gL_load (dst := some 31) ?_); refine ⟨_, _, rfl, hM.loads_one (.tail _ (.tail _ (.tail _ (.head _)))) (on_of rfl) rfl, ?_⟩)
      | ((with_reducible refine gL_load (dst := some 34) ?_); refine ⟨_, _, rfl, hM.loads_all (.head _) (ag_of rfl) (hTl.map _), ?_⟩))
    refine (hchk _ hM.done).mono ?_
    rintro _ w3 ⟨rfl, hB⟩
    replace hM := hM.adds hB
    clear hB hchk
    by_cases h2b : 1024 < k2
    · have h2i : (1024 : Int) < (k2 : Int) := by omega
      have hec := Hbig h2b
      subst hec
      clear Hbig Hsm HB HS Hz
      go_wp2_with ((go_at_call 34; (with_reducible refine (law16_fixed _).mono ?_); rintro _ _ ⟨rfl, B1⟩; replace hM := hM.adds B1; clear B1))
      go_ret
      exact ⟨rfl, hM.done⟩
    · have h2i : ¬ (1024 : Int) < (k2 : Int) := by omega
      have hec := Hsm h2b
      have hB2 := HB (by omega)
      have hclu := hcl (by omega)
      clear Hbig Hsm HB hcl
      have sa := hstr1 _ hM.done
      have sb := hstr2 _ hM.done
      clear hstr1 hstr2
      by_cases hne : n1 = n2
      · have hab : (n2 == n1) = true := by rw [hne]; exact beq_self_eq_true _
        cases b with
        | true =>
          rw [if_pos rfl] at hec
          subst hec
          cases zs with
          | true =>
            clear hB2 HS Hz hclu
            go_wp2_with (first
              | ((with_reducible refine gL_load (dst := some 47) ?_); refine ⟨_, _, rfl, hM.loads_one (.tail _ (.tail _ (.tail _ (.head _)))) (on_of rfl) rfl, ?_⟩)
              | (go_at_call 39; (with_reducible refine (hsame _ hM.done).mono ?_); rintro _ _ ⟨rfl, B1⟩; replace hM := hM.adds B1; clear B1 hsame)
              | (go_at_call 34; (with_reducible refine (law16_fixed _).mono ?_); rintro _ _ ⟨rfl, B1⟩; replace hM := hM.adds B1; clear B1))
            go_ret
            exact ⟨rfl, hM.done⟩
          | false =>
            have hzc := (hB2 rfl).resolve_left (fun h => by have := Hz.2 h.2; cases this)
            subst hzc
            clear hB2 HS Hz
            go_wp2_with (first
              | ((with_reducible refine gL_load (dst := some 47) ?_); refine ⟨_, _, rfl, hM.loads_one (.tail _ (.tail _ (.tail _ (.head _)))) (on_of rfl) rfl, ?_⟩)
              | (go_at_call 39; (with_reducible refine (hsame _ hM.done).mono ?_); rintro _ _ ⟨rfl, B1⟩; replace hM := hM.adds B1; clear B1 hsame)
              | ((with_reducible refine gG_load ?_ ?_); (exact wanted_of rfl rfl rfl rfl rfl); refine ⟨_, _, rfl, hM.loads_one (.tail _ (.tail _ (.tail _ (.head _)))) (on_of rfl) rfl, ?_⟩)
              | (go_at_call 49; (with_reducible refine (hclu _ hM.done).mono ?_); rintro _ _ ⟨rfl, B1⟩; replace hM := hM.adds B1; clear B1 hclu)
              | (go_at_call 34; (with_reducible refine (law16_fixed _).mono ?_); rintro _ _ ⟨rfl, B1⟩; replace hM := hM.adds B1; clear B1))
            go_ret
            exact ⟨rfl, hM.done⟩
        | false =>
          rw [if_neg (by decide)] at hec
          subst hec
          have hzf : zs = false := by
            cases zs with
            | false => rfl
            | true => exact (HS hne (Hz.1 rfl)).symm
          subst hzf
          clear hB2 HS Hz hclu
          go_wp2_with (first
            | ((with_reducible refine gL_load (dst := some 47) ?_); refine ⟨_, _, rfl, hM.loads_one (.tail _ (.tail _ (.tail _ (.head _)))) (on_of rfl) rfl, ?_⟩)
            | (go_at_call 39; (with_reducible refine (hsame _ hM.done).mono ?_); rintro _ _ ⟨rfl, B1⟩; replace hM := hM.adds B1; clear B1 hsame)
            | (go_at_call 34; (with_reducible refine (law16_fixed _).mono ?_); rintro _ _ ⟨rfl, B1⟩; replace hM := hM.adds B1; clear B1))
          go_ret
          exact ⟨rfl, hM.done⟩
      · have hab : (n2 == n1) = false := beq_eq_false_iff_ne.2 (fun h => hne h.symm)
        cases b with
        | true =>
          rw [if_pos rfl] at hec
          subst hec
          have hzc := (hB2 rfl).resolve_left (fun h => hne h.1)
          subst hzc
          clear hB2 HS Hz
          go_wp2_with (first
            | ((with_reducible refine gL_load (dst := some 47) ?_); refine ⟨_, _, rfl, hM.loads_one (.tail _ (.tail _ (.tail _ (.head _)))) (on_of rfl) rfl, ?_⟩)
            | ((with_reducible refine gG_load ?_ ?_); (exact wanted_of rfl rfl rfl rfl rfl); refine ⟨_, _, rfl, hM.loads_one (.tail _ (.tail _ (.tail _ (.head _)))) (on_of rfl) rfl, ?_⟩)
            | (go_at_call 49; (with_reducible refine (hclu _ hM.done).mono ?_); rintro _ _ ⟨rfl, B1⟩; replace hM := hM.adds B1; clear B1 hclu)
            | (go_at_call 34; (with_reducible refine (law16_fixed _).mono ?_); rintro _ _ ⟨rfl, B1⟩; replace hM := hM.adds B1; clear B1))
          go_ret
          exact ⟨rfl, hM.done⟩
        | false =>
          rw [if_neg (by decide)] at hec
          subst hec
          clear hB2 HS Hz hclu
          go_wp2_with (first
            | ((with_reducible refine gL_load (dst := some 47) ?_); refine ⟨_, _, rfl, hM.loads_one (.tail _ (.tail _ (.tail _ (.head _)))) (on_of rfl) rfl, ?_⟩)
            | (go_at_call 34; (with_reducible refine (law16_fixed _).mono ?_); rintro _ _ ⟨rfl, B1⟩; replace hM := hM.adds B1; clear B1))
          go_ret
          exact ⟨rfl, hM.done⟩
end Go.Proofs.Ytejmbkljnhnklaa
