/-
  The walk of ShaPieces.
-/
import Derived.Test.YtejmbkljnhnklaaShGd
import Derived.Deep.CutRange
namespace Go.Proofs.Ytejmbkljnhnklaa
open Go.RowKit Go.PK

set_option maxRecDepth 100000 in
set_option maxHeartbeats 4000000 in
theorem ShaPieces_walk (w0 : World) (v : Value) (l : List Step) (hK : (rSlice rOp).K w0 [v] l) (ho : (rSlice rOp).ok l) :
    Calls Try.prog 4 #[v] w0 fun e w' => e = .returned (.bool true) ∧ Below w0.heap.size w0 w' := by
  obtain ⟨ao, capl, rfl, hc1, hc2⟩ := steps_form hK
  have hst : ∀ k (hk : k < l.length), _ := fun k hk => step_later hK hk
  have hokl : ∀ k (hk : k < l.length), l[k].2.2.length ≤ 140737488351232 := fun k hk => (ho.2 _ (List.getElem_mem hk)).2.2.1
  have hoki : ∀ k (hk : k < l.length), -9223372036854775808 ≤ l[k].2.1 ∧ l[k].2.1 ≤ 9223372036854775807 := fun k hk => (ho.2 _ (List.getElem_mem hk)).2.1
  have hln : l.length ≤ 140737488351232 := ho.1
  have hps : ∀ k (hk : k < l.length), pre l (k + 1) = pre l k + (l[k].2.2.length + 1) := fun k hk => pre_succ l hk
  have hpm : ∀ k, pre l k ≤ pre l l.length := pre_mono l
  have hpl : ∀ k, k ≤ l.length → k ≤ pre l k := fun k hk => le_pre l hk
  clear hK ho
  obtain ⟨n, hn⟩ : ∃ n, n = l.length := ⟨_, rfl⟩
  have hM := Mem.start w0
  rw [← hn]
  rw [← hn] at hln hc1 hpm hpl
  have HN : ∀ _ : Unit, n = l.length := fun _ => hn
  clear hn
  go_enter Try.func4, Try.ntmps4
  go_wp2_with fail
  refine (sha_New _).mono ?_
  rintro _ w1 ⟨g0, rfl, hM3⟩
  have hR := hM3.rowN (.head _) (DigAt.start.len)
  have hB := hM3.done
  replace hM := hM.adds hB
  clear hB hM3
  go_wp2_with fail
  refine (sha_Copy _ g0 _ hR DigAt.start.len DigAt.start.one).mono ?_
  rintro _ w2 ⟨g1, rfl, hM3⟩
  replace hM := hM.adds hM3.done
  clear hM3 hR
  go_wp2_with fail
  go_loopw [4, 5] (fun lf i wr => ∃ (j : Nat), j ≤ n ∧ i = .int .i64 j ∧ lf = .int .i64 (2147483647 - (pre l j : Int)) ∧ (pre l j : Int) ≤ 2147483647 + 140737488351234 ∧ Mem [] w0 wr []) (fun _ i _ => n - (intOf i).toNat)
  case atStart => exact ⟨0, by omega, rfl, by simp [pre_zero], by simp [pre_zero], hM⟩
  case round =>
    clear hM
    obtain ⟨j, hj, rfl, rfl, hsm, hM⟩ := hrel
    by_cases hlt : j < n
    · have hti : (j : Int) < (n : Int) := by omega
      by_cases hge : (pre l j : Int) ≤ 2147483647
      · have hgi : (2147483647 : Int) - (pre l j : Int) ≥ 0 := by omega
        have hjl : j < l.length := by rw [← HN ()]; exact hlt
        obtain ⟨b, off, vB, rfl, hs⟩ := hst j hjl
        obtain ⟨-, -, hcB, hB⟩ := hs _ hM.done
        have hpj := hps j hjl
        have hkl := hokl j hjl
        obtain ⟨aB, cB, rfl, -⟩ := id hB
        clear hs hB hst hps hokl hoki hpl hpm
        generalize l[j].2.2.length = nb at *
        obtain ⟨p1, hp1⟩ : ∃ p, p = pre l (j + 1) := ⟨_, rfl⟩
        rw [← hp1] at hpj
        have HP1 : ∀ _ : Unit, p1 = pre l (j + 1) := fun _ => hp1
        clear hp1
        generalize pre l j = p at *
        go_wp2_with (first | ((with_reducible refine gL_load (dst := some 37) ?_); refine ⟨_, _, rfl, loads_cell hcB (on_of rfl), ?_⟩))
        go_roundw
        case rel => exact ⟨j + 1, by omega, by go_num, by rw [← HP1 ()]; congr 1; omega, by rw [← HP1 ()]; omega, hM⟩
        case measure => simp [intOf]; omega
      · have hgi : ¬ (2147483647 : Int) - (pre l j : Int) ≥ 0 := by omega
        generalize pre l j = p at *
        clear hst hps hokl hoki hpl hpm
        go_wp2_with (first | (go_at_call 20; (with_reducible refine (law02_fixed _).mono ?_); rintro _ _ ⟨rfl, B1⟩; replace hM := hM.adds B1; clear B1))
        go_ret
        exact ⟨rfl, hM.done⟩
    · have hje : n = j := by omega
      subst hje
      by_cases hge : (pre l n : Int) ≤ 2147483647
      case neg =>
        have hgi : (2147483647 : Int) - (pre l n : Int) < 0 := by omega
        generalize pre l n = p at *
        clear hst hps hokl hoki hpl hpm
        go_wp2_with (first | (go_at_call 20; (with_reducible refine (law02_fixed _).mono ?_); rintro _ _ ⟨rfl, B1⟩; replace hM := hM.adds B1; clear B1))
        go_ret
        exact ⟨rfl, hM.done⟩
      have hgi : ¬ (2147483647 : Int) - (pre l n : Int) < 0 := by omega
      have hge2 : pre l n ≤ 2147483647 := by omega
      have HG : ∀ _ : Unit, pre l n ≤ 2147483647 := fun _ => hge2
      obtain ⟨p, hp⟩ : ∃ p, p = pre l n := ⟨_, rfl⟩
      rw [← hp] at hgi ⊢
      clear hge hsm hge2 hp hj hlt
      have hd0 := DigAt.start
      go_wp2_with fail
      refine (sha_New _).mono ?_
      rintro _ w3 ⟨g3, rfl, hM3⟩
      replace hM := hM.join hM3 (by simp)
      clear hM3
      have hnew : ∀ w, _ := fun w => sha_New w
      generalize dig Sha.begins (List.replicate 64 0) 0 = C0 at *
      go_wp2_with (first
        | ((with_reducible refine gL_buildSlice1 (dst := some 45) hM ?_); refine ⟨_, [.pointer (some ⟨g3, 0, none⟩)], _, _, _, (us_of rfl), (el_of rfl), (by decide), rfl, rfl, rfl, ?_⟩; intro g45 _ hM2; clear hM; have hM := hM2; clear hM2)
        | ((with_reducible refine gL_buildSlice1 (dst := some 46) hM ?_); refine ⟨_, [.slice none 0 0], _, _, _, (us_of rfl), (el_of rfl), (by decide), rfl, rfl, rfl, ?_⟩; intro g46 _ hM2; clear hM; have hM := hM2; clear hM2))
      replace hM : Mem [] w0 _ (shL g45 g46 1 1 [⟨g3, C0, PR.nil⟩] [PR.nil]) := (hM.addNil 5).perm (perm4 _ _ _ _)
      go_loopw [6, 7, 8, 9, 10, 11, 12] (fun pv av i _ _ _ _ wr => ∃ (j gP gA capP capA : Nat) (ds : List Sd) (ps : List PR), j ≤ n ∧ i = .int .i64 j ∧ pv = .slice (some ⟨gP, 0, none⟩) ds.length capP ∧ av = .slice (some ⟨gA, 0, none⟩) ds.length capA ∧ capP ≤ maxLen ∧ capA ≤ maxLen ∧ ShGood l j ds ps ∧ Mem [] w0 wr (shL gP gA capP capA ds ps)) (fun _ _ i _ _ _ _ _ => n - (intOf i).toNat)
      case atStart => exact ⟨0, g45, g46, 1, 1, [⟨g3, C0, PR.nil⟩], [PR.nil], by omega, rfl, rfl, rfl, by decide, by decide, ShGood.start hd0, hM⟩
      case round =>
        clear hM
        obtain ⟨j, gP, gA, capP, capA, ds, ps, hj, rfl, rfl, rfl, hcP, hcA, hG, hM⟩ := hrel
        have hm0 := hG.pos
        have hm1 := hG.most
        obtain ⟨m, hm⟩ : ∃ m, m = ds.length := ⟨_, rfl⟩
        obtain ⟨PL, hPL⟩ : ∃ PL, PL = ds.map Sd.p := ⟨_, rfl⟩
        obtain ⟨AL, hAL⟩ : ∃ AL, AL = ds.map Sd.v := ⟨_, rfl⟩
        obtain ⟨OL, hOL⟩ : ∃ OL, OL = ds.map DigB ++ ps.map (PR.blk 5) := ⟨_, rfl⟩
        have hPll : Len PL m := by rw [hPL, hm]; exact Len.of (by simp)
        have hAll : Len AL m := by rw [hAL, hm]; exact Len.of (by simp)
        rw [shL, ← hPL, ← hAL, ← hOL] at hM
        rw [← hm] at hm0 hm1 ⊢
        obtain ⟨m', hm'⟩ : ∃ m', m' + 1 = m := ⟨m - 1, by omega⟩
        obtain ⟨dl, hdl⟩ : ∃ d, ds[m']? = some d := ⟨_, List.getElem?_eq_getElem (by omega)⟩
        have hPlast : PL[m']? = some (.pointer (some ⟨dl.g, 0, none⟩)) := by rw [hPL]; simp [hdl, Sd.p]
        have hmi : (m : Int) - 1 = (m' : Int) := by omega
        have hml : m' < m := by omega
        have hmli : (m' : Int) < (m : Int) := by omega
        have Hm : ∀ _ : Unit, m = ds.length := fun _ => hm
        have HPL : ∀ _ : Unit, PL = ds.map Sd.p := fun _ => hPL
        have HAL : ∀ _ : Unit, AL = ds.map Sd.v := fun _ => hAL
        have HOL : ∀ _ : Unit, OL = ds.map DigB ++ ps.map (PR.blk 5) := fun _ => hOL
        clear hm hPL hAL hOL hdl hm'
        by_cases hlt : j < n
        · have hti : (j : Int) < (n : Int) := by omega
          have hjl : j < l.length := by rw [← HN ()]; exact hlt
          obtain ⟨b, off, vB, rfl, hs⟩ := hst j hjl
          have hpj := hps j hjl
          have hpn : pre l (j + 1) ≤ pre l n := hpm (j + 1)
          have hpg : pre l n ≤ 2147483647 := HG ()
          have hnp : n ≤ pre l n := hpl n (Nat.le_refl _)
          have hkl := hokl j hjl
          have hki := hoki j hjl
          obtain ⟨hc0, hc1, hcB, hB⟩ := hs _ hM.done
          obtain ⟨aB, cB, rfl, -⟩ := id hB
          generalize l[j].1 = kd at *
          generalize l[j].2.1 = onk at *
          generalize l[j].2.2 = B at *
          obtain ⟨nb, hnb⟩ : ∃ nb, nb = B.length := ⟨_, rfl⟩
          rw [← hnb] at hpj hkl hB hcB hs
          have HNB : ∀ _ : Unit, nb = B.length := fun _ => hnb
          clear hnb hst hps hokl hoki hpl hpm
          obtain ⟨r, hr⟩ : ∃ r : Int, onk.tmod (m : Int) = r := ⟨_, rfl⟩
          obtain ⟨k, hkm, hway⟩ : ∃ k : Nat, k < m ∧ ((r < 0 ∧ r + (m : Int) = (k : Int)) ∨ (¬ r < 0 ∧ r = (k : Int))) := by
            refine ⟨wrapI onk m, wrapI_lt _ (by omega), ?_⟩
            rw [← hr]
            by_cases h : onk.tmod (m : Int) < 0
            · exact .inl ⟨h, wrapI_neg (by omega) h⟩
            · exact .inr ⟨h, wrapI_pos h⟩
          have hkmi : (k : Int) < (m : Int) := by omega
          obtain ⟨d, hd⟩ : ∃ d, ds[k]? = some d := ⟨_, List.getElem?_eq_getElem (by rw [← Hm ()]; exact hkm)⟩
          have hPk : PL[k]? = some (.pointer (some ⟨d.g, 0, none⟩)) := by rw [HPL ()]; simp [hd, Sd.p]
          have hAk : AL[k]? = some (sl d.r.ob d.r.m.length d.r.cap) := by rw [HAL ()]; simp [hd, Sd.v, PR.v]
          have hdm := List.mem_of_getElem? hd
          have hOd : DigB d ∈ OL := by rw [HOL ()]; exact mem_map_at DigB hd _
          have hdig := hG.dig d hdm
          have hdr := hG.mem d hdm
          have hOr : PR.blk 5 d.r ∈ OL := by rw [HOL ()]; exact mem_pool (PR.blk 5) _ hdr
          have hdc := hG.cap d hdm
          have hds := hG.short d hdm
          obtain ⟨pj, hpje⟩ : ∃ p, p = pre l j := ⟨_, rfl⟩
          obtain ⟨pj1, hpj1e⟩ : ∃ p, p = pre l (j + 1) := ⟨_, rfl⟩
          rw [← hpje] at hpj hds
          rw [← hpj1e] at hpj hpn
          have HPJ : ∀ _ : Unit, pj = pre l j := fun _ => hpje
          have HPJ1 : ∀ _ : Unit, pj1 = pre l (j + 1) := fun _ => hpj1e
          generalize pre l n = pn at *
          clear hpje hpj1e HG
          have hkd : kd = 1 ∨ kd = 2 ∨ kd = 3 ∨ (¬ kd = 1 ∧ ¬ kd = 2 ∧ ¬ kd = 3) := by omega
          go_upto_if 73 with (first
            | ((with_reducible refine gL_load (dst := some 58) ?_); refine ⟨_, _, rfl, hM.loads_one (.head _) (on_of rfl) hPlast, ?_⟩)
            | ((with_reducible refine gL_load (dst := some 68) ?_); refine ⟨_, _, rfl, loads_cell hc1 (on_of rfl), ?_⟩))
          go_cut [9] from 47 to 186 (fun k9 wx => k9 = .int .i64 (k : Int) ∧ wr = wx)
          case first =>
            rcases hway with ⟨h1, h2⟩ | ⟨h1, rfl⟩
            all_goals
              go_wp2_with fail
              go_meet
              exact ⟨rfl, rfl⟩
          case rest =>
          obtain ⟨rfl, hwc⟩ := hcut
          subst hwc
          clear hway hr
          rcases hkd with rfl | rfl | rfl | ⟨hn1, hn2, hn3⟩
          · --[
            go_wp2_with (first
              | ((with_reducible refine gL_load (dst := some 82) ?_); refine ⟨_, _, rfl, loads_cell hc0 (on_of rfl), ?_⟩)
              | ((with_reducible refine gL_load (dst := some 176) ?_); refine ⟨_, _, rfl, hM.loads_one (.head _) (on_of rfl) hPk, ?_⟩))
            refine (hnew _).mono ?_
            rintro _ w4 ⟨g4, rfl, hM3⟩
            replace hM := hM.addMem hM3
            clear hM3
            simp only [List.cons_append, List.nil_append] at hM
            go_wp2_with (first
              | ((with_reducible refine gL_buildSlice1 (dst := some 98) hM ?_); refine ⟨_, [.pointer (some ⟨g4, 0, none⟩)], _, _, _, (us_of rfl), (el_of rfl), (by decide), rfl, rfl, rfl, ?_⟩; intro g98 _ hM2; clear hM; have hM := hM2; clear hM2)
              | ((with_reducible refine gL_push (dst := some 99) hM ?_); refine ⟨_, _, some gP, m, capP, _, _, PL, .pointer (some ⟨g4, 0, none⟩), _, rfl, rfl, rfl, (us_of rfl), (el_of rfl), hM.src (.head _), (fun _ _ => .there _ (.there _ (.here _ _ _))), hPll, rfl, hcP, (by simp only [maxLen]; omega), (by omega), ?_⟩; intro oP' cP' _ hM2 _ hP2; obtain ⟨gP', rfl⟩ := hM2.some_of (.tail _ (.tail _ (.head _))) (n := m + 1) (Len.of (by rw [List.length_append, hPll.eq]; rfl)) (by omega); clear hM; have hM := hM2; clear hM2)
              | ((with_reducible refine gL_buildSlice1 (dst := some 101) hM ?_); refine ⟨_, [.slice none 0 0], _, _, _, (us_of rfl), (el_of rfl), (by decide), rfl, rfl, rfl, ?_⟩; intro g101 _ hM2; clear hM; have hM := hM2; clear hM2)
              | ((with_reducible refine gL_push (dst := some 102) hM ?_); refine ⟨_, _, some gA, m, capA, _, _, AL, .slice none 0 0, _, rfl, rfl, rfl, (us_of rfl), (el_of rfl), hM.src (.head _), (fun _ _ => .there _ (.there _ (.there _ (.there _ (.here _ _ _))))), hAll, rfl, hcA, (by simp only [maxLen]; omega), (by omega), ?_⟩; intro oA' cA' _ hM2 _ hA2; obtain ⟨gA', rfl⟩ := hM2.some_of (.tail _ (.tail _ (.tail _ (.tail _ (.head _))))) (n := m + 1) (Len.of (by rw [List.length_append, hAll.eq]; rfl)) (by omega); clear hM; have hM := hM2; clear hM2)
              | ((with_reducible refine gL_load (dst := some 184) ?_); refine ⟨_, _, rfl, hM.loads_one (.tail _ (.tail _ (.tail _ (.head _)))) (on_of rfl) hAk, ?_⟩))
            replace hM := hM.drop.drop
            rw [HPL (), HAL (), HOL ()] at hM
            replace hM := Mem.sc_new (d := ⟨g4, C0, PR.nil⟩) hM
            go_roundw
            case rel => exact ⟨j + 1, gP', gA', cP', cA', ds ++ [⟨g4, C0, PR.nil⟩], ps, by omega, by go_num, by rw [List.length_append, ← Hm ()]; rfl, by rw [List.length_append, ← Hm ()]; rfl, hP2, hA2, hG.new (by rw [← HPJ (), ← HPJ1 ()]; omega) hd0 hG.nil (by simp [PR.nil]) (by decide), hM⟩
            case measure => simp [intOf]; omega
            --]
          ·
            have hBl : Len B nb := Len.of (HNB ()).symm
            have hBsl : ∀ w', Adds w0 w' → Src w' (.slice aB nb cB) nb (B.map B8) := fun w' hw => by
              have h := (hs w' hw).2.2.2.src
              rwa [← HNB ()] at h
            replace hM : Mem [] w0 wr (⟨none, 5, ([] : List UInt8).map B8, 0⟩ :: ⟨some gP, 29, PL, capP * 1⟩ :: ⟨some gA, 22, AL, capA * 1⟩ :: OL) := hM.addNil 5
            go_wp2_with (first
              | ((with_reducible refine gL_load (dst := some 82) ?_); refine ⟨_, _, rfl, loads_cell hc0 (on_of rfl), ?_⟩)
              | ((with_reducible refine gL_load (dst := some 109) ?_); refine ⟨_, _, rfl, loads_cell hcB (on_of rfl), ?_⟩)
              | ((with_reducible refine gL_append_B (dst := some 110) hM ?_); refine ⟨_, _, none, 0, 0, 5, [], B, nb, _, rfl, rfl, rfl, (us_of rfl), (el_of rfl), hBsl _ hM.done, (fun _ _ => .here _ _ _), rfl, hBl, (by decide), (by omega), ?_⟩; intro ob1 cap1 _ hM2 h11 h12; rw [Nat.zero_add] at h11 ⊢; rw [List.nil_append] at hM2; clear hM; have hM := hM2; clear hM2)
              | ((with_reducible refine gL_buildBytes (dst := some 111) hM ?_); refine ⟨_, _, (us_of rfl), (el_of rfl), (by decide), (by decide), rfl, (by (repeat (first | exact EvB.nil | apply EvB.cons rfl (by first | exact (rfl : B8 _ = B8 _) | exact lit8 _ (by decide)))); done), ?_⟩; intro g111 _ hM2; clear hM; have hM := hM2; clear hM2)
              | ((with_reducible refine gL_append_B (dst := some 112) hM ?_); have hx := hM.src (m := 1) (cap := 1) (.head _); refine ⟨_, _, ob1, nb, cap1, 5, B, [119], 1, _, rfl, rfl, rfl, (us_of rfl), (el_of rfl), hx, (fun _ _ => .there _ (.here _ _ _)), hBl, rfl, h12, (by omega), ?_⟩; clear hx; intro ob2 cap2 _ hM2 h21 h22; obtain ⟨gO, rfl⟩ := hM2.some_of (.tail _ (.head _)) (n := nb + 1) (Len.of (by simp [hBl.eq])) (by omega); clear hM; have hM := hM2; clear hM2; have hcapi : (nb : Int) ≤ (cap2 : Int) := by omega)
              | ((with_reducible refine gL_load (dst := some 118) ?_); refine ⟨_, _, rfl, loads_cell (hs _ hM.done).2.2.1 (on_of rfl), ?_⟩)
              | ((with_reducible refine gL_load (dst := some 124) ?_); refine ⟨_, _, rfl, hM.loads_one (.tail _ (.tail _ (.head _))) (on_of rfl) hPk, ?_⟩))
            replace hM := hM.drop
            have hne : gO ≠ d.g := hM.head_ne (.tail _ (.tail _ hOd)) rfl
            have hBt : (B ++ [119]).take nb = B := List.take_left' hBl.eq
            have hBt1 : (B ++ [119]).length = nb + 1 := by simp [hBl.eq]
            have hin := hM.part' (off := 0) (n := nb) (cap := cap2) (.head _) (by omega) (by omega) h22
            rw [List.drop_zero, hBt] at hin
            have hdl : d.r.m.length + B.length ≤ 4611686018427387904 := by rw [hBl.eq]; omega
            have hRo := hM.rowN (.tail _ (.tail _ (.tail _ hOd))) hdig.len
            have hwr := sha_Write _ d.g d.C d.r.m hRo hdig _ B hin (fun _ a n cap he => by cases he; exact hne) hdl
            refine hwr.mono ?_
            clear hwr hRo
            rintro _ w5 ⟨rfl, C', hT, hR', hD'⟩
            have hHas : Has OL (DigB d) (DigB ⟨d.g, C', d.r⟩) ((ds.set k ⟨d.g, C', d.r⟩).map DigB ++ ps.map (PR.blk 5)) := by rw [HOL ()]; exact Has.map_at DigB hd _
            obtain ⟨O2, hO2⟩ : ∃ O, O = (ds.set k ⟨d.g, C', d.r⟩).map DigB ++ ps.map (PR.blk 5) := ⟨_, rfl⟩
            rw [← hO2] at hHas
            have HO2 : ∀ _ : Unit, O2 = (ds.set k ⟨d.g, C', d.r⟩).map DigB ++ ps.map (PR.blk 5) := fun _ => hO2
            clear hO2
            replace hM := hM.calls (.there _ (.there _ (.there _ hHas))) hT hR' hD'.len
            have hOr2 : PR.blk 5 d.r ∈ O2 := by rw [HO2 ()]; exact mem_pool (PR.blk 5) _ hdr
            clear hin hT hR' hne hHas hOr hOd hc0 hc1 hcB hB
            have hin : ∀ w', Adds w5 w' → Bytes w' (.slice (some ⟨gO, 0, none⟩) nb cap2) B := fun w' hw => by
              have h := (hM.adds hw).part' (off := 0) (n := nb) (cap := cap2) (.head _) (by omega) (by omega) h22
              rwa [List.drop_zero, hBt] at h
            have h119 : ∀ w', Adds w5 w' → Loads Try.prog w' 5 ⟨gO, 0 + nb * 1, none⟩ (B8 119) := fun w' hw => (hM.adds hw).loads_one (.head _) (on_of rfl) (by rw [Nat.zero_add, Nat.mul_one, List.map_append, List.getElem?_append_right (by rw [List.length_map, hBl.eq]; exact Nat.le_refl _), List.length_map, hBl.eq, Nat.sub_self]; rfl)
            go_wp2_with fail
            try simp only [Act.put, List.setIfInBounds_toArray, List.set_cons_succ, List.set_cons_zero]
            refine wp_region_tail 17 (by decide) (fun c vals => ⟨#[(Value.slice (some ⟨b, off, none⟩) n capl : Value), c 1, c 2, c 3, c 4, c 5, c 6, c 7, (Value.int .i64 (j : Int) : Value), c 9, (Value.slice (some ⟨gO, 0, none⟩) (nb + 1) cap2 : Value), (Value.slice (some ⟨gO, 0, none⟩) nb cap2 : Value), c 12, c 13, c 14, c 15, c 16, c 17, c 18, c 19, c 20, c 21, c 22, c 23, c 24, c 25, c 26, c 27, c 28, c 29, c 30, c 31, c 32, c 33, c 34, c 35, c 36, c 37, c 38, c 39, c 40, c 41, c 42, c 43, c 44, c 45, c 46, c 47, c 48, c 49, c 50, c 51, c 52, c 53, c 54, c 55, c 56, c 57, c 58, c 59, c 60, c 61, c 62, c 63, c 64, c 65, c 66, c 67, c 68, c 69, c 70, c 71, c 72, c 73, c 74, c 75, c 76, c 77, c 78, c 79, c 80, c 81, c 82, c 83, c 84, c 85, c 86, c 87, c 88, c 89, c 90, c 91, c 92, c 93, c 94, c 95, c 96, c 97, c 98, c 99, c 100, c 101, c 102, c 103, c 104, c 105, c 106, c 107, c 108, c 109, c 110, c 111, c 112, c 113, c 114, c 115, c 116, c 117, c 118, c 119, c 120, c 121, c 122, c 123, c 124, c 125, c 126, vals 0, vals 1, vals 2, vals 3, vals 4, vals 5, vals 6, vals 7, vals 8, vals 9, vals 10, vals 11, vals 12, vals 13, vals 14, vals 15, vals 16, c 144, c 145, c 146, c 147, c 148, c 149, c 150, c 151, c 152, c 153, c 154, c 155, c 156, c 157, c 158, c 159, c 160, c 161, c 162, c 163, c 164, c 165, c 166, c 167, c 168, c 169, c 170, c 171, c 172, c 173, c 174, c 175, c 176, c 177, c 178, c 179, c 180, c 181, c 182, c 183, c 184, c 185, c 186, c 187, c 188, c 189, c 190, c 191, c 192, c 193, c 194, c 195, c 196, c 197, c 198, c 199, c 200, c 201, c 202, c 203, c 204, c 205, c 206, c 207, c 208, c 209, c 210, c 211, c 212, c 213, c 214, c 215, c 216, c 217], []⟩) (fun t => [undef, _, _, _, _, _, _, _, undef, _, undef, undef, _, _, _, _, _, _, _, _, _, _, _, _, _, _, _, _, _, _, _, _, _, _, _, _, _, _, _, _, _, _, _, _, _, _, _, _, _, _, _, _, _, _, _, _, _, _, _, _, _, _, _, _, _, _, _, _, _, _, _, _, _, _, _, _, _, _, _, _, _, _, _, _, _, _, _, _, _, _, _, _, _, _, _, _, _, _, _, _, _, _, _, _, _, _, _, _, _, _, _, _, _, _, _, _, _, _, _, _, _, _, _, _, _, _, _, undef, undef, undef, undef, undef, undef, undef, undef, undef, undef, undef, undef, undef, undef, undef, undef, undef, _, _, _, _, _, _, _, _, _, _, _, _, _, _, _, _, _, _, _, _, _, _, _, _, _, _, _, _, _, _, _, _, _, _, _, _, _, _, _, _, _, _, _, _, _, _, _, _, _, _, _, _, _, _, _, _, _, _, _, _, _, _, _, _, _, _, _, _, _, _, _, _, _, _].getD t undef) (fun i => [_, _, _, _, _, _, _, _, _, _, _, _, _, _, _, _, _].getD i undef) (by kernel_rfl)
              [[], [0], [], [], [2, 3], [2, 3, 4], [2, 3, 4, 5], [2, 3, 4, 5, 6], [0, 1, 2, 3, 4, 5, 6, 7], [0, 1, 2, 3, 4, 5, 6, 7, 8], [0, 1, 2, 3, 4, 5, 6, 7, 8, 9], [0, 1, 2, 3, 4, 5, 6, 7, 8, 9], [0, 1, 2, 3, 4, 5, 6, 7, 8, 9, 11], [0, 1, 2, 3, 4, 5, 6, 7, 8, 9, 10, 11, 12], [0, 1, 2, 3, 4, 5, 6, 7, 8, 9, 10, 11, 12, 13], [0, 1, 2, 3, 4, 5, 6, 7, 8, 9, 10, 11, 12, 13, 14], [0, 1, 2, 3, 4, 5, 6, 7, 8, 9, 10, 11, 12, 13, 14, 15]] (by kernel_rfl) (by kernel_rfl) (fun _ => True) trivial
              [fun x _ => x = (Value.slice (some ⟨gO, 0, none⟩) nb cap2 : Value),
               fun x _ => x = (Value.string ⟨B.toArray⟩ : Value),
               fun x _ => x = (Value.slice (some ⟨b, off, none⟩) n capl : Value),
               fun x _ => x = (Value.int .i64 (j : Int) : Value),
               fun x _ => x = (Value.pointer (some ⟨b, off + j * 3, none⟩) : Value),
               fun x _ => x = (Value.pointer (some ⟨b, off + (j * 3 + 2), none⟩) : Value),
               fun x _ => x = (Value.slice aB nb cB : Value),
               fun x _ => x = (Value.string ⟨B.toArray⟩ : Value),
               fun x _ => x = (Value.bool false : Value),
               fun x _ => x = (Value.bool false : Value),
               fun x _ => x = (Value.slice (some ⟨gO, 0, none⟩) (nb + 1) cap2 : Value),
               fun x _ => x = (Value.slice (some ⟨gO, 0, none⟩) nb cap2 : Value),
               fun x _ => x = (Value.int .i64 (nb : Int) : Value),
               fun x _ => x = (Value.pointer (some ⟨gO, 0 + nb * 1, none⟩) : Value),
               fun x _ => x = (B8 119 : Value),
               fun x _ => x = (Value.bool false : Value),
               fun x _ => x = (Value.bool false : Value)]
              ⟨fun _ _ _ h _ => h, fun _ _ _ h _ => h, fun _ _ _ h _ => h, fun _ _ _ h _ => h, fun _ _ _ h _ => h, fun _ _ _ h _ => h, fun _ _ _ h _ => h, fun _ _ _ h _ => h, fun _ _ _ h _ => h, fun _ _ _ h _ => h, fun _ _ _ h _ => h, fun _ _ _ h _ => h, fun _ _ _ h _ => h, fun _ _ _ h _ => h, fun _ _ _ h _ => h, fun _ _ _ h _ => h, fun _ _ _ h _ => h, trivial⟩ []
              ⟨?_, ?_, ?_, ?_, ?_, ?_, ?_, ?_, ?_, ?_, ?_, ?_, ?_, ?_, ?_, ?_, ?_, trivial⟩ ?_
            · refine showA_op 0 (by intro _ _ _; kernel_rfl) rfl rfl (fun c vals w hC hD => ?_)
              clear hD
              refine makes1 (x := .tmp 11) (X := Value.slice (some ⟨gO, 0, none⟩) nb cap2) (by kernel_rfl : _ = (Value.slice (some ⟨gO, 0, none⟩) nb cap2 : Value)) (fun ρ rc rf q11 => ?_)
              exact makes_move (.inl rfl) q11 ⟨Adds.refl _, rfl⟩
            · refine showA_op 1 (by intro _ _ _; kernel_rfl) rfl rfl (fun c vals w hC hD => ?_)
              have h0 : vals 0 = .slice (some ⟨gO, 0, none⟩) nb cap2 := hD 0 rfl
              clear hD
              refine makes1 (x := .tmp 127) (X := Value.slice (some ⟨gO, 0, none⟩) nb cap2) ((by kernel_rfl : _ = vals 0).trans h0) (fun ρ rc rf q127 => ?_)
              clear h0
              (have hs' := str_of (hin _ hC); refine makes_value (v := .string ⟨B.toArray⟩) ?_ ⟨Adds.refl _, rfl⟩; go_simp)
            · refine showA_op 2 (by intro _ _ _; kernel_rfl) rfl rfl (fun c vals w hC hD => ?_)
              clear hD
              refine makes1 (x := .tmp 0) (X := Value.slice (some ⟨b, off, none⟩) n capl) (by kernel_rfl : _ = (Value.slice (some ⟨b, off, none⟩) n capl : Value)) (fun ρ rc rf q0 => ?_)
              exact makes_move (.inl rfl) q0 ⟨Adds.refl _, rfl⟩
            · refine showA_op 3 (by intro _ _ _; kernel_rfl) rfl rfl (fun c vals w hC hD => ?_)
              clear hD
              refine makes1 (x := .tmp 8) (X := Value.int .i64 (j : Int)) (by kernel_rfl : _ = (Value.int .i64 (j : Int) : Value)) (fun ρ rc rf q8 => ?_)
              exact makes_move (.inl rfl) q8 ⟨Adds.refl _, rfl⟩
            · refine showA_op 4 (by intro _ _ _; kernel_rfl) rfl rfl (fun c vals w hC hD => ?_)
              have h2 : vals 2 = .slice (some ⟨b, off, none⟩) n capl := hD 2 rfl
              have h3 : vals 3 = .int .i64 (j : Int) := hD 3 rfl
              clear hD
              refine makes2 (x := .tmp 129) (X := Value.slice (some ⟨b, off, none⟩) n capl) (y := .tmp 130) (Y := Value.int .i64 (j : Int)) ((by kernel_rfl : _ = vals 2).trans h2) ((by kernel_rfl : _ = vals 3).trans h3) (fun ρ rc rf q129 q130 => ?_)
              clear h2 h3
              exact makes_index (us_of rfl) (el_of rfl) hlt rfl q129 q130 ⟨Adds.refl _, rfl⟩
            · refine showA_op 5 (by intro _ _ _; kernel_rfl) rfl rfl (fun c vals w hC hD => ?_)
              have h4 : vals 4 = .pointer (some ⟨b, off + j * 3, none⟩) := hD 4 rfl
              clear hD
              refine makes1 (x := .tmp 131) (X := Value.pointer (some ⟨b, off + j * 3, none⟩)) ((by kernel_rfl : _ = vals 4).trans h4) (fun ρ rc rf q131 => ?_)
              clear h4
              (refine makes_value (v := .pointer (some ⟨b, off + (j * 3 + 2), none⟩)) ?_ ⟨Adds.refl _, rfl⟩; go_simp)
            · refine showA_op 6 (by intro _ _ _; kernel_rfl) rfl rfl (fun c vals w hC hD => ?_)
              have h5 : vals 5 = .pointer (some ⟨b, off + (j * 3 + 2), none⟩) := hD 5 rfl
              clear hD
              refine makes1 (x := .tmp 132) (X := Value.pointer (some ⟨b, off + (j * 3 + 2), none⟩)) ((by kernel_rfl : _ = vals 5).trans h5) (fun ρ rc rf q132 => ?_)
              clear h5
              exact makes_load (loads_cell (hs _ (hM.adds hC).done).2.2.1 (on_of rfl)) rfl q132 ⟨Adds.refl _, rfl⟩
            · refine showA_op 7 (by intro _ _ _; kernel_rfl) rfl rfl (fun c vals w hC hD => ?_)
              have h6 : vals 6 = .slice aB nb cB := hD 6 rfl
              clear hD
              refine makes1 (x := .tmp 133) (X := Value.slice aB nb cB) ((by kernel_rfl : _ = vals 6).trans h6) (fun ρ rc rf q133 => ?_)
              clear h6
              (have hs' := str_of ((hs _ (hM.adds hC).done).2.2.2); refine makes_value (v := .string ⟨B.toArray⟩) ?_ ⟨Adds.refl _, rfl⟩; go_simp)
            · refine showA_op 8 (by intro _ _ _; kernel_rfl) rfl rfl (fun c vals w hC hD => ?_)
              have h1 : vals 1 = .string ⟨B.toArray⟩ := hD 1 rfl
              have h7 : vals 7 = .string ⟨B.toArray⟩ := hD 7 rfl
              clear hD
              refine makes2 (x := .tmp 128) (X := Value.string ⟨B.toArray⟩) (y := .tmp 134) (Y := Value.string ⟨B.toArray⟩) ((by kernel_rfl : _ = vals 1).trans h1) ((by kernel_rfl : _ = vals 7).trans h7) (fun ρ rc rf q128 q134 => ?_)
              clear h1 h7
              refine makes_value (v := Value.bool false) ?_ ⟨Adds.refl _, rfl⟩
              go_simp
              all_goals first | done | rfl | (rw [if_pos (by omega)]; refine congrArg (fun x => Result.ok (Next.value (Value.pointer (some ⟨_, x, none⟩))) _) ?_; omega) | (rw [wrapP_i64]; omega) | go_num | (simp; done) | (simp; omega) | (congr 1; first | rfl | (rw [wrapP_i64]; omega) | (congr 1; first | rfl | (simp; done) | (simp; omega) | (congr 2; omega) | go_num))
            · refine showA_op 9 (by intro _ _ _; kernel_rfl) rfl rfl (fun c vals w hC hD => ?_)
              have h8 : vals 8 = .bool false := hD 8 rfl
              clear hD
              refine makes1 (x := .tmp 135) (X := Value.bool false) ((by kernel_rfl : _ = vals 8).trans h8) (fun ρ rc rf q135 => ?_)
              clear h8
              exact makes_move (.inl rfl) q135 ⟨Adds.refl _, rfl⟩
            · refine showA_run 10 (by intro _ _ _; kernel_rfl) (j := 9) (want := false) rfl rfl rfl (by intro _ _; kernel_rfl) rfl (fun c vals w hC hD => ⟨hD 9 rfl, ?_⟩)
              clear hD
              refine makes1 (x := .tmp 10) (X := Value.slice (some ⟨gO, 0, none⟩) (nb + 1) cap2) (by kernel_rfl : _ = (Value.slice (some ⟨gO, 0, none⟩) (nb + 1) cap2 : Value)) (fun ρ rc rf q10 => ?_)
              exact makes_move (.inl rfl) q10 ⟨Adds.refl _, rfl⟩
            · refine showA_run 11 (by intro _ _ _; kernel_rfl) (j := 9) (want := false) rfl rfl rfl (by intro _ _; kernel_rfl) rfl (fun c vals w hC hD => ⟨hD 9 rfl, ?_⟩)
              clear hD
              refine makes1 (x := .tmp 11) (X := Value.slice (some ⟨gO, 0, none⟩) nb cap2) (by kernel_rfl : _ = (Value.slice (some ⟨gO, 0, none⟩) nb cap2 : Value)) (fun ρ rc rf q11 => ?_)
              exact makes_move (.inl rfl) q11 ⟨Adds.refl _, rfl⟩
            · refine showA_run 12 (by intro _ _ _; kernel_rfl) (j := 9) (want := false) rfl rfl rfl (by intro _ _; kernel_rfl) rfl (fun c vals w hC hD => ⟨hD 9 rfl, ?_⟩)
              have h11 : vals 11 = .slice (some ⟨gO, 0, none⟩) nb cap2 := hD 11 rfl
              clear hD
              refine makes1 (x := .tmp 138) (X := Value.slice (some ⟨gO, 0, none⟩) nb cap2) ((by kernel_rfl : _ = vals 11).trans h11) (fun ρ rc rf q138 => ?_)
              clear h11
              refine makes_value (v := Value.int .i64 (nb : Int)) ?_ ⟨Adds.refl _, rfl⟩
              go_simp
              all_goals first | done | rfl | (rw [if_pos (by omega)]; refine congrArg (fun x => Result.ok (Next.value (Value.pointer (some ⟨_, x, none⟩))) _) ?_; omega) | (rw [wrapP_i64]; omega) | go_num | (simp; done) | (simp; omega) | (congr 1; first | rfl | (rw [wrapP_i64]; omega) | (congr 1; first | rfl | (simp; done) | (simp; omega) | (congr 2; omega) | go_num))
            · refine showA_run 13 (by intro _ _ _; kernel_rfl) (j := 9) (want := false) rfl rfl rfl (by intro _ _; kernel_rfl) rfl (fun c vals w hC hD => ⟨hD 9 rfl, ?_⟩)
              have h10 : vals 10 = .slice (some ⟨gO, 0, none⟩) (nb + 1) cap2 := hD 10 rfl
              have h12 : vals 12 = .int .i64 (nb : Int) := hD 12 rfl
              clear hD
              refine makes2 (x := .tmp 137) (X := Value.slice (some ⟨gO, 0, none⟩) (nb + 1) cap2) (y := .tmp 139) (Y := Value.int .i64 (nb : Int)) ((by kernel_rfl : _ = vals 10).trans h10) ((by kernel_rfl : _ = vals 12).trans h12) (fun ρ rc rf q137 q139 => ?_)
              clear h10 h12
              exact makes_index (us_of rfl) (el_of rfl) (Nat.lt_succ_self nb) rfl q137 q139 ⟨Adds.refl _, rfl⟩
            · refine showA_run 14 (by intro _ _ _; kernel_rfl) (j := 9) (want := false) rfl rfl rfl (by intro _ _; kernel_rfl) rfl (fun c vals w hC hD => ⟨hD 9 rfl, ?_⟩)
              have h13 : vals 13 = .pointer (some ⟨gO, 0 + nb * 1, none⟩) := hD 13 rfl
              clear hD
              refine makes1 (x := .tmp 140) (X := Value.pointer (some ⟨gO, 0 + nb * 1, none⟩)) ((by kernel_rfl : _ = vals 13).trans h13) (fun ρ rc rf q140 => ?_)
              clear h13
              exact makes_load (h119 _ hC) rfl q140 ⟨Adds.refl _, rfl⟩
            · refine showA_run 15 (by intro _ _ _; kernel_rfl) (j := 9) (want := false) rfl rfl rfl (by intro _ _; kernel_rfl) rfl (fun c vals w hC hD => ⟨hD 9 rfl, ?_⟩)
              have h14 : vals 14 = B8 119 := hD 14 rfl
              clear hD
              refine makes1 (x := .tmp 141) (X := B8 119) ((by kernel_rfl : _ = vals 14).trans h14) (fun ρ rc rf q141 => ?_)
              clear h14
              refine makes_value (v := Value.bool false) ?_ ⟨Adds.refl _, rfl⟩
              go_simp
              all_goals first | done | rfl | (rw [if_pos (by omega)]; refine congrArg (fun x => Result.ok (Next.value (Value.pointer (some ⟨_, x, none⟩))) _) ?_; omega) | (rw [wrapP_i64]; omega) | go_num | (simp; done) | (simp; omega) | (congr 1; first | rfl | (rw [wrapP_i64]; omega) | (congr 1; first | rfl | (simp; done) | (simp; omega) | (congr 2; omega) | go_num))
            · refine showA_op 16 (by intro _ _ _; kernel_rfl) rfl rfl (fun c vals w hC hD => ?_)
              have h9 : vals 9 = .bool false := hD 9 rfl
              have h15 : vals 15 = .bool false := hD 15 rfl
              clear hD
              refine makes2 (x := .tmp 136) (X := Value.bool false) (y := .tmp 142) (Y := Value.bool false) ((by kernel_rfl : _ = vals 9).trans h9) ((by kernel_rfl : _ = vals 15).trans h15) (fun ρ rc rf q136 q142 => ?_)
              clear h9 h15
              refine makes_value (v := Value.bool false) ?_ ⟨Adds.refl _, rfl⟩
              go_simp
              all_goals first | done | rfl | (rw [if_pos (by omega)]; refine congrArg (fun x => Result.ok (Next.value (Value.pointer (some ⟨_, x, none⟩))) _) ?_; omega) | (rw [wrapP_i64]; omega) | go_num | (simp; done) | (simp; omega) | (congr 1; first | rfl | (rw [wrapP_i64]; omega) | (congr 1; first | rfl | (simp; done) | (simp; omega) | (congr 2; omega) | go_num))
            intro vals w' hC hΦ hne
            have h16 : vals 16 = .bool false := hΦ 16 (by decide)
            clear hΦ hne
            simp only [List.getD_eq_getElem?_getD, List.getElem?_cons_zero, List.getElem?_cons_succ, Option.getD_some, List.drop_succ_cons, List.drop_zero]
            simp only [h16]
            clear h16
            try simp only [tuple_undef]
            replace hM := hM.adds hC
            clear hC hin h119
            go_wp2_with fail
            go_loopw [12] (fun i wr => ∃ (q : Nat) (X : List UInt8), q ≤ nb ∧ i = .int .i64 q ∧ Len X (nb + 1) ∧ Mem [] w0 wr (⟨some gO, 5, X.map B8, cap2⟩ :: ⟨some gP, 29, PL, capP * 1⟩ :: ⟨some gA, 22, AL, capA * 1⟩ :: O2)) (fun i _ => nb - (intOf i).toNat)
            case atStart => exact ⟨0, B ++ [119], by omega, rfl, hBt1, hM⟩
            case round =>
              clear hM
              obtain ⟨q, X, hq, rfl, hXl, hM⟩ := hrel
              by_cases hqn : q < nb
              · have hqi : (q : Int) < (nb : Int) := by omega
                go_wp2_with (first
                  | ((with_reducible refine gL_load (dst := some 153) ?_); refine ⟨_, _, rfl, hM.loads_B8 (.head _) (on_of rfl) (by have := hXl.eq; omega), ?_⟩)
                  | ((with_reducible refine gL_store hM ?_); refine ⟨_, _, _, rfl, rfl, hM.stores_B8 (by first | exact (rfl : B8 _ = B8 _) | exact lit8 _ (by decide)) (.here _ _ _) (on_of rfl) (by have := hXl.eq; omega), ?_⟩; intro _ hM2; clear hM; have hM := hM2; clear hM2))
                go_roundw
                case rel => exact ⟨q + 1, _, by omega, by go_num, hXl.set _ _, hM⟩
                case measure => simp [intOf]; omega
              · have hqe : nb = q := by omega
                subst hqe
                have hqi : ¬ (nb : Int) < (nb : Int) := by omega
                go_wp2_with fail
                have hBd : ∀ w', Adds wr w' → Bytes w' (sl d.r.ob d.r.m.length d.r.cap) d.r.m := fun w' hb => PR.bytes (t := 5) (hM.adds hb) (.tail _ (.tail _ (.tail _ hOr2))) hdc
                obtain ⟨mm, hmm⟩ : ∃ mm, mm = d.r.m.length := ⟨_, rfl⟩
                have hBdS : ∀ w', Adds wr w' → Src w' (sl d.r.ob mm d.r.cap) mm (d.r.m.map B8) := fun w' hb => by rw [hmm]; exact (hBd w' hb).src
                rw [← hmm] at hAk hds
                have HMM : ∀ _ : Unit, mm = d.r.m.length := fun _ => hmm
                clear hBd hmm
                try simp only [Act.put, List.setIfInBounds_toArray, List.set_cons_succ, List.set_cons_zero]
                refine wp_region_writer 12 (by decide) [0, 1] (fun c vals => ⟨#[(Value.slice (some ⟨b, off, none⟩) n capl : Value), c 1, c 2, c 3, c 4, c 5, c 6, (Value.slice (some ⟨gA, 0, none⟩) m capA : Value), (Value.int .i64 (j : Int) : Value), (Value.int .i64 (k : Int) : Value), c 10, c 11, c 12, c 13, c 14, c 15, c 16, c 17, c 18, c 19, c 20, c 21, c 22, c 23, c 24, c 25, c 26, c 27, c 28, c 29, c 30, c 31, c 32, c 33, c 34, c 35, c 36, c 37, c 38, c 39, c 40, c 41, c 42, c 43, c 44, c 45, c 46, c 47, c 48, c 49, c 50, c 51, c 52, c 53, c 54, c 55, c 56, c 57, c 58, c 59, c 60, c 61, c 62, c 63, c 64, c 65, c 66, c 67, c 68, c 69, c 70, c 71, c 72, c 73, c 74, c 75, c 76, c 77, c 78, c 79, c 80, c 81, c 82, c 83, c 84, c 85, c 86, c 87, c 88, c 89, c 90, c 91, c 92, c 93, c 94, c 95, c 96, c 97, c 98, c 99, c 100, c 101, c 102, c 103, c 104, c 105, c 106, c 107, c 108, c 109, c 110, c 111, c 112, c 113, c 114, c 115, c 116, c 117, c 118, c 119, c 120, c 121, c 122, c 123, c 124, c 125, c 126, c 127, c 128, c 129, c 130, c 131, c 132, c 133, c 134, c 135, c 136, c 137, c 138, c 139, c 140, c 141, c 142, c 143, c 144, c 145, c 146, c 147, c 148, c 149, c 150, c 151, c 152, c 153, c 154, c 155, vals 0, vals 1, vals 2, vals 3, vals 4, vals 5, vals 6, vals 7, vals 8, vals 9, vals 10, vals 11, vals 12, c 169, c 170, c 171, c 172, c 173, c 174, c 175, c 176, c 177, c 178, c 179, c 180, c 181, c 182, c 183, c 184, c 185, c 186, c 187, c 188, c 189, c 190, c 191, c 192, c 193, c 194, c 195, c 196, c 197, c 198, c 199, c 200, c 201, c 202, c 203, c 204, c 205, c 206, c 207, c 208, c 209, c 210, c 211, c 212, c 213, c 214, c 215, c 216, c 217], []⟩) (fun t => [undef, _, _, _, _, _, _, undef, undef, undef, _, _, _, _, _, _, _, _, _, _, _, _, _, _, _, _, _, _, _, _, _, _, _, _, _, _, _, _, _, _, _, _, _, _, _, _, _, _, _, _, _, _, _, _, _, _, _, _, _, _, _, _, _, _, _, _, _, _, _, _, _, _, _, _, _, _, _, _, _, _, _, _, _, _, _, _, _, _, _, _, _, _, _, _, _, _, _, _, _, _, _, _, _, _, _, _, _, _, _, _, _, _, _, _, _, _, _, _, _, _, _, _, _, _, _, _, _, _, _, _, _, _, _, _, _, _, _, _, _, _, _, _, _, _, _, _, _, _, _, _, _, _, _, _, _, _, undef, undef, undef, undef, undef, undef, undef, undef, undef, undef, undef, undef, undef, _, _, _, _, _, _, _, _, _, _, _, _, _, _, _, _, _, _, _, _, _, _, _, _, _, _, _, _, _, _, _, _, _, _, _, _, _, _, _, _, _, _, _, _, _, _, _, _, _].getD t undef) (fun i => [_, _, _, _, _, _, _, _, _, _, _, _, _].getD i undef) (by kernel_rfl)
                  [[], [], [], [], [2, 3], [2, 3, 4], [2, 3, 4, 5], [], [], [7, 8], [7, 8, 9], [7, 8, 9, 10], [2, 3, 4, 5, 6, 7, 8, 9, 10, 11], [0, 1, 2, 3, 4, 5, 6, 7, 8, 9, 10, 11, 12], [0, 1, 2, 3, 4, 5, 6, 7, 8, 9, 10, 11, 12, 13]] (by kernel_rfl) (by kernel_rfl) (fun _ => True) trivial
                  [fun x _ => x = (Value.slice (some ⟨gA, 0, none⟩) m capA : Value),
                   fun x _ => x = (Value.int .i64 (k : Int) : Value),
                   fun x _ => x = (Value.slice (some ⟨gA, 0, none⟩) m capA : Value),
                   fun x _ => x = (Value.int .i64 (k : Int) : Value),
                   fun x _ => x = (Value.pointer (some ⟨gA, 0 + k * 1, none⟩) : Value),
                   fun x _ => x = (sl d.r.ob mm d.r.cap : Value),
                   fun (xx : Value) (ww : World) => ∃ o6 c6, xx = sl o6 mm c6 ∧ c6 ≤ maxLen ∧ Mem [] wr ww [⟨o6, 5, d.r.m.map B8, c6 * 1⟩],
                   fun x _ => x = (Value.slice (some ⟨b, off, none⟩) n capl : Value),
                   fun x _ => x = (Value.int .i64 (j : Int) : Value),
                   fun x _ => x = (Value.pointer (some ⟨b, off + j * 3, none⟩) : Value),
                   fun x _ => x = (Value.pointer (some ⟨b, off + (j * 3 + 2), none⟩) : Value),
                   fun x _ => x = (Value.slice aB nb cB : Value)]
                  ⟨fun _ _ _ h _ => h, fun _ _ _ h _ => h, fun _ _ _ h _ => h, fun _ _ _ h _ => h, fun _ _ _ h _ => h, fun _ _ _ h _ => h, fun _ _ _ h hb => (let ⟨o6, c6, h1, h2, h3⟩ := h; ⟨o6, c6, h1, h2, h3.adds hb⟩), fun _ _ _ h _ => h, fun _ _ _ h _ => h, fun _ _ _ h _ => h, fun _ _ _ h _ => h, fun _ _ _ h _ => h, trivial⟩
                  [fun x => x = (Value.slice (some ⟨gA, 0, none⟩) m capA : Value), fun x => x = (Value.int .i64 (k : Int) : Value), fun x => x = (Value.slice (some ⟨gA, 0, none⟩) m capA : Value), fun x => x = (Value.int .i64 (k : Int) : Value), fun x => x = (Value.pointer (some ⟨gA, 0 + k * 1, none⟩) : Value), fun x => x = (sl d.r.ob mm d.r.cap : Value), fun _ => True, fun x => x = (Value.slice (some ⟨b, off, none⟩) n capl : Value), fun x => x = (Value.int .i64 (j : Int) : Value), fun x => x = (Value.pointer (some ⟨b, off + j * 3, none⟩) : Value), fun x => x = (Value.pointer (some ⟨b, off + (j * 3 + 2), none⟩) : Value), fun x => x = (Value.slice aB nb cB : Value)]
                  (fun i => match i with | 0 => fun _ _ _ h => h | 1 => fun _ _ _ h => h | 2 => fun _ _ _ h => h | 3 => fun _ _ _ h => h | 4 => fun _ _ _ h => h | 5 => fun _ _ _ h => h | 6 => fun _ _ _ h => trivial | 7 => fun _ _ _ h => h | 8 => fun _ _ _ h => h | 9 => fun _ _ _ h => h | 10 => fun _ _ _ h => h | 11 => fun _ _ _ h => h | (_ + 12) => fun _ _ h _ => absurd h (by omega))
                  (fun v w' => ∃ ob' cap', v = sl ob' (mm + nb) cap' ∧ cap' ≤ maxLen ∧ Mem [] w0 w' (⟨ob', 5, d.r.m.map B8 ++ B.map B8, cap' * 1⟩ :: ⟨some gO, 5, X.map B8, cap2⟩ :: ⟨some gP, 29, PL, capP * 1⟩ :: ⟨some gA, 22, AL, capA * 1⟩ :: O2))
                  ⟨?_, ?_, ?_, ?_, ?_, ?_, ?_, ?_, ?_, ?_, ?_, ?_, trivial⟩ ?_ ?_ ?_
                · refine showA_op 0 (by intro _ _ _; kernel_rfl) rfl rfl (fun c vals w hC hD => ?_)
                  clear hD
                  refine makes1 (x := .tmp 7) (X := Value.slice (some ⟨gA, 0, none⟩) m capA) (by kernel_rfl : _ = (Value.slice (some ⟨gA, 0, none⟩) m capA : Value)) (fun ρ rc rf q7 => ?_)
                  exact makes_move (.inl rfl) q7 ⟨Adds.refl _, rfl⟩
                · refine showA_op 1 (by intro _ _ _; kernel_rfl) rfl rfl (fun c vals w hC hD => ?_)
                  clear hD
                  refine makes1 (x := .tmp 9) (X := Value.int .i64 (k : Int)) (by kernel_rfl : _ = (Value.int .i64 (k : Int) : Value)) (fun ρ rc rf q9 => ?_)
                  exact makes_move (.inl rfl) q9 ⟨Adds.refl _, rfl⟩
                · refine showA_op 2 (by intro _ _ _; kernel_rfl) rfl rfl (fun c vals w hC hD => ?_)
                  clear hD
                  refine makes1 (x := .tmp 7) (X := Value.slice (some ⟨gA, 0, none⟩) m capA) (by kernel_rfl : _ = (Value.slice (some ⟨gA, 0, none⟩) m capA : Value)) (fun ρ rc rf q7 => ?_)
                  exact makes_move (.inl rfl) q7 ⟨Adds.refl _, rfl⟩
                · refine showA_op 3 (by intro _ _ _; kernel_rfl) rfl rfl (fun c vals w hC hD => ?_)
                  clear hD
                  refine makes1 (x := .tmp 9) (X := Value.int .i64 (k : Int)) (by kernel_rfl : _ = (Value.int .i64 (k : Int) : Value)) (fun ρ rc rf q9 => ?_)
                  exact makes_move (.inl rfl) q9 ⟨Adds.refl _, rfl⟩
                · refine showA_op 4 (by intro _ _ _; kernel_rfl) rfl rfl (fun c vals w hC hD => ?_)
                  have h2 : vals 2 = .slice (some ⟨gA, 0, none⟩) m capA := hD 2 rfl
                  have h3 : vals 3 = .int .i64 (k : Int) := hD 3 rfl
                  clear hD
                  refine makes2 (x := .tmp 158) (X := Value.slice (some ⟨gA, 0, none⟩) m capA) (y := .tmp 159) (Y := Value.int .i64 (k : Int)) ((by kernel_rfl : _ = vals 2).trans h2) ((by kernel_rfl : _ = vals 3).trans h3) (fun ρ rc rf q158 q159 => ?_)
                  clear h2 h3
                  exact makes_index (us_of rfl) (el_of rfl) hkm rfl q158 q159 ⟨Adds.refl _, rfl⟩
                · refine showA_op 5 (by intro _ _ _; kernel_rfl) rfl rfl (fun c vals w hC hD => ?_)
                  have h4 : vals 4 = .pointer (some ⟨gA, 0 + k * 1, none⟩) := hD 4 rfl
                  clear hD
                  refine makes1 (x := .tmp 160) (X := Value.pointer (some ⟨gA, 0 + k * 1, none⟩)) ((by kernel_rfl : _ = vals 4).trans h4) (fun ρ rc rf q160 => ?_)
                  clear h4
                  exact makes_load ((hM.adds hC).loads_one (.tail _ (.tail _ (.head _))) (on_of rfl) (by rw [Nat.zero_add, Nat.mul_one]; exact hAk)) rfl q160 ⟨Adds.refl _, rfl⟩
                · refine showA_op 6 (by intro _ _ _; kernel_rfl) rfl rfl (fun c vals w hC hD => ?_)
                  have h5 : vals 5 = sl d.r.ob mm d.r.cap := hD 5 rfl
                  clear hD
                  refine makes1 (x := .tmp 161) (X := sl d.r.ob mm d.r.cap) ((by kernel_rfl : _ = vals 5).trans h5) (fun ρ rc rf q161 => ?_)
                  clear h5
                  exact makes_append_nil rfl (rc _) (us_of rfl) (el_of rfl) q161 (hBdS _ hC) (by rw [List.length_map, Nat.mul_one]; exact (HMM ()).symm) B8_one (by simp only [maxLen]; omega) (by omega) (fun o6 c6 w' h1 h2 h3 => ⟨h1.done, o6, c6, rfl, h3, ((Mem.start _).adds hC).join h1 (by simp)⟩)
                · refine showA_op 7 (by intro _ _ _; kernel_rfl) rfl rfl (fun c vals w hC hD => ?_)
                  clear hD
                  refine makes1 (x := .tmp 0) (X := Value.slice (some ⟨b, off, none⟩) n capl) (by kernel_rfl : _ = (Value.slice (some ⟨b, off, none⟩) n capl : Value)) (fun ρ rc rf q0 => ?_)
                  exact makes_move (.inl rfl) q0 ⟨Adds.refl _, rfl⟩
                · refine showA_op 8 (by intro _ _ _; kernel_rfl) rfl rfl (fun c vals w hC hD => ?_)
                  clear hD
                  refine makes1 (x := .tmp 8) (X := Value.int .i64 (j : Int)) (by kernel_rfl : _ = (Value.int .i64 (j : Int) : Value)) (fun ρ rc rf q8 => ?_)
                  exact makes_move (.inl rfl) q8 ⟨Adds.refl _, rfl⟩
                · refine showA_op 9 (by intro _ _ _; kernel_rfl) rfl rfl (fun c vals w hC hD => ?_)
                  have h7 : vals 7 = .slice (some ⟨b, off, none⟩) n capl := hD 7 rfl
                  have h8 : vals 8 = .int .i64 (j : Int) := hD 8 rfl
                  clear hD
                  refine makes2 (x := .tmp 163) (X := Value.slice (some ⟨b, off, none⟩) n capl) (y := .tmp 164) (Y := Value.int .i64 (j : Int)) ((by kernel_rfl : _ = vals 7).trans h7) ((by kernel_rfl : _ = vals 8).trans h8) (fun ρ rc rf q163 q164 => ?_)
                  clear h7 h8
                  exact makes_index (us_of rfl) (el_of rfl) hlt rfl q163 q164 ⟨Adds.refl _, rfl⟩
                · refine showA_op 10 (by intro _ _ _; kernel_rfl) rfl rfl (fun c vals w hC hD => ?_)
                  have h9 : vals 9 = .pointer (some ⟨b, off + j * 3, none⟩) := hD 9 rfl
                  clear hD
                  refine makes1 (x := .tmp 165) (X := Value.pointer (some ⟨b, off + j * 3, none⟩)) ((by kernel_rfl : _ = vals 9).trans h9) (fun ρ rc rf q165 => ?_)
                  clear h9
                  (refine makes_value (v := .pointer (some ⟨b, off + (j * 3 + 2), none⟩)) ?_ ⟨Adds.refl _, rfl⟩; go_simp)
                · refine showA_op 11 (by intro _ _ _; kernel_rfl) rfl rfl (fun c vals w hC hD => ?_)
                  have h10 : vals 10 = .pointer (some ⟨b, off + (j * 3 + 2), none⟩) := hD 10 rfl
                  clear hD
                  refine makes1 (x := .tmp 166) (X := Value.pointer (some ⟨b, off + (j * 3 + 2), none⟩)) ((by kernel_rfl : _ = vals 10).trans h10) (fun ρ rc rf q166 => ?_)
                  clear h10
                  exact makes_load (loads_cell (hs _ (hM.adds hC).done).2.2.1 (on_of rfl)) rfl q166 ⟨Adds.refl _, rfl⟩
                · intro i o hi hF ho vals w' K hK
                  obtain rfl | rfl : i = 0 ∨ i = 1 := by simpa using hF
                  all_goals (cases ho; exact free_move rfl rfl rfl hK (by intro _; kernel_rfl) rfl)
                · intro o ho vals w' hC hD K hK
                  cases ho
                  have h2 : vals 2 = Value.slice (some ⟨gA, 0, none⟩) m capA := hD 2 (by decide) rfl
                  have h3 : vals 3 = Value.int .i64 (k : Int) := hD 3 (by decide) rfl
                  have h4 : vals 4 = Value.pointer (some ⟨gA, 0 + k * 1, none⟩) := hD 4 (by decide) rfl
                  have h5 : vals 5 = sl d.r.ob mm d.r.cap := hD 5 (by decide) rfl
                  have h6 : (fun (xx : Value) (ww : World) => ∃ o6 c6, xx = sl o6 mm c6 ∧ c6 ≤ maxLen ∧ Mem [] wr ww [⟨o6, 5, d.r.m.map B8, c6 * 1⟩]) (vals 6) w' := hD 6 (by decide) rfl
                  have h7 : vals 7 = Value.slice (some ⟨b, off, none⟩) n capl := hD 7 (by decide) rfl
                  have h8 : vals 8 = Value.int .i64 (j : Int) := hD 8 (by decide) rfl
                  have h9 : vals 9 = Value.pointer (some ⟨b, off + j * 3, none⟩) := hD 9 (by decide) rfl
                  have h10 : vals 10 = Value.pointer (some ⟨b, off + (j * 3 + 2), none⟩) := hD 10 (by decide) rfl
                  have h11 : vals 11 = Value.slice aB nb cB := hD 11 (by decide) rfl
                  clear hD
                  refine writer_of rfl hK (by intro _; kernel_rfl) (fun K2 hK2 => ?_)
                  clear hK
                  (obtain ⟨o6, c6, e6, hc6, m6⟩ := h6; have m7 := hM.addMem m6; simp only [List.cons_append, List.nil_append] at m7; exact m7.wp_append rfl ((by kernel_rfl : _ = vals 6).trans e6) (us_of rfl) (el_of rfl) (fun _ _ => .here _ _ _) rfl (by rw [List.length_map, Nat.mul_one]; exact (HMM ()).symm) hc6 ((by kernel_rfl : _ = vals 11).trans h11) (hBsl _ (hM.adds hC).done) (by rw [List.length_map, Nat.mul_one]; exact hBl.eq) B8_one (by simp only [maxLen]; omega) (by omega) (fun ob' cap' w2 hM2 g1 g2 => hK2 _ _ ⟨ob', cap', rfl, g2, hM2⟩))
                intro vals w' hS hΦ
                have h0 : vals 0 = .slice (some ⟨gA, 0, none⟩) m capA := hΦ 0 (by decide)
                have h1 : vals 1 = .int .i64 (k : Int) := hΦ 1 (by decide)
                have h11 : vals 11 = .slice aB nb cB := hΦ 11 (by decide)
                clear hΦ
                simp only [List.drop_succ_cons, List.drop_zero]
                simp only [h0, h1, h11]
                clear h0 h1 h11
                simp only [List.getD_eq_getElem?_getD, List.getElem?_cons_zero, List.getElem?_cons_succ, Option.getD_some]
                obtain ⟨ob', cap', e7, h8, hM2⟩ := hS
                clear hM
                have hM := hM2
                clear hM2
                rw [e7]
                clear e7
                go_wp2_with (first
                  | ((with_reducible refine gL_store hM ?_); refine ⟨_, _, _, rfl, rfl, hM.stores_one (.there _ (.there _ (.there _ (.here _ _ _)))) (on_of rfl) (by have := hAll.eq; omega) rfl rfl, ?_⟩; intro _ hM2; clear hM; have hM := hM2; clear hM2))
                replace hM := hM.drop2
                have hrv : sl ob' (mm + nb) cap' = (PR.mk ob' (d.r.m ++ B) cap').v := by simp [PR.v, hBl.eq, HMM ()]
                rw [hrv, HPL (), HAL (), HO2 (), Nat.mul_one cap', ← List.map_append] at hM
                replace hM := Mem.sc_wrote (d' := ⟨d.g, C', ⟨ob', d.r.m ++ B, cap'⟩⟩) (r := ⟨ob', d.r.m ++ B, cap'⟩) hd rfl hM
                simp only [show (Value.tuple #[] : Value) = undef from rfl]
                go_roundw
                case rel => exact ⟨j + 1, gP, gA, capP, capA, _, _, by omega, by go_num, by rw [List.length_set, ← Hm ()], by rw [List.length_set, ← Hm ()], hcP, hcA, hG.wrote (by rw [← HPJ (), ← HPJ1 (), hBl.eq]; exact hpj) hd rfl hD' h8, hM⟩
                case measure => simp [intOf]; omega
          · --[
            go_wp2_with (first
              | ((with_reducible refine gL_load (dst := some 82) ?_); refine ⟨_, _, rfl, loads_cell hc0 (on_of rfl), ?_⟩)
              | ((with_reducible refine gL_load (dst := some 176) ?_); refine ⟨_, _, rfl, hM.loads_one (.head _) (on_of rfl) hPk, ?_⟩))
            refine (sha_Copy _ d.g d.C (hM.rowN (.tail _ (.tail _ hOd)) hdig.len) hdig.len hdig.one).mono ?_
            rintro _ w4 ⟨g4, rfl, hM3⟩
            replace hM := hM.addMem hM3
            clear hM3
            simp only [List.cons_append, List.nil_append] at hM
            go_wp2_with (first
              | ((with_reducible refine gL_buildSlice1 (dst := some 178) hM ?_); refine ⟨_, [.pointer (some ⟨g4, 0, none⟩)], _, _, _, (us_of rfl), (el_of rfl), (by decide), rfl, rfl, rfl, ?_⟩; intro g178 _ hM2; clear hM; have hM := hM2; clear hM2)
              | ((with_reducible refine gL_push (dst := some 179) hM ?_); refine ⟨_, _, some gP, m, capP, _, _, PL, .pointer (some ⟨g4, 0, none⟩), _, rfl, rfl, rfl, (us_of rfl), (el_of rfl), hM.src (.head _), (fun _ _ => .there _ (.there _ (.here _ _ _))), hPll, rfl, hcP, (by simp only [maxLen]; omega), (by omega), ?_⟩; intro oP' cP' _ hM2 _ hP2; obtain ⟨gP', rfl⟩ := hM2.some_of (.tail _ (.tail _ (.head _))) (n := m + 1) (Len.of (by rw [List.length_append, hPll.eq]; rfl)) (by omega); clear hM; have hM := hM2; clear hM2)
              | ((with_reducible refine gL_buildSlice1 (dst := some 185) hM ?_); refine ⟨_, [sl d.r.ob d.r.m.length d.r.cap], _, _, _, (us_of rfl), (el_of rfl), (by decide), rfl, rfl, rfl, ?_⟩; intro g185 _ hM2; clear hM; have hM := hM2; clear hM2)
              | ((with_reducible refine gL_push (dst := some 186) hM ?_); refine ⟨_, _, some gA, m, capA, _, _, AL, sl d.r.ob d.r.m.length d.r.cap, _, rfl, rfl, rfl, (us_of rfl), (el_of rfl), hM.src (.head _), (fun _ _ => .there _ (.there _ (.there _ (.there _ (.here _ _ _))))), hAll, rfl, hcA, (by simp only [maxLen]; omega), (by omega), ?_⟩; intro oA' cA' _ hM2 _ hA2; obtain ⟨gA', rfl⟩ := hM2.some_of (.tail _ (.tail _ (.tail _ (.tail _ (.head _))))) (n := m + 1) (Len.of (by rw [List.length_append, hAll.eq]; rfl)) (by omega); clear hM; have hM := hM2; clear hM2)
              | ((with_reducible refine gL_load (dst := some 184) ?_); refine ⟨_, _, rfl, hM.loads_one (.tail _ (.tail _ (.tail _ (.head _)))) (on_of rfl) hAk, ?_⟩))
            replace hM := hM.drop.drop
            rw [HPL (), HAL (), HOL ()] at hM
            replace hM := Mem.sc_new (d := ⟨g4, d.C, d.r⟩) hM
            go_roundw
            case rel => exact ⟨j + 1, gP', gA', cP', cA', ds ++ [⟨g4, d.C, d.r⟩], ps, by omega, by go_num, by rw [List.length_append, ← Hm ()]; rfl, by rw [List.length_append, ← Hm ()]; rfl, hP2, hA2, hG.new (by rw [← HPJ (), ← HPJ1 ()]; omega) hdig hdr (by rw [← HPJ ()]; exact hds) hdc, hM⟩
            case measure => simp [intOf]; omega
            --]
          · --[
            go_wp2_with (first
              | ((with_reducible refine gL_load (dst := some 82) ?_); refine ⟨_, _, rfl, loads_cell hc0 (on_of rfl), ?_⟩)
              | ((with_reducible refine gL_load (dst := some 176) ?_); refine ⟨_, _, rfl, hM.loads_one (.head _) (on_of rfl) hPk, ?_⟩))
            have hBd : ∀ w', Adds wr w' → Bytes w' (sl d.r.ob d.r.m.length d.r.cap) d.r.m := fun w' hb => PR.bytes (t := 5) (hM.adds hb) (.tail _ (.tail _ hOr)) hdc
            obtain ⟨T, hT⟩ : ∃ T, Sha.of d.r.m = T := ⟨_, rfl⟩
            have hTl : Len T 32 := by rw [← hT]; exact Len.of (Sha.of_len _)
            have hsum : ∀ w', Adds wr w' → Calls Try.prog 24 #[.pointer (some ⟨d.g, 0, none⟩)] w' fun e w'' => e = .returned (.agg (T.map B8).toArray) ∧ Below w'.heap.size w' w'' := fun w' hb => hT ▸ sha_Sum w' d.g d.C d.r.m ((hM.adds hb).rowN (.tail _ (.tail _ hOd)) hdig.len) hdig (by omega)
            have href : ∀ w', Adds wr w' → Calls Try.prog 19 #[sl d.r.ob d.r.m.length d.r.cap] w' fun e w'' => e = .returned (.agg (T.map B8).toArray) ∧ Below w'.heap.size w' w'' := fun w' hb => hT ▸ ref02_Of w' _ d.r.m (hBd w' hb) (by omega)
            clear hT hBd
            try simp only [Act.put, List.setIfInBounds_toArray, List.set_cons_succ, List.set_cons_zero]
            refine wp_region_tail 11 (by decide) (fun c vals => ⟨#[c 0, c 1, c 2, c 3, c 4, c 5, (Value.slice (some ⟨gP, 0, none⟩) m capP : Value), (Value.slice (some ⟨gA, 0, none⟩) m capA : Value), c 8, (Value.int .i64 (k : Int) : Value), c 10, c 11, c 12, c 13, c 14, c 15, c 16, c 17, c 18, c 19, c 20, c 21, c 22, c 23, c 24, c 25, c 26, c 27, c 28, c 29, c 30, c 31, c 32, c 33, c 34, c 35, c 36, c 37, c 38, c 39, c 40, c 41, c 42, c 43, c 44, c 45, c 46, c 47, c 48, c 49, c 50, c 51, c 52, c 53, c 54, c 55, c 56, c 57, c 58, c 59, c 60, c 61, c 62, c 63, c 64, c 65, c 66, c 67, c 68, c 69, c 70, c 71, c 72, c 73, c 74, c 75, c 76, c 77, c 78, c 79, c 80, c 81, c 82, vals 0, vals 1, vals 2, vals 3, vals 4, vals 5, vals 6, vals 7, vals 8, vals 9, vals 10, c 94, c 95, c 96, c 97, c 98, c 99, c 100, c 101, c 102, c 103, c 104, c 105, c 106, c 107, c 108, c 109, c 110, c 111, c 112, c 113, c 114, c 115, c 116, c 117, c 118, c 119, c 120, c 121, c 122, c 123, c 124, c 125, c 126, c 127, c 128, c 129, c 130, c 131, c 132, c 133, c 134, c 135, c 136, c 137, c 138, c 139, c 140, c 141, c 142, c 143, c 144, c 145, c 146, c 147, c 148, c 149, c 150, c 151, c 152, c 153, c 154, c 155, c 156, c 157, c 158, c 159, c 160, c 161, c 162, c 163, c 164, c 165, c 166, c 167, c 168, c 169, c 170, c 171, c 172, c 173, c 174, c 175, c 176, c 177, c 178, c 179, c 180, c 181, c 182, c 183, c 184, c 185, c 186, c 187, c 188, c 189, c 190, c 191, c 192, c 193, c 194, c 195, c 196, c 197, c 198, c 199, c 200, c 201, c 202, c 203, c 204, c 205, c 206, c 207, c 208, c 209, c 210, c 211, c 212, c 213, c 214, c 215, c 216, c 217], []⟩) (fun t => [_, _, _, _, _, _, undef, undef, _, undef, _, _, _, _, _, _, _, _, _, _, _, _, _, _, _, _, _, _, _, _, _, _, _, _, _, _, _, _, _, _, _, _, _, _, _, _, _, _, _, _, _, _, _, _, _, _, _, _, _, _, _, _, _, _, _, _, _, _, _, _, _, _, _, _, _, _, _, _, _, _, _, _, _, undef, undef, undef, undef, undef, undef, undef, undef, undef, undef, undef, _, _, _, _, _, _, _, _, _, _, _, _, _, _, _, _, _, _, _, _, _, _, _, _, _, _, _, _, _, _, _, _, _, _, _, _, _, _, _, _, _, _, _, _, _, _, _, _, _, _, _, _, _, _, _, _, _, _, _, _, _, _, _, _, _, _, _, _, _, _, _, _, _, _, _, _, _, _, _, _, _, _, _, _, _, _, _, _, _, _, _, _, _, _, _, _, _, _, _, _, _, _, _, _, _, _, _, _, _, _, _, _, _, _, _, _, _, _, _, _, _, _, _, _].getD t undef) (fun i => [_, _, _, _, _, _, _, _, _, _, _].getD i undef) (by kernel_rfl)
              [[], [], [0, 1], [0, 1, 2], [0, 1, 2, 3], [], [], [5, 6], [5, 6, 7], [0, 1, 2, 3, 4, 5, 6, 7, 8], [0, 1, 2, 3, 4, 5, 6, 7, 8, 9]] (by kernel_rfl) (by kernel_rfl) (fun _ => True) trivial
              [fun x _ => x = (Value.slice (some ⟨gP, 0, none⟩) m capP : Value),
               fun x _ => x = (Value.int .i64 (k : Int) : Value),
               fun x _ => x = (Value.pointer (some ⟨gP, 0 + k * 1, none⟩) : Value),
               fun x _ => x = (Value.pointer (some ⟨d.g, 0, none⟩) : Value),
               fun x _ => x = (Value.agg (T.map B8).toArray : Value),
               fun x _ => x = (Value.slice (some ⟨gA, 0, none⟩) m capA : Value),
               fun x _ => x = (Value.int .i64 (k : Int) : Value),
               fun x _ => x = (Value.pointer (some ⟨gA, 0 + k * 1, none⟩) : Value),
               fun x _ => x = (sl d.r.ob d.r.m.length d.r.cap : Value),
               fun x _ => x = (Value.agg (T.map B8).toArray : Value),
               fun x _ => x = (Value.bool false : Value)]
              ⟨fun _ _ _ h _ => h, fun _ _ _ h _ => h, fun _ _ _ h _ => h, fun _ _ _ h _ => h, fun _ _ _ h _ => h, fun _ _ _ h _ => h, fun _ _ _ h _ => h, fun _ _ _ h _ => h, fun _ _ _ h _ => h, fun _ _ _ h _ => h, fun _ _ _ h _ => h, trivial⟩ []
              ⟨?_, ?_, ?_, ?_, ?_, ?_, ?_, ?_, ?_, ?_, ?_, trivial⟩ ?_
            · refine showA_op 0 (by intro _ _ _; kernel_rfl) rfl rfl (fun c vals w hC hD => ?_)
              clear hD
              refine makes1 (x := .tmp 6) (X := Value.slice (some ⟨gP, 0, none⟩) m capP) (by kernel_rfl : _ = (Value.slice (some ⟨gP, 0, none⟩) m capP : Value)) (fun ρ rc rf q6 => ?_)
              exact makes_move (.inl rfl) q6 ⟨Adds.refl _, rfl⟩
            · refine showA_op 1 (by intro _ _ _; kernel_rfl) rfl rfl (fun c vals w hC hD => ?_)
              clear hD
              refine makes1 (x := .tmp 9) (X := Value.int .i64 (k : Int)) (by kernel_rfl : _ = (Value.int .i64 (k : Int) : Value)) (fun ρ rc rf q9 => ?_)
              exact makes_move (.inl rfl) q9 ⟨Adds.refl _, rfl⟩
            · refine showA_op 2 (by intro _ _ _; kernel_rfl) rfl rfl (fun c vals w hC hD => ?_)
              have h0 : vals 0 = .slice (some ⟨gP, 0, none⟩) m capP := hD 0 rfl
              have h1 : vals 1 = .int .i64 (k : Int) := hD 1 rfl
              clear hD
              refine makes2 (x := .tmp 83) (X := Value.slice (some ⟨gP, 0, none⟩) m capP) (y := .tmp 84) (Y := Value.int .i64 (k : Int)) ((by kernel_rfl : _ = vals 0).trans h0) ((by kernel_rfl : _ = vals 1).trans h1) (fun ρ rc rf q83 q84 => ?_)
              clear h0 h1
              exact makes_index (us_of rfl) (el_of rfl) hkm rfl q83 q84 ⟨Adds.refl _, rfl⟩
            · refine showA_op 3 (by intro _ _ _; kernel_rfl) rfl rfl (fun c vals w hC hD => ?_)
              have h2 : vals 2 = .pointer (some ⟨gP, 0 + k * 1, none⟩) := hD 2 rfl
              clear hD
              refine makes1 (x := .tmp 85) (X := Value.pointer (some ⟨gP, 0 + k * 1, none⟩)) ((by kernel_rfl : _ = vals 2).trans h2) (fun ρ rc rf q85 => ?_)
              clear h2
              exact makes_load ((hM.adds hC).loads_one (.head _) (on_of rfl) (by rw [Nat.zero_add, Nat.mul_one]; exact hPk)) rfl q85 ⟨Adds.refl _, rfl⟩
            · refine showA_op 4 (by intro _ _ _; kernel_rfl) rfl rfl (fun c vals w hC hD => ?_)
              have h3 : vals 3 = .pointer (some ⟨d.g, 0, none⟩) := hD 3 rfl
              clear hD
              refine makes1 (x := .tmp 86) (X := Value.pointer (some ⟨d.g, 0, none⟩)) ((by kernel_rfl : _ = vals 3).trans h3) (fun ρ rc rf q86 => ?_)
              clear h3
              refine makes_call (hsum _ hC) ?_ (by rintro e w' ⟨rfl, hb⟩; exact ⟨_, rfl, hb, rfl⟩)
              go_simp
            · refine showA_op 5 (by intro _ _ _; kernel_rfl) rfl rfl (fun c vals w hC hD => ?_)
              clear hD
              refine makes1 (x := .tmp 7) (X := Value.slice (some ⟨gA, 0, none⟩) m capA) (by kernel_rfl : _ = (Value.slice (some ⟨gA, 0, none⟩) m capA : Value)) (fun ρ rc rf q7 => ?_)
              exact makes_move (.inl rfl) q7 ⟨Adds.refl _, rfl⟩
            · refine showA_op 6 (by intro _ _ _; kernel_rfl) rfl rfl (fun c vals w hC hD => ?_)
              clear hD
              refine makes1 (x := .tmp 9) (X := Value.int .i64 (k : Int)) (by kernel_rfl : _ = (Value.int .i64 (k : Int) : Value)) (fun ρ rc rf q9 => ?_)
              exact makes_move (.inl rfl) q9 ⟨Adds.refl _, rfl⟩
            · refine showA_op 7 (by intro _ _ _; kernel_rfl) rfl rfl (fun c vals w hC hD => ?_)
              have h5 : vals 5 = .slice (some ⟨gA, 0, none⟩) m capA := hD 5 rfl
              have h6 : vals 6 = .int .i64 (k : Int) := hD 6 rfl
              clear hD
              refine makes2 (x := .tmp 88) (X := Value.slice (some ⟨gA, 0, none⟩) m capA) (y := .tmp 89) (Y := Value.int .i64 (k : Int)) ((by kernel_rfl : _ = vals 5).trans h5) ((by kernel_rfl : _ = vals 6).trans h6) (fun ρ rc rf q88 q89 => ?_)
              clear h5 h6
              exact makes_index (us_of rfl) (el_of rfl) hkm rfl q88 q89 ⟨Adds.refl _, rfl⟩
            · refine showA_op 8 (by intro _ _ _; kernel_rfl) rfl rfl (fun c vals w hC hD => ?_)
              have h7 : vals 7 = .pointer (some ⟨gA, 0 + k * 1, none⟩) := hD 7 rfl
              clear hD
              refine makes1 (x := .tmp 90) (X := Value.pointer (some ⟨gA, 0 + k * 1, none⟩)) ((by kernel_rfl : _ = vals 7).trans h7) (fun ρ rc rf q90 => ?_)
              clear h7
              exact makes_load ((hM.adds hC).loads_one (.tail _ (.head _)) (on_of rfl) (by rw [Nat.zero_add, Nat.mul_one]; exact hAk)) rfl q90 ⟨Adds.refl _, rfl⟩
            · refine showA_op 9 (by intro _ _ _; kernel_rfl) rfl rfl (fun c vals w hC hD => ?_)
              have h8 : vals 8 = sl d.r.ob d.r.m.length d.r.cap := hD 8 rfl
              clear hD
              refine makes1 (x := .tmp 91) (X := sl d.r.ob d.r.m.length d.r.cap) ((by kernel_rfl : _ = vals 8).trans h8) (fun ρ rc rf q91 => ?_)
              clear h8
              refine makes_call (href _ hC) ?_ (by rintro e w' ⟨rfl, hb⟩; exact ⟨_, rfl, hb, rfl⟩)
              go_simp
            · refine showA_op 10 (by intro _ _ _; kernel_rfl) rfl rfl (fun c vals w hC hD => ?_)
              have h4 : vals 4 = .agg (T.map B8).toArray := hD 4 rfl
              have h9 : vals 9 = .agg (T.map B8).toArray := hD 9 rfl
              clear hD
              refine makes2 (x := .tmp 87) (X := Value.agg (T.map B8).toArray) (y := .tmp 92) (Y := Value.agg (T.map B8).toArray) ((by kernel_rfl : _ = vals 4).trans h4) ((by kernel_rfl : _ = vals 9).trans h9) (fun ρ rc rf q87 q92 => ?_)
              clear h4 h9
              exact makes_neq (hash_self _ hTl) rfl q87 q92 ⟨Adds.refl _, rfl⟩
            intro vals w' hC hΦ hne
            have h10 : vals 10 = .bool false := hΦ 10 (by decide)
            clear hΦ hne
            simp only [List.getD_eq_getElem?_getD, List.getElem?_cons_zero, List.getElem?_cons_succ, Option.getD_some, List.drop_succ_cons, List.drop_zero]
            simp only [h10]
            clear h10
            try simp only [tuple_undef]
            replace hM := hM.adds hC
            clear hC hsum href
            go_wp2_with fail
            rw [HPL (), HAL (), HOL ()] at hM
            go_roundw
            case rel => exact ⟨j + 1, gP, gA, capP, capA, ds, ps, by omega, by go_num, by rw [← Hm ()], by rw [← Hm ()], hcP, hcA, hG.keep (by rw [← HPJ (), ← HPJ1 ()]; omega), hM⟩
            case measure => simp [intOf]; omega
            --]
        · have hje : n = j := by omega
          subst hje
          have hpg : pre l n ≤ 2147483647 := HG ()
          clear hst hps hokl hoki hpl hpm
          go_wp2_with (first
            | ((with_reducible refine gL_load (dst := some 58) ?_); refine ⟨_, _, rfl, hM.loads_one (.head _) (on_of rfl) hPlast, ?_⟩))
          go_loopw [13] (fun i wr => ∃ (q : Nat), q ≤ m ∧ i = .int .i64 q ∧ Mem [] w0 wr (⟨some gP, 29, PL, capP * 1⟩ :: ⟨some gA, 22, AL, capA * 1⟩ :: OL)) (fun i _ => m - (intOf i).toNat)
          case atStart => exact ⟨0, by omega, rfl, hM⟩
          case round =>
            clear hM
            obtain ⟨q, hq, rfl, hM⟩ := hrel
            by_cases hqm : q < m
            · have hqi : (q : Int) < (m : Int) := by omega
              obtain ⟨d, hd⟩ : ∃ d, ds[q]? = some d := ⟨_, List.getElem?_eq_getElem (by rw [← Hm ()]; exact hqm)⟩
              have hPk : PL[q]? = some (.pointer (some ⟨d.g, 0, none⟩)) := by rw [HPL ()]; simp [hd, Sd.p]
              have hAk : AL[q]? = some (sl d.r.ob d.r.m.length d.r.cap) := by rw [HAL ()]; simp [hd, Sd.v, PR.v]
              have hdm := List.mem_of_getElem? hd
              have hOd : DigB d ∈ OL := by rw [HOL ()]; exact mem_map_at DigB hd _
              have hdig := hG.dig d hdm
              have hdr := hG.mem d hdm
              have hOr : PR.blk 5 d.r ∈ OL := by rw [HOL ()]; exact mem_pool (PR.blk 5) _ hdr
              have hdc := hG.cap d hdm
              have hds := hG.short d hdm
              obtain ⟨pn, hpn⟩ : ∃ p, p = pre l n := ⟨_, rfl⟩
              rw [← hpn] at hds hpg
              clear hpn hd hdm hdr
              go_wp2_with fail
              have hBd : ∀ w', Adds wr w' → Bytes w' (sl d.r.ob d.r.m.length d.r.cap) d.r.m := fun w' hb => PR.bytes (t := 5) (hM.adds hb) (.tail _ (.tail _ hOr)) hdc
              obtain ⟨T, hT⟩ : ∃ T, Sha.of d.r.m = T := ⟨_, rfl⟩
              have hTl : Len T 32 := by rw [← hT]; exact Len.of (Sha.of_len _)
              have hsum : ∀ w', Adds wr w' → Calls Try.prog 24 #[.pointer (some ⟨d.g, 0, none⟩)] w' fun e w'' => e = .returned (.agg (T.map B8).toArray) ∧ Below w'.heap.size w' w'' := fun w' hb => hT ▸ sha_Sum w' d.g d.C d.r.m ((hM.adds hb).rowN (.tail _ (.tail _ hOd)) hdig.len) hdig (by omega)
              have href : ∀ w', Adds wr w' → Calls Try.prog 19 #[sl d.r.ob d.r.m.length d.r.cap] w' fun e w'' => e = .returned (.agg (T.map B8).toArray) ∧ Below w'.heap.size w' w'' := fun w' hb => hT ▸ ref02_Of w' _ d.r.m (hBd w' hb) (by omega)
              have hof : ∀ w', Adds wr w' → Calls Try.prog 18 #[sl d.r.ob d.r.m.length d.r.cap] w' fun e w'' => e = .returned (.agg (T.map B8).toArray) ∧ Below w'.heap.size w' w'' := fun w' hb => hT ▸ sha_Of w' _ d.r.m (hBd w' hb) (by omega)
              clear hT hBd
              try simp only [Act.put, List.setIfInBounds_toArray, List.set_cons_succ, List.set_cons_zero]
              refine wp_region_tail 24 (by decide) (fun c vals => ⟨#[c 0, c 1, c 2, c 3, c 4, c 5, (Value.slice (some ⟨gP, 0, none⟩) m capP : Value), (Value.slice (some ⟨gA, 0, none⟩) m capA : Value), c 8, c 9, c 10, c 11, c 12, (Value.int .i64 (q : Int) : Value), c 14, c 15, c 16, c 17, c 18, c 19, c 20, c 21, c 22, c 23, c 24, c 25, c 26, c 27, c 28, c 29, c 30, c 31, c 32, c 33, c 34, c 35, c 36, c 37, c 38, c 39, c 40, c 41, c 42, c 43, c 44, c 45, c 46, c 47, c 48, c 49, c 50, c 51, c 52, c 53, c 54, c 55, c 56, c 57, c 58, c 59, c 60, c 61, c 62, c 63, c 64, c 65, c 66, c 67, c 68, c 69, c 70, c 71, c 72, c 73, c 74, c 75, c 76, c 77, c 78, c 79, c 80, c 81, c 82, c 83, c 84, c 85, c 86, c 87, c 88, c 89, c 90, c 91, c 92, c 93, c 94, c 95, c 96, c 97, c 98, c 99, c 100, c 101, c 102, c 103, c 104, c 105, c 106, c 107, c 108, c 109, c 110, c 111, c 112, c 113, c 114, c 115, c 116, c 117, c 118, c 119, c 120, c 121, c 122, c 123, c 124, c 125, c 126, c 127, c 128, c 129, c 130, c 131, c 132, c 133, c 134, c 135, c 136, c 137, c 138, c 139, c 140, c 141, c 142, c 143, c 144, c 145, c 146, c 147, c 148, c 149, c 150, c 151, c 152, c 153, c 154, c 155, c 156, c 157, c 158, c 159, c 160, c 161, c 162, c 163, c 164, c 165, c 166, c 167, c 168, c 169, c 170, c 171, c 172, c 173, c 174, c 175, c 176, c 177, c 178, c 179, c 180, c 181, c 182, c 183, c 184, c 185, c 186, c 187, c 188, c 189, c 190, c 191, c 192, vals 0, vals 1, vals 2, vals 3, vals 4, vals 5, vals 6, vals 7, vals 8, vals 9, vals 10, vals 11, vals 12, vals 13, vals 14, vals 15, vals 16, vals 17, vals 18, vals 19, vals 20, vals 21, vals 22, vals 23, c 217], []⟩) (fun t => [_, _, _, _, _, _, undef, undef, _, _, _, _, _, undef, _, _, _, _, _, _, _, _, _, _, _, _, _, _, _, _, _, _, _, _, _, _, _, _, _, _, _, _, _, _, _, _, _, _, _, _, _, _, _, _, _, _, _, _, _, _, _, _, _, _, _, _, _, _, _, _, _, _, _, _, _, _, _, _, _, _, _, _, _, _, _, _, _, _, _, _, _, _, _, _, _, _, _, _, _, _, _, _, _, _, _, _, _, _, _, _, _, _, _, _, _, _, _, _, _, _, _, _, _, _, _, _, _, _, _, _, _, _, _, _, _, _, _, _, _, _, _, _, _, _, _, _, _, _, _, _, _, _, _, _, _, _, _, _, _, _, _, _, _, _, _, _, _, _, _, _, _, _, _, _, _, _, _, _, _, _, _, _, _, _, _, _, _, _, _, _, _, _, _, undef, undef, undef, undef, undef, undef, undef, undef, undef, undef, undef, undef, undef, undef, undef, undef, undef, undef, undef, undef, undef, undef, undef, undef, _].getD t undef) (fun i => [_, _, _, _, _, _, _, _, _, _, _, _, _, _, _, _, _, _, _, _, _, _, _, _].getD i undef) (by kernel_rfl)
                [[], [], [0, 1], [0, 1, 2], [0, 1, 2, 3], [], [], [5, 6], [5, 6, 7], [0, 1, 2, 3, 4, 5, 6, 7, 8], [0, 1, 2, 3, 4, 5, 6, 7, 8, 9], [0, 1, 2, 3, 4, 5, 6, 7, 8, 9, 10], [0, 1, 2, 3, 4, 5, 6, 7, 8, 9, 10, 11], [0, 1, 2, 3, 4, 5, 6, 7, 8, 9, 10, 11], [0, 1, 2, 3, 4, 5, 6, 7, 8, 9, 10, 11, 12, 13], [0, 1, 2, 3, 4, 5, 6, 7, 8, 9, 10, 11, 12, 13, 14], [0, 1, 2, 3, 4, 5, 6, 7, 8, 9, 10, 11, 12, 13, 14, 15], [0, 1, 2, 3, 4, 5, 6, 7, 8, 9, 10, 11], [0, 1, 2, 3, 4, 5, 6, 7, 8, 9, 10, 11], [0, 1, 2, 3, 4, 5, 6, 7, 8, 9, 10, 11, 17, 18], [0, 1, 2, 3, 4, 5, 6, 7, 8, 9, 10, 11, 17, 18, 19], [0, 1, 2, 3, 4, 5, 6, 7, 8, 9, 10, 11, 12, 13, 14, 15, 16, 17, 18, 19, 20], [0, 1, 2, 3, 4, 5, 6, 7, 8, 9, 10, 11, 12, 13, 14, 15, 16, 17, 18, 19, 20, 21], [0, 1, 2, 3, 4, 5, 6, 7, 8, 9, 10, 11, 12, 13, 14, 15, 16, 17, 18, 19, 20, 21, 22]] (by kernel_rfl) (by kernel_rfl) (fun _ => True) trivial
                [fun x _ => x = (Value.slice (some ⟨gP, 0, none⟩) m capP : Value),
                 fun x _ => x = (Value.int .i64 (q : Int) : Value),
                 fun x _ => x = (Value.pointer (some ⟨gP, 0 + q * 1, none⟩) : Value),
                 fun x _ => x = (Value.pointer (some ⟨d.g, 0, none⟩) : Value),
                 fun x _ => x = (Value.agg (T.map B8).toArray : Value),
                 fun x _ => x = (Value.slice (some ⟨gA, 0, none⟩) m capA : Value),
                 fun x _ => x = (Value.int .i64 (q : Int) : Value),
                 fun x _ => x = (Value.pointer (some ⟨gA, 0 + q * 1, none⟩) : Value),
                 fun x _ => x = (sl d.r.ob d.r.m.length d.r.cap : Value),
                 fun x _ => x = (Value.agg (T.map B8).toArray : Value),
                 fun x _ => x = (Value.bool false : Value),
                 fun x _ => x = (Value.bool false : Value),
                 fun x _ => x = (Value.slice (some ⟨gP, 0, none⟩) m capP : Value),
                 fun x _ => x = (Value.int .i64 (q : Int) : Value),
                 fun x _ => x = (Value.pointer (some ⟨gP, 0 + q * 1, none⟩) : Value),
                 fun x _ => x = (Value.pointer (some ⟨d.g, 0, none⟩) : Value),
                 fun x _ => x = (Value.agg (T.map B8).toArray : Value),
                 fun x _ => x = (Value.slice (some ⟨gA, 0, none⟩) m capA : Value),
                 fun x _ => x = (Value.int .i64 (q : Int) : Value),
                 fun x _ => x = (Value.pointer (some ⟨gA, 0 + q * 1, none⟩) : Value),
                 fun x _ => x = (sl d.r.ob d.r.m.length d.r.cap : Value),
                 fun x _ => x = (Value.agg (T.map B8).toArray : Value),
                 fun x _ => x = (Value.bool false : Value),
                 fun x _ => x = (Value.bool false : Value)]
                ⟨fun _ _ _ h _ => h, fun _ _ _ h _ => h, fun _ _ _ h _ => h, fun _ _ _ h _ => h, fun _ _ _ h _ => h, fun _ _ _ h _ => h, fun _ _ _ h _ => h, fun _ _ _ h _ => h, fun _ _ _ h _ => h, fun _ _ _ h _ => h, fun _ _ _ h _ => h, fun _ _ _ h _ => h, fun _ _ _ h _ => h, fun _ _ _ h _ => h, fun _ _ _ h _ => h, fun _ _ _ h _ => h, fun _ _ _ h _ => h, fun _ _ _ h _ => h, fun _ _ _ h _ => h, fun _ _ _ h _ => h, fun _ _ _ h _ => h, fun _ _ _ h _ => h, fun _ _ _ h _ => h, fun _ _ _ h _ => h, trivial⟩ []
                ⟨?_, ?_, ?_, ?_, ?_, ?_, ?_, ?_, ?_, ?_, ?_, ?_, ?_, ?_, ?_, ?_, ?_, ?_, ?_, ?_, ?_, ?_, ?_, ?_, trivial⟩ ?_
              · refine showA_op 0 (by intro _ _ _; kernel_rfl) rfl rfl (fun c vals w hC hD => ?_)
                clear hD
                refine makes1 (x := .tmp 6) (X := Value.slice (some ⟨gP, 0, none⟩) m capP) (by kernel_rfl : _ = (Value.slice (some ⟨gP, 0, none⟩) m capP : Value)) (fun ρ rc rf q6 => ?_)
                exact makes_move (.inl rfl) q6 ⟨Adds.refl _, rfl⟩
              · refine showA_op 1 (by intro _ _ _; kernel_rfl) rfl rfl (fun c vals w hC hD => ?_)
                clear hD
                refine makes1 (x := .tmp 13) (X := Value.int .i64 (q : Int)) (by kernel_rfl : _ = (Value.int .i64 (q : Int) : Value)) (fun ρ rc rf q13 => ?_)
                exact makes_move (.inl rfl) q13 ⟨Adds.refl _, rfl⟩
              · refine showA_op 2 (by intro _ _ _; kernel_rfl) rfl rfl (fun c vals w hC hD => ?_)
                have h0 : vals 0 = .slice (some ⟨gP, 0, none⟩) m capP := hD 0 rfl
                have h1 : vals 1 = .int .i64 (q : Int) := hD 1 rfl
                clear hD
                refine makes2 (x := .tmp 193) (X := Value.slice (some ⟨gP, 0, none⟩) m capP) (y := .tmp 194) (Y := Value.int .i64 (q : Int)) ((by kernel_rfl : _ = vals 0).trans h0) ((by kernel_rfl : _ = vals 1).trans h1) (fun ρ rc rf q193 q194 => ?_)
                clear h0 h1
                exact makes_index (us_of rfl) (el_of rfl) hqm rfl q193 q194 ⟨Adds.refl _, rfl⟩
              · refine showA_op 3 (by intro _ _ _; kernel_rfl) rfl rfl (fun c vals w hC hD => ?_)
                have h2 : vals 2 = .pointer (some ⟨gP, 0 + q * 1, none⟩) := hD 2 rfl
                clear hD
                refine makes1 (x := .tmp 195) (X := Value.pointer (some ⟨gP, 0 + q * 1, none⟩)) ((by kernel_rfl : _ = vals 2).trans h2) (fun ρ rc rf q195 => ?_)
                clear h2
                exact makes_load ((hM.adds hC).loads_one (.head _) (on_of rfl) (by rw [Nat.zero_add, Nat.mul_one]; exact hPk)) rfl q195 ⟨Adds.refl _, rfl⟩
              · refine showA_op 4 (by intro _ _ _; kernel_rfl) rfl rfl (fun c vals w hC hD => ?_)
                have h3 : vals 3 = .pointer (some ⟨d.g, 0, none⟩) := hD 3 rfl
                clear hD
                refine makes1 (x := .tmp 196) (X := Value.pointer (some ⟨d.g, 0, none⟩)) ((by kernel_rfl : _ = vals 3).trans h3) (fun ρ rc rf q196 => ?_)
                clear h3
                refine makes_call (hsum _ hC) ?_ (by rintro e w' ⟨rfl, hb⟩; exact ⟨_, rfl, hb, rfl⟩)
                go_simp
              · refine showA_op 5 (by intro _ _ _; kernel_rfl) rfl rfl (fun c vals w hC hD => ?_)
                clear hD
                refine makes1 (x := .tmp 7) (X := Value.slice (some ⟨gA, 0, none⟩) m capA) (by kernel_rfl : _ = (Value.slice (some ⟨gA, 0, none⟩) m capA : Value)) (fun ρ rc rf q7 => ?_)
                exact makes_move (.inl rfl) q7 ⟨Adds.refl _, rfl⟩
              · refine showA_op 6 (by intro _ _ _; kernel_rfl) rfl rfl (fun c vals w hC hD => ?_)
                clear hD
                refine makes1 (x := .tmp 13) (X := Value.int .i64 (q : Int)) (by kernel_rfl : _ = (Value.int .i64 (q : Int) : Value)) (fun ρ rc rf q13 => ?_)
                exact makes_move (.inl rfl) q13 ⟨Adds.refl _, rfl⟩
              · refine showA_op 7 (by intro _ _ _; kernel_rfl) rfl rfl (fun c vals w hC hD => ?_)
                have h5 : vals 5 = .slice (some ⟨gA, 0, none⟩) m capA := hD 5 rfl
                have h6 : vals 6 = .int .i64 (q : Int) := hD 6 rfl
                clear hD
                refine makes2 (x := .tmp 198) (X := Value.slice (some ⟨gA, 0, none⟩) m capA) (y := .tmp 199) (Y := Value.int .i64 (q : Int)) ((by kernel_rfl : _ = vals 5).trans h5) ((by kernel_rfl : _ = vals 6).trans h6) (fun ρ rc rf q198 q199 => ?_)
                clear h5 h6
                exact makes_index (us_of rfl) (el_of rfl) hqm rfl q198 q199 ⟨Adds.refl _, rfl⟩
              · refine showA_op 8 (by intro _ _ _; kernel_rfl) rfl rfl (fun c vals w hC hD => ?_)
                have h7 : vals 7 = .pointer (some ⟨gA, 0 + q * 1, none⟩) := hD 7 rfl
                clear hD
                refine makes1 (x := .tmp 200) (X := Value.pointer (some ⟨gA, 0 + q * 1, none⟩)) ((by kernel_rfl : _ = vals 7).trans h7) (fun ρ rc rf q200 => ?_)
                clear h7
                exact makes_load ((hM.adds hC).loads_one (.tail _ (.head _)) (on_of rfl) (by rw [Nat.zero_add, Nat.mul_one]; exact hAk)) rfl q200 ⟨Adds.refl _, rfl⟩
              · refine showA_op 9 (by intro _ _ _; kernel_rfl) rfl rfl (fun c vals w hC hD => ?_)
                have h8 : vals 8 = sl d.r.ob d.r.m.length d.r.cap := hD 8 rfl
                clear hD
                refine makes1 (x := .tmp 201) (X := sl d.r.ob d.r.m.length d.r.cap) ((by kernel_rfl : _ = vals 8).trans h8) (fun ρ rc rf q201 => ?_)
                clear h8
                refine makes_call (href _ hC) ?_ (by rintro e w' ⟨rfl, hb⟩; exact ⟨_, rfl, hb, rfl⟩)
                go_simp
              · refine showA_op 10 (by intro _ _ _; kernel_rfl) rfl rfl (fun c vals w hC hD => ?_)
                have h4 : vals 4 = .agg (T.map B8).toArray := hD 4 rfl
                have h9 : vals 9 = .agg (T.map B8).toArray := hD 9 rfl
                clear hD
                refine makes2 (x := .tmp 197) (X := Value.agg (T.map B8).toArray) (y := .tmp 202) (Y := Value.agg (T.map B8).toArray) ((by kernel_rfl : _ = vals 4).trans h4) ((by kernel_rfl : _ = vals 9).trans h9) (fun ρ rc rf q197 q202 => ?_)
                clear h4 h9
                exact makes_neq (hash_self _ hTl) rfl q197 q202 ⟨Adds.refl _, rfl⟩
              · refine showA_op 11 (by intro _ _ _; kernel_rfl) rfl rfl (fun c vals w hC hD => ?_)
                have h10 : vals 10 = .bool false := hD 10 rfl
                clear hD
                refine makes1 (x := .tmp 203) (X := Value.bool false) ((by kernel_rfl : _ = vals 10).trans h10) (fun ρ rc rf q203 => ?_)
                clear h10
                exact makes_move (.inl rfl) q203 ⟨Adds.refl _, rfl⟩
              · refine showA_run 12 (by intro _ _ _; kernel_rfl) (j := 11) (want := false) rfl rfl rfl (by intro _ _; kernel_rfl) rfl (fun c vals w hC hD => ⟨hD 11 rfl, ?_⟩)
                clear hD
                refine makes1 (x := .tmp 6) (X := Value.slice (some ⟨gP, 0, none⟩) m capP) (by kernel_rfl : _ = (Value.slice (some ⟨gP, 0, none⟩) m capP : Value)) (fun ρ rc rf q6 => ?_)
                exact makes_move (.inl rfl) q6 ⟨Adds.refl _, rfl⟩
              · refine showA_run 13 (by intro _ _ _; kernel_rfl) (j := 11) (want := false) rfl rfl rfl (by intro _ _; kernel_rfl) rfl (fun c vals w hC hD => ⟨hD 11 rfl, ?_⟩)
                clear hD
                refine makes1 (x := .tmp 13) (X := Value.int .i64 (q : Int)) (by kernel_rfl : _ = (Value.int .i64 (q : Int) : Value)) (fun ρ rc rf q13 => ?_)
                exact makes_move (.inl rfl) q13 ⟨Adds.refl _, rfl⟩
              · refine showA_run 14 (by intro _ _ _; kernel_rfl) (j := 11) (want := false) rfl rfl rfl (by intro _ _; kernel_rfl) rfl (fun c vals w hC hD => ⟨hD 11 rfl, ?_⟩)
                have h12 : vals 12 = .slice (some ⟨gP, 0, none⟩) m capP := hD 12 rfl
                have h13 : vals 13 = .int .i64 (q : Int) := hD 13 rfl
                clear hD
                refine makes2 (x := .tmp 205) (X := Value.slice (some ⟨gP, 0, none⟩) m capP) (y := .tmp 206) (Y := Value.int .i64 (q : Int)) ((by kernel_rfl : _ = vals 12).trans h12) ((by kernel_rfl : _ = vals 13).trans h13) (fun ρ rc rf q205 q206 => ?_)
                clear h12 h13
                exact makes_index (us_of rfl) (el_of rfl) hqm rfl q205 q206 ⟨Adds.refl _, rfl⟩
              · refine showA_run 15 (by intro _ _ _; kernel_rfl) (j := 11) (want := false) rfl rfl rfl (by intro _ _; kernel_rfl) rfl (fun c vals w hC hD => ⟨hD 11 rfl, ?_⟩)
                have h14 : vals 14 = .pointer (some ⟨gP, 0 + q * 1, none⟩) := hD 14 rfl
                clear hD
                refine makes1 (x := .tmp 207) (X := Value.pointer (some ⟨gP, 0 + q * 1, none⟩)) ((by kernel_rfl : _ = vals 14).trans h14) (fun ρ rc rf q207 => ?_)
                clear h14
                exact makes_load ((hM.adds hC).loads_one (.head _) (on_of rfl) (by rw [Nat.zero_add, Nat.mul_one]; exact hPk)) rfl q207 ⟨Adds.refl _, rfl⟩
              · refine showA_run 16 (by intro _ _ _; kernel_rfl) (j := 11) (want := false) rfl rfl rfl (by intro _ _; kernel_rfl) rfl (fun c vals w hC hD => ⟨hD 11 rfl, ?_⟩)
                have h15 : vals 15 = .pointer (some ⟨d.g, 0, none⟩) := hD 15 rfl
                clear hD
                refine makes1 (x := .tmp 208) (X := Value.pointer (some ⟨d.g, 0, none⟩)) ((by kernel_rfl : _ = vals 15).trans h15) (fun ρ rc rf q208 => ?_)
                clear h15
                refine makes_call (hsum _ hC) ?_ (by rintro e w' ⟨rfl, hb⟩; exact ⟨_, rfl, hb, rfl⟩)
                go_simp
              · refine showA_run 17 (by intro _ _ _; kernel_rfl) (j := 11) (want := false) rfl rfl rfl (by intro _ _; kernel_rfl) rfl (fun c vals w hC hD => ⟨hD 11 rfl, ?_⟩)
                clear hD
                refine makes1 (x := .tmp 7) (X := Value.slice (some ⟨gA, 0, none⟩) m capA) (by kernel_rfl : _ = (Value.slice (some ⟨gA, 0, none⟩) m capA : Value)) (fun ρ rc rf q7 => ?_)
                exact makes_move (.inl rfl) q7 ⟨Adds.refl _, rfl⟩
              · refine showA_run 18 (by intro _ _ _; kernel_rfl) (j := 11) (want := false) rfl rfl rfl (by intro _ _; kernel_rfl) rfl (fun c vals w hC hD => ⟨hD 11 rfl, ?_⟩)
                clear hD
                refine makes1 (x := .tmp 13) (X := Value.int .i64 (q : Int)) (by kernel_rfl : _ = (Value.int .i64 (q : Int) : Value)) (fun ρ rc rf q13 => ?_)
                exact makes_move (.inl rfl) q13 ⟨Adds.refl _, rfl⟩
              · refine showA_run 19 (by intro _ _ _; kernel_rfl) (j := 11) (want := false) rfl rfl rfl (by intro _ _; kernel_rfl) rfl (fun c vals w hC hD => ⟨hD 11 rfl, ?_⟩)
                have h17 : vals 17 = .slice (some ⟨gA, 0, none⟩) m capA := hD 17 rfl
                have h18 : vals 18 = .int .i64 (q : Int) := hD 18 rfl
                clear hD
                refine makes2 (x := .tmp 210) (X := Value.slice (some ⟨gA, 0, none⟩) m capA) (y := .tmp 211) (Y := Value.int .i64 (q : Int)) ((by kernel_rfl : _ = vals 17).trans h17) ((by kernel_rfl : _ = vals 18).trans h18) (fun ρ rc rf q210 q211 => ?_)
                clear h17 h18
                exact makes_index (us_of rfl) (el_of rfl) hqm rfl q210 q211 ⟨Adds.refl _, rfl⟩
              · refine showA_run 20 (by intro _ _ _; kernel_rfl) (j := 11) (want := false) rfl rfl rfl (by intro _ _; kernel_rfl) rfl (fun c vals w hC hD => ⟨hD 11 rfl, ?_⟩)
                have h19 : vals 19 = .pointer (some ⟨gA, 0 + q * 1, none⟩) := hD 19 rfl
                clear hD
                refine makes1 (x := .tmp 212) (X := Value.pointer (some ⟨gA, 0 + q * 1, none⟩)) ((by kernel_rfl : _ = vals 19).trans h19) (fun ρ rc rf q212 => ?_)
                clear h19
                exact makes_load ((hM.adds hC).loads_one (.tail _ (.head _)) (on_of rfl) (by rw [Nat.zero_add, Nat.mul_one]; exact hAk)) rfl q212 ⟨Adds.refl _, rfl⟩
              · refine showA_run 21 (by intro _ _ _; kernel_rfl) (j := 11) (want := false) rfl rfl rfl (by intro _ _; kernel_rfl) rfl (fun c vals w hC hD => ⟨hD 11 rfl, ?_⟩)
                have h20 : vals 20 = sl d.r.ob d.r.m.length d.r.cap := hD 20 rfl
                clear hD
                refine makes1 (x := .tmp 213) (X := sl d.r.ob d.r.m.length d.r.cap) ((by kernel_rfl : _ = vals 20).trans h20) (fun ρ rc rf q213 => ?_)
                clear h20
                refine makes_call (hof _ hC) ?_ (by rintro e w' ⟨rfl, hb⟩; exact ⟨_, rfl, hb, rfl⟩)
                go_simp
              · refine showA_run 22 (by intro _ _ _; kernel_rfl) (j := 11) (want := false) rfl rfl rfl (by intro _ _; kernel_rfl) rfl (fun c vals w hC hD => ⟨hD 11 rfl, ?_⟩)
                have h16 : vals 16 = .agg (T.map B8).toArray := hD 16 rfl
                have h21 : vals 21 = .agg (T.map B8).toArray := hD 21 rfl
                clear hD
                refine makes2 (x := .tmp 209) (X := Value.agg (T.map B8).toArray) (y := .tmp 214) (Y := Value.agg (T.map B8).toArray) ((by kernel_rfl : _ = vals 16).trans h16) ((by kernel_rfl : _ = vals 21).trans h21) (fun ρ rc rf q209 q214 => ?_)
                clear h16 h21
                exact makes_neq (hash_self _ hTl) rfl q209 q214 ⟨Adds.refl _, rfl⟩
              · refine showA_op 23 (by intro _ _ _; kernel_rfl) rfl rfl (fun c vals w hC hD => ?_)
                have h11 : vals 11 = .bool false := hD 11 rfl
                have h22 : vals 22 = .bool false := hD 22 rfl
                clear hD
                refine makes2 (x := .tmp 204) (X := Value.bool false) (y := .tmp 215) (Y := Value.bool false) ((by kernel_rfl : _ = vals 11).trans h11) ((by kernel_rfl : _ = vals 22).trans h22) (fun ρ rc rf q204 q215 => ?_)
                clear h11 h22
                refine makes_value (v := Value.bool false) ?_ ⟨Adds.refl _, rfl⟩
                go_simp
                all_goals first | done | rfl | (rw [if_pos (by omega)]; refine congrArg (fun x => Result.ok (Next.value (Value.pointer (some ⟨_, x, none⟩))) _) ?_; omega) | (rw [wrapP_i64]; omega) | go_num | (simp; done) | (simp; omega) | (congr 1; first | rfl | (rw [wrapP_i64]; omega) | (congr 1; first | rfl | (simp; done) | (simp; omega) | (congr 2; omega) | go_num))
              intro vals w' hC hΦ hne
              have h23 : vals 23 = .bool false := hΦ 23 (by decide)
              clear hΦ hne
              simp only [List.getD_eq_getElem?_getD, List.getElem?_cons_zero, List.getElem?_cons_succ, Option.getD_some, List.drop_succ_cons, List.drop_zero]
              simp only [h23]
              clear h23
              try simp only [tuple_undef]
              replace hM := hM.adds hC
              clear hC hsum href hof
              go_wp2_with fail
              go_roundw
              case rel => exact ⟨q + 1, by omega, by go_num, hM⟩
              case measure => simp [intOf]; omega
            · have hqi : ¬ (q : Int) < (m : Int) := by omega
              go_wp2_with (first | (go_at_call 20; (with_reducible refine (law02_fixed _).mono ?_); rintro _ _ ⟨rfl, B1⟩; replace hM := hM.adds B1; clear B1))
              go_ret
              exact ⟨rfl, hM.done⟩
end Go.Proofs.Ytejmbkljnhnklaa
