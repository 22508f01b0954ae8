/-
  The walk of keys.New.
-/
import Derived.Test.YtejmbkljnhnklaaKyH
import Derived.Lib.SliceRun
import Derived.Carry
namespace Go.PK
open Go.RowKit
section
variable {P : Program} {Q : Exit → Act → World → Prop} {ops : Array Oper} {rest : List Oper} {a : Act} {w : World} {dst : Option Tmp} {type : TypeId} {pos : String} {after : Array Edge}
theorem gL_makeMap {t : TypeId} (h : ∀ gm w', gm = w.heap.size → w' = w.alloc (.map #[] 0) → wpList P ops Q rest (a.put dst (.map (some gm))) w') : wpList P ops Q (Oper.mk dst (.makeMap t none) type pos after none :: rest) a w := by
  refine wpList_plain rfl fun K hk => ?_
  unfold Oper.wp execOp
  simp only [Option.map_none, run_makeMap, Sem.run_bind, Sem.run_pure, Result.andThen_ok]
  exact hk _ _ (h _ _ rfl rfl)
theorem gL_mapUpdate {t : TypeId} {m x v : Operand} (h : ∃ (H : Type) (k e : TypeId) (R : Value → Option (DataW H × List MemPlace)) (b n : Nat) (D : DataW H) (key val : Value) (kl : Lit) (d : DataW H) (ps : List MemPlace), Maps.Keyed P k ∧ P.underlying t = some (.map k e) ∧ a.eval m = .map (some b) ∧ w.ownsMap P k R b n D ∧ n < maxLen ∧ a.eval x = key ∧ a.eval v = val ∧ keyOf P k key = some kl ∧ R val = some (d, ps) ∧
    ∀ w', w'.ownsMap P k R b (n + 1) (D.put kl d) → w.grownBy w' (some b) → wpList P ops Q rest (a.put dst undef) w') : wpList P ops Q (Oper.mk dst (.mapUpdate t m x v) type pos after none :: rest) a w := by
  obtain ⟨H, k, e, R, b, n, D, key, val, kl, d, ps, h1, h2, h3, h4, h5, h6, h7, h8, h9, h10⟩ := h
  exact wpList_mapUpdate_own w rfl m x v t rfl k e h1 h2 R b n D h3 h4 h5 key val kl h6 h7 h8 d ps h9 h10
end
/-- bytes stay where a map is written -/
theorem Bytes.beside {w w' : World} {v : Value} {l : List UInt8} {gm : Nat} {es : Array MapEntry} {clock : Nat} (h : Bytes w v l) (hm : w.heap[gm]? = some (.map es clock)) (hg : w.grownBy w' (some gm)) : Bytes w' v l := by
  obtain ⟨ao, cap, e, h1, h2, h3, h4⟩ := h
  refine ⟨ao, cap, e, h1, h2, h3, fun j hj => ?_⟩
  obtain ⟨b, off, g1, g2, g3⟩ := h4 j hj
  refine ⟨b, off, g1, Nat.lt_of_lt_of_le g2 hg.size, hg.cell g3 fun he => ?_⟩
  obtain rfl : b = gm := Option.some.inj he
  unfold World.cell? at g3
  simp only at g3
  rw [hm] at g3
  cases g3
end Go.PK
namespace Go.Proofs.Ytejmbkljnhnklaa
open Go.RowKit Go.PK Go.Maps
abbrev rSec : Rd (Int × List UInt8) := rPair rInt (rSlice rByte)
/-- what is wrong with secrets, and with which -/
def kScan : List Int → Nat → List (Int × List UInt8) → Option (Int × Nat)
  | _, _, [] => none
  | seen, i, (k, b) :: r => if k < 0 ∨ 63 < k then some (2, i) else if b.length < 1 ∨ 256 < b.length then some (4, i) else if k ∈ seen then some (18, i) else kScan (seen ++ [k]) (i + 1) r
theorem kScan_bad {seen : List Int} {i : Nat} {k : Int} {b : List UInt8} {r : List (Int × List UInt8)} {ec : Int} (h : (k < 0 ∨ 63 < k) ∧ ec = 2 ∨ ¬ (k < 0 ∨ 63 < k) ∧ (b.length < 1 ∨ 256 < b.length) ∧ ec = 4 ∨ ¬ (k < 0 ∨ 63 < k) ∧ ¬ (b.length < 1 ∨ 256 < b.length) ∧ k ∈ seen ∧ ec = 18) : kScan seen i ((k, b) :: r) = some (ec, i) := by
  unfold kScan
  rcases h with ⟨h1, rfl⟩ | ⟨h1, h2, rfl⟩ | ⟨h1, h2, h3, rfl⟩
  · rw [if_pos h1]
  · rw [if_neg h1, if_pos h2]
  · rw [if_neg h1, if_neg h2, if_pos h3]
theorem kScan_good {seen : List Int} {i : Nat} {k : Int} {b : List UInt8} {r : List (Int × List UInt8)} (h1 : ¬ (k < 0 ∨ 63 < k)) (h2 : ¬ (b.length < 1 ∨ 256 < b.length)) (h3 : k ∉ seen) : kScan seen i ((k, b) :: r) = kScan (seen ++ [k]) (i + 1) r := by
  rw [kScan, if_neg h1, if_neg h2, if_neg h3]
theorem kLook_some {S : List Sec} {k : Int} : (kLook S k).isSome = true ↔ k ∈ S.map (·.1) := by
  unfold kLook
  rw [List.find?_isSome, List.mem_map]
  constructor
  · rintro ⟨x, hx, h⟩
    exact ⟨x, hx, by simpa using h⟩
  · rintro ⟨x, hx, rfl⟩
    exact ⟨x, hx, by simp⟩
def kNew (l : List (Int × List UInt8)) : Option (Int × Nat) := if 64 < l.length then some (3, 64) else kScan [] 0 l
theorem sec_at {w : World} {ao : Option Addr} {l : List (Int × List UInt8)} (h : Elems rSec w ao l) (ho : ∀ x ∈ l, rSec.ok x) {j : Nat} (hj : j < l.length) :
    ∃ (k : Int) (B : List UInt8) (vB : Value) (b off : Nat), l[j]? = some (k, B) ∧ ao = some ⟨b, off, none⟩ ∧ (-9223372036854775808 ≤ k ∧ k ≤ 9223372036854775807) ∧ B.length ≤ 140737488351232 ∧ (∀ w', Adds w w' → Bytes w' vB B) ∧ ∀ w', Adds w w' → Loads Try.prog w' 99 ⟨b, off + j * 2, none⟩ (.agg [.int .i64 k, vB].toArray) := by
  obtain ⟨b, off, g1, g2, cells, g3, g4⟩ := h j _ (List.getElem?_eq_getElem hj)
  have hok := ho _ (List.getElem_mem hj)
  obtain ⟨c1, c2, rfl, e1, e2⟩ := g3
  obtain rfl : c1 = [.int .i64 l[j].1] := e1
  obtain ⟨ao2, cap2, e3, -⟩ := id e2
  obtain ⟨vB, rfl⟩ : ∃ v, c2 = [v] := ⟨_, e3⟩
  have hb := Bytes.of_K e2
  refine ⟨l[j].1, l[j].2, vB, b, off, List.getElem?_eq_getElem hj, g1, hok.1, hok.2.1, fun w' hw => hb.adds hw, fun w' hw => loads_agg (n := 2) (ag_of rfl) rfl fun i v hi => ?_⟩
  have hi2 : i < 2 := (List.getElem?_eq_some_iff.1 hi).1
  rw [Addr.add_lit, Nat.add_assoc, cell_below hw (by exact g2)]
  exact (g4 i (by exact hi2)).trans hi

set_option maxRecDepth 100000 in
set_option maxHeartbeats 4000000 in
theorem by_Clone (w0 : World) (v : Value) (l : List UInt8) (hv : Bytes w0 v l) (n : Nat) (hn : Len l n) (hl : n ≤ 140737488351232) :
    Calls Try.prog 81 #[v] w0 fun e w' => ∃ ob cap, e = .returned (sl ob n cap) ∧ cap ≤ maxLen ∧ Mem [] w0 w' [⟨ob, 5, l.map B8, cap⟩] := by
  have hM := Mem.start w0
  obtain ⟨ao, cap, rfl, g1, g2, g3, -⟩ := id hv
  rw [hn.eq] at hv g1 ⊢
  go_enter Try.func81, Try.ntmps81
  cases ao with
  | none =>
    have hc0 : cap = 0 := g3 rfl
    have h0 : n = 0 := by omega
    subst h0
    subst hc0
    obtain rfl : l = [] := List.eq_nil_of_length_eq_zero hn.eq
    have hE : ∀ w, (binOp .eql 22 (.slice none 0 0) (.slice none 0 0)).run Try.prog w = .ok (.bool true) w := fun w => Lib.run_eql_slice_nil w 22 5 none 0 0 0 0 (us_of rfl)
    clear g3
    go_wp2_with fail
    go_ret
    exact ⟨none, 0, rfl, by decide, hM.addNil _⟩
  | some ad =>
    have hE : ∀ w, (binOp .eql 22 (.slice (some ad) n cap) (.slice none 0 0)).run Try.prog w = .ok (.bool false) w := fun w => Lib.run_eql_slice_nil w 22 5 (some ad) n cap 0 0 (us_of rfl)
    have hsrc : ∀ w', Adds w0 w' → Src w' (.slice (some ad) n cap) n (l.map B8) := fun w' hw => by
      have h := (hv.adds hw).src
      rwa [hn.eq] at h
    clear hv g3
    go_wp2_with (first
      | ((with_reducible refine gL_buildEmpty hM ?_); refine ⟨_, _, _, (us_of rfl), (el_of rfl), ?_⟩; intro g5 _ hM2; clear hM; have hM := hM2; clear hM2)
      | ((with_reducible refine gL_append_B hM ?_); refine ⟨_, _, some g5, 0, 0, 5, [], l, n, fun ob' cap' => [⟨ob', 5, ([] ++ l).map B8, cap'⟩], rfl, rfl, rfl, (us_of rfl), (el_of rfl), hsrc _ hM.done, (fun _ _ => .here _ _ _), rfl, hn, (by decide), (by omega), ?_⟩; intro ob1 cap1 _ hM2 h11 h12; rw [Nat.zero_add] at h11 ⊢; rw [List.nil_append] at hM2; clear hM; have hM := hM2; clear hM2))
    go_ret
    exact ⟨ob1, cap1, rfl, h12, hM⟩

set_option maxRecDepth 100000 in
set_option maxHeartbeats 4000000 in
theorem ring_New (w0 : World) (ao : Option Addr) (capl : Nat) (l : List (Int × List UInt8)) (hE : Elems rSec w0 ao l) (ho : ∀ x ∈ l, rSec.ok x) :
    Calls Try.prog 54 #[.slice ao l.length capl] w0 fun e w' => Below w0.heap.size w0 w' ∧ ((∃ ec i, kNew l = some (ec, i) ∧ e = .returned (.tuple #[.pointer none, .int .i64 ec, .int .i64 (i : Int)])) ∨
      (kNew l = none ∧ ∃ gr gm S, S.map (fun x : Sec => (x.1, x.2.2)) = l ∧ e = .returned (.tuple #[.pointer (some ⟨gr, 0, none⟩), .int .i64 0, .int .i64 0]) ∧ Ring w' gr gm S)) := by
  have hat : ∀ w, Adds w0 w → ∀ j, j < l.length → _ := fun w hw j hj => sec_at (hE.adds hw) ho (j := j) hj
  obtain ⟨n, hn⟩ : ∃ n, n = l.length := ⟨_, rfl⟩
  rw [← hn] at hat ⊢
  have HN : ∀ _ : Unit, n = l.length := fun _ => hn
  clear hE ho hn
  have hM := Mem.start w0
  go_enter Try.func54, Try.ntmps54
  by_cases hbig : 64 < n
  · have hi : (64 : Int) < (n : Int) := by omega
    clear hat
    go_wp2_with fail
    refine bodyPost_ret (results_tmp3 rfl _ _ _) rfl ?_
    exact ⟨hM.done, .inl ⟨3, 64, by unfold kNew; rw [if_pos (by rw [← HN ()]; exact hbig)], rfl⟩⟩
  have hi : ¬ (64 : Int) < (n : Int) := by omega
  go_wp2_with (first
    | ((with_reducible refine gL_makeMap (dst := some 11) ?_); intro gm w1 hgm hw1; have HGM := Lib.hid hgm; have HW1 := Lib.hid hw1; clear hgm hw1; have hM1 := Mem.start w1)
    | ((with_reducible refine gL_box (dst := some 13) hM1 ?_); refine ⟨_, [.map (some gm)], 1, rfl, rfl, rfl, ?_⟩; intro gr wB hM2; clear hM1; have hM1 := hM2; clear hM2))
  have hgm := HGM.out
  have hw1 := HW1.out
  clear HGM HW1
  have hA1 : Adds w0 w1 := by rw [hw1]; exact (Below.refl _ _).alloc (Nat.le_refl _) _
  have hO1 : w1.ownsMap Try.prog 3 kR gm 0 (.map []) := by rw [hw1, hgm]; exact World.ownsMap_made w0 Try.prog 3 kR
  have hO := owns_adds hO1 hM1.done
  have hRr := hM1.rowN (.head _) (Len.of rfl)
  have hgr : ¬ gr = gm := by
    have h1 := hM1.mem_new (.head _)
    have h2 := hO1.lt
    omega
  have hT1 : Mem [gm] w1 wB [] := (hM1.forget).mono (by simp)
  have HG : ∀ _ : Unit, w0.heap.size ≤ gm := fun _ => by rw [hgm]; exact Nat.le_refl _
  have HNEW : ∀ _ : Unit, kNew l = kScan ((l.take 0).map (·.1)) 0 (l.drop 0) := fun _ => by unfold kNew; rw [if_neg (by rw [← HN ()]; exact hbig)]; rfl
  clear hgm hw1 hO1 hM1
  go_loopw [6, 7, 16, 21, 31, 43] (fun _ _ ix _ _ _ wr => ∃ (j : Nat) (S : List Sec), j ≤ n ∧ ix = .int .i64 j ∧ S.map (fun x : Sec => (x.1, x.2.2)) = l.take j ∧ kNew l = kScan (S.map (·.1)) j (l.drop j) ∧ Mem [gm] w1 wr [] ∧ Row wr gr 134 [.map (some gm)] ∧ wr.ownsMap Try.prog 3 kR gm j (kD S) ∧ (S.map (·.1)).Nodup ∧ (∀ x ∈ S, Bytes wr x.2.1 x.2.2) ∧ (∀ x ∈ S, x.2.2.length ≤ 256)) (fun _ _ ix _ _ _ _ => n - (intOf ix).toNat)
  case atStart => exact ⟨0, [], by omega, rfl, rfl, HNEW (), hT1, hRr, hO, by simp, by simp, by simp⟩
  case round =>
    clear hT1 hRr hO HNEW hM
    obtain ⟨j, S, hj, rfl, hS, hK, hT, hRr, hO, hnd, hby, hln⟩ := hrel
    have hSl : S.length = j := by
      have := congrArg List.length hS
      rw [List.length_map, List.length_take, ← HN ()] at this
      omega
    have hA0 : Adds w0 wr := ((Mem.start w0).adds hA1 |>.join hT (by intro g hg; rw [List.mem_singleton.1 hg]; exact HG ())).done
    by_cases hlt : j < n
    · have hti : (j : Int) < (n : Int) := by omega
      obtain ⟨k, B, vB, b, off, hlj, rfl, hkr, hBl, hBv, hLd⟩ := hat wr hA0 j hlt
      have hdr : l.drop j = (k, B) :: l.drop (j + 1) := by
        have hjl : j < l.length := by rw [← HN ()]; exact hlt
        rw [List.drop_eq_getElem_cons hjl]
        rw [List.getElem?_eq_getElem hjl] at hlj
        rw [Option.some.inj hlj]
      have htk : l.take (j + 1) = l.take j ++ [(k, B)] := by
        rw [List.take_add_one, hlj]
        rfl
      rw [hdr] at hK
      obtain ⟨aB, cB, hvB, -⟩ := id (hBv _ (Adds.refl wr))
      subst hvB
      obtain ⟨nb, hnb⟩ : ∃ nb, nb = B.length := ⟨_, rfl⟩
      rw [← hnb] at hBl hBv hLd
      have HBL : ∀ _ : Unit, nb = B.length := fun _ => hnb
      have hRing : ∀ w', Adds wr w' → Ring w' gr gm S := fun w' hw => ⟨(hw.block gr hRr.lt).trans hRr, (owns_adds hO hw).mono (by omega), hnd, fun x hx => (hby x hx).adds hw, by omega, hln⟩
      have HK : ∀ _ : Unit, kNew l = kScan (S.map (·.1)) j ((k, B) :: l.drop (j + 1)) := fun _ => hK
      have hj64 : j < 64 := by omega
      clear hat hdr hlj hnb hK hbig hi
      have hM := Mem.start wr
      by_cases h1 : k < 0 ∨ 63 < k
      · --[
        have hbad : kScan (S.map (·.1)) j ((k, B) :: l.drop (j + 1)) = some (2, j) := kScan_bad (.inl ⟨h1, rfl⟩)
        rw [← HK ()] at hbad
        have HB : ∀ _ : Unit, kNew l = some (2, j) := fun _ => hbad
        clear hbad
        have h1' : k < 0 ∨ (¬ k < 0 ∧ k ≥ 64) := by omega
        clear h1
        rcases h1' with h1 | ⟨h1, h2⟩
        all_goals
          go_wp2_with (first
            | ((with_reducible refine gL_load (dst := some 20) ?_); refine ⟨_, _, rfl, hLd _ hM.done, ?_⟩)
            | ((first | ((with_reducible refine gL_alloc (dst := some 7) hM ?_); refine ⟨_, _, (zr_of rfl), ?_⟩) | ((with_reducible refine gL_box (dst := some 7) hM ?_); refine ⟨_, _, _, rfl, rfl, (by first | assumption | exact Len.map (by assumption) _ | rfl | exact Len.map (by rfl) _ | exact Len.of (by simp; done)), ?_⟩)); intro g7 _ hM2; clear hM; have hM := hM2; clear hM2)
            | ((with_reducible refine gL_store hM ?_); refine ⟨_, _, _, rfl, rfl, hM.stores_all (.here _ _ _) (ag_of rfl) (rfl : Len [.int .i64 k, .slice aB nb cB] 2) (by rfl) (one_of_all rfl), ?_⟩; intro _ hM2; clear hM; have hM := hM2; clear hM2)
            | ((with_reducible refine gL_load (dst := some 23) ?_); refine ⟨_, _, rfl, hM.loads_one (.head _) (on_of rfl) rfl, ?_⟩)
            | ((with_reducible refine gG_load (dst := some 27) ?_ ?_); (exact wanted_of rfl rfl rfl rfl rfl); refine ⟨_, _, rfl, hM.loads_one (.head _) (on_of rfl) rfl, ?_⟩))
          refine bodyPost_ret (results_tmp3 rfl _ _ _) rfl ?_
          exact ⟨Adds.trans hA0 hM.done, .inl ⟨2, j, HB (), rfl⟩⟩
        --]
      by_cases h2 : nb < 1 ∨ 256 < nb
      · --[
        have hbad : kScan (S.map (·.1)) j ((k, B) :: l.drop (j + 1)) = some (4, j) := kScan_bad (.inr (.inl ⟨h1, by rw [← HBL ()]; exact h2, rfl⟩))
        rw [← HK ()] at hbad
        have HB : ∀ _ : Unit, kNew l = some (4, j) := fun _ => hbad
        clear hbad
        have h1a : ¬ k < 0 := by omega
        have h1b : ¬ k ≥ 64 := by omega
        have h2' : (nb : Int) < 1 ∨ (¬ (nb : Int) < 1 ∧ (256 : Int) < (nb : Int)) := by omega
        clear h1 h2
        rcases h2' with h2 | ⟨h2, h3⟩
        all_goals
          go_wp2_with (first
            | ((with_reducible refine gL_load (dst := some 20) ?_); refine ⟨_, _, rfl, hLd _ hM.done, ?_⟩)
            | ((first | ((with_reducible refine gL_alloc (dst := some 7) hM ?_); refine ⟨_, _, (zr_of rfl), ?_⟩) | ((with_reducible refine gL_box (dst := some 7) hM ?_); refine ⟨_, _, _, rfl, rfl, (by first | assumption | exact Len.map (by assumption) _ | rfl | exact Len.map (by rfl) _ | exact Len.of (by simp; done)), ?_⟩)); intro g7 _ hM2; clear hM; have hM := hM2; clear hM2)
            | ((with_reducible refine gL_store hM ?_); refine ⟨_, _, _, rfl, rfl, hM.stores_all (.here _ _ _) (ag_of rfl) (rfl : Len [.int .i64 k, .slice aB nb cB] 2) (by rfl) (one_of_all rfl), ?_⟩; intro _ hM2; clear hM; have hM := hM2; clear hM2)
            | ((with_reducible refine gL_load (dst := some 23) ?_); refine ⟨_, _, rfl, hM.loads_one (.head _) (on_of rfl) rfl, ?_⟩)
            | ((with_reducible refine gL_load (dst := some 33) ?_); refine ⟨_, _, rfl, hM.loads_one (.head _) (on_of rfl) rfl, ?_⟩)
            | ((with_reducible refine gG_load (dst := some 27) ?_ ?_); (exact wanted_of rfl rfl rfl rfl rfl); refine ⟨_, _, rfl, hM.loads_one (.head _) (on_of rfl) rfl, ?_⟩)
            | ((with_reducible refine gG_load (dst := some 38) ?_ ?_); (exact wanted_of rfl rfl rfl rfl rfl); refine ⟨_, _, rfl, hM.loads_one (.head _) (on_of rfl) rfl, ?_⟩))
          refine bodyPost_ret (results_tmp3 rfl _ _ _) rfl ?_
          exact ⟨Adds.trans hA0 hM.done, .inl ⟨4, j, HB (), rfl⟩⟩
        --]
      have h1a : ¬ k < 0 := by omega
      have h1b : ¬ k ≥ 64 := by omega
      have h2a : ¬ (nb : Int) < 1 := by omega
      have h2b : ¬ (256 : Int) < (nb : Int) := by omega
      go_wp2_with (first
        | ((with_reducible refine gL_load (dst := some 20) ?_); refine ⟨_, _, rfl, hLd _ hM.done, ?_⟩)
        | ((first | ((with_reducible refine gL_alloc (dst := some 7) hM ?_); refine ⟨_, _, (zr_of rfl), ?_⟩) | ((with_reducible refine gL_box (dst := some 7) hM ?_); refine ⟨_, _, _, rfl, rfl, (by first | assumption | exact Len.map (by assumption) _ | rfl | exact Len.map (by rfl) _ | exact Len.of (by simp; done)), ?_⟩)); intro g7 _ hM2; clear hM; have hM := hM2; clear hM2)
        | ((with_reducible refine gL_store hM ?_); refine ⟨_, _, _, rfl, rfl, hM.stores_all (.here _ _ _) (ag_of rfl) (rfl : Len [.int .i64 k, .slice aB nb cB] 2) (by rfl) (one_of_all rfl), ?_⟩; intro _ hM2; clear hM; have hM := hM2; clear hM2)
        | ((with_reducible refine gL_load (dst := some 23) ?_); refine ⟨_, _, rfl, hM.loads_one (.head _) (on_of rfl) rfl, ?_⟩)
        | ((with_reducible refine gL_load (dst := some 33) ?_); refine ⟨_, _, rfl, hM.loads_one (.head _) (on_of rfl) rfl, ?_⟩)
        | ((with_reducible refine gL_load (dst := some 46) ?_); refine ⟨_, _, rfl, hM.loads_one (.head _) (on_of rfl) rfl, ?_⟩)
        | ((with_reducible refine gG_load (dst := some 27) ?_ ?_); (exact wanted_of rfl rfl rfl rfl rfl); refine ⟨_, _, rfl, hM.loads_one (.head _) (on_of rfl) rfl, ?_⟩)
        | ((with_reducible refine gG_load (dst := some 38) ?_ ?_); (exact wanted_of rfl rfl rfl rfl rfl); refine ⟨_, _, rfl, hM.loads_one (.head _) (on_of rfl) rfl, ?_⟩))
      refine (ring_Has _ gr gm S (hRing _ hM.done) k hkr).mono ?_
      rintro _ wA ⟨rfl, B1⟩
      replace hM := hM.adds B1
      clear B1
      by_cases h3 : k ∈ S.map (·.1)
      · --[
        have hbad : kScan (S.map (·.1)) j ((k, B) :: l.drop (j + 1)) = some (18, j) := kScan_bad (.inr (.inr ⟨h1, by rw [← HBL ()]; exact h2, h3, rfl⟩))
        rw [← HK ()] at hbad
        have HB : ∀ _ : Unit, kNew l = some (18, j) := fun _ => hbad
        clear hbad
        rw [kLook_some.2 h3]
        go_wp2_with fail
        refine bodyPost_ret (results_tmp3 rfl _ _ _) rfl ?_
        exact ⟨Adds.trans hA0 hM.done, .inl ⟨18, j, HB (), rfl⟩⟩
        --]
      have hgood := kScan_good (i := j) (r := l.drop (j + 1)) h1 (by rw [← HBL ()]; exact h2) h3
      rw [← HK ()] at hgood
      have HGD : ∀ _ : Unit, kNew l = kScan (S.map (·.1) ++ [k]) (j + 1) (l.drop (j + 1)) := fun _ => hgood
      have hno : (kLook S k).isSome = false := by
        cases h : (kLook S k).isSome with
        | false => rfl
        | true => exact absurd (kLook_some.1 h) h3
      rw [hno]
      clear hgood hno HK
      have hcl : ∀ w', Adds wA w' → _ := fun w' hw => by_Clone w' (.slice aB nb cB) B (hBv _ (hM.adds hw).done) nb (Len.of (HBL ()).symm) hBl
      have hcell : ∀ w', Adds wA w' → w'.cell? ⟨gr, 0, none⟩ = some (.map (some gm)) := fun w' hw => (hRing _ (hM.adds hw).done).row.cell rfl
      go_wp2_with fail
      try simp only [Act.put, List.setIfInBounds_toArray, List.set_cons_succ, List.set_cons_zero]
      refine wp_region_tail 9 (by decide) (fun c vals => ⟨#[c 0, c 1, c 2, c 3, c 4, (Value.pointer (some ⟨gr, 0, none⟩) : Value), c 6, (Value.pointer (some ⟨g7, 0, none⟩) : Value), c 8, c 9, c 10, c 11, c 12, c 13, c 14, c 15, c 16, c 17, c 18, c 19, c 20, c 21, c 22, c 23, c 24, c 25, c 26, c 27, c 28, c 29, c 30, c 31, c 32, c 33, c 34, c 35, c 36, c 37, c 38, c 39, c 40, c 41, c 42, c 43, c 44, c 45, c 46, c 47, c 48, vals 0, vals 1, vals 2, vals 3, vals 4, vals 5, vals 6, vals 7, vals 8, c 58, c 59], []⟩) (fun t => [_, _, _, _, _, undef, _, undef, _, _, _, _, _, _, _, _, _, _, _, _, _, _, _, _, _, _, _, _, _, _, _, _, _, _, _, _, _, _, _, _, _, _, _, _, _, _, _, _, _, undef, undef, undef, undef, undef, undef, undef, undef, undef, _, _].getD t undef) (fun i => [_, _, _, _, _, _, _, _, _].getD i undef) (by kernel_rfl)
        [[], [0], [0, 1], [0, 1, 2], [], [4], [], [6], [6, 7], [0, 1, 2, 3, 4, 5, 6, 7, 8]] (by kernel_rfl) (by kernel_rfl) (fun _ => True) trivial
        [fun x _ => x = (Value.pointer (some ⟨gr, 0, none⟩) : Value),
         fun x _ => x = (Value.pointer (some ⟨gr, 0, none⟩) : Value),
         fun x _ => x = (Value.pointer (some ⟨gr, 0, none⟩) : Value),
         fun x _ => x = (.map (some gm) : Value),
         fun x _ => x = (Value.pointer (some ⟨g7, 0, none⟩) : Value),
         fun x _ => x = (Value.int .i64 k : Value),
         fun x _ => x = (Value.pointer (some ⟨g7, 1, none⟩) : Value),
         fun x _ => x = (Value.slice aB nb cB : Value),
         fun (xx : Value) (ww : World) => ∃ ob9 cp9, xx = sl ob9 nb cp9 ∧ cp9 ≤ maxLen ∧ Mem [] wA ww [⟨ob9, 5, B.map B8, cp9⟩]]
        ⟨fun _ _ _ h _ => h, fun _ _ _ h _ => h, fun _ _ _ h _ => h, fun _ _ _ h _ => h, fun _ _ _ h _ => h, fun _ _ _ h _ => h, fun _ _ _ h _ => h, fun _ _ _ h _ => h, fun _ _ _ h hb => (let ⟨o9, c9, h1, h2, h3⟩ := h; ⟨o9, c9, h1, h2, h3.adds hb⟩), trivial⟩ []
        ⟨?_, ?_, ?_, ?_, ?_, ?_, ?_, ?_, ?_, trivial⟩ ?_
      · refine showA_op 0 (by intro _ _ _; kernel_rfl) rfl rfl (fun c vals w hC hD => ?_)
        clear hD
        refine makes1 (x := .tmp 5) (X := Value.pointer (some ⟨gr, 0, none⟩)) (by kernel_rfl : _ = (Value.pointer (some ⟨gr, 0, none⟩) : Value)) (fun ρ rc rf q5 => ?_)
        exact makes_move (.inl rfl) q5 ⟨Adds.refl _, rfl⟩
      · refine showA_op 1 (by intro _ _ _; kernel_rfl) rfl rfl (fun c vals w hC hD => ?_)
        have h0 : vals 0 = .pointer (some ⟨gr, 0, none⟩) := hD 0 rfl
        clear hD
        refine makes1 (x := .tmp 49) (X := Value.pointer (some ⟨gr, 0, none⟩)) ((by kernel_rfl : _ = vals 0).trans h0) (fun ρ rc rf q49 => ?_)
        clear h0
        refine makes_value (v := Value.pointer (some ⟨gr, 0, none⟩)) ?_ ⟨Adds.refl _, rfl⟩
        go_simp
        all_goals first | done | rfl | (rw [if_pos (by omega)]; refine congrArg (fun x => Result.ok (Next.value (Value.pointer (some ⟨_, x, none⟩))) _) ?_; omega) | (rw [wrapP_i64]; omega) | go_num | (simp; done) | (simp; omega) | (congr 1; first | rfl | (rw [wrapP_i64]; omega) | (congr 1; first | rfl | (simp; done) | (simp; omega) | (congr 2; omega) | go_num))
      · refine showA_op 2 (by intro _ _ _; kernel_rfl) rfl rfl (fun c vals w hC hD => ?_)
        have h1 : vals 1 = .pointer (some ⟨gr, 0, none⟩) := hD 1 rfl
        clear hD
        refine makes1 (x := .tmp 50) (X := Value.pointer (some ⟨gr, 0, none⟩)) ((by kernel_rfl : _ = vals 1).trans h1) (fun ρ rc rf q50 => ?_)
        clear h1
        refine makes_value (v := Value.pointer (some ⟨gr, 0, none⟩)) ?_ ⟨Adds.refl _, rfl⟩
        go_simp
        all_goals first | done | rfl | (rw [if_pos (by omega)]; refine congrArg (fun x => Result.ok (Next.value (Value.pointer (some ⟨_, x, none⟩))) _) ?_; omega) | (rw [wrapP_i64]; omega) | go_num | (simp; done) | (simp; omega) | (congr 1; first | rfl | (rw [wrapP_i64]; omega) | (congr 1; first | rfl | (simp; done) | (simp; omega) | (congr 2; omega) | go_num))
      · refine showA_op 3 (by intro _ _ _; kernel_rfl) rfl rfl (fun c vals w hC hD => ?_)
        have h2 : vals 2 = .pointer (some ⟨gr, 0, none⟩) := hD 2 rfl
        clear hD
        refine makes1 (x := .tmp 51) (X := Value.pointer (some ⟨gr, 0, none⟩)) ((by kernel_rfl : _ = vals 2).trans h2) (fun ρ rc rf q51 => ?_)
        clear h2
        exact makes_load (loads_cell (hcell _ hC) (on_of rfl)) rfl q51 ⟨Adds.refl _, rfl⟩
      · refine showA_op 4 (by intro _ _ _; kernel_rfl) rfl rfl (fun c vals w hC hD => ?_)
        clear hD
        refine makes1 (x := .tmp 7) (X := Value.pointer (some ⟨g7, 0, none⟩)) (by kernel_rfl : _ = (Value.pointer (some ⟨g7, 0, none⟩) : Value)) (fun ρ rc rf q7 => ?_)
        refine makes_value (v := Value.pointer (some ⟨g7, 0, none⟩)) ?_ ⟨Adds.refl _, rfl⟩
        go_simp
        all_goals first | done | rfl | (rw [if_pos (by omega)]; refine congrArg (fun x => Result.ok (Next.value (Value.pointer (some ⟨_, x, none⟩))) _) ?_; omega) | (rw [wrapP_i64]; omega) | go_num | (simp; done) | (simp; omega) | (congr 1; first | rfl | (rw [wrapP_i64]; omega) | (congr 1; first | rfl | (simp; done) | (simp; omega) | (congr 2; omega) | go_num))
      · refine showA_op 5 (by intro _ _ _; kernel_rfl) rfl rfl (fun c vals w hC hD => ?_)
        have h4 : vals 4 = .pointer (some ⟨g7, 0, none⟩) := hD 4 rfl
        clear hD
        refine makes1 (x := .tmp 53) (X := Value.pointer (some ⟨g7, 0, none⟩)) ((by kernel_rfl : _ = vals 4).trans h4) (fun ρ rc rf q53 => ?_)
        clear h4
        exact makes_load ((hM.adds hC).loads_one (.head _) (on_of rfl) rfl) rfl q53 ⟨Adds.refl _, rfl⟩
      · refine showA_op 6 (by intro _ _ _; kernel_rfl) rfl rfl (fun c vals w hC hD => ?_)
        clear hD
        refine makes1 (x := .tmp 7) (X := Value.pointer (some ⟨g7, 0, none⟩)) (by kernel_rfl : _ = (Value.pointer (some ⟨g7, 0, none⟩) : Value)) (fun ρ rc rf q7 => ?_)
        refine makes_value (v := Value.pointer (some ⟨g7, 1, none⟩)) ?_ ⟨Adds.refl _, rfl⟩
        go_simp
        all_goals first | done | rfl | (rw [if_pos (by omega)]; refine congrArg (fun x => Result.ok (Next.value (Value.pointer (some ⟨_, x, none⟩))) _) ?_; omega) | (rw [wrapP_i64]; omega) | go_num | (simp; done) | (simp; omega) | (congr 1; first | rfl | (rw [wrapP_i64]; omega) | (congr 1; first | rfl | (simp; done) | (simp; omega) | (congr 2; omega) | go_num))
      · refine showA_op 7 (by intro _ _ _; kernel_rfl) rfl rfl (fun c vals w hC hD => ?_)
        have h6 : vals 6 = .pointer (some ⟨g7, 1, none⟩) := hD 6 rfl
        clear hD
        refine makes1 (x := .tmp 55) (X := Value.pointer (some ⟨g7, 1, none⟩)) ((by kernel_rfl : _ = vals 6).trans h6) (fun ρ rc rf q55 => ?_)
        clear h6
        exact makes_load ((hM.adds hC).loads_one (.head _) (on_of rfl) rfl) rfl q55 ⟨Adds.refl _, rfl⟩
      · refine showA_op 8 (by intro _ _ _; kernel_rfl) rfl rfl (fun c vals w hC hD => ?_)
        have h7 : vals 7 = .slice aB nb cB := hD 7 rfl
        clear hD
        refine makes1 (x := .tmp 56) (X := Value.slice aB nb cB) ((by kernel_rfl : _ = vals 7).trans h7) (fun ρ rc rf q56 => ?_)
        clear h7
        refine makes_call (hcl _ hC) ?_ (by rintro e w' ⟨ob9, cp9, rfl, hc9, hm9⟩; exact ⟨_, rfl, hm9.done, ob9, cp9, rfl, hc9, ((Mem.start _).adds hC).join hm9 (by simp)⟩)
        go_simp
        all_goals first | done | rfl | exact lit8 _ (by decide)
      intro vals w' hC hΦ hne
      have h3 : vals 3 = .map (some gm) := hΦ 3 (by decide)
      have h5 : vals 5 = .int .i64 k := hΦ 5 (by decide)
      have h8 : (fun (xx : Value) (ww : World) => ∃ ob9 cp9, xx = sl ob9 nb cp9 ∧ cp9 ≤ maxLen ∧ Mem [] wA ww [⟨ob9, 5, B.map B8, cp9⟩]) (vals 8) w' := hΦ 8 (by decide)
      clear hΦ hne
      simp only [List.getD_eq_getElem?_getD, List.getElem?_cons_zero, List.getElem?_cons_succ, Option.getD_some, List.drop_succ_cons, List.drop_zero]
      simp only [h3, h5]
      clear h3 h5
      try simp only [tuple_undef]
      obtain ⟨ob9, cp9, e9, hc9, hm9⟩ := h8
      rw [e9]
      clear e9 hcl hcell
      replace hM := hM.adds hC
      clear hC
      have hOw := owns_adds hO hM.done
      have hkey : keyOf Try.prog 3 (.int .i64 k) = some (.int .i64 k) := keyOf_int_mk Try.underlying3 (by simp [Lit.wf, IntKind.min, IntKind.max, IntKind.signed, IntKind.bits]; omega)
      go_wp2_with (first
        | ((with_reducible refine gL_mapUpdate ?_); refine ⟨Value, 3, 22, kR, gm, j, kD S, .int .i64 k, sl ob9 nb cp9, .int .i64 k, .held (sl ob9 nb cp9), [], int_keyed Try.underlying3, Try.underlying132, rfl, hOw, (by simp only [maxLen]; omega), rfl, rfl, hkey, rfl, ?_⟩; intro wU hOU hgU))
      have hTw := hT.adds hM.done
      have hT2 : Mem [gm] w1 wU [] := ⟨hTw.touch.step (H := [gm]) ⟨hgU.os, hgU.tape, hgU.output, hgU.size, fun q hq hno => hgU.block q hq (by intro he; exact hno (by rw [Option.some.inj he]; simp))⟩ (fun g hg => .inl hg), by simp, by simp, by simp⟩
      have hRw := (hRing _ hM.done).row
      have hR2 : Row wU gr 134 [.map (some gm)] := (hgU.block gr hRw.lt (by intro he; exact hgr (Option.some.inj he))).trans hRw
      obtain ⟨es, clock, hmp, -⟩ := hOw
      have hby2 : ∀ x ∈ S ++ [((k, sl ob9 nb cp9, B) : Sec)], Bytes wU x.2.1 x.2.2 := fun x hx => by
        rcases List.mem_append.1 hx with hx | hx
        · exact ((hby x hx).adds hM.done).beside hmp hgU
        · rw [List.mem_singleton.1 hx]
          have h := hm9.whole (.head _) (Len.of (HBL ()).symm) (by simpa [maxLen] using hc9)
          exact Bytes.beside h hmp hgU
      have hln2 : ∀ x ∈ S ++ [((k, sl ob9 nb cp9, B) : Sec)], x.2.2.length ≤ 256 := fun x hx => by
        rcases List.mem_append.1 hx with hx | hx
        · exact hln x hx
        · rw [List.mem_singleton.1 hx]
          show B.length ≤ 256
          rw [← HBL ()]
          omega
      have hnd2 : ((S ++ [((k, sl ob9 nb cp9, B) : Sec)]).map (·.1)).Nodup := by
        rw [List.map_append, List.nodup_append]
        refine ⟨hnd, by simp, fun a ha b hb hab => ?_⟩
        have hbk : b = k := by simpa using hb
        subst hbk hab
        exact h3 ha
      have hS2 : (S ++ [((k, sl ob9 nb cp9, B) : Sec)]).map (fun x : Sec => (x.1, x.2.2)) = l.take (j + 1) := by rw [htk, List.map_append, hS]; rfl
      have hK2 : kNew l = kScan ((S ++ [((k, sl ob9 nb cp9, B) : Sec)]).map (·.1)) (j + 1) (l.drop (j + 1)) := by rw [HGD (), List.map_append]; rfl
      rw [← kD_snoc S (k, sl ob9 nb cp9, B)] at hOU
      clear hTw hRw hmp hRing hM hkey HGD hLd hBv hS hnd hby hln htk
      go_roundw
      case rel => exact ⟨j + 1, S ++ [(k, sl ob9 nb cp9, B)], by omega, by go_num, hS2, hK2, hT2, hR2, hOU, hnd2, hby2, hln2⟩
      case measure => simp [intOf]; omega
    · obtain rfl : j = n := by omega
      have hti : ¬ (j : Int) < (j : Int) := by omega
      clear hat
      have hkn : kNew l = none := by rw [hK, List.drop_of_length_le (by rw [← HN ()]; exact Nat.le_refl _)]; rfl
      have HKN : ∀ _ : Unit, kNew l = none := fun _ => hkn
      have hS2 : S.map (fun x : Sec => (x.1, x.2.2)) = l := by rw [hS, List.take_of_length_le (by rw [← HN ()]; exact Nat.le_refl _)]
      have HS2 : ∀ _ : Unit, S.map (fun x : Sec => (x.1, x.2.2)) = l := fun _ => hS2
      clear hkn hS2 hK hS
      go_wp2_with fail
      refine bodyPost_ret (results_tmp3 rfl _ _ _) rfl ?_
      exact ⟨hA0, .inr ⟨HKN (), gr, gm, S, HS2 (), rfl, ⟨hRr, hO.mono (by omega), hnd, hby, by omega, hln⟩⟩⟩
end Go.Proofs.Ytejmbkljnhnklaa
