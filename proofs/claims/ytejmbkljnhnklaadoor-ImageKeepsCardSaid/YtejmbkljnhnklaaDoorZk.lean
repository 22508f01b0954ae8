/-
  The walks of law 11's wide and kept.
  Append of one byte onto a row that is kept; rows that came out.
  The walk of law 11's grown.
  What came out of Make, Parse, Body, as rows of bytes.
-/
import Derived.Test.YtejmbkljnhnklaaDoorZi
import Derived.ArgAppend
namespace Go.PK
open Go.RowKit
section
variable {P : Program} {Q : Exit → Act → World → Prop} {ops : Array Oper} {rest : List Oper} {a : Act} {w : World} {dst : Option Tmp} {type : TypeId} {pos : String} {after : Array Edge}
end
end Go.PK
namespace Go.Proofs.YtejmbkljnhnklaaDoor
open Go.RowKit Go.PK
abbrev marks5 : List UInt8 := [161, 162, 163, 164, 165]
set_option maxRecDepth 100000 in
set_option maxHeartbeats 4000000 in
theorem law11_wide (w0 : World) (v : Value) (l : List UInt8) (hv : Bytes w0 v l) (n : Nat) (hn : Len l n) (hnl : n ≤ 140737488351232) :
    Calls Tryd.prog 21 #[v] w0 fun e w' => ∃ g N, e = .returned (.slice (some ⟨g, 0, none⟩) n N) ∧ n + 5 ≤ N ∧ N ≤ maxLen ∧ Mem [] w0 w' [⟨some g, 5, (l ++ marks5).map B8, N⟩] := by
  have hM := Mem.start w0
  obtain ⟨ao, cap, rfl, g1, -⟩ := id hv
  rw [hn.eq] at hv g1 ⊢
  go_enter Tryd.func21, Tryd.ntmps21
  go_wp2_with (first
    | ((with_reducible refine gL_make0 (dst := some 7) hM ?_); refine ⟨5, n + 5, (us_of rfl), (by kernel_rfl), rfl, (by first | rfl | exact congrArg (Value.int .i64) (by omega) | go_num), (by omega), ?_⟩; intro g7 _ hM2; clear hM; have hM := hM2; clear hM2)
    | ((with_reducible refine gL_append_B (dst := some 9) hM ?_); refine ⟨_, _, some g7, 0, n + 5, 5, [], l, n, _, rfl, rfl, rfl, (us_of rfl), (el_of rfl), (by have h := (hM.bytes0 hv).src; rwa [hn.eq] at h), (fun _ _ => .here _ _ _), rfl, hn, (by simp only [maxLen]; omega), (by omega), ?_⟩; intro ob1 cap1 _ hM2 h11 h12; rw [Nat.zero_add] at h11 ⊢; rw [List.nil_append] at hM2; clear hM; have hM := hM2; clear hM2)
    | ((with_reducible refine gL_buildBytes (dst := some 11) hM ?_); refine ⟨_, _, (us_of rfl), (el_of rfl), (by decide), (by decide), rfl, (by (repeat (first | exact EvB.nil | apply EvB.cons rfl (by first | exact (rfl : B8 _ = B8 _) | exact lit8 _ (by decide)))); done), ?_⟩; intro g11 _ hM2; clear hM; have hM := hM2; clear hM2)
    | ((with_reducible refine gL_append_B (dst := some 12) hM ?_); have hx := hM.src (m := 5) (cap := 5) (.head _); refine ⟨_, _, ob1, n, cap1, 5, l, marks5, 5, _, rfl, rfl, rfl, (us_of rfl), (el_of rfl), hx, (fun _ _ => .there _ (.here _ _ _)), hn, rfl, h12, (by omega), ?_⟩; clear hx; intro ob2 cap2 wA hM2 h21 h22; obtain ⟨gW, rfl⟩ := hM2.some_of (.tail _ (.head _)) (n := n + 5) (Len.of (by simp [hn.eq])) (by omega); clear hM; have hM := hM2.drop; clear hM2; have hS := (bytes_upto (P := Tryd.prog) (hM.whole (ob := some gW) (n := n + 5) (.head _) (Len.of (by simp [hn.eq])) (by simp only [maxLen] at h22; omega)) (t := 23) (us_of rfl) (by exact elOne rfl) (k := n) (by omega)).1)
    | ((with_reducible refine gL_slice (dst := some 15) ?_); refine ⟨_, hS, ?_⟩))
  go_ret
  exact ⟨gW, cap2, rfl, h21, h22, hM⟩
set_option maxRecDepth 100000 in
set_option maxHeartbeats 4000000 in
theorem law11_kept (w0 : World) (g n N : Nat) (vb : Value) (l : List UInt8) (hn : Len l n) (hnl : n ≤ 140737488351232) (hW : Bytes w0 (.slice (some ⟨g, 0, none⟩) n N) l) (hA : Bytes w0 (.slice (some ⟨g, 0, none⟩) (n + 5) N) (l ++ marks5)) (hb : Bytes w0 vb l) :
    Calls Tryd.prog 22 #[.slice (some ⟨g, 0, none⟩) n N, vb] w0 fun e w' => e = .returned (.bool true) ∧ Below w0.heap.size w0 w' := by
  have hM := Mem.start w0
  obtain ⟨ao, cap, rfl, g1, -⟩ := id hb
  rw [hn.eq] at hb g1 ⊢
  obtain ⟨e1, e2, -⟩ := hA.form
  have hN : n + 5 ≤ N := e2
  have hNi : (n : Int) + 5 ≤ (N : Int) := by omega
  have hBT : Bytes w0 (.slice (some ⟨g, n, none⟩) 5 (N - n)) marks5 := by
    obtain ⟨ao2, c2, hv2, g2, g3, -, g4⟩ := hA
    injection hv2 with a1 a2 a3
    subst a1 a3
    refine ⟨some ⟨g, n, none⟩, N - n, rfl, by show 5 ≤ N - n; omega, by omega, nofun, fun j hj => ?_⟩
    obtain ⟨b, o, h1, h2, h3⟩ := g4 (n + j) (by rw [List.length_append, hn.eq]; have : marks5.length = 5 := rfl; have : j < 5 := hj; omega)
    cases h1
    refine ⟨g, n, rfl, h2, ?_⟩
    rw [Nat.zero_add] at h3
    rw [h3, List.getD_eq_getElem?_getD, List.getD_eq_getElem?_getD, List.getElem?_append_right (by rw [hn.eq]; omega), hn.eq, Nat.add_sub_cancel_left]
  have hs1 := str_of hW
  have hs2 := str_of hb
  have hs3 := str_of hBT
  have hni : (n : Int) ≤ (n : Int) + 5 := by omega
  clear hA hBT hW e1 e2 hN
  go_enter Tryd.func22, Tryd.ntmps22
  go_wp2_with fail
  go_ret
  exact ⟨rfl, hM.done⟩
end Go.Proofs.YtejmbkljnhnklaaDoor
namespace Go.PK
open Go.RowKit
section
variable {P : Program} {Q : Exit → Act → World → Prop} {ops : Array Oper} {rest : List Oper} {a : Act} {w : World} {G : List Nat} {w0 : World} {L : List Blk} {dst : Option Tmp} {type : TypeId} {pos : String} {after : Array Edge} {K : Act → World → Prop} {o : Oper}
theorem Mem.dropL : ∀ (l : List Blk) {R : List Blk}, Mem G w0 w (l ++ R) → Mem G w0 w R
  | [], _, h => h
  | _ :: l, _, h => Mem.dropL l h.drop
theorem Mem.up (l : List Blk) {b : Blk} {R : List Blk} (hM : Mem G w0 w (l ++ b :: R)) : Mem G w0 w (b :: (l ++ R)) := hM.perm List.perm_middle
theorem Mem.wp_append_room {s x : Operand} {t : TypeId} {g : Nat} {e : TypeId} {l : List UInt8} {z : UInt8} {n cap c bytes : Nat} {ad : Addr} (hM : Mem G w0 w (⟨some g, e, l.map B8, cap⟩ :: L)) (ho : o.op = .call { callee := .builtin .append, args := #[s, x], argTypes := #[t, t] })
    (hs : a.eval s = .slice (some ⟨g, 0, none⟩) n cap) (ht : P.underlying t = some (.slice e)) (hel : El P e 1 bytes) (hl : Len l n)
    (hx : a.eval x = .slice (some ad) 1 c) (hz : w.cell? ad = some (B8 z)) (hroom : n + 1 ≤ cap) (h : ∀ w', Mem G w0 w' (⟨some g, e, (l ++ [z]).map B8, cap⟩ :: L) → K (a.put o.dst (.slice (some ⟨g, 0, none⟩) (n + 1) cap)) w') : o.wp P a w K Q := by
  obtain ⟨z0, hinfo, hzs, hsz⟩ := hel
  obtain ⟨i, hi, hz0, hsize, hby⟩ := info_parts hinfo
  obtain ⟨J, hJ, hN⟩ := hM.holds _ (.head _)
  rw [List.length_map, hl.eq] at hN
  replace hN : n + J.length = cap := hN
  have hst := run_storeCells_at (P := P) g n e ([z].map B8) 0 (l.map B8 ++ J).toArray w hJ (by simp [hl.eq]; omega) (fun v hv => by obtain ⟨c, _, rfl⟩ := List.mem_map.1 hv; rfl)
  have he : (l.map B8 ++ J).take (n + 0) ++ [z].map B8 ++ (l.map B8 ++ J).drop (n + 0 + ([z].map B8).length) = (l ++ [z]).map B8 ++ J.drop [z].length := by
    rw [Nat.add_zero, List.take_left' (by rw [List.length_map, hl.eq]), List.length_map, ← List.drop_drop, List.drop_left' (by rw [List.length_map, hl.eq]), List.map_append]
  simp only at hst
  rw [he] at hst
  have hM2 := hM.setRow (.here _ ⟨some g, e, (l ++ [z]).map B8, cap⟩ _) hJ (J.drop [z].length) (by simp [hl.eq]; omega)
  have hf := run_firstCells_some (P := P) w i.size 1 ad 1 c ([z].map B8) (by rw [hsize]; rfl) (fun j u hj => by
    rcases j with _ | j
    · simp at hj
      subst hj
      rw [show ad.add 0 = ad from by cases ad; rfl]
      exact hz
    · simp at hj)
  have hrun : (Builtin.append_ #[t, t] o.type #[.slice (some ⟨g, 0, none⟩) n cap, .slice (some ad) 1 c]).run P w = .ok (.slice (some ⟨g, 0, none⟩) (n + 1) cap) (w.setRow g ((l ++ [z]).map B8 ++ J.drop [z].length).toArray) := by
    have hst' : (storeCells ⟨g, n, none⟩ ([z].map B8)).run P w = _ := hst
    have hif : (if n = 0 then (⟨g, 0, none⟩ : Addr) else ⟨g, n, none⟩) = ⟨g, n, none⟩ := by split <;> simp_all
    rw [hsize] at hf
    simp [Builtin.append_, run_underlying ht, sizeOf, typeInfo, hi, hsize, Builtin.lenOf, hroom, hf, Addr.add]
    rw [hif]
    simp only [List.map_cons, List.map_nil] at hst'
    rw [hst']
    simp
  unfold Oper.wp execOp
  simp only [ho, resolve, invoke, builtin, Sem.run_bind, Sem.run_pure, Result.andThen_ok, List.map_toArray, List.map_cons, List.map_nil, hs, hx, hrun]
  exact h _ hM2
theorem gL_append_keep {id : Option Nat} {e : TypeId} {C : List UInt8} {N n off cap : Nat} (hM : Mem G w0 w (⟨id, e, C.map B8, N⟩ :: L)) {s x : Operand} {t : TypeId} (z : UInt8) (D : List UInt8) (h : ∃ (v u : Value) (ad : Addr) (c bytes : Nat), a.eval s = v ∧ a.eval x = u ∧ v = .slice (id.map fun g => ⟨g, off, none⟩) n cap ∧ u = .slice (some ad) 1 c ∧ w.cell? ad = some (B8 z) ∧ P.underlying t = some (.slice e) ∧ El P e 1 bytes ∧
    ((off = 0 ∧ Len C n ∧ N = cap) ∨ cap = n) ∧ Len D n ∧ (∀ i, i < n → C[off + i]? = D[i]?) ∧ (id = none → n = 0 ∧ cap = 0) ∧ n + 1 ≤ maxLen ∧ (n + 1) * bytes ≤ 140737488355328 ∧
    cap ≤ maxLen ∧ (∀ g' cap' w' Lz, ((Lz = [] ∧ id = some g' ∧ off = 0 ∧ cap' = cap) ∨ Lz = [⟨id, e, C.map B8, N⟩]) → Mem G w0 w' (⟨some g', e, (D ++ [z]).map B8, cap'⟩ :: (Lz ++ L)) → n + 1 ≤ cap' → cap' ≤ maxLen → wpList P ops Q rest (a.put dst (.slice (some ⟨g', 0, none⟩) (n + 1) cap')) w')) :
    wpList P ops Q (Oper.mk dst (.call { callee := .builtin .append, args := #[s, x], argTypes := #[t, t] }) type pos after none :: rest) a w := by
  obtain ⟨v, u, ad, c, bytes, hs, hx, rfl, rfl, hz, ht, hel, hway, hD, hCD, hnil, h63, hb, hcm, h2⟩ := h
  refine wpList_plain rfl fun K hk => ?_
  cases id with
  | none =>
    obtain ⟨rfl, rfl⟩ := hnil rfl
    have hD0 : D = [] := List.eq_nil_of_length_eq_zero hD.eq
    subst hD0
    refine (hM.addNil e).wp_append (size := 1) (ob := none) (C := []) (N := 0) (n := 0) (cap := 0) (m := 1) (news := [B8 z]) (L' := fun ob' cap' => ⟨ob', e, [] ++ [B8 z], cap' * 1⟩ :: ⟨none, e, C.map B8, N⟩ :: L) rfl hs ht hel (fun _ _ => .here _ _ _) rfl rfl (by decide) hx (.inl ⟨ad, c, rfl, fun j u hj => ?_⟩) rfl (fun v hv => by simp at hv; subst hv; rfl) h63 hb (fun ob' cap' w' hM2 g1 g2 => ?_)
    · rcases j with _ | j
      · simp at hj
        subst hj
        rw [show ad.add 0 = ad from by cases ad; rfl]
        exact hz
      · simp at hj
    · obtain ⟨g', rfl⟩ := hM2.some_of (.head _) (n := 1) rfl (by omega)
      refine hk _ _ (h2 g' cap' w' [_] (.inr rfl) ?_ g1 g2)
      rw [Nat.mul_one] at hM2
      exact hM2
  | some g =>
    by_cases hr : n + 1 ≤ cap
    · obtain ⟨rfl, hC, rfl⟩ := hway.resolve_right (by omega)
      have hCe : C = D := List.ext_getElem? fun i => by
        by_cases hi : i < n
        · have := hCD i hi
          rwa [Nat.zero_add] at this
        · rw [List.getElem?_eq_none (by rw [hC.eq]; omega), List.getElem?_eq_none (by rw [hD.eq]; omega)]
      subst hCe
      exact hM.wp_append_room rfl hs ht hel hC hx hz hr fun w' hM2 => hk _ _ (h2 g N w' [] (.inl ⟨rfl, rfl, rfl, rfl⟩) hM2 hr hcm)
    · obtain ⟨z0, hinfo, hzs, hsz⟩ := hel
      obtain ⟨i, hi, hz0, hsize, hby⟩ := info_parts hinfo
      obtain ⟨v', w', hr, hown, hg⟩ := run_append_arg_grows (P := P) w t type e i z0 1 bytes ht hi hz0 hsize hby hzs hsz ⟨g, off, none⟩ n cap (D.map B8) (by rw [List.length_map, hD.eq, Nat.mul_one]) (fun j u hj => by
          have hjn : j < n := by have := (List.getElem?_eq_some_iff.1 hj).1; rwa [List.length_map, hD.eq] at this
          rw [Addr.add_lit]
          refine hM.cell (.head _) ?_
          rw [List.getElem?_map] at hj ⊢
          rw [hCD j hjn]
          exact hj) ad 1 c [B8 z] rfl (fun j u hj => by
          rcases j with _ | j
          · simp at hj
            subst hj
            rw [show ad.add 0 = ad from by cases ad; rfl]
            exact hz
          · simp at hj) (by omega) h63 hb
      have hA : Adds w w' := ⟨hg.os, hg.tape, hg.output, hg.size, fun k hk => hg.block k hk (by simp)⟩
      unfold Oper.wp execOp
      simp only [resolve, invoke, builtin, Sem.run_bind, Sem.run_pure, Result.andThen_ok, List.map_toArray, List.map_cons, List.map_nil, hs, hx]
      rw [show (some g).map (fun g => (⟨g, off, none⟩ : Addr)) = some ⟨g, off, none⟩ from rfl, hr]
      rcases hown.2 with ⟨rfl, h0⟩ | ⟨g', cap', cur, rfl, hbg, hcell, hc1, hc2, hc3, hc4⟩
      · omega
      · refine hk _ _ (h2 g' cap' w' [_] (.inr rfl) ?_ hc1 hc2)
        refine hM.addNew hA ⟨cur.toList.drop ((n + 1) * 1), ?_, ?_⟩ hbg
        · rw [show (D ++ [z]).map B8 = D.map B8 ++ [B8 z] from by simp, hcell, ← hc4, List.take_append_drop]
        · simp only [List.length_append, List.length_map, List.length_singleton, hD.eq, List.length_drop, Array.length_toList, hc3]
          omega
end
end Go.PK
namespace Go.PK
open Go.RowKit
section
variable {P : Program} {Q : Exit → Act → World → Prop} {ops : Array Oper} {rest : List Oper} {a : Act} {w : World} {G : List Nat} {w0 : World} {L : List Blk} {dst : Option Tmp} {type : TypeId} {pos : String} {after : Array Edge}
theorem gL_bs1 (hM : Mem G w0 w L) {t : TypeId} {x : Operand} (h : ∃ e C size bytes V, P.underlying t = some (.slice e) ∧ El P e size bytes ∧ 1 * size ≤ 16777216 ∧ a.eval x = V ∧ V.cells = C.toArray ∧ Len C size ∧
    ∀ g w', Mem G w0 w' (⟨some g, e, C, size⟩ :: L) → wpList P ops Q rest (a.put dst (.slice (some ⟨g, 0, none⟩) 1 1)) w') :
    wpList P ops Q (Oper.mk dst (.buildSlice t 1 #[(0, x)]) type pos after none :: rest) a w := by
  obtain ⟨e, C, size, bytes, V, hu, hel, hs, hx, hC, hl, h⟩ := h
  refine wpList_plain rfl fun K hk => hM.wp_buildSlice (parts := [(0, x)]) (C := C) rfl hu hel hs (by decide) rfl ?_ ?_ (by rw [Nat.one_mul]) (fun g w' hm => hk _ _ (h g w' hm))
  · simp [hx, hC]
  · intro v hv
    simp [hx] at hv
    subst hv
    rw [hC]
    exact List.size_toArray.trans hl.eq
theorem gL_pushes (hM : Mem G w0 w L) {s x : Operand} {t : TypeId} (h : ∃ (v u : Value) (ob : Option Nat) (n m cap : Nat) (e : TypeId) (bytes : Nat) (C X : List Value) (L' : Option Nat → Nat → List Blk), a.eval s = v ∧ a.eval x = u ∧ v = sl ob n cap ∧ P.underlying t = some (.slice e) ∧ El P e 1 bytes ∧ Src w u m X ∧
    (∀ ob' cap', Swap L ⟨ob, e, C, cap * 1⟩ ⟨ob', e, C ++ X, cap' * 1⟩ (L' ob' cap')) ∧ Len C n ∧ Len X m ∧ (∀ v ∈ X, v.oneCell' = true) ∧ cap ≤ maxLen ∧ n + m ≤ maxLen ∧ (n + m) * bytes ≤ 140737488355328 ∧
    ∀ ob' cap' w', Mem G w0 w' (L' ob' cap') → n + m ≤ cap' → cap' ≤ maxLen → wpList P ops Q rest (a.put dst (sl ob' (n + m) cap')) w') :
    wpList P ops Q (Oper.mk dst (.call { callee := .builtin .append, args := #[s, x], argTypes := #[t, t] }) type pos after none :: rest) a w :=
  let ⟨_, _, _, _, _, _, _, _, _, _, _, h1, h2, h3, h4, h5, h6, h7, h8, h8', h9, h10, h11, h12, h13⟩ := h
  wpList_plain rfl fun _ hk => hM.wp_append rfl (h1.trans h3) h4 h5 h7 rfl (by rw [h8.eq, Nat.mul_one]) h10 h2 h6 (by rw [h8'.eq, Nat.mul_one]) h9 h11 h12 fun ob' cap' w' g1 g2 g3 => hk _ _ (h13 ob' cap' w' g1 g2 g3)
end
end Go.PK
namespace Go.Proofs.YtejmbkljnhnklaaDoor
open Go.RowKit Go.PK
structure OR where
  id : Option Nat
  off : Nat
  n : Nat
  cap : Nat
  C : List UInt8
  N : Nat
def OR.v (r : OR) : Value := .slice (r.id.map fun g => ⟨g, r.off, none⟩) r.n r.cap
def OR.b (r : OR) : Blk := ⟨r.id, 5, r.C.map B8, r.N⟩
structure OR.Ok (r : OR) : Prop where
  nil : r.id = none → r.n = 0 ∧ r.cap = 0
  fits : ∀ i, i < r.n → r.off + i < r.C.length
  way : (r.off = 0 ∧ Len r.C r.n ∧ r.N = r.cap) ∨ r.cap = r.n
  cap : r.cap ≤ maxLen
  few : r.n ≤ 140737488351232
  nc : r.n ≤ r.cap
theorem bytes_held {w : World} {g off n cap N : Nat} {t : TypeId} {C : List UInt8} {x : UInt8} (h : (Blk.mk (some g) t (C.map B8) N).holds w) (hC : ∀ i, i < n → C[off + i]? = some x) (hn : n ≤ cap) (hc : cap ≤ maxLen) : Bytes w (.slice (some ⟨g, off, none⟩) n cap) (List.replicate n x) := by
  obtain ⟨J, hJ, -⟩ := h
  have hc2 : cap ≤ 9223372036854775807 := by simpa [maxLen] using hc
  refine ⟨some ⟨g, off, none⟩, cap, by rw [List.length_replicate], by rw [List.length_replicate]; exact hn, hc2, nofun, fun j hj => ⟨g, off, rfl, (Array.getElem?_eq_some_iff.1 hJ).1, ?_⟩⟩
  rw [List.length_replicate] at hj
  unfold World.cell?
  simp only at hJ ⊢
  rw [hJ]
  have h1 := hC j hj
  have h2 : off + j < C.length := (List.getElem?_eq_some_iff.1 h1).1
  simp only [List.getElem?_toArray]
  rw [List.getElem?_append_left (by rw [List.length_map]; exact h2), List.getElem?_map, h1, List.getD_eq_getElem?_getD, List.getElem?_replicate, if_pos hj]
  rfl
theorem bytes_empty {w : World} {ao : Option Addr} {cap : Nat} (h : ao = none → cap = 0) (hc : cap ≤ maxLen) : Bytes w (.slice ao 0 cap) [] :=
  ⟨ao, cap, rfl, Nat.zero_le _, by simpa [maxLen] using hc, h, fun j hj => absurd hj (Nat.not_lt_zero _)⟩
def GGood (rs : List OR) (ls : List Value) (Dn : List Blk) (j : Nat) : Prop :=
  ∀ w' : World, (∀ b ∈ Dn, b.holds w') → ∀ i, i < j → ∃ r vL, rs[i]? = some r ∧ ls[i]? = some vL ∧ Bytes w' vL (List.replicate (r.n + 70) (UInt8.ofInt (i : Int) + 1)) ∧ Bytes w' r.v (List.replicate r.n (UInt8.ofInt (i : Int) + 1))
end Go.Proofs.YtejmbkljnhnklaaDoor
namespace Go.Proofs.YtejmbkljnhnklaaDoor
open Go.RowKit Go.PK
theorem GGood.next {rs : List OR} {ls : List Value} {Dn : List Blk} {j : Nat} (h : GGood rs ls Dn j) {r : OR} (hr : rs[j]? = some r) (hls : Len ls j) {vL : Value} {E : List Blk}
    (hE : ∀ w' : World, (∀ b ∈ E, b.holds w') → Bytes w' vL (List.replicate (r.n + 70) (UInt8.ofInt (j : Int) + 1)) ∧ Bytes w' r.v (List.replicate r.n (UInt8.ofInt (j : Int) + 1))) : GGood rs (ls ++ [vL]) (E ++ Dn) (j + 1) := by
  intro w' hw i hi
  by_cases hij : i < j
  · obtain ⟨r1, v1, h1, h2, h3, h4⟩ := h w' (fun b hb => hw b (List.mem_append_right _ hb)) i hij
    exact ⟨r1, v1, h1, by rw [List.getElem?_append_left (by rw [hls.eq]; exact hij)]; exact h2, h3, h4⟩
  · obtain rfl : i = j := by omega
    obtain ⟨h3, h4⟩ := hE w' (fun b hb => hw b (List.mem_append_left _ hb))
    exact ⟨r, vL, hr, by rw [List.getElem?_append_right (by rw [hls.eq]; exact Nat.le_refl _), hls.eq, Nat.sub_self]; rfl, h3, h4⟩
def GBase (id : Option Nat) (off m : Nat) (x : UInt8) (Lx : List Blk) (id2 : Option Nat) (off2 : Nat) : Prop :=
  (Lx = [] ∧ id2 = id ∧ (m = 0 ∨ off2 = off)) ∨ ∃ (X : List UInt8) (N' : Nat), Lx = [⟨id, 5, X.map B8, N'⟩] ∧ ∀ i, i < m → X[off + i]? = some x
theorem grown_next {G : List Nat} {w0 w : World} {R : List Blk} {M b38 : Blk} {id id2 : Option Nat} {off off2 m N2 cap2 : Nat} {C2 : List UInt8} {x : UInt8} {Lx Lz : List Blk} {g2 cap3 : Nat} (hc : ∀ i, i < m → C2[off2 + i]? = some x) (hb : GBase id off m x Lx id2 off2)
    (hz : (Lz = [] ∧ id2 = some g2 ∧ off2 = 0 ∧ cap3 = cap2) ∨ Lz = [⟨id2, 5, C2.map B8, N2⟩]) (hM : Mem G w0 w (M :: (Lz ++ b38 :: (Lx ++ R)))) : ∃ Lx', GBase id off m x Lx' (some g2) 0 ∧ Mem G w0 w (M :: (Lx' ++ R)) := by
  rcases hz with ⟨rfl, h1, h2, -⟩ | rfl
  · refine ⟨Lx, ?_, hM.drop2⟩
    rcases hb with ⟨rfl, h3, h4⟩ | h3
    · exact .inl ⟨rfl, by rw [← h1]; exact h3, h4.imp (fun h => h) (fun h => h2.symm.trans h)⟩
    · exact .inr h3
  · have h1 := (Mem.up [_, _] hM).drop
    rcases hb with ⟨rfl, h3, h4⟩ | ⟨X, N', rfl, h3⟩
    · refine ⟨[⟨id2, 5, C2.map B8, N2⟩], .inr ⟨C2, N2, by rw [h3], fun i hi => ?_⟩, h1⟩
      rcases h4 with h4 | h4
      · omega
      · rw [← h4]; exact hc i hi
    · exact ⟨_, .inr ⟨X, N', rfl, h3⟩, h1.drop2⟩
theorem grown_read {w' : World} {id : Option Nat} {off off2 m cap cap2 N2 g2 : Nat} {C2 : List UInt8} {x : UInt8} {Lx : List Blk} (hw : ∀ b ∈ (⟨some g2, 5, C2.map B8, N2⟩ :: Lx : List Blk), b.holds w') (hb : GBase id off m x Lx (some g2) off2) (hc : ∀ i, i < m + 70 → C2[off2 + i]? = some x) (hm2 : m + 70 ≤ cap2) (hm3 : cap2 ≤ maxLen)
    (h1 : id = none → m = 0 ∧ cap = 0) (h4 : cap ≤ maxLen) (h6 : m ≤ cap) :
    Bytes w' (.slice (some ⟨g2, off2, none⟩) (m + 70) cap2) (List.replicate (m + 70) x) ∧ Bytes w' (.slice (id.map fun g => ⟨g, off, none⟩) m cap) (List.replicate m x) := by
  refine ⟨bytes_held (hw _ (.head _)) hc hm2 hm3, ?_⟩
  rcases Nat.eq_zero_or_pos m with h0 | h0
  · subst h0
    refine bytes_empty (fun h => ?_) h4
    cases id with
    | none => exact (h1 rfl).2
    | some g => cases h
  · rcases hb with ⟨-, rfl, h3⟩ | ⟨X, N', rfl, h3⟩
    · obtain rfl : off2 = off := h3.resolve_left (by omega)
      exact bytes_held (hw _ (.head _)) (fun i hi => hc i (by omega)) h6 h4
    · cases id with
      | none => have := (h1 rfl).1; omega
      | some g => exact bytes_held (hw _ (.tail _ (.head _))) h3 h6 h4
set_option maxRecDepth 100000 in
set_option maxHeartbeats 4000000 in
theorem law11_grown {w0 w : World} {L : List Blk} (rs : List OR) (hrs : ∀ r ∈ rs, r.Ok) (n : Nat) (hn : Len rs n) (hn2 : n ≤ 200) (gR capR capV : Nat) (hM : Mem [] w0 w (⟨some gR, 23, rs.map OR.v, capR⟩ :: (rs.map OR.b ++ L))) :
    Calls Tryd.prog 23 #[.slice (some ⟨gR, 0, none⟩) n capV] w fun e w' => e = .returned (.bool true) ∧ Mem [] w0 w' L := by
  go_enter Tryd.func23, Tryd.ntmps23
  go_wp2_with (first
    | ((with_reducible refine gL_buildEmpty (dst := some 10) hM ?_); refine ⟨_, _, _, (us_of rfl), (el_of rfl), ?_⟩; intro g10 wI hM2; clear hM; have hM := hM2; clear hM2))
  replace hM : Mem [] w0 wI (⟨some g10, 23, [], 0 * 1⟩ :: ⟨some gR, 23, rs.map OR.v, capR⟩ :: ([] ++ ((rs.drop 0).map OR.b ++ L))) := hM
  go_loopw [3, 4, 5, 6, 7, 13] (fun lg _ _ _ _ ix wr => ∃ (j gL capL : Nat) (ls : List Value) (Dn : List Blk), j ≤ n ∧ ix = .int .i64 j ∧ lg = .slice (some ⟨gL, 0, none⟩) j capL ∧ Len ls j ∧ capL ≤ maxLen ∧ GGood rs ls Dn j ∧
    Mem [] w0 wr (⟨some gL, 23, ls, capL * 1⟩ :: ⟨some gR, 23, rs.map OR.v, capR⟩ :: (Dn ++ ((rs.drop j).map OR.b ++ L)))) (fun _ _ _ _ _ ix _ => n - (intOf ix).toNat)
  case atStart => exact ⟨0, g10, 0, [], [], by omega, rfl, rfl, rfl, by decide, (fun w' _ i hi => by omega), hM⟩
  case round =>
    clear hM
    obtain ⟨j, gL, capL, ls, Dn, hj, rfl, rfl, hls, hcL, hG, hM⟩ := hrel
    by_cases hlt : j < n
    · --[
      have hti : (j : Int) < (n : Int) := by omega
      obtain ⟨r, hr⟩ : ∃ r, rs[j]? = some r := ⟨_, List.getElem?_eq_getElem (by rw [hn.eq]; exact hlt)⟩
      have hok := hrs r (List.mem_of_getElem? hr)
      have hRj : (rs.map OR.v)[j]? = some r.v := by simp [hr]
      have hdr : rs.drop j = r :: rs.drop (j + 1) := by
        rw [List.drop_eq_getElem_cons (by rw [hn.eq]; exact hlt)]
        rw [List.getElem?_eq_getElem (by rw [hn.eq]; exact hlt)] at hr
        rw [Option.some.inj hr]
      rw [hdr] at hM
      have hM := Mem.up (⟨some gL, 23, ls, capL * 1⟩ :: ⟨some gR, 23, rs.map OR.v, capR⟩ :: Dn) hM
      obtain ⟨O, hO⟩ : ∃ O, O = Dn ++ ((rs.drop (j + 1)).map OR.b ++ L) := ⟨_, rfl⟩
      replace hM : Mem [] w0 wr (r.b :: ⟨some gL, 23, ls, capL * 1⟩ :: ⟨some gR, 23, rs.map OR.v, capR⟩ :: O) := by rw [hO]; exact hM
      obtain ⟨RV, hRV⟩ : ∃ RV, RV = rs.map OR.v := ⟨_, rfl⟩
      rw [← hRV] at hM hRj
      have HO : ∀ _ : Unit, O = Dn ++ ((rs.drop (j + 1)).map OR.b ++ L) := fun _ => hO
      have HRV : ∀ _ : Unit, RV = rs.map OR.v := fun _ => hRV
      have HR : ∀ _ : Unit, rs[j]? = some r := fun _ => hr
      have HG : ∀ _ : Unit, GGood rs ls Dn j := fun _ => hG
      clear hO hRV hdr hr hG
      rename_i hMold
      clear hMold
      obtain ⟨x, hx⟩ : ∃ x, UInt8.ofInt (j : Int) + 1 = x := ⟨_, rfl⟩
      have HX : ∀ _ : Unit, x = UInt8.ofInt (j : Int) + 1 := fun _ => hx.symm
      obtain ⟨id, off, m, cap, C, N⟩ := r
      obtain ⟨h1, h2, h3, h4, h5, h6⟩ := hok
      simp only at h1 h2 h3 h4 h5 h6
      replace hRj : RV[j]? = some (.slice (id.map fun g => ⟨g, off, none⟩) m cap) := hRj
      replace hM : Mem [] w0 wr (⟨id, 5, C.map B8, N⟩ :: ⟨some gL, 23, ls, capL * 1⟩ :: ⟨some gR, 23, RV, capR⟩ :: O) := hM
      go_wp2_with (first
        | ((with_reducible refine gL_load (dst := some 17) ?_); refine ⟨_, _, rfl, hM.loads_one (.tail _ (.tail _ (.head _))) (on_of rfl) hRj, ?_⟩))
      go_loopw [6, 20] (fun _ k wr => ∃ (q : Nat) (X : List UInt8), q ≤ m ∧ k = .int .i64 q ∧ Len X C.length ∧ (∀ i, i < q → X[off + i]? = some x) ∧ Mem [] w0 wr (⟨id, 5, X.map B8, N⟩ :: ⟨some gL, 23, ls, capL * 1⟩ :: ⟨some gR, 23, RV, capR⟩ :: O)) (fun _ k _ => m - (intOf k).toNat)
      case atStart => exact ⟨0, C, by omega, rfl, rfl, (fun i hi => by omega), hM⟩
      case round =>
        clear hM
        obtain ⟨q, X, hq, rfl, hXl, hXx, hM⟩ := hrel
        by_cases hqm : q < m
        · have hqi : (q : Int) < (m : Int) := by omega
          obtain ⟨g, rfl⟩ : ∃ g, id = some g := by
            cases id with
            | none => have := (h1 rfl).1; omega
            | some g => exact ⟨g, rfl⟩
          have hlo : off + q < X.length := by rw [hXl.eq]; exact h2 q hqm
          simp only [Option.map_some]
          go_wp2_with (first
            | ((with_reducible refine gL_store hM ?_); refine ⟨_, _, _, rfl, rfl, hM.stores_B8 (c := x) (by first | rfl | exact congrArg B8 hx) (.here _ _ _) (on_of rfl) hlo, ?_⟩; intro _ hM2; clear hM; have hM := hM2; clear hM2))
          go_roundw
          case rel => exact ⟨q + 1, _, by omega, by go_num, Len.of (by rw [List.length_set, hXl.eq]), (fun i hi => by
            rw [List.getElem?_set]
            split
            · first | rfl | rw [if_pos hlo]
            · exact hXx i (by omega)), hM⟩
          case measure => simp [intOf]; omega
        · obtain rfl : q = m := by omega
          have hqi : ¬ (q : Int) < (q : Int) := by omega
          clear hRj h2
          have hway : (off = 0 ∧ Len X (q + 0) ∧ N = cap) ∨ cap = q + 0 := h3.imp (fun ⟨a, b, c⟩ => ⟨a, Len.of (hXl.eq.trans b.eq), c⟩) (fun h => h)
          clear h3 hXl
          go_wp2_with fail
          go_loopw [5, 7] (fun b k wr => ∃ (p : Nat) (id2 : Option Nat) (off2 cap2 N2 : Nat) (C2 : List UInt8) (Lx : List Blk), p ≤ 70 ∧ k = .int .i64 p ∧ b = .slice (id2.map fun g => ⟨g, off2, none⟩) (q + p) cap2 ∧ ((off2 = 0 ∧ Len C2 (q + p) ∧ N2 = cap2) ∨ cap2 = q + p) ∧ (∀ i, i < q + p → C2[off2 + i]? = some x) ∧ (id2 = none → q + p = 0 ∧ cap2 = 0) ∧ cap2 ≤ maxLen ∧ q + p ≤ cap2 ∧ GBase id off q x Lx id2 off2 ∧
            Mem [] w0 wr (⟨id2, 5, C2.map B8, N2⟩ :: (Lx ++ ⟨some gL, 23, ls, capL * 1⟩ :: ⟨some gR, 23, RV, capR⟩ :: O))) (fun _ k _ => 70 - (intOf k).toNat)
          case atStart => exact ⟨0, id, off, cap, N, X, [], by omega, rfl, rfl, hway, hXx, h1, h4, h6, .inl ⟨rfl, rfl, .inr rfl⟩, hM⟩
          case round =>
            clear hM hway
            obtain ⟨p, id2, off2, cap2, N2, C2, Lx, hp, rfl, rfl, hway, hc2, hn2', hcm, hnc, hB, hM⟩ := hrel
            by_cases hp70 : p < 70
            · have hpi : (p : Int) < (70 : Int) := by omega
              have HB : ∀ _ : Unit, GBase id off q x Lx id2 off2 := fun _ => hB
              clear hB
              go_wp2_with (first
                | ((with_reducible refine gL_buildBytes (dst := some 38) hM ?_); refine ⟨_, _, (us_of rfl), (el_of rfl), (by decide), (by decide), rfl, (by exact EvB.cons (b := x) rfl (by first | rfl | exact congrArg B8 hx) EvB.nil), ?_⟩; intro g38 wA hM2; clear hM; have hM := hM2; clear hM2)
                | (have hM1 := hM.perm (.swap _ _ _); (with_reducible refine gL_append_keep (dst := some 39) (id := id2) (off := off2) (n := q + p) (cap := cap2) hM1 x (List.replicate (q + p) x) ?_); refine ⟨_, _, ⟨g38, 0, none⟩, 1, _, rfl, rfl, rfl, rfl, hM.cell (.head _) rfl, (us_of rfl), (el_of rfl), hway, Len.of List.length_replicate, (fun i hi => by rw [hc2 i hi, List.getElem?_replicate, if_pos hi]), hn2', (by simp only [maxLen]; omega), (by omega), hcm, ?_⟩; clear hM1; intro g2 cap3 wB Lz hz hM2 hd1 hd2; clear hM))
              obtain ⟨Lx', hB', hM⟩ := grown_next (fun i hi => hc2 i (by omega)) (HB ()) hz hM2
              clear hM2 hz HB
              go_roundw
              case rel => exact ⟨p + 1, some g2, 0, cap3, cap3, List.replicate (q + p) x ++ [x], Lx', by omega, by go_num, rfl, .inl ⟨rfl, Len.of (by simp; omega), rfl⟩, (fun i hi => by
                rw [Nat.zero_add, ← List.replicate_succ', List.getElem?_replicate, if_pos (by omega)]), nofun, hd2, by omega, hB', hM⟩
              case measure => simp [intOf]; omega
            · obtain rfl : p = 70 := by omega
              have hpi : ¬ ((70 : Nat) : Int) < (70 : Int) := by omega
              obtain ⟨g2, rfl⟩ : ∃ g, id2 = some g := by
                cases id2 with
                | none => have := (hn2' rfl).1; omega
                | some g => exact ⟨g, rfl⟩
              have hM := Mem.up (⟨some g2, 5, C2.map B8, N2⟩ :: Lx) hM
              simp only [Option.map_some]
              clear hway
              have HB : ∀ _ : Unit, GBase id off q x Lx (some g2) off2 := fun _ => hB
              clear hB
              go_wp2_with (first
                | ((with_reducible refine gL_bs1 (dst := some 42) hM ?_); refine ⟨_, [.slice (some ⟨g2, off2, none⟩) (q + 70) cap2], _, _, _, (us_of rfl), (el_of rfl), (by decide), rfl, rfl, rfl, ?_⟩; intro g42 _ hM2; clear hM; have hM := hM2; clear hM2)
                | ((with_reducible refine gL_pushes (dst := some 43) hM ?_); refine ⟨_, _, some gL, j, 1, capL, _, _, ls, [.slice (some ⟨g2, off2, none⟩) (q + 70) cap2], _, rfl, rfl, rfl, (us_of rfl), (el_of rfl), hM.src (.head _), (fun _ _ => .there _ (.here _ _ _)), hls, rfl, (fun v hv => by simp at hv; subst hv; rfl), hcL, (by simp only [maxLen]; omega), (by omega), ?_⟩; intro oL' cL' _ hM2 hL1 hL2; obtain ⟨gL', rfl⟩ := hM2.some_of (.tail _ (.head _)) (n := j + 1) (Len.of (by rw [List.length_append, hls.eq]; rfl)) (by omega); clear hM; have hM := hM2.drop; clear hM2))
              go_roundw
              case rel =>
                have hM3 := hM.perm (.cons _ List.perm_middle)
                rw [HO (), ← List.append_assoc] at hM3
                refine ⟨j + 1, gL', cL', ls ++ [.slice (some ⟨g2, off2, none⟩) (q + 70) cap2], (⟨some g2, 5, C2.map B8, N2⟩ :: Lx) ++ Dn, by omega, by go_num, rfl, Len.of (by rw [List.length_append, hls.eq]; rfl), hL2, (HG ()).next (HR ()) hls (fun w' hw => ?_), ?_⟩
                · have := grown_read hw (HB ()) hc2 hnc hcm h1 h4 h6
                  rw [HX ()] at this
                  exact this
                · rw [HRV ()] at hM3
                  exact hM3
              case measure => simp [intOf]; omega
      --]
    · obtain rfl : j = n := by omega
      have hti : ¬ (j : Int) < (j : Int) := by omega
      have hdr : rs.drop j = [] := List.drop_of_length_le (by rw [hn.eq]; exact Nat.le_refl _)
      rw [hdr] at hM
      obtain ⟨O, hO⟩ : ∃ O, O = Dn ++ (([] : List OR).map OR.b ++ L) := ⟨_, rfl⟩
      rw [← hO] at hM
      have hOL : ∀ w', Mem [] w0 w' O → Mem [] w0 w' L := fun w' h => by
        rw [hO] at h
        exact Mem.dropL Dn h
      have hall : ∀ w', Mem [] w0 w' (⟨some gL, 23, ls, capL * 1⟩ :: ⟨some gR, 23, rs.map OR.v, capR⟩ :: O) → ∀ i, i < j → ∃ (m M : Nat) (vL vR : Value), ls[i]? = some vL ∧ (rs.map OR.v)[i]? = some vR ∧ M ≤ 140737488351302 ∧ Bytes w' vL (List.replicate M (UInt8.ofInt (i : Int) + 1)) ∧ Bytes w' vR (List.replicate m (UInt8.ofInt (i : Int) + 1)) := fun w' h i hi => by
        obtain ⟨r, vL, h1, h2, h3, h4⟩ := hG w' (fun b hb => h.holds b (.tail _ (.tail _ (by rw [hO]; exact List.mem_append_left _ hb)))) i hi
        have := (hrs r (List.mem_of_getElem? h1)).few
        exact ⟨r.n, r.n + 70, vL, r.v, h2, by simp [h1], by omega, h3, h4⟩
      obtain ⟨RV, hRV⟩ : ∃ RV, RV = rs.map OR.v := ⟨_, rfl⟩
      rw [← hRV] at hM hall
      clear hO hG hdr hRV hrs hn
      go_wp2_with fail
      go_loopw [8, 9, 47, 55] (fun _ _ ix _ wr => ∃ (i : Nat), i ≤ j ∧ ix = .int .i64 i ∧ Mem [] w0 wr (⟨some gL, 23, ls, capL * 1⟩ :: ⟨some gR, 23, RV, capR⟩ :: O)) (fun _ _ ix _ _ => j - (intOf ix).toNat)
      case atStart => exact ⟨0, by omega, rfl, hM⟩
      case round =>
        clear hM
        obtain ⟨i, hi, rfl, hM⟩ := hrel
        by_cases hij : i < j
        · have hii : (i : Int) < (j : Int) := by omega
          obtain ⟨m, M, vL, vR, hvL, hvR, hM2, hB1, hB2⟩ := hall _ hM i hij
          obtain ⟨aL, cL, rfl, -, -, -, e1⟩ := hB1
          obtain ⟨aR, cR, rfl, -, -, -, e2⟩ := hB2
          rw [List.length_replicate] at e1 e2 hvL hvR
          obtain ⟨x, hx⟩ : ∃ x, UInt8.ofInt (i : Int) + 1 = x := ⟨_, rfl⟩
          rw [hx] at e1 e2
          have c1 : ∀ k, k < M → ∃ b o, aL = some ⟨b, o, none⟩ ∧ ∀ w', Adds wr w' → w'.cell? ⟨b, o + k, none⟩ = some (B8 x) := fun k hk => by
            obtain ⟨b, o, h1, h2, h3⟩ := e1 k hk
            refine ⟨b, o, h1, fun w' hw => ?_⟩
            rw [cell_below hw (by exact h2), h3, List.getD_eq_getElem?_getD, List.getElem?_replicate, if_pos hk]
            rfl
          have c2 : ∀ k, k < m → ∃ b o, aR = some ⟨b, o, none⟩ ∧ ∀ w', Adds wr w' → w'.cell? ⟨b, o + k, none⟩ = some (B8 x) := fun k hk => by
            obtain ⟨b, o, h1, h2, h3⟩ := e2 k hk
            refine ⟨b, o, h1, fun w' hw => ?_⟩
            rw [cell_below hw (by exact h2), h3, List.getD_eq_getElem?_getD, List.getElem?_replicate, if_pos hk]
            rfl
          clear e1 e2 hall
          go_wp2_with (first
            | ((with_reducible refine gL_load (dst := some 53) ?_); refine ⟨_, _, rfl, hM.loads_one (.head _) (on_of rfl) hvL, ?_⟩))
          go_loopw [9, 55] (fun _ kx wr2 => ∃ (k : Nat), k ≤ M ∧ kx = .int .i64 k ∧ Adds wr wr2) (fun _ kx _ => M - (intOf kx).toNat)
          case atStart => exact ⟨0, by omega, rfl, Adds.refl _⟩
          case round =>
            obtain ⟨k, hk, rfl, hA⟩ := hrel
            by_cases hkM : k < M
            · have hki : (k : Int) < (M : Int) := by omega
              obtain ⟨b1, o1, rfl, d1⟩ := c1 k hkM
              have f1 := d1 _ hA
              have hMk := hM.adds hA
              clear d1 c1
              by_cases hkm : k < m
              · have hkmi : (k : Int) < (m : Int) := by omega
                obtain ⟨b2, o2, rfl, d2⟩ := c2 k hkm
                have f2 := d2 _ hA
                clear d2 c2
                go_wp2_with (first
                  | ((with_reducible refine gL_load (dst := some 61) ?_); refine ⟨_, _, rfl, hMk.loads_one (.head _) (on_of rfl) hvL, ?_⟩)
                  | ((with_reducible refine gL_load (dst := some 64) ?_); refine ⟨_, _, rfl, loads_cell f1 (on_of rfl), ?_⟩)
                  | ((with_reducible refine gG_load (dst := some 74) ?_ ?_); (exact wanted_of rfl rfl rfl rfl rfl); refine ⟨_, _, rfl, hMk.loads_one (.tail _ (.head _)) (on_of rfl) hvR, ?_⟩)
                  | ((with_reducible refine gG_load (dst := some 81) ?_ ?_); (exact wanted_of rfl rfl rfl rfl rfl); refine ⟨_, _, rfl, hMk.loads_one (.tail _ (.head _)) (on_of rfl) hvR, ?_⟩)
                  | ((with_reducible refine gG_load (dst := some 84) ?_ ?_); (exact wanted_of rfl rfl rfl rfl rfl); refine ⟨_, _, rfl, loads_cell f2 (on_of rfl), ?_⟩))
                go_roundw
                case rel => exact ⟨k + 1, by omega, by go_num, hA⟩
                case measure => simp [intOf]; omega
              · have hkmi : ¬ (k : Int) < (m : Int) := by omega
                clear c2
                go_wp2_with (first
                  | ((with_reducible refine gL_load (dst := some 61) ?_); refine ⟨_, _, rfl, hMk.loads_one (.head _) (on_of rfl) hvL, ?_⟩)
                  | ((with_reducible refine gL_load (dst := some 64) ?_); refine ⟨_, _, rfl, loads_cell f1 (on_of rfl), ?_⟩)
                  | ((with_reducible refine gG_load (dst := some 74) ?_ ?_); (exact wanted_of rfl rfl rfl rfl rfl); refine ⟨_, _, rfl, hMk.loads_one (.tail _ (.head _)) (on_of rfl) hvR, ?_⟩))
                go_roundw
                case rel => exact ⟨k + 1, by omega, by go_num, hA⟩
                case measure => simp [intOf]; omega
            · obtain rfl : k = M := by omega
              have hki : ¬ (k : Int) < (k : Int) := by omega
              clear c1 c2
              go_wp2_with fail
              go_roundw
              case rel => exact ⟨i + 1, by omega, by go_num, hM.adds hA⟩
              case measure => simp [intOf]; omega
        · obtain rfl : i = j := by omega
          have hii : ¬ (i : Int) < (i : Int) := by omega
          clear hall
          go_wp2_with fail
          go_ret
          exact ⟨rfl, hOL _ hM.drop.drop⟩
end Go.Proofs.YtejmbkljnhnklaaDoor
namespace Go.PK
open Go.RowKit
section
variable {P : Program} {Q : Exit → Act → World → Prop} {ops : Array Oper} {rest : List Oper} {a : Act} {w : World} {G : List Nat} {w0 : World} {L : List Blk} {dst : Option Tmp} {type : TypeId} {pos : String} {after : Array Edge}
theorem gL_bs3 (hM : Mem G w0 w L) {t : TypeId} {x y z : Operand} (h : ∃ (e : TypeId) (bytes : Nat) (X Y Z : Value), P.underlying t = some (.slice e) ∧ El P e 1 bytes ∧ a.eval x = X ∧ a.eval y = Y ∧ a.eval z = Z ∧ X.cells = #[X] ∧ Y.cells = #[Y] ∧ Z.cells = #[Z] ∧
    ∀ g w', Mem G w0 w' (⟨some g, e, [X, Y, Z], 3⟩ :: L) → wpList P ops Q rest (a.put dst (.slice (some ⟨g, 0, none⟩) 3 3)) w') :
    wpList P ops Q (Oper.mk dst (.buildSlice t 3 #[(0, x), (1, y), (2, z)]) type pos after none :: rest) a w := by
  obtain ⟨e, bytes, X, Y, Z, hu, hel, hx, hy, hz, cx, cy, cz, h⟩ := h
  refine wpList_plain rfl fun K hk => hM.wp_buildSlice (parts := [(0, x), (1, y), (2, z)]) (C := [X, Y, Z]) rfl hu hel (by decide) (by decide) rfl ?_ ?_ (by decide) (fun g w' hm => hk _ _ (h g w' hm))
  · simp [hx, hy, hz, cx, cy, cz]
  · intro v hv
    simp [hx, hy, hz] at hv
    rcases hv with rfl | rfl | rfl
    · rw [cx]; rfl
    · rw [cy]; rfl
    · rw [cz]; rfl
theorem makes_bs3 {o : Oper} {ρ : Operand → Value} {R : Value → World → Prop} {t e : TypeId} {x y z : Operand} {X Y Z : Value} {bytes : Nat} (hu : P.underlying t = some (.slice e)) (hel : El P e 1 bytes) (ho : o.op = .buildSlice t 3 #[(0, x), (1, y), (2, z)]) (hx : ρ x = X) (hy : ρ y = Y) (hz : ρ z = Z)
    (cx : X.cells = #[X]) (cy : Y.cells = #[Y]) (cz : Z.cells = #[Z]) (hR : R (.slice (some ⟨w.heap.size, 0, none⟩) 3 3) (w.alloc (.cells [X, Y, Z].toArray e))) : Makes P ρ o w R := by
  refine makes_buildSlice (C := [X, Y, Z]) (parts := [(0, x), (1, y), (2, z)]) hu hel (by decide) (by decide) ho rfl ?_ ?_ hR
  · simp [hx, hy, hz, cx, cy, cz]
  · intro v hv
    simp [hx, hy, hz] at hv
    rcases hv with rfl | rfl | rfl
    · rw [cx]; rfl
    · rw [cy]; rfl
    · rw [cz]; rfl
end
end Go.PK
namespace Go.Proofs.YtejmbkljnhnklaaDoor
open Go.RowKit Go.PK
theorem bytes_of_held {w : World} {g off n cap N : Nat} {t : TypeId} {C : List UInt8} (h : (Blk.mk (some g) t (C.map B8) N).holds w) (h1 : off + n ≤ C.length) (hn : n ≤ cap) (hc : cap ≤ maxLen) : Bytes w (.slice (some ⟨g, off, none⟩) n cap) ((C.drop off).take n) := by
  obtain ⟨J, hJ, -⟩ := h
  have hc2 : cap ≤ 9223372036854775807 := by simpa [maxLen] using hc
  have hl : ((C.drop off).take n).length = n := by rw [List.length_take, List.length_drop]; omega
  refine ⟨some ⟨g, off, none⟩, cap, by rw [hl], by rw [hl]; exact hn, hc2, nofun, fun j hj => ⟨g, off, rfl, (Array.getElem?_eq_some_iff.1 hJ).1, ?_⟩⟩
  rw [hl] at hj
  unfold World.cell?
  simp only at hJ ⊢
  rw [hJ]
  have h2 : off + j < C.length := by omega
  simp only [List.getElem?_toArray]
  rw [List.getElem?_append_left (by rw [List.length_map]; exact h2), List.getElem?_map, List.getElem?_eq_getElem h2, List.getD_eq_getElem?_getD, List.getElem?_take, if_pos hj, List.getElem?_drop, List.getElem?_eq_getElem h2]
  rfl
abbrev rowOR (ob : Option Nat) (m cap : Nat) (C : List UInt8) : OR := ⟨ob, 0, m, cap, C, cap⟩
theorem rowOR_ok {w : World} {ob : Option Nat} {m cap : Nat} {C : List UInt8} (h : (rowOR ob m cap C).b.holds w) (hm : Len C m) (hc : cap ≤ maxLen) (hf : m ≤ 140737488351232) : (rowOR ob m cap C).Ok := by
  have hn : ob = none → C = [] ∧ cap = 0 := fun h0 => by
    subst h0
    obtain ⟨h1, h2⟩ : C.map B8 = [] ∧ cap = 0 := h
    exact ⟨by simpa using h1, h2⟩
  refine ⟨fun h0 => ?_, fun i hi => ?_, .inl ⟨rfl, hm, rfl⟩, hc, hf, ?_⟩
  · obtain ⟨h1, h2⟩ := hn h0
    subst h1
    exact ⟨hm.eq.symm, h2⟩
  · show 0 + i < C.length
    rw [Nat.zero_add, hm.eq]
    exact hi
  · show m ≤ cap
    cases ob with
    | none =>
      obtain ⟨h1, h2⟩ := hn rfl
      subst h1
      have : m = 0 := hm.eq.symm
      omega
    | some g =>
      obtain ⟨J, -, hJ⟩ := h
      replace hJ : (C.map B8).length + J.length = cap := hJ
      rw [List.length_map, hm.eq] at hJ
      omega
theorem rowOR_read {w : World} {ob : Option Nat} {m cap : Nat} {C : List UInt8} (hok : (rowOR ob m cap C).Ok) (hm : Len C m) (h : (rowOR ob m cap C).b.holds w) : Bytes w (rowOR ob m cap C).v C := by
  cases ob with
  | none =>
    obtain ⟨h1, h2⟩ := hok.nil rfl
    replace h1 : m = 0 := h1
    replace h2 : cap = 0 := h2
    subst h1 h2
    obtain rfl : C = [] := List.eq_nil_of_length_eq_zero hm.eq
    exact bytes_empty (fun _ => rfl) (by decide)
  | some g =>
    have := bytes_of_held (off := 0) (n := m) (cap := cap) h (by rw [hm.eq]; omega) hok.nc hok.cap
    rw [List.drop_zero, List.take_of_length_le (by rw [hm.eq]; exact Nat.le_refl _)] at this
    exact this
theorem make_len (s : List UInt8) (x : Img.Im) : (Img.make s x).1.length ≤ 524288 := by
  unfold Img.make
  split
  · rename_i h
    have hp : x.pay.length ≤ 524240 := by
      unfold Img.may at h
      split at h
      · omega
      · split at h
        · omega
        · omega
    rw [List.length_append, Img.cover_len, Mac.tag_len]
    omega
  · exact Nat.zero_le _
theorem row_held {w : World} {g : Nat} {t : TypeId} {C : List Value} {N : Nat} (h : (Blk.mk (some g) t C N).holds w) (hn : Len C N) : Row w g t C := by
  obtain ⟨J, hJ, hN⟩ := h
  replace hN : C.length + J.length = N := hN
  have : J = [] := List.eq_nil_of_length_eq_zero (by rw [hn.eq] at hN; omega)
  subst this
  rw [List.append_nil] at hJ
  exact hJ
theorem parse_own (w0 : World) (v : Value) (b : List UInt8) (hv : Bytes w0 v b) (hbl : b.length ≤ 140737488351232) (x : Img.Im) (ec ek : Nat) (hx : Img.parse b = (x, (ec, ek))) :
    Calls Tryd.prog 13 #[v] w0 fun e w' => ∃ (r : OR) (E : Blk) (ev : Value), e = .returned (.tuple #[.agg (imC x r.v).toArray, ev]) ∧ Len x.tag 32 ∧ r.Ok ∧ (∀ w'', r.b.holds w'' → Bytes w'' r.v x.pay) ∧
      (∀ w'', E.holds w'' → TypeLaid w'' → Calls Tryd.prog 15 #[ev] w'' fun e w3 => e = .returned (.tuple #[.agg (wrongC ec ek).toArray, .bool true]) ∧ Below w''.heap.size w'' w3) ∧ Mem [] w0 w' [r.b, E] := by
  refine (image_Parse w0 v b hv hbl).mono ?_
  rintro e w' (⟨x', g, o, cap, n, hx', hpl, htl, rfl, ho, hnc, hc, hbn, hpay, hM⟩ | ⟨c', k', g, hx', hne, rfl, hM⟩)
  · have h := hx.symm.trans hx'
    cases h
    refine ⟨⟨some g, o, n, n, b, cap⟩, ⟨none, 5, [], 0⟩, _, rfl, htl, ⟨nofun, fun i hi => ?_, .inr rfl, by show n ≤ maxLen; omega, by show n ≤ 140737488351232; omega, Nat.le_refl _⟩, fun w'' hh => ?_, fun w'' _ _ => told_nil w'', (hM.addNil _).perm (.swap _ _ _)⟩
    · show o + i < b.length
      replace hi : i < n := hi
      have := ho (by omega)
      omega
    · rcases Nat.eq_zero_or_pos n with h0 | h0
      · subst h0
        rw [show x.pay = [] from List.eq_nil_of_length_eq_zero hpl.eq]
        exact Bytes.none0 _ _
      · obtain rfl := ho h0
        rw [hpay]
        exact bytes_of_held (off := 16) (n := n) (cap := n) hh (by omega) (Nat.le_refl _) (by omega)
  · have h := hx.symm.trans hx'
    cases h
    exact ⟨⟨none, 0, 0, 0, [], 0⟩, _, _, rfl, Len.rep 32 0, ⟨fun _ => ⟨rfl, rfl⟩, fun i hi => absurd hi (Nat.not_lt_zero _), .inr rfl, by decide, by decide, Nat.le_refl _⟩, fun w'' _ => Bytes.nil _, fun w'' hh hg => told_err w'' hg g ec ek (row_held hh rfl) hne, hM.addNil _⟩
theorem ref_parse_own (w0 : World) (v : Value) (b : List UInt8) (hv : Bytes w0 v b) (hbl : b.length ≤ 140737488351232) (x : Img.Im) (ec ek : Nat) (hx : Img.parse b = (x, (ec, ek))) :
    Calls Tryd.prog 14 #[v] w0 fun e w' => ∃ (ob : Option Nat) (n cap : Nat), e = .returned (.tuple #[.agg (imC x (sl ob n cap)).toArray, .agg (wrongC ec ek).toArray]) ∧ Len x.pay n ∧ Len x.tag 32 ∧ cap ≤ maxLen ∧ Mem [] w0 w' [⟨ob, 5, x.pay.map B8, cap⟩] := by
  refine (ref11_Parse w0 v b hv hbl).mono ?_
  rintro e w' ⟨x', c', k', ob, cap, n, hx', hpl, htl, rfl, hc, hM⟩
  have h := hx.symm.trans hx'
  cases h
  exact ⟨ob, n, cap, rfl, hpl, htl, hc, hM⟩
theorem wide_bytes {G : List Nat} {w0 w : World} {L : List Blk} {g n N : Nat} {t : TypeId} {l : List UInt8} (hM : Mem G w0 w L) (hb : ⟨some g, t, (l ++ marks5).map B8, N⟩ ∈ L) (hl : Len l n) (h1 : n + 5 ≤ N) (h2 : N ≤ maxLen) : Bytes w (.slice (some ⟨g, 0, none⟩) n N) l ∧ Bytes w (.slice (some ⟨g, 0, none⟩) (n + 5) N) (l ++ marks5) := by
  have hA : (l ++ marks5).length = n + 5 := by rw [List.length_append, hl.eq]; rfl
  have e1 := bytes_of_held (off := 0) (n := n) (cap := N) (hM.holds _ hb) (by omega) (by omega) h2
  have e2 := bytes_of_held (off := 0) (n := n + 5) (cap := N) (hM.holds _ hb) (by omega) h1 h2
  rw [List.drop_zero, List.take_left' hl.eq] at e1
  rw [List.drop_zero, List.take_of_length_le (by omega)] at e2
  exact ⟨e1, e2⟩
theorem make_own (w0 : World) (v : Value) (s : List UInt8) (hs : Bytes w0 v s) (hsl : s.length ≤ 140737488351232) (x : Img.Im) (p : Value) (hp : Bytes w0 p x.pay) (hT : Len x.tag 32) :
    Calls Tryd.prog 10 #[v, .agg (imC x p).toArray] w0 fun e w' => ∃ r : OR, e = .returned (.tuple #[r.v, .int .i64 ((Img.make s x).2 : Int)]) ∧ r.Ok ∧ (∀ w'', r.b.holds w'' → Bytes w'' r.v (Img.make s x).1) ∧ Mem [] w0 w' [r.b] := by
  refine (image_Make w0 v s hs hsl x p hp hT).mono ?_
  rintro e w' ⟨ob, m, cap, rfl, hm, hc, hM⟩
  have hf := make_len s x
  have hok := rowOR_ok (C := (Img.make s x).1) (hM.holds _ (.head _)) hm hc (by rw [hm.eq] at hf; omega)
  exact ⟨_, rfl, hok, fun w'' hh => rowOR_read hok hm hh, hM⟩
theorem body_own (w0 : World) (v : Value) (b : List UInt8) (hv : Bytes w0 v b) (hbl : b.length ≤ 140737488351232) :
    Calls Tryd.prog 17 #[v] w0 fun e w' => ∃ r : OR, e = .returned r.v ∧ r.Ok ∧ (∀ w'', r.b.holds w'' → Bytes w'' r.v (Img.body b)) ∧ Mem [] w0 w' [r.b] := by
  refine (image_Body w0 v b hv hbl).mono ?_
  rintro e w' ⟨ob, m, cap, rfl, hm, hc, hM⟩
  have hf : (Img.body b).length ≤ b.length := by
    unfold Img.body
    split
    · exact Nat.zero_le _
    · rw [List.length_take]; omega
  have hok := rowOR_ok (C := Img.body b) (hM.holds _ (.head _)) hm hc (by rw [hm.eq] at hf; omega)
  exact ⟨_, rfl, hok, fun w'' hh => rowOR_read hok hm hh, hM⟩
end Go.Proofs.YtejmbkljnhnklaaDoor
