/-
  A drawn region's operations: an element's address in a slice, whatever its size; parts of rows.
  The walk of ChainChecks.
-/
import Derived.Test.YtejmbkljnhnklaaQi
namespace Go.PK
open Go.RowKit
section
variable {P : Program} {o : Oper} {w : World} {R : Value → World → Prop} {ρ : Operand → Value}
theorem run_indexAt {t e size bytes b off n cap j : Nat} (hu : P.underlying t = some (.slice e)) (hel : El P e size bytes) (hj : j < n) :
    (Instr.indexAt t (.slice (some ⟨b, off, none⟩) n cap) (.int .i64 (j : Int))).run P w = .ok (.pointer (some ⟨b, off + j * size, none⟩)) w := by
  obtain ⟨z, hinfo, -, -⟩ := hel
  obtain ⟨i, hi, -, hsize, -⟩ := info_parts hinfo
  simp [Instr.indexAt, run_underlying hu, sizeOf, typeInfo, hi, hsize, Addr.add, asIntOf]
  rw [if_pos (by omega)]
  by_cases h0 : j * size = 0
  · rw [if_pos h0, h0]
    rfl
  · rw [if_neg h0]
theorem makes_index {t e size bytes b off n cap j : Nat} {x y : Operand} (hu : P.underlying t = some (.slice e)) (hel : El P e size bytes) (hj : j < n) (ho : o.op = .indexAddr t x y) (hx : ρ x = .slice (some ⟨b, off, none⟩) n cap) (hy : ρ y = .int .i64 (j : Int))
    (hR : R (.pointer (some ⟨b, off + j * size, none⟩)) w) : Makes P ρ o w R := by
  refine makes_value ?_ hR
  unfold execOp
  simp only [ho, hx, hy, Sem.run_bind, Sem.run_pure, Result.andThen_ok, run_indexAt hu hel hj]
end
theorem Mem.loads_last {P : Program} {G : List Nat} {w0 w : World} {L : List Blk} (hM : Mem G w0 w L) {ty g n off : Nat} {t : TypeId} {A B : List Value} {N : Nat} (hb : ⟨some g, t, A ++ B, N⟩ ∈ L) (ht : aggB P ty n = true) (hA : A.length = off) (hB : Len B n) : Loads P w ty ⟨g, off, none⟩ (.agg B.toArray) := by
  have := hM.loads_part (off := off) (n := n) hb ht (by rw [List.length_append, hB.eq, hA]; exact Nat.le_refl _)
  rwa [List.drop_append_of_le_length (by omega), List.drop_of_length_le (by omega), List.nil_append, List.take_of_length_le (by rw [hB.eq]; exact Nat.le_refl _)] at this
end Go.PK

namespace Go.Proofs.Ytejmbkljnhnklaa
open Go.RowKit Go.PK

/-- what is asked: a key, a nonce, events, a quote -/
abbrev rAsked : Rd (List UInt8 × List UInt8 × List Ev × List UInt8) := rPair (rSlice rByte) (rPair (rSlice rByte) (rPair (rSlice rEv) (rArr 32)))
theorem asked_cells {w : World} {cs : List Value} {y : List UInt8 × List UInt8 × List Ev × List UInt8} (h : rAsked.K w cs y) :
    ∃ ak ck an cn ao cap, cs = [.slice ak y.1.length ck, .slice an y.2.1.length cn, .slice ao y.2.2.1.length cap] ++ y.2.2.2.map B8 ∧ Bytes w (.slice ak y.1.length ck) y.1 ∧ Bytes w (.slice an y.2.1.length cn) y.2.1 ∧ Elems rEv w ao y.2.2.1 ∧ Len y.2.2.2 32 := by
  obtain ⟨c1, c2, rfl, e1, c3, c4, rfl, e2, c5, c6, rfl, e3, e4, e5⟩ := h
  obtain ⟨ao1, cap1, f1, -⟩ := id e1
  obtain ⟨ao2, cap2, f2, -⟩ := id e2
  obtain ⟨ao, cap, f3, -, -, -, hE⟩ := id e3
  subst f1
  subst f2
  subst f3
  subst e4
  exact ⟨_, _, _, _, ao, cap, rfl, Bytes.of_K e1, Bytes.of_K e2, hE, Len.of e5⟩

/-- an event of a slice, read in every later world -/
theorem ev_later {w : World} {ao : Option Addr} {l : List Ev} (h : Elems rEv w ao l) {k : Nat} (hk : k < l.length) :
    ∃ b off e, ao = some ⟨b, off, none⟩ ∧ l[k]? = some e ∧ Len e.1 32 ∧ ∀ w', Adds w w' → Loads Try.prog w' 64 ⟨b, off + k * 33, none⟩ (.agg (evC e).toArray) := by
  obtain ⟨b, off, e, h1, h2, h3, -⟩ := ev_at h hk
  refine ⟨b, off, e, h1, h2, h3, fun w' ha => ?_⟩
  obtain ⟨b', off', e', g1, g2, -, g4⟩ := ev_at (h.adds ha) hk
  rw [h1] at g1
  rw [h2] at g2
  cases g1
  cases g2
  exact g4

set_option maxRecDepth 100000 in
set_option maxHeartbeats 4000000 in
theorem ChainChecks_walk (w0 : World) (cs : List Value) (y : List UInt8 × List UInt8 × List Ev × List UInt8) (hK : rAsked.K w0 cs y) (ho : rAsked.ok y) (r : List UInt8) (hr : r.length = 32) (h : List UInt8) (hh : h.length = 32) :
    Calls Try.prog 11 #[.agg cs.toArray, .agg (r.map B8).toArray, .agg (h.map B8).toArray] w0 fun e w' => e = .returned (.bool true) ∧ Below w0.heap.size w0 w' := by
  obtain ⟨key, nonce, l, q⟩ := y
  obtain ⟨ak, ck, an, cn, ao, cap, rfl, hvk, hvn, hE, hq⟩ := asked_cells hK
  have ho1 : key.length ≤ 140737488351232 := ho.1.1
  have ho2 : nonce.length ≤ 140737488351232 := ho.2.1.1
  have ho3 : l.length ≤ 140737488351232 := ho.2.2.1.1
  clear hK ho
  replace hr : Len r 32 := hr
  replace hh : Len h 32 := hh
  dsimp only at hvk hvn hE hq ⊢
  obtain ⟨ec, hec⟩ : ∃ ec, Chain.check key nonce l q = ec := ⟨_, rfl⟩
  have hc1 : ∀ w, Adds w0 w → _ := fun w hw => chain_Check w _ key (hvk.below hw (Nat.le_refl _)) (by omega) _ nonce (hvn.below hw (Nat.le_refl _)) (by omega) ao cap l (hE.adds hw) (by omega) q hq ec hec
  have hc2 : ∀ w, Adds w0 w → _ := fun w hw => ref16_Check w _ key (hvk.below hw (Nat.le_refl _)) ho1 _ nonce (hvn.below hw (Nat.le_refl _)) ho2 ao cap l (hE.adds hw) (by omega) q hq ec hec
  clear hec
  obtain ⟨T, hT⟩ : ∃ T, Chain.ext r h = T := ⟨_, rfl⟩
  have hTl : Len T 32 := by rw [← hT]; exact Len.of (Chain.ext_len _ _)
  have hx1 : ∀ w, _ := fun w => chain_Extend w r h hr hh T hT
  have hx2 : ∀ w, _ := fun w => ref16_Extend w r h hr hh T hT
  clear hT
  have hp : ∀ w, Adds w0 w → ∀ k, k < l.length → _ := fun w hw k hk => ev_later (hE.adds hw) (k := k) hk
  obtain ⟨n, hn⟩ : ∃ n, n = l.length := ⟨_, rfl⟩
  rw [← hn] at hp hc1 hc2 ho3 ⊢
  clear hn hE
  generalize key.length = nk at *
  generalize nonce.length = nn at *
  have hM := Mem.start w0
  go_enter Try.func11, Try.ntmps11
  go_wp2_with (first
    | ((with_reducible refine gL_box (dst := some 3) hM ?_); refine ⟨_, [.slice ak nk ck, .slice an nn cn, .slice ao n cap] ++ q.map B8, 35, rfl, rfl, Len.of (by simp [hq.eq]), ?_⟩; intro g3 _ hM2; clear hM; have hM := hM2; clear hM2)
    | ((with_reducible refine gL_box (dst := some 4) hM ?_); refine ⟨_, r.map B8, 32, rfl, rfl, (hr.map _), ?_⟩; intro g4 _ hM2; clear hM; have hM := hM2; clear hM2)
    | ((with_reducible refine gL_box (dst := some 5) hM ?_); refine ⟨_, h.map B8, 32, rfl, rfl, (hh.map _), ?_⟩; intro g5 _ hM2; clear hM; have hM := hM2; clear hM2)
    | ((with_reducible refine gL_load (dst := some 10) ?_); refine ⟨_, _, rfl, hM.loads_one (.tail _ (.tail _ (.head _))) (on_of rfl) rfl, ?_⟩)
    | ((with_reducible refine gL_load (dst := some 12) ?_); refine ⟨_, _, rfl, hM.loads_one (.tail _ (.tail _ (.head _))) (on_of rfl) rfl, ?_⟩)
    | ((with_reducible refine gL_load (dst := some 14) ?_); refine ⟨_, _, rfl, hM.loads_one (.tail _ (.tail _ (.head _))) (on_of rfl) rfl, ?_⟩)
    | ((with_reducible refine gL_load (dst := some 16) ?_); refine ⟨_, _, rfl, hM.loads_last (.tail _ (.tail _ (.head _))) (ag_of rfl) rfl (hq.map _), ?_⟩)
    | (go_at_call 41; (with_reducible refine (hc1 _ hM.done).mono ?_); rintro _ _ ⟨rfl, B1⟩; replace hM := hM.adds B1; clear B1))
  rename_i w5 K1 hK1 K2 hK2
  have hl3 := fun (w : World) (hC : Adds w5 w) => (hM.adds hC).loads_last (ty := 24) (.tail _ (.tail _ (.head _))) (ag_of rfl) rfl (hq.map B8)
  try simp only [Act.put, List.setIfInBounds_toArray, List.set_cons_succ, List.set_cons_zero]
  refine wp_region_tail 20 (by decide) (fun c vals => ⟨#[c 0, c 1, c 2, (Value.pointer (some ⟨g3, 0, none⟩) : Value), (Value.pointer (some ⟨g4, 0, none⟩) : Value), (Value.pointer (some ⟨g5, 0, none⟩) : Value), c 6, (Value.int .i64 ec : Value), c 8, c 9, c 10, c 11, c 12, c 13, c 14, c 15, c 16, c 17, vals 0, vals 1, vals 2, vals 3, vals 4, vals 5, vals 6, vals 7, vals 8, vals 9, vals 10, vals 11, vals 12, vals 13, vals 14, vals 15, vals 16, vals 17, vals 18, vals 19, c 38, c 39, c 40, c 41, c 42, c 43, c 44, c 45, c 46, c 47, c 48, c 49, c 50, c 51, c 52, c 53, c 54, c 55, c 56, c 57, c 58, c 59, c 60, c 61, c 62], []⟩) (fun t => [_, _, _, undef, undef, undef, _, undef, _, _, _, _, _, _, _, _, _, _, undef, undef, undef, undef, undef, undef, undef, undef, undef, undef, undef, undef, undef, undef, undef, undef, undef, undef, undef, undef, _, _, _, _, _, _, _, _, _, _, _, _, _, _, _, _, _, _, _, _, _, _, _, _, _].getD t undef) (fun i => [_, _, _, _, _, _, _, _, _, _, _, _, _, _, _, _, _, _, _, _].getD i undef) (by kernel_rfl)
    [[], [], [1], [], [3], [], [5], [], [7], [1, 2, 3, 4, 5, 6, 7, 8], [0, 1, 2, 3, 4, 5, 6, 7, 8, 9], [0, 1, 2, 3, 4, 5, 6, 7, 8, 9, 10], [0, 1, 2, 3, 4, 5, 6, 7, 8, 9, 10, 11], [0, 1, 2, 3, 4, 5, 6, 7, 8, 9, 10, 11], [0, 1, 2, 3, 4, 5, 6, 7, 8, 9, 10, 11, 12, 13], [0, 1, 2, 3, 4, 5, 6, 7, 8, 9, 10, 11], [0, 1, 2, 3, 4, 5, 6, 7, 8, 9, 10, 11], [0, 1, 2, 3, 4, 5, 6, 7, 8, 9, 10, 11, 12, 13, 14, 15, 16], [0, 1, 2, 3, 4, 5, 6, 7, 8, 9, 10, 11, 12, 13, 14, 15, 16, 17], [0, 1, 2, 3, 4, 5, 6, 7, 8, 9, 10, 11, 12, 13, 14, 15, 16, 17, 18]] (by kernel_rfl) (by kernel_rfl) (fun _ => True) trivial
    [fun x _ => x = (Value.int .i64 ec : Value),
     fun x _ => x = (Value.pointer (some ⟨g3, 0, none⟩) : Value),
     fun x _ => x = (Value.slice ak nk ck : Value),
     fun x _ => x = (Value.pointer (some ⟨g3, 1, none⟩) : Value),
     fun x _ => x = (Value.slice an nn cn : Value),
     fun x _ => x = (Value.pointer (some ⟨g3, 2, none⟩) : Value),
     fun x _ => x = (Value.slice ao n cap : Value),
     fun x _ => x = (Value.pointer (some ⟨g3, 3, none⟩) : Value),
     fun x _ => x = (Value.agg (q.map B8).toArray : Value),
     fun x _ => x = (Value.int .i64 ec : Value),
     fun x _ => x = (Value.bool false : Value),
     fun x _ => x = (Value.bool false : Value),
     fun x _ => x = (Value.agg (r.map B8).toArray : Value),
     fun x _ => x = (Value.agg (h.map B8).toArray : Value),
     fun x _ => x = (Value.agg (T.map B8).toArray : Value),
     fun x _ => x = (Value.agg (r.map B8).toArray : Value),
     fun x _ => x = (Value.agg (h.map B8).toArray : Value),
     fun x _ => x = (Value.agg (T.map B8).toArray : Value),
     fun x _ => x = (Value.bool (!true) : Value),
     fun x _ => x = (Value.bool false : Value)]
    ⟨fun _ _ _ h _ => h, fun _ _ _ h _ => h, fun _ _ _ h _ => h, fun _ _ _ h _ => h, fun _ _ _ h _ => h, fun _ _ _ h _ => h, fun _ _ _ h _ => h, fun _ _ _ h _ => h, fun _ _ _ h _ => h, fun _ _ _ h _ => h, fun _ _ _ h _ => h, fun _ _ _ h _ => h, fun _ _ _ h _ => h, fun _ _ _ h _ => h, fun _ _ _ h _ => h, fun _ _ _ h _ => h, fun _ _ _ h _ => h, fun _ _ _ h _ => h, fun _ _ _ h _ => h, fun _ _ _ h _ => h, trivial⟩ []
    ⟨?_, ?_, ?_, ?_, ?_, ?_, ?_, ?_, ?_, ?_, ?_, ?_, ?_, ?_, ?_, ?_, ?_, ?_, ?_, ?_, trivial⟩ ?_
  · refine showA_op 0 (by intro _ _ _; kernel_rfl) rfl rfl (fun c vals w hC hD => ?_)
    clear hD
    refine makes1 (x := .tmp 7) (X := Value.int .i64 ec) (by kernel_rfl : _ = (Value.int .i64 ec : Value)) (fun ρ rc rf q7 => ?_)
    exact makes_move (.inl rfl) q7 ⟨Adds.refl _, rfl⟩
  · refine showA_op 1 (by intro _ _ _; kernel_rfl) rfl rfl (fun c vals w hC hD => ?_)
    clear hD
    refine makes1 (x := .tmp 3) (X := Value.pointer (some ⟨g3, 0, none⟩)) (by kernel_rfl : _ = (Value.pointer (some ⟨g3, 0, none⟩) : Value)) (fun ρ rc rf q3 => ?_)
    refine makes_value (v := Value.pointer (some ⟨g3, 0, none⟩)) ?_ ⟨Adds.refl _, rfl⟩
    go_simp
    all_goals first | done | rfl | (rw [if_pos (by omega)]; refine congrArg (fun x => Result.ok (Next.value (Value.pointer (some ⟨_, x, none⟩))) _) ?_; omega) | (rw [wrapP_i64]; omega) | go_num | (simp; done) | (simp; omega) | (congr 1; first | rfl | (rw [wrapP_i64]; omega) | (congr 1; first | rfl | (simp; done) | (simp; omega) | (congr 2; omega) | go_num))
  · refine showA_op 2 (by intro _ _ _; kernel_rfl) rfl rfl (fun c vals w hC hD => ?_)
    have h1 : vals 1 = .pointer (some ⟨g3, 0, none⟩) := hD 1 rfl
    clear hD
    refine makes1 (x := .tmp 19) (X := Value.pointer (some ⟨g3, 0, none⟩)) ((by kernel_rfl : _ = vals 1).trans h1) (fun ρ rc rf q19 => ?_)
    clear h1
    exact makes_load ((hM.adds hC).loads_one (.tail _ (.tail _ (.head _))) (on_of rfl) rfl) rfl q19 ⟨Adds.refl _, rfl⟩
  · refine showA_op 3 (by intro _ _ _; kernel_rfl) rfl rfl (fun c vals w hC hD => ?_)
    clear hD
    refine makes1 (x := .tmp 3) (X := Value.pointer (some ⟨g3, 0, none⟩)) (by kernel_rfl : _ = (Value.pointer (some ⟨g3, 0, none⟩) : Value)) (fun ρ rc rf q3 => ?_)
    refine makes_value (v := Value.pointer (some ⟨g3, 1, none⟩)) ?_ ⟨Adds.refl _, rfl⟩
    go_simp
    all_goals first | done | rfl | (rw [if_pos (by omega)]; refine congrArg (fun x => Result.ok (Next.value (Value.pointer (some ⟨_, x, none⟩))) _) ?_; omega) | (rw [wrapP_i64]; omega) | go_num | (simp; done) | (simp; omega) | (congr 1; first | rfl | (rw [wrapP_i64]; omega) | (congr 1; first | rfl | (simp; done) | (simp; omega) | (congr 2; omega) | go_num))
  · refine showA_op 4 (by intro _ _ _; kernel_rfl) rfl rfl (fun c vals w hC hD => ?_)
    have h3 : vals 3 = .pointer (some ⟨g3, 1, none⟩) := hD 3 rfl
    clear hD
    refine makes1 (x := .tmp 21) (X := Value.pointer (some ⟨g3, 1, none⟩)) ((by kernel_rfl : _ = vals 3).trans h3) (fun ρ rc rf q21 => ?_)
    clear h3
    exact makes_load ((hM.adds hC).loads_one (.tail _ (.tail _ (.head _))) (on_of rfl) rfl) rfl q21 ⟨Adds.refl _, rfl⟩
  · refine showA_op 5 (by intro _ _ _; kernel_rfl) rfl rfl (fun c vals w hC hD => ?_)
    clear hD
    refine makes1 (x := .tmp 3) (X := Value.pointer (some ⟨g3, 0, none⟩)) (by kernel_rfl : _ = (Value.pointer (some ⟨g3, 0, none⟩) : Value)) (fun ρ rc rf q3 => ?_)
    refine makes_value (v := Value.pointer (some ⟨g3, 2, none⟩)) ?_ ⟨Adds.refl _, rfl⟩
    go_simp
    all_goals first | done | rfl | (rw [if_pos (by omega)]; refine congrArg (fun x => Result.ok (Next.value (Value.pointer (some ⟨_, x, none⟩))) _) ?_; omega) | (rw [wrapP_i64]; omega) | go_num | (simp; done) | (simp; omega) | (congr 1; first | rfl | (rw [wrapP_i64]; omega) | (congr 1; first | rfl | (simp; done) | (simp; omega) | (congr 2; omega) | go_num))
  · refine showA_op 6 (by intro _ _ _; kernel_rfl) rfl rfl (fun c vals w hC hD => ?_)
    have h5 : vals 5 = .pointer (some ⟨g3, 2, none⟩) := hD 5 rfl
    clear hD
    refine makes1 (x := .tmp 23) (X := Value.pointer (some ⟨g3, 2, none⟩)) ((by kernel_rfl : _ = vals 5).trans h5) (fun ρ rc rf q23 => ?_)
    clear h5
    exact makes_load ((hM.adds hC).loads_one (.tail _ (.tail _ (.head _))) (on_of rfl) rfl) rfl q23 ⟨Adds.refl _, rfl⟩
  · refine showA_op 7 (by intro _ _ _; kernel_rfl) rfl rfl (fun c vals w hC hD => ?_)
    clear hD
    refine makes1 (x := .tmp 3) (X := Value.pointer (some ⟨g3, 0, none⟩)) (by kernel_rfl : _ = (Value.pointer (some ⟨g3, 0, none⟩) : Value)) (fun ρ rc rf q3 => ?_)
    refine makes_value (v := Value.pointer (some ⟨g3, 3, none⟩)) ?_ ⟨Adds.refl _, rfl⟩
    go_simp
    all_goals first | done | rfl | (rw [if_pos (by omega)]; refine congrArg (fun x => Result.ok (Next.value (Value.pointer (some ⟨_, x, none⟩))) _) ?_; omega) | (rw [wrapP_i64]; omega) | go_num | (simp; done) | (simp; omega) | (congr 1; first | rfl | (rw [wrapP_i64]; omega) | (congr 1; first | rfl | (simp; done) | (simp; omega) | (congr 2; omega) | go_num))
  · refine showA_op 8 (by intro _ _ _; kernel_rfl) rfl rfl (fun c vals w hC hD => ?_)
    have h7 : vals 7 = .pointer (some ⟨g3, 3, none⟩) := hD 7 rfl
    clear hD
    refine makes1 (x := .tmp 25) (X := Value.pointer (some ⟨g3, 3, none⟩)) ((by kernel_rfl : _ = vals 7).trans h7) (fun ρ rc rf q25 => ?_)
    clear h7
    exact makes_load (hl3 _ hC) rfl q25 ⟨Adds.refl _, rfl⟩
  · refine showA_op 9 (by intro _ _ _; kernel_rfl) rfl rfl (fun c vals w hC hD => ?_)
    have h2 : vals 2 = .slice ak nk ck := hD 2 rfl
    have h4 : vals 4 = .slice an nn cn := hD 4 rfl
    have h6 : vals 6 = .slice ao n cap := hD 6 rfl
    have h8 : vals 8 = .agg (q.map B8).toArray := hD 8 rfl
    clear hD
    refine makes4 (x := .tmp 20) (X := Value.slice ak nk ck) (y := .tmp 22) (Y := Value.slice an nn cn) (z := .tmp 24) (Z := Value.slice ao n cap) (t := .tmp 26) (T := Value.agg (q.map B8).toArray) ((by kernel_rfl : _ = vals 2).trans h2) ((by kernel_rfl : _ = vals 4).trans h4) ((by kernel_rfl : _ = vals 6).trans h6) ((by kernel_rfl : _ = vals 8).trans h8) (fun ρ rc rf q20 q22 q24 q26 => ?_)
    clear h2 h4 h6 h8
    refine makes_call (hc2 _ ((hM.adds hC).done)) ?_ (by rintro e w' ⟨rfl, hb⟩; exact ⟨_, rfl, hb, rfl⟩)
    go_simp
  · refine showA_op 10 (by intro _ _ _; kernel_rfl) rfl rfl (fun c vals w hC hD => ?_)
    have h0 : vals 0 = .int .i64 ec := hD 0 rfl
    have h9 : vals 9 = .int .i64 ec := hD 9 rfl
    clear hD
    refine makes2 (x := .tmp 18) (X := Value.int .i64 ec) (y := .tmp 27) (Y := Value.int .i64 ec) ((by kernel_rfl : _ = vals 0).trans h0) ((by kernel_rfl : _ = vals 9).trans h9) (fun ρ rc rf q18 q27 => ?_)
    clear h0 h9
    refine makes_value (v := Value.bool false) ?_ ⟨Adds.refl _, rfl⟩
    go_simp
    all_goals first | done | rfl | (rw [if_pos (by omega)]; refine congrArg (fun x => Result.ok (Next.value (Value.pointer (some ⟨_, x, none⟩))) _) ?_; omega) | (rw [wrapP_i64]; omega) | go_num | (simp; done) | (simp; omega) | (congr 1; first | rfl | (rw [wrapP_i64]; omega) | (congr 1; first | rfl | (simp; done) | (simp; omega) | (congr 2; omega) | go_num))
  · refine showA_op 11 (by intro _ _ _; kernel_rfl) rfl rfl (fun c vals w hC hD => ?_)
    have h10 : vals 10 = .bool false := hD 10 rfl
    clear hD
    refine makes1 (x := .tmp 28) (X := Value.bool false) ((by kernel_rfl : _ = vals 10).trans h10) (fun ρ rc rf q28 => ?_)
    clear h10
    exact makes_move (.inl rfl) q28 ⟨Adds.refl _, rfl⟩
  · refine showA_run 12 (by intro _ _ _; kernel_rfl) (j := 11) (want := false) rfl rfl rfl (by intro _ _; kernel_rfl) rfl (fun c vals w hC hD => ⟨hD 11 rfl, ?_⟩)
    clear hD
    refine makes1 (x := .tmp 4) (X := Value.pointer (some ⟨g4, 0, none⟩)) (by kernel_rfl : _ = (Value.pointer (some ⟨g4, 0, none⟩) : Value)) (fun ρ rc rf q4 => ?_)
    exact makes_load ((hM.adds hC).loads_all (.tail _ (.head _)) (ag_of rfl) (hr.map _)) rfl q4 ⟨Adds.refl _, rfl⟩
  · refine showA_run 13 (by intro _ _ _; kernel_rfl) (j := 11) (want := false) rfl rfl rfl (by intro _ _; kernel_rfl) rfl (fun c vals w hC hD => ⟨hD 11 rfl, ?_⟩)
    clear hD
    refine makes1 (x := .tmp 5) (X := Value.pointer (some ⟨g5, 0, none⟩)) (by kernel_rfl : _ = (Value.pointer (some ⟨g5, 0, none⟩) : Value)) (fun ρ rc rf q5 => ?_)
    exact makes_load ((hM.adds hC).loads_all (.head _) (ag_of rfl) (hh.map _)) rfl q5 ⟨Adds.refl _, rfl⟩
  · refine showA_run 14 (by intro _ _ _; kernel_rfl) (j := 11) (want := false) rfl rfl rfl (by intro _ _; kernel_rfl) rfl (fun c vals w hC hD => ⟨hD 11 rfl, ?_⟩)
    have h12 : vals 12 = .agg (r.map B8).toArray := hD 12 rfl
    have h13 : vals 13 = .agg (h.map B8).toArray := hD 13 rfl
    clear hD
    refine makes2 (x := .tmp 30) (X := Value.agg (r.map B8).toArray) (y := .tmp 31) (Y := Value.agg (h.map B8).toArray) ((by kernel_rfl : _ = vals 12).trans h12) ((by kernel_rfl : _ = vals 13).trans h13) (fun ρ rc rf q30 q31 => ?_)
    clear h12 h13
    refine makes_call (hx1 _) ?_ (by rintro e w' ⟨rfl, hb⟩; exact ⟨_, rfl, hb, rfl⟩)
    go_simp
  · refine showA_run 15 (by intro _ _ _; kernel_rfl) (j := 11) (want := false) rfl rfl rfl (by intro _ _; kernel_rfl) rfl (fun c vals w hC hD => ⟨hD 11 rfl, ?_⟩)
    clear hD
    refine makes1 (x := .tmp 4) (X := Value.pointer (some ⟨g4, 0, none⟩)) (by kernel_rfl : _ = (Value.pointer (some ⟨g4, 0, none⟩) : Value)) (fun ρ rc rf q4 => ?_)
    exact makes_load ((hM.adds hC).loads_all (.tail _ (.head _)) (ag_of rfl) (hr.map _)) rfl q4 ⟨Adds.refl _, rfl⟩
  · refine showA_run 16 (by intro _ _ _; kernel_rfl) (j := 11) (want := false) rfl rfl rfl (by intro _ _; kernel_rfl) rfl (fun c vals w hC hD => ⟨hD 11 rfl, ?_⟩)
    clear hD
    refine makes1 (x := .tmp 5) (X := Value.pointer (some ⟨g5, 0, none⟩)) (by kernel_rfl : _ = (Value.pointer (some ⟨g5, 0, none⟩) : Value)) (fun ρ rc rf q5 => ?_)
    exact makes_load ((hM.adds hC).loads_all (.head _) (ag_of rfl) (hh.map _)) rfl q5 ⟨Adds.refl _, rfl⟩
  · refine showA_run 17 (by intro _ _ _; kernel_rfl) (j := 11) (want := false) rfl rfl rfl (by intro _ _; kernel_rfl) rfl (fun c vals w hC hD => ⟨hD 11 rfl, ?_⟩)
    have h15 : vals 15 = .agg (r.map B8).toArray := hD 15 rfl
    have h16 : vals 16 = .agg (h.map B8).toArray := hD 16 rfl
    clear hD
    refine makes2 (x := .tmp 33) (X := Value.agg (r.map B8).toArray) (y := .tmp 34) (Y := Value.agg (h.map B8).toArray) ((by kernel_rfl : _ = vals 15).trans h15) ((by kernel_rfl : _ = vals 16).trans h16) (fun ρ rc rf q33 q34 => ?_)
    clear h15 h16
    refine makes_call (hx2 _) ?_ (by rintro e w' ⟨rfl, hb⟩; exact ⟨_, rfl, hb, rfl⟩)
    go_simp
  · refine showA_run 18 (by intro _ _ _; kernel_rfl) (j := 11) (want := false) rfl rfl rfl (by intro _ _; kernel_rfl) rfl (fun c vals w hC hD => ⟨hD 11 rfl, ?_⟩)
    have h14 : vals 14 = .agg (T.map B8).toArray := hD 14 rfl
    have h17 : vals 17 = .agg (T.map B8).toArray := hD 17 rfl
    clear hD
    refine makes2 (x := .tmp 32) (X := Value.agg (T.map B8).toArray) (y := .tmp 35) (Y := Value.agg (T.map B8).toArray) ((by kernel_rfl : _ = vals 14).trans h14) ((by kernel_rfl : _ = vals 17).trans h17) (fun ρ rc rf q32 q35 => ?_)
    clear h14 h17
    exact makes_neq (hash_self _ hTl) rfl q32 q35 ⟨Adds.refl _, rfl⟩
  · refine showA_op 19 (by intro _ _ _; kernel_rfl) rfl rfl (fun c vals w hC hD => ?_)
    have h11 : vals 11 = .bool false := hD 11 rfl
    have h18 : vals 18 = .bool (!true) := hD 18 rfl
    clear hD
    refine makes2 (x := .tmp 29) (X := Value.bool false) (y := .tmp 36) (Y := Value.bool (!true)) ((by kernel_rfl : _ = vals 11).trans h11) ((by kernel_rfl : _ = vals 18).trans h18) (fun ρ rc rf q29 q36 => ?_)
    clear h11 h18
    refine makes_value (v := Value.bool false) ?_ ⟨Adds.refl _, rfl⟩
    go_simp
    all_goals first | done | rfl | (rw [if_pos (by omega)]; refine congrArg (fun x => Result.ok (Next.value (Value.pointer (some ⟨_, x, none⟩))) _) ?_; omega) | (rw [wrapP_i64]; omega) | go_num | (simp; done) | (simp; omega) | (congr 1; first | rfl | (rw [wrapP_i64]; omega) | (congr 1; first | rfl | (simp; done) | (simp; omega) | (congr 2; omega) | go_num))
  intro vals w' hC hΦ hne
  have h19 : vals 19 = .bool false := hΦ 19 (by decide)
  clear hΦ hne
  simp only [List.getD_eq_getElem?_getD, List.getElem?_cons_zero, List.getElem?_cons_succ, Option.getD_some, List.drop_succ_cons, List.drop_zero]
  simp only [h19]
  clear h19
  try simp only [tuple_undef]
  replace hM := hM.adds hC
  clear hC hl3 hc1 hc2 hx1 hx2
  go_wp2_with fail
  go_loopw [8] (fun i wr => ∃ (j : Nat), j ≤ n ∧ i = .int .i64 j ∧ Mem [] w0 wr [⟨some g5, 24, h.map B8, 32⟩, ⟨some g4, 24, r.map B8, 32⟩, ⟨some g3, 73, [.slice ak nk ck, .slice an nn cn, .slice ao n cap] ++ q.map B8, 35⟩]) (fun i _ => n - (intOf i).toNat)
  case atStart => exact ⟨0, by omega, rfl, hM⟩
  case round =>
    clear hM
    obtain ⟨j, hj, rfl, hM⟩ := hrel
    by_cases hlt : j < n
    · have hti : (j : Int) < (n : Int) := by omega
      by_cases h20 : j < 20
      · have hti2 : (j : Int) < 20 := by omega
        obtain ⟨b, off, e, rfl, hje, hel, hld⟩ := hp _ hM.done j hlt
        clear hje
        obtain ⟨M, hMM⟩ : ∃ M, Chain.meas e = M := ⟨_, rfl⟩
        have hMl : Len M 32 := by rw [← hMM]; exact Len.of (Chain.meas_len _)
        have hm1 : ∀ w, _ := fun w => chain_Measure w e hel M hMM
        have hm2 : ∀ w, _ := fun w => ref16_Measure w e hel M hMM
        clear hMM
        generalize evC e = Z at *
        go_wp2_with (first
          | ((with_reducible refine gL_load (dst := some 40) ?_); refine ⟨_, _, rfl, hM.loads_one (.tail _ (.tail _ (.head _))) (on_of rfl) rfl, ?_⟩))
        try simp only [Act.put, List.setIfInBounds_toArray, List.set_cons_succ, List.set_cons_zero]
        refine wp_region_tail 13 (by decide) (fun c vals => ⟨#[c 0, c 1, c 2, (Value.pointer (some ⟨g3, 0, none⟩) : Value), c 4, c 5, c 6, c 7, (Value.int .i64 j : Value), c 9, c 10, c 11, c 12, c 13, c 14, c 15, c 16, c 17, c 18, c 19, c 20, c 21, c 22, c 23, c 24, c 25, c 26, c 27, c 28, c 29, c 30, c 31, c 32, c 33, c 34, c 35, c 36, c 37, c 38, c 39, c 40, c 41, c 42, c 43, c 44, c 45, c 46, c 47, c 48, vals 0, vals 1, vals 2, vals 3, vals 4, vals 5, vals 6, vals 7, vals 8, vals 9, vals 10, vals 11, vals 12, c 62], []⟩) (fun t => [_, _, _, undef, _, _, _, _, undef, _, _, _, _, _, _, _, _, _, _, _, _, _, _, _, _, _, _, _, _, _, _, _, _, _, _, _, _, _, _, _, _, _, _, _, _, _, _, _, _, undef, undef, undef, undef, undef, undef, undef, undef, undef, undef, undef, undef, undef, _].getD t undef) (fun i => [_, _, _, _, _, _, _, _, _, _, _, _, _].getD i undef) (by kernel_rfl)
          [[], [0], [], [0, 1, 2], [0, 1, 2, 3], [0, 1, 2, 3, 4], [], [6], [], [6, 7, 8], [6, 7, 8, 9], [0, 1, 2, 3, 4, 5, 6, 7, 8, 9, 10], [0, 1, 2, 3, 4, 5, 6, 7, 8, 9, 10, 11]] (by kernel_rfl) (by kernel_rfl) (fun _ => True) trivial
          [fun x _ => x = (Value.pointer (some ⟨g3, 2, none⟩) : Value),
           fun x _ => x = (Value.slice (some ⟨b, off, none⟩) n cap : Value),
           fun x _ => x = (Value.int .i64 j : Value),
           fun x _ => x = (Value.pointer (some ⟨b, off + j * 33, none⟩) : Value),
           fun x _ => x = (Value.agg Z.toArray : Value),
           fun x _ => x = (Value.agg (M.map B8).toArray : Value),
           fun x _ => x = (Value.pointer (some ⟨g3, 2, none⟩) : Value),
           fun x _ => x = (Value.slice (some ⟨b, off, none⟩) n cap : Value),
           fun x _ => x = (Value.int .i64 j : Value),
           fun x _ => x = (Value.pointer (some ⟨b, off + j * 33, none⟩) : Value),
           fun x _ => x = (Value.agg Z.toArray : Value),
           fun x _ => x = (Value.agg (M.map B8).toArray : Value),
           fun x _ => x = (Value.bool (!true) : Value)]
          ⟨fun _ _ _ h _ => h, fun _ _ _ h _ => h, fun _ _ _ h _ => h, fun _ _ _ h _ => h, fun _ _ _ h _ => h, fun _ _ _ h _ => h, fun _ _ _ h _ => h, fun _ _ _ h _ => h, fun _ _ _ h _ => h, fun _ _ _ h _ => h, fun _ _ _ h _ => h, fun _ _ _ h _ => h, fun _ _ _ h _ => h, trivial⟩ []
          ⟨?_, ?_, ?_, ?_, ?_, ?_, ?_, ?_, ?_, ?_, ?_, ?_, ?_, trivial⟩ ?_
        · refine showA_op 0 (by intro _ _ _; kernel_rfl) rfl rfl (fun c vals w hC hD => ?_)
          clear hD
          refine makes1 (x := .tmp 3) (X := Value.pointer (some ⟨g3, 0, none⟩)) (by kernel_rfl : _ = (Value.pointer (some ⟨g3, 0, none⟩) : Value)) (fun ρ rc rf q3 => ?_)
          refine makes_value (v := Value.pointer (some ⟨g3, 2, none⟩)) ?_ ⟨Adds.refl _, rfl⟩
          go_simp
          all_goals first | done | rfl | (rw [if_pos (by omega)]; refine congrArg (fun x => Result.ok (Next.value (Value.pointer (some ⟨_, x, none⟩))) _) ?_; omega) | (rw [wrapP_i64]; omega) | go_num | (simp; done) | (simp; omega) | (congr 1; first | rfl | (rw [wrapP_i64]; omega) | (congr 1; first | rfl | (simp; done) | (simp; omega) | (congr 2; omega) | go_num))
        · refine showA_op 1 (by intro _ _ _; kernel_rfl) rfl rfl (fun c vals w hC hD => ?_)
          have h0 : vals 0 = .pointer (some ⟨g3, 2, none⟩) := hD 0 rfl
          clear hD
          refine makes1 (x := .tmp 49) (X := Value.pointer (some ⟨g3, 2, none⟩)) ((by kernel_rfl : _ = vals 0).trans h0) (fun ρ rc rf q49 => ?_)
          clear h0
          exact makes_load ((hM.adds hC).loads_one (.tail _ (.tail _ (.head _))) (on_of rfl) rfl) rfl q49 ⟨Adds.refl _, rfl⟩
        · refine showA_op 2 (by intro _ _ _; kernel_rfl) rfl rfl (fun c vals w hC hD => ?_)
          clear hD
          refine makes1 (x := .tmp 8) (X := Value.int .i64 j) (by kernel_rfl : _ = (Value.int .i64 j : Value)) (fun ρ rc rf q8 => ?_)
          exact makes_move (.inl rfl) q8 ⟨Adds.refl _, rfl⟩
        · refine showA_op 3 (by intro _ _ _; kernel_rfl) rfl rfl (fun c vals w hC hD => ?_)
          have h1 : vals 1 = .slice (some ⟨b, off, none⟩) n cap := hD 1 rfl
          have h2 : vals 2 = .int .i64 j := hD 2 rfl
          clear hD
          refine makes2 (x := .tmp 50) (X := Value.slice (some ⟨b, off, none⟩) n cap) (y := .tmp 51) (Y := Value.int .i64 j) ((by kernel_rfl : _ = vals 1).trans h1) ((by kernel_rfl : _ = vals 2).trans h2) (fun ρ rc rf q50 q51 => ?_)
          clear h1 h2
          exact makes_index (us_of rfl) (el_of rfl) hlt rfl q50 q51 ⟨Adds.refl _, rfl⟩
        · refine showA_op 4 (by intro _ _ _; kernel_rfl) rfl rfl (fun c vals w hC hD => ?_)
          have h3 : vals 3 = .pointer (some ⟨b, off + j * 33, none⟩) := hD 3 rfl
          clear hD
          refine makes1 (x := .tmp 52) (X := Value.pointer (some ⟨b, off + j * 33, none⟩)) ((by kernel_rfl : _ = vals 3).trans h3) (fun ρ rc rf q52 => ?_)
          clear h3
          exact makes_load (hld _ hC) rfl q52 ⟨Adds.refl _, rfl⟩
        · refine showA_op 5 (by intro _ _ _; kernel_rfl) rfl rfl (fun c vals w hC hD => ?_)
          have h4 : vals 4 = .agg Z.toArray := hD 4 rfl
          clear hD
          refine makes1 (x := .tmp 53) (X := Value.agg Z.toArray) ((by kernel_rfl : _ = vals 4).trans h4) (fun ρ rc rf q53 => ?_)
          clear h4
          refine makes_call (hm1 _) ?_ (by rintro e w' ⟨rfl, hb⟩; exact ⟨_, rfl, hb, rfl⟩)
          go_simp
        · refine showA_op 6 (by intro _ _ _; kernel_rfl) rfl rfl (fun c vals w hC hD => ?_)
          clear hD
          refine makes1 (x := .tmp 3) (X := Value.pointer (some ⟨g3, 0, none⟩)) (by kernel_rfl : _ = (Value.pointer (some ⟨g3, 0, none⟩) : Value)) (fun ρ rc rf q3 => ?_)
          refine makes_value (v := Value.pointer (some ⟨g3, 2, none⟩)) ?_ ⟨Adds.refl _, rfl⟩
          go_simp
          all_goals first | done | rfl | (rw [if_pos (by omega)]; refine congrArg (fun x => Result.ok (Next.value (Value.pointer (some ⟨_, x, none⟩))) _) ?_; omega) | (rw [wrapP_i64]; omega) | go_num | (simp; done) | (simp; omega) | (congr 1; first | rfl | (rw [wrapP_i64]; omega) | (congr 1; first | rfl | (simp; done) | (simp; omega) | (congr 2; omega) | go_num))
        · refine showA_op 7 (by intro _ _ _; kernel_rfl) rfl rfl (fun c vals w hC hD => ?_)
          have h6 : vals 6 = .pointer (some ⟨g3, 2, none⟩) := hD 6 rfl
          clear hD
          refine makes1 (x := .tmp 55) (X := Value.pointer (some ⟨g3, 2, none⟩)) ((by kernel_rfl : _ = vals 6).trans h6) (fun ρ rc rf q55 => ?_)
          clear h6
          exact makes_load ((hM.adds hC).loads_one (.tail _ (.tail _ (.head _))) (on_of rfl) rfl) rfl q55 ⟨Adds.refl _, rfl⟩
        · refine showA_op 8 (by intro _ _ _; kernel_rfl) rfl rfl (fun c vals w hC hD => ?_)
          clear hD
          refine makes1 (x := .tmp 8) (X := Value.int .i64 j) (by kernel_rfl : _ = (Value.int .i64 j : Value)) (fun ρ rc rf q8 => ?_)
          exact makes_move (.inl rfl) q8 ⟨Adds.refl _, rfl⟩
        · refine showA_op 9 (by intro _ _ _; kernel_rfl) rfl rfl (fun c vals w hC hD => ?_)
          have h7 : vals 7 = .slice (some ⟨b, off, none⟩) n cap := hD 7 rfl
          have h8 : vals 8 = .int .i64 j := hD 8 rfl
          clear hD
          refine makes2 (x := .tmp 56) (X := Value.slice (some ⟨b, off, none⟩) n cap) (y := .tmp 57) (Y := Value.int .i64 j) ((by kernel_rfl : _ = vals 7).trans h7) ((by kernel_rfl : _ = vals 8).trans h8) (fun ρ rc rf q56 q57 => ?_)
          clear h7 h8
          exact makes_index (us_of rfl) (el_of rfl) hlt rfl q56 q57 ⟨Adds.refl _, rfl⟩
        · refine showA_op 10 (by intro _ _ _; kernel_rfl) rfl rfl (fun c vals w hC hD => ?_)
          have h9 : vals 9 = .pointer (some ⟨b, off + j * 33, none⟩) := hD 9 rfl
          clear hD
          refine makes1 (x := .tmp 58) (X := Value.pointer (some ⟨b, off + j * 33, none⟩)) ((by kernel_rfl : _ = vals 9).trans h9) (fun ρ rc rf q58 => ?_)
          clear h9
          exact makes_load (hld _ hC) rfl q58 ⟨Adds.refl _, rfl⟩
        · refine showA_op 11 (by intro _ _ _; kernel_rfl) rfl rfl (fun c vals w hC hD => ?_)
          have h10 : vals 10 = .agg Z.toArray := hD 10 rfl
          clear hD
          refine makes1 (x := .tmp 59) (X := Value.agg Z.toArray) ((by kernel_rfl : _ = vals 10).trans h10) (fun ρ rc rf q59 => ?_)
          clear h10
          refine makes_call (hm2 _) ?_ (by rintro e w' ⟨rfl, hb⟩; exact ⟨_, rfl, hb, rfl⟩)
          go_simp
        · refine showA_op 12 (by intro _ _ _; kernel_rfl) rfl rfl (fun c vals w hC hD => ?_)
          have h5 : vals 5 = .agg (M.map B8).toArray := hD 5 rfl
          have h11 : vals 11 = .agg (M.map B8).toArray := hD 11 rfl
          clear hD
          refine makes2 (x := .tmp 54) (X := Value.agg (M.map B8).toArray) (y := .tmp 60) (Y := Value.agg (M.map B8).toArray) ((by kernel_rfl : _ = vals 5).trans h5) ((by kernel_rfl : _ = vals 11).trans h11) (fun ρ rc rf q54 q60 => ?_)
          clear h5 h11
          exact makes_neq (hash_self _ hMl) rfl q54 q60 ⟨Adds.refl _, rfl⟩
        intro vals w' hC hΦ hne
        have h12 : vals 12 = .bool (!true) := hΦ 12 (by decide)
        clear hΦ hne
        simp only [List.getD_eq_getElem?_getD, List.getElem?_cons_zero, List.getElem?_cons_succ, Option.getD_some, List.drop_succ_cons, List.drop_zero]
        simp only [h12]
        clear h12
        try simp only [tuple_undef]
        replace hM := hM.adds hC
        clear hC
        go_wp2_with fail
        go_roundw
        case rel => exact ⟨j + 1, by omega, by go_num, hM⟩
        case measure => simp [intOf]; omega
      · have hti2 : ¬ (j : Int) < 20 := by omega
        go_wp2_with (first
          | ((with_reducible refine gL_load (dst := some 40) ?_); refine ⟨_, _, rfl, hM.loads_one (.tail _ (.tail _ (.head _))) (on_of rfl) rfl, ?_⟩)
          | (go_at_call 34; (with_reducible refine (law16_fixed _).mono ?_); rintro _ _ ⟨rfl, B1⟩; replace hM := hM.adds B1; clear B1))
        go_ret
        exact ⟨rfl, hM.done⟩
    · have hje : j = n := by omega
      subst hje
      go_wp2_with (first
        | ((with_reducible refine gL_load (dst := some 40) ?_); refine ⟨_, _, rfl, hM.loads_one (.tail _ (.tail _ (.head _))) (on_of rfl) rfl, ?_⟩)
        | (go_at_call 34; (with_reducible refine (law16_fixed _).mono ?_); rintro _ _ ⟨rfl, B1⟩; replace hM := hM.adds B1; clear B1))
      go_ret
      exact ⟨rfl, hM.done⟩
end Go.Proofs.Ytejmbkljnhnklaa
