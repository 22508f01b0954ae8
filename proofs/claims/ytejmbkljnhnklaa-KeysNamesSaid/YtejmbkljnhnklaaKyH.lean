/-
  The walks of a ring's Has, Sign, Check.
-/
import Derived.Test.YtejmbkljnhnklaaKyM
namespace Go.Proofs.Ytejmbkljnhnklaa
open Go.RowKit Go.PK Go.Maps
/-- a ring: its block, its map, its secrets -/
structure Ring (w : World) (gr gm : Nat) (S : List Sec) : Prop where
  row : Row w gr 134 [.map (some gm)]
  own : w.ownsMap Try.prog 3 kR gm 64 (kD S)
  nd : (S.map (·.1)).Nodup
  by' : ∀ x ∈ S, Bytes w x.2.1 x.2.2
  few : S.length ≤ 64
  len : ∀ x ∈ S, x.2.2.length ≤ 256
theorem owns_adds {w w' : World} {gm n : Nat} {D : DataW Value} (h : w.ownsMap Try.prog 3 kR gm n D) (hw : Adds w w') : w'.ownsMap Try.prog 3 kR gm n D := by
  have hlt := h.lt
  obtain ⟨es, clock, hb, F, hs, hD⟩ := h
  exact ⟨es, clock, (hw.block gm hlt).trans hb, F, hs, hD⟩
theorem Ring.adds {w w' : World} {gr gm : Nat} {S : List Sec} (h : Ring w gr gm S) (hw : Adds w w') : Ring w' gr gm S :=
  ⟨(hw.block gr h.row.lt).trans h.row, owns_adds h.own hw, h.nd, fun x hx => (h.by' x hx).adds hw, h.few, h.len⟩

set_option maxRecDepth 100000 in
set_option maxHeartbeats 4000000 in
theorem ring_Has (w0 : World) (gr gm : Nat) (S : List Sec) (hR : Ring w0 gr gm S) (k : Int) (hk : -9223372036854775808 ≤ k ∧ k ≤ 9223372036854775807) :
    Calls Try.prog 59 #[.pointer (some ⟨gr, 0, none⟩), .int .i64 k] w0 fun e w' => e = .returned (.bool (kLook S k).isSome) ∧ Below w0.heap.size w0 w' := by
  have hl := look_run hR.own hR.nd hk
  have hc : w0.cell? ⟨gr, 0, none⟩ = some (.map (some gm)) := hR.row.cell rfl
  have hM := Mem.start w0
  clear hR
  go_enter Try.func59, Try.ntmps59
  cases h : kLook S k with
  | none =>
    rw [h] at hl
    simp only at hl
    go_wp2_with fail
    go_ret
    exact ⟨rfl, hM.done⟩
  | some x =>
    rw [h] at hl
    simp only at hl
    go_wp2_with fail
    go_ret
    exact ⟨rfl, hM.done⟩

set_option maxRecDepth 100000 in
set_option maxHeartbeats 4000000 in
theorem ring_Sign (w0 : World) (gr gm : Nat) (S : List Sec) (hR : Ring w0 gr gm S) (k : Int) (hk : -9223372036854775808 ≤ k ∧ k ≤ 9223372036854775807) (vb : Value) (b : List UInt8) (hb : Bytes w0 vb b) (hbl : b.length ≤ 140737488351232) (T : List UInt8) (ec : Int)
    (hT : (T, ec) = match kLook S k with | some x => (Mac.tag x.2.2 b, 0) | none => (List.replicate 32 0, 13)) :
    Calls Try.prog 57 #[.pointer (some ⟨gr, 0, none⟩), .int .i64 k, vb] w0 fun e w' => e = .returned (.tuple #[.agg (T.map B8).toArray, .int .i64 ec]) ∧ Below w0.heap.size w0 w' := by
  have hl := fun w (hw : Adds w0 w) => look_run (hR.adds hw).own hR.nd hk
  have hc : ∀ w, Adds w0 w → Loads Try.prog w 132 ⟨gr, 0, none⟩ (.map (some gm)) := fun w hw => loads_cell ((hR.adds hw).row.cell rfl) (on_of rfl)
  have hM := Mem.start w0
  go_enter Try.func57, Try.ntmps57
  cases h : kLook S k with
  | none =>
    rw [h] at hl hT
    simp only at hl
    cases hT
    clear hR
    have hz1 : Builds Try.prog 24 [] (.agg ((List.replicate 32 (0 : UInt8)).map B8).toArray) := fun w => by kernel_rfl
    go_wp2_with (first
      | ((with_reducible refine gL_alloc (dst := some 6) hM ?_); refine ⟨(List.replicate 32 (0 : UInt8)).map B8, _, (zr_of rfl), ?_⟩; intro g6 wA hM2; clear hM; have hM := hM2; clear hM2; have hl1 := hl _ hM.done)
      | ((with_reducible refine gL_load (dst := some 14) ?_); refine ⟨_, _, rfl, hc _ hM.done, ?_⟩)
      | ((with_reducible refine gL_build (dst := some 21) ?_); refine ⟨_, _, rfl, hz1, ?_⟩)
      | ((with_reducible refine gL_store hM ?_); refine ⟨_, _, _, rfl, rfl, hM.stores_all (.here _ _ _) (ag_of rfl) ((Len.rep 32 (0 : UInt8)).map _) (by rfl) B8_one, ?_⟩; intro _ hM2; clear hM; have hM := hM2; clear hM2))
    exact hM.ret_cell_tmp rfl rfl rfl rfl (by (repeat (first | exact .head _ | apply List.Mem.tail)); done) (ag_of rfl) ((Len.rep 32 (0 : UInt8)).map _) ⟨rfl, hM.done⟩
  | some x =>
    have hx := List.mem_of_find?_eq_some h
    rw [h] at hl hT
    simp only at hl hT
    injection hT with hT1 hT2
    subst hT2
    have hTl : Len T 32 := by rw [hT1]; exact Len.of (Mac.tag_len _ _)
    have hby := hR.by' x hx
    have hln := hR.len x hx
    have hmac : ∀ w, Adds w0 w → _ := fun w hw => mac_Of_as w x.2.1 vb x.2.2 b (hby.adds hw) (hb.adds hw) (by omega) (by omega) T hT1.symm
    clear hR hT1
    obtain ⟨k0, vx, bx⟩ := x
    simp only at hmac hl
    go_wp2_with (first
      | ((with_reducible refine gL_alloc (dst := some 6) hM ?_); refine ⟨(List.replicate 32 (0 : UInt8)).map B8, _, (zr_of rfl), ?_⟩; intro g6 wA hM2; clear hM; have hM := hM2; clear hM2; have hl1 := hl _ hM.done)
      | ((with_reducible refine gL_load (dst := some 14) ?_); refine ⟨_, _, rfl, hc _ hM.done, ?_⟩)
      | (go_at_call 31; (with_reducible refine (hmac _ hM.done).mono ?_); rintro _ _ ⟨rfl, B1⟩; replace hM := hM.adds B1; clear B1)
      | ((with_reducible refine gL_store hM ?_); refine ⟨_, _, _, rfl, rfl, hM.stores_all (.here _ _ _) (ag_of rfl) (hTl.map _) (by rfl) B8_one, ?_⟩; intro _ hM2; clear hM; have hM := hM2; clear hM2))
    exact hM.ret_cell_tmp rfl rfl rfl rfl (by (repeat (first | exact .head _ | apply List.Mem.tail)); done) (ag_of rfl) (hTl.map _) ⟨rfl, hM.done⟩

/-- what a ring answers: a tag, an error -/
def kSign (S : List Sec) (k : Int) (b : List UInt8) : List UInt8 × Int := match kLook S k with | some x => (Mac.tag x.2.2 b, 0) | none => (List.replicate 32 0, 13)
theorem kSign_len (S : List Sec) (k : Int) (b : List UInt8) : Len (kSign S k b).1 32 := by
  unfold kSign
  cases kLook S k with
  | none => exact Len.rep 32 0
  | some x => exact Len.of (Mac.tag_len _ _)
set_option maxRecDepth 100000 in
set_option maxHeartbeats 4000000 in
theorem ring_Check (w0 : World) (gr gm : Nat) (S : List Sec) (hR : Ring w0 gr gm S) (k : Int) (hk : -9223372036854775808 ≤ k ∧ k ≤ 9223372036854775807) (vb : Value) (b : List UInt8) (hb : Bytes w0 vb b) (hbl : b.length ≤ 140737488351232) (tag : List UInt8) (ht : Len tag 32) (T : List UInt8) (ec : Int)
    (hT : kSign S k b = (T, ec)) :
    Calls Try.prog 58 #[.pointer (some ⟨gr, 0, none⟩), .int .i64 k, vb, .agg (tag.map B8).toArray] w0 fun e w' => e = .returned (.tuple #[.bool (ec == 0 && T == tag), .int .i64 ec]) ∧ Below w0.heap.size w0 w' := by
  have hTl : Len T 32 := by have := kSign_len S k b; rw [hT] at this; exact this
  have hec : ec = 0 ∨ ec = 13 := by
    unfold kSign at hT
    cases h : kLook S k with
    | none => rw [h] at hT; cases hT; exact .inr rfl
    | some x => rw [h] at hT; cases hT; exact .inl rfl
  have hsg : ∀ w, Adds w0 w → _ := fun w hw => ring_Sign w gr gm S (hR.adds hw) k hk vb b (hb.adds hw) hbl T ec hT.symm
  obtain ⟨q, hq⟩ : ∃ q, (T == tag) = q := ⟨_, rfl⟩
  have heq : ∀ w v1 v2, Bytes w v1 T → Bytes w v2 tag → _ := fun w v1 v2 h1 h2 => mac_Equal w v1 v2 T tag h1 h2 q hq
  rw [hq]
  clear hR hT hq
  have hM := Mem.start w0
  go_enter Try.func58, Try.ntmps58
  rcases hec with rfl | rfl
  · go_wp2_with (first
      | ((with_reducible refine gL_box (dst := some 7) hM ?_); refine ⟨_, tag.map B8, 32, rfl, rfl, (ht.map _), ?_⟩; intro g7 _ hM2; clear hM; have hM := hM2; clear hM2)
      | (go_at_call 57; (with_reducible refine (hsg _ hM.done).mono ?_); rintro _ _ ⟨rfl, B1⟩; replace hM := hM.adds B1; clear B1)
      | ((first | ((with_reducible refine gL_alloc (dst := some 10) hM ?_); refine ⟨_, _, (zr_of rfl), ?_⟩) | ((with_reducible refine gL_box (dst := some 10) hM ?_); refine ⟨_, _, _, rfl, rfl, (by first | assumption | exact Len.map (by assumption) _ | rfl | exact Len.map (by rfl) _ | exact Len.of (by simp; done)), ?_⟩)); intro g10 _ hM2; clear hM; have hM := hM2; clear hM2)
      | ((with_reducible refine gL_store hM ?_); refine ⟨_, _, _, rfl, rfl, hM.stores_all (.here _ _ _) (ag_of rfl) (hTl.map _) (by rfl) B8_one, ?_⟩; intro wA hM2; clear hM; have hM := hM2; clear hM2))
    try simp only [Act.put, List.setIfInBounds_toArray, List.set_cons_succ, List.set_cons_zero]
    refine wp_region_tail 5 (by decide) (fun c vals => ⟨#[c 0, c 1, c 2, c 3, c 4, c 5, c 6, (Value.pointer (some ⟨g7, 0, none⟩) : Value), vals 3, vals 4, (Value.pointer (some ⟨g10, 0, none⟩) : Value), c 11, c 12, c 13, c 14, c 15, c 16, c 17, c 18, c 19, c 20, c 21, vals 0, vals 1, vals 2], []⟩) (fun t => [_, _, _, _, _, _, _, undef, undef, undef, undef, _, _, _, _, _, _, _, _, _, _, _, undef, undef, undef].getD t undef) (fun i => [_, _, _, _, _].getD i undef) (by kernel_rfl)
      [[], [], [0, 1], [0, 1, 2], [0, 1, 2, 3]] (by kernel_rfl) (by kernel_rfl) (fun _ => True) trivial
      [fun x _ => x = (Value.slice (some ⟨g10, 0, none⟩) 32 32 : Value),
       fun x _ => x = (Value.slice (some ⟨g7, 0, none⟩) 32 32 : Value),
       fun x _ => x = (Value.bool q : Value),
       fun x _ => x = (Value.bool q : Value),
       fun x _ => x = ((Value.int IntKind.i64 0) : Value)]
      ⟨fun _ _ _ h _ => h, fun _ _ _ h _ => h, fun _ _ _ h _ => h, fun _ _ _ h _ => h, fun _ _ _ h _ => h, trivial⟩ []
      ⟨?_, ?_, ?_, ?_, ?_, trivial⟩ ?_
    · refine showA_op 0 (by intro _ _ _; kernel_rfl) rfl rfl (fun c vals w hC hD => ?_)
      clear hD
      refine makes1 (x := .tmp 10) (X := Value.pointer (some ⟨g10, 0, none⟩)) (by kernel_rfl : _ = (Value.pointer (some ⟨g10, 0, none⟩) : Value)) (fun ρ rc rf q10 => ?_)
      exact makes_slice (slice_arr_all (t := 24) (ua_of rfl) (by exact elOne rfl)) rfl q10 rfl rfl rfl ⟨Adds.refl _, rfl⟩
    · refine showA_op 1 (by intro _ _ _; kernel_rfl) rfl rfl (fun c vals w hC hD => ?_)
      clear hD
      refine makes1 (x := .tmp 7) (X := Value.pointer (some ⟨g7, 0, none⟩)) (by kernel_rfl : _ = (Value.pointer (some ⟨g7, 0, none⟩) : Value)) (fun ρ rc rf q7 => ?_)
      exact makes_slice (slice_arr_all (t := 24) (ua_of rfl) (by exact elOne rfl)) rfl q7 rfl rfl rfl ⟨Adds.refl _, rfl⟩
    · refine showA_op 2 (by intro _ _ _; kernel_rfl) rfl rfl (fun c vals w hC hD => ?_)
      have h0 : vals 0 = .slice (some ⟨g10, 0, none⟩) 32 32 := hD 0 rfl
      have h1 : vals 1 = .slice (some ⟨g7, 0, none⟩) 32 32 := hD 1 rfl
      clear hD
      refine makes2 (x := .tmp 22) (X := Value.slice (some ⟨g10, 0, none⟩) 32 32) (y := .tmp 23) (Y := Value.slice (some ⟨g7, 0, none⟩) 32 32) ((by kernel_rfl : _ = vals 0).trans h0) ((by kernel_rfl : _ = vals 1).trans h1) (fun ρ rc rf q22 q23 => ?_)
      clear h0 h1
      refine makes_call (heq _ (.slice (some ⟨g10, 0, none⟩) 32 32) (.slice (some ⟨g7, 0, none⟩) 32 32) ((hM.adds hC).whole (ob := some g10) (.head _) hTl (by decide)) ((hM.adds hC).whole (ob := some g7) (.tail _ (.head _)) ht (by decide))) ?_ (by rintro e w' ⟨rfl, hb⟩; exact ⟨_, rfl, hb, rfl⟩)
      go_simp
    · refine showA_op 3 (by intro _ _ _; kernel_rfl) rfl rfl (fun c vals w hC hD => ?_)
      have h2 : vals 2 = .bool q := hD 2 rfl
      clear hD
      refine makes1 (x := .tmp 24) (X := Value.bool q) ((by kernel_rfl : _ = vals 2).trans h2) (fun ρ rc rf q24 => ?_)
      clear h2
      exact makes_move (.inr rfl) q24 ⟨Adds.refl _, rfl⟩
    · refine showA_op 4 (by intro _ _ _; kernel_rfl) rfl rfl (fun c vals w hC hD => ?_)
      clear hD
      refine makes0 (fun ρ rc rf => ?_)
      exact makes_move (.inr rfl) (rc _) ⟨Adds.refl _, rfl⟩
    intro vals w' hC hΦ hne
    have h3 : vals 3 = .bool q := hΦ 3 (by decide)
    have h4 : vals 4 = (Value.int IntKind.i64 0) := hΦ 4 (by decide)
    clear hΦ hne
    simp only [List.getD_eq_getElem?_getD, List.getElem?_cons_zero, List.getElem?_cons_succ, Option.getD_some, List.drop_succ_cons, List.drop_zero]
    simp only [h3, h4]
    clear h3 h4
    try simp only [tuple_undef]
    replace hM := hM.adds hC
    go_wp2_with fail
    refine bodyPost_ret (results_tmp2 rfl _ _ _) rfl ?_
    exact ⟨by simp, hM.done⟩
  · go_wp2_with (first
      | ((with_reducible refine gL_box (dst := some 7) hM ?_); refine ⟨_, tag.map B8, 32, rfl, rfl, (ht.map _), ?_⟩; intro g7 _ hM2; clear hM; have hM := hM2; clear hM2)
      | (go_at_call 57; (with_reducible refine (hsg _ hM.done).mono ?_); rintro _ _ ⟨rfl, B1⟩; replace hM := hM.adds B1; clear B1)
      | ((first | ((with_reducible refine gL_alloc (dst := some 10) hM ?_); refine ⟨_, _, (zr_of rfl), ?_⟩) | ((with_reducible refine gL_box (dst := some 10) hM ?_); refine ⟨_, _, _, rfl, rfl, (by first | assumption | exact Len.map (by assumption) _ | rfl | exact Len.map (by rfl) _ | exact Len.of (by simp; done)), ?_⟩)); intro g10 _ hM2; clear hM; have hM := hM2; clear hM2)
      | ((with_reducible refine gL_store hM ?_); refine ⟨_, _, _, rfl, rfl, hM.stores_all (.here _ _ _) (ag_of rfl) (hTl.map _) (by rfl) B8_one, ?_⟩; intro _ hM2; clear hM; have hM := hM2; clear hM2))
    refine bodyPost_ret (results_tmp2 rfl _ _ _) rfl ?_
    exact ⟨rfl, hM.done⟩
end Go.Proofs.Ytejmbkljnhnklaa
