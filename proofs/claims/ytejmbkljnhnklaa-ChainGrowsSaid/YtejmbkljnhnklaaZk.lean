/-
  A drawn region's operations: an element's address in a slice, whatever its size; parts of rows.
  The walk of ChainChecks.
  The walk of the reference's Same.
  The walk of law 16's logged.
  The chain's plain laws: of what like registers and like quotes tell.
  The walk of the reference's rows.
  The walk of the reference's Clash.
-/
import Derived.Test.YtejmbkljnhnklaaPi
import Derived.Test.YtejmbkljnhnklaaPh
namespace Go.PK
open Go.RowKit
section
variable {P : Program} {o : Oper} {w : World} {R : Value → World → Prop} {ρ : Operand → Value}
theorem run_indexAt {t e size bytes b off n cap j : Nat} (hu : P.underlying t = some (.slice e)) (hel : El P e size bytes) (hj : j < n) :
    (Instr.indexAt t (.slice (some ⟨b, off, none⟩) n cap) (.int .i64 (j : Int))).run P w = .ok (.pointer (some ⟨b, off + j * size, none⟩)) w := by
  obtain ⟨z, hinfo, -, -⟩ := hel
  obtain ⟨i, hi, -, hsize, -⟩ := info_parts hinfo
  simp [Instr.indexAt, run_underlying hu, sizeOf, typeInfo, hi, hsize, Addr.add, asIntOf]
  rw [if_pos (by omega)]
  by_cases h0 : j * size = 0
  · rw [if_pos h0, h0]
    rfl
  · rw [if_neg h0]
theorem makes_index {t e size bytes b off n cap j : Nat} {x y : Operand} (hu : P.underlying t = some (.slice e)) (hel : El P e size bytes) (hj : j < n) (ho : o.op = .indexAddr t x y) (hx : ρ x = .slice (some ⟨b, off, none⟩) n cap) (hy : ρ y = .int .i64 (j : Int))
    (hR : R (.pointer (some ⟨b, off + j * size, none⟩)) w) : Makes P ρ o w R := by
  refine makes_value ?_ hR
  unfold execOp
  simp only [ho, hx, hy, Sem.run_bind, Sem.run_pure, Result.andThen_ok, run_indexAt hu hel hj]
end
end Go.PK
namespace Go.Proofs.Ytejmbkljnhnklaa
open Go.RowKit Go.PK
abbrev rAsked : Rd (List UInt8 × List UInt8 × List Ev × List UInt8) := rPair (rSlice rByte) (rPair (rSlice rByte) (rPair (rSlice rEv) (rArr 32)))
theorem ev_later {w : World} {ao : Option Addr} {l : List Ev} (h : Elems rEv w ao l) {k : Nat} (hk : k < l.length) :
    ∃ b off e, ao = some ⟨b, off, none⟩ ∧ l[k]? = some e ∧ Len e.1 32 ∧ ∀ w', Adds w w' → Loads Try.prog w' 64 ⟨b, off + k * 33, none⟩ (.agg (evC e).toArray) := by
  obtain ⟨b, off, e, h1, h2, h3, -⟩ := ev_at h hk
  refine ⟨b, off, e, h1, h2, h3, fun w' ha => ?_⟩
  obtain ⟨b', off', e', g1, g2, -, g4⟩ := ev_at (h.adds ha) hk
  rw [h1] at g1
  rw [h2] at g2
  cases g1
  cases g2
  exact g4
end Go.Proofs.Ytejmbkljnhnklaa
namespace Go.Proofs.Ytejmbkljnhnklaa
open Go.RowKit Go.PK
theorem ev_parts {w : World} {ao : Option Addr} {l : List Ev} (h : Elems rEv w ao l) {k : Nat} (hk : k < l.length) :
    ∃ b off e, ao = some ⟨b, off, none⟩ ∧ l[k]? = some e ∧ Len e.1 32 ∧ ∀ w', Adds w w' → Loads Try.prog w' 24 ⟨b, off + k * 33, none⟩ (.agg (e.1.map B8).toArray) ∧ Loads Try.prog w' 62 ⟨b, off + k * 33 + 32, none⟩ (.int .i64 e.2) := by
  obtain ⟨b, off, g1, g2, cells, g3, g4⟩ := h k _ (List.getElem?_eq_getElem hk)
  obtain ⟨rfl, hl⟩ := ev_K g3
  refine ⟨b, off, _, g1, List.getElem?_eq_getElem hk, hl, fun w' ha => ⟨loads_agg (n := 32) (ag_of rfl) (hl.map _) fun j v hv => ?_, loads_cell ?_ (on_of rfl)⟩⟩
  · have hj : j < 32 := by
      have := (List.getElem?_eq_some_iff.1 hv).1
      rwa [(hl.map B8).eq] at this
    rw [Addr.add_lit, Nat.add_assoc, cell_below ha (by exact g2)]
    refine (g4 j (by show j < 33; omega)).trans ?_
    rw [evC, List.getElem?_append_left (by rw [(hl.map B8).eq]; exact hj), hv]
  · rw [Nat.add_assoc, cell_below ha (by exact g2)]
    refine (g4 32 (by decide)).trans ?_
    rw [evC, List.getElem?_append_right (by rw [(hl.map B8).eq]; exact Nat.le_refl _), (hl.map B8).eq]
    rfl
set_option maxRecDepth 100000 in
set_option maxHeartbeats 4000000 in
theorem ref16_Same (w0 : World) (ao : Option Addr) (cap : Nat) (l : List Ev) (hE : Elems rEv w0 ao l) (hlen : l.length ≤ 140737488355000) (ap : Option Addr) (cap2 : Nat) (l2 : List Ev) (hE2 : Elems rEv w0 ap l2) (z : Bool) (hz : (l == l2) = z) :
    Calls Try.prog 39 #[.slice ao l.length cap, .slice ap l2.length cap2] w0 fun x w' => x = .returned (.bool z) ∧ Below w0.heap.size w0 w' := by
  have hat : ∀ w, Adds w0 w → ∀ k, k < l.length → _ := fun w hw k hk => ev_at (hE.adds hw) (k := k) hk
  have hat2 : ∀ w, Adds w0 w → ∀ k, k < l2.length → _ := fun w hw k hk => ev_at (hE2.adds hw) (k := k) hk
  have hM := Mem.start w0
  by_cases hne : l.length = l2.length
  · have hp := fun k hk => ev_parts hE (k := k) hk
    have hp2 := fun k hk => ev_parts hE2 (k := k) hk
    obtain ⟨n, hn⟩ : ∃ n, n = l.length := ⟨_, rfl⟩
    rw [← hne, ← hn] at hp2
    rw [← hn] at hp
    have HZ : (∀ k : Nat, k < n → l[k]? = l2[k]?) → z = true := fun h => by
      rw [← hz, beq_iff_eq]
      refine List.ext_getElem? fun k => ?_
      by_cases hk : k < n
      · exact h k hk
      · rw [List.getElem?_eq_none (by omega), List.getElem?_eq_none (by omega)]
    have HN : ∀ k : Nat, l[k]? ≠ l2[k]? → z = false := fun k h => by
      rw [← hz]
      cases hb : l == l2 with
      | false => rfl
      | true => exact absurd (by rw [eq_of_beq hb]) h
    rw [← hne, ← hn]
    clear hz hat hat2 hE hE2
    rw [← hn] at hlen
    clear hne hn
    go_enter Try.func39, Try.ntmps39
    go_wp2_with fail
    go_loopw [5] (fun i wr => ∃ (j : Nat), j ≤ n ∧ (∀ k : Nat, k < j → l[k]? = l2[k]?) ∧ i = .int .i64 j ∧ Mem [] w0 wr []) (fun i _ => n - (intOf i).toNat)
    case atStart => exact ⟨0, by omega, (fun k hk => by omega), rfl, hM⟩
    case round =>
      clear hM
      obtain ⟨j, hj, hyes, rfl, hM⟩ := hrel
      by_cases hlt : j < n
      · have hti : (j : Int) < (n : Int) := by omega
        obtain ⟨b1, o1, e, rfl, hje, hel, hld⟩ := hp j hlt
        obtain ⟨b2, o2, f, rfl, hjf, hfl, hlf⟩ := hp2 j hlt
        have heq := hash_eq e.1 f.1 hel hfl
        cases hbd : (e.1 == f.1)
        · rw [hbd] at heq
          clear hp hp2
          go_wp2_with fail
          try simp only [Act.put, List.setIfInBounds_toArray, List.set_cons_succ, List.set_cons_zero]
          refine wp_region_tail 24 (by decide) (fun c vals => ⟨#[(Value.slice (some ⟨b1, o1, none⟩) n cap : Value), (Value.slice (some ⟨b2, o2, none⟩) n cap2 : Value), c 2, c 3, c 4, (Value.int .i64 ((j : Nat) : Int) : Value), c 6, c 7, c 8, c 9, c 10, c 11, c 12, c 13, c 14, c 15, c 16, vals 0, vals 1, vals 2, vals 3, vals 4, vals 5, vals 6, vals 7, vals 8, vals 9, vals 10, vals 11, vals 12, vals 13, vals 14, vals 15, vals 16, vals 17, vals 18, vals 19, vals 20, vals 21, vals 22, vals 23], []⟩) (fun t => [undef, undef, _, _, _, undef, _, _, _, _, _, _, _, _, _, _, _, undef, undef, undef, undef, undef, undef, undef, undef, undef, undef, undef, undef, undef, undef, undef, undef, undef, undef, undef, undef, undef, undef, undef, undef].getD t undef) (fun i => [_, _, _, _, _, _, _, _, _, _, _, _, _, _, _, _, _, _, _, _, _, _, _, _].getD i undef) (by kernel_rfl)
            [[], [], [0, 1], [0, 1, 2], [0, 1, 2, 3], [], [], [5, 6], [5, 6, 7], [5, 6, 7, 8], [0, 1, 2, 3, 4, 5, 6, 7, 8, 9], [0, 1, 2, 3, 4, 5, 6, 7, 8, 9, 10], [0, 1, 2, 3, 4, 5, 6, 7, 8, 9, 10, 11], [0, 1, 2, 3, 4, 5, 6, 7, 8, 9, 10, 11], [0, 1, 2, 3, 4, 5, 6, 7, 8, 9, 10, 11, 12, 13], [0, 1, 2, 3, 4, 5, 6, 7, 8, 9, 10, 11, 12, 13, 14], [0, 1, 2, 3, 4, 5, 6, 7, 8, 9, 10, 11, 12, 13, 14, 15], [0, 1, 2, 3, 4, 5, 6, 7, 8, 9, 10, 11], [0, 1, 2, 3, 4, 5, 6, 7, 8, 9, 10, 11], [0, 1, 2, 3, 4, 5, 6, 7, 8, 9, 10, 11, 17, 18], [0, 1, 2, 3, 4, 5, 6, 7, 8, 9, 10, 11, 17, 18, 19], [0, 1, 2, 3, 4, 5, 6, 7, 8, 9, 10, 11, 17, 18, 19, 20], [0, 1, 2, 3, 4, 5, 6, 7, 8, 9, 10, 11, 12, 13, 14, 15, 16, 17, 18, 19, 20, 21], [0, 1, 2, 3, 4, 5, 6, 7, 8, 9, 10, 11, 12, 13, 14, 15, 16, 17, 18, 19, 20, 21, 22]] (by kernel_rfl) (by kernel_rfl) (fun _ => True) trivial
            [fun x _ => x = (Value.slice (some ⟨b1, o1, none⟩) n cap : Value),
             fun x _ => x = (Value.int .i64 ((j : Nat) : Int) : Value),
             fun x _ => x = (Value.pointer (some ⟨b1, o1 + j * 33, none⟩) : Value),
             fun x _ => x = (Value.pointer (some ⟨b1, o1 + j * 33, none⟩) : Value),
             fun x _ => x = (Value.agg (e.1.map B8).toArray : Value),
             fun x _ => x = (Value.slice (some ⟨b2, o2, none⟩) n cap2 : Value),
             fun x _ => x = (Value.int .i64 ((j : Nat) : Int) : Value),
             fun x _ => x = (Value.pointer (some ⟨b2, o2 + j * 33, none⟩) : Value),
             fun x _ => x = (Value.pointer (some ⟨b2, o2 + j * 33, none⟩) : Value),
             fun x _ => x = (Value.agg (f.1.map B8).toArray : Value),
             fun x _ => x = (Value.bool true : Value),
             fun x _ => x = (Value.bool true : Value),
             fun x _ => x = (undef : Value),
             fun x _ => x = (undef : Value),
             fun x _ => x = (undef : Value),
             fun x _ => x = (undef : Value),
             fun x _ => x = (undef : Value),
             fun x _ => x = (undef : Value),
             fun x _ => x = (undef : Value),
             fun x _ => x = (undef : Value),
             fun x _ => x = (undef : Value),
             fun x _ => x = (undef : Value),
             fun x _ => x = (undef : Value),
             fun x _ => x = ((Value.bool true) : Value)]
            ⟨fun _ _ _ h _ => h, fun _ _ _ h _ => h, fun _ _ _ h _ => h, fun _ _ _ h _ => h, fun _ _ _ h _ => h, fun _ _ _ h _ => h, fun _ _ _ h _ => h, fun _ _ _ h _ => h, fun _ _ _ h _ => h, fun _ _ _ h _ => h, fun _ _ _ h _ => h, fun _ _ _ h _ => h, fun _ _ _ h _ => h, fun _ _ _ h _ => h, fun _ _ _ h _ => h, fun _ _ _ h _ => h, fun _ _ _ h _ => h, fun _ _ _ h _ => h, fun _ _ _ h _ => h, fun _ _ _ h _ => h, fun _ _ _ h _ => h, fun _ _ _ h _ => h, fun _ _ _ h _ => h, fun _ _ _ h _ => h, trivial⟩ []
            ⟨?_, ?_, ?_, ?_, ?_, ?_, ?_, ?_, ?_, ?_, ?_, ?_, ?_, ?_, ?_, ?_, ?_, ?_, ?_, ?_, ?_, ?_, ?_, ?_, trivial⟩ ?_
          · refine showA_op 0 (by intro _ _ _; kernel_rfl) rfl rfl (fun c vals w hC hD => ?_)
            clear hD
            refine makes1 (x := .tmp 0) (X := Value.slice (some ⟨b1, o1, none⟩) n cap) (by kernel_rfl : _ = (Value.slice (some ⟨b1, o1, none⟩) n cap : Value)) (fun ρ rc rf q0 => ?_)
            exact makes_move (.inl rfl) q0 ⟨Adds.refl _, rfl⟩
          · refine showA_op 1 (by intro _ _ _; kernel_rfl) rfl rfl (fun c vals w hC hD => ?_)
            clear hD
            refine makes1 (x := .tmp 5) (X := Value.int .i64 ((j : Nat) : Int)) (by kernel_rfl : _ = (Value.int .i64 ((j : Nat) : Int) : Value)) (fun ρ rc rf q5 => ?_)
            exact makes_move (.inl rfl) q5 ⟨Adds.refl _, rfl⟩
          · refine showA_op 2 (by intro _ _ _; kernel_rfl) rfl rfl (fun c vals w hC hD => ?_)
            have h0 : vals 0 = .slice (some ⟨b1, o1, none⟩) n cap := hD 0 rfl
            have h1 : vals 1 = .int .i64 ((j : Nat) : Int) := hD 1 rfl
            clear hD
            refine makes2 (x := .tmp 17) (X := Value.slice (some ⟨b1, o1, none⟩) n cap) (y := .tmp 18) (Y := Value.int .i64 ((j : Nat) : Int)) ((by kernel_rfl : _ = vals 0).trans h0) ((by kernel_rfl : _ = vals 1).trans h1) (fun ρ rc rf q17 q18 => ?_)
            clear h0 h1
            exact makes_index (us_of rfl) (el_of rfl) hlt rfl q17 q18 ⟨Adds.refl _, rfl⟩
          · refine showA_op 3 (by intro _ _ _; kernel_rfl) rfl rfl (fun c vals w hC hD => ?_)
            have h2 : vals 2 = .pointer (some ⟨b1, o1 + j * 33, none⟩) := hD 2 rfl
            clear hD
            refine makes1 (x := .tmp 19) (X := Value.pointer (some ⟨b1, o1 + j * 33, none⟩)) ((by kernel_rfl : _ = vals 2).trans h2) (fun ρ rc rf q19 => ?_)
            clear h2
            refine makes_value (v := Value.pointer (some ⟨b1, o1 + j * 33, none⟩)) ?_ ⟨Adds.refl _, rfl⟩
            go_simp
            all_goals first | done | rfl | (rw [if_pos (by omega)]; refine congrArg (fun x => Result.ok (Next.value (Value.pointer (some ⟨_, x, none⟩))) _) ?_; omega) | (rw [wrapP_i64]; omega) | go_num | (simp; done) | (simp; omega) | (congr 1; first | rfl | (rw [wrapP_i64]; omega) | (congr 1; first | rfl | (simp; done) | (simp; omega) | (congr 2; omega) | go_num))
          · refine showA_op 4 (by intro _ _ _; kernel_rfl) rfl rfl (fun c vals w hC hD => ?_)
            have h3 : vals 3 = .pointer (some ⟨b1, o1 + j * 33, none⟩) := hD 3 rfl
            clear hD
            refine makes1 (x := .tmp 20) (X := Value.pointer (some ⟨b1, o1 + j * 33, none⟩)) ((by kernel_rfl : _ = vals 3).trans h3) (fun ρ rc rf q20 => ?_)
            clear h3
            exact makes_load ((hld _ (hM.adds hC).done).1) rfl q20 ⟨Adds.refl _, rfl⟩
          · refine showA_op 5 (by intro _ _ _; kernel_rfl) rfl rfl (fun c vals w hC hD => ?_)
            clear hD
            refine makes1 (x := .tmp 1) (X := Value.slice (some ⟨b2, o2, none⟩) n cap2) (by kernel_rfl : _ = (Value.slice (some ⟨b2, o2, none⟩) n cap2 : Value)) (fun ρ rc rf q1 => ?_)
            exact makes_move (.inl rfl) q1 ⟨Adds.refl _, rfl⟩
          · refine showA_op 6 (by intro _ _ _; kernel_rfl) rfl rfl (fun c vals w hC hD => ?_)
            clear hD
            refine makes1 (x := .tmp 5) (X := Value.int .i64 ((j : Nat) : Int)) (by kernel_rfl : _ = (Value.int .i64 ((j : Nat) : Int) : Value)) (fun ρ rc rf q5 => ?_)
            exact makes_move (.inl rfl) q5 ⟨Adds.refl _, rfl⟩
          · refine showA_op 7 (by intro _ _ _; kernel_rfl) rfl rfl (fun c vals w hC hD => ?_)
            have h5 : vals 5 = .slice (some ⟨b2, o2, none⟩) n cap2 := hD 5 rfl
            have h6 : vals 6 = .int .i64 ((j : Nat) : Int) := hD 6 rfl
            clear hD
            refine makes2 (x := .tmp 22) (X := Value.slice (some ⟨b2, o2, none⟩) n cap2) (y := .tmp 23) (Y := Value.int .i64 ((j : Nat) : Int)) ((by kernel_rfl : _ = vals 5).trans h5) ((by kernel_rfl : _ = vals 6).trans h6) (fun ρ rc rf q22 q23 => ?_)
            clear h5 h6
            exact makes_index (us_of rfl) (el_of rfl) hlt rfl q22 q23 ⟨Adds.refl _, rfl⟩
          · refine showA_op 8 (by intro _ _ _; kernel_rfl) rfl rfl (fun c vals w hC hD => ?_)
            have h7 : vals 7 = .pointer (some ⟨b2, o2 + j * 33, none⟩) := hD 7 rfl
            clear hD
            refine makes1 (x := .tmp 24) (X := Value.pointer (some ⟨b2, o2 + j * 33, none⟩)) ((by kernel_rfl : _ = vals 7).trans h7) (fun ρ rc rf q24 => ?_)
            clear h7
            refine makes_value (v := Value.pointer (some ⟨b2, o2 + j * 33, none⟩)) ?_ ⟨Adds.refl _, rfl⟩
            go_simp
            all_goals first | done | rfl | (rw [if_pos (by omega)]; refine congrArg (fun x => Result.ok (Next.value (Value.pointer (some ⟨_, x, none⟩))) _) ?_; omega) | (rw [wrapP_i64]; omega) | go_num | (simp; done) | (simp; omega) | (congr 1; first | rfl | (rw [wrapP_i64]; omega) | (congr 1; first | rfl | (simp; done) | (simp; omega) | (congr 2; omega) | go_num))
          · refine showA_op 9 (by intro _ _ _; kernel_rfl) rfl rfl (fun c vals w hC hD => ?_)
            have h8 : vals 8 = .pointer (some ⟨b2, o2 + j * 33, none⟩) := hD 8 rfl
            clear hD
            refine makes1 (x := .tmp 25) (X := Value.pointer (some ⟨b2, o2 + j * 33, none⟩)) ((by kernel_rfl : _ = vals 8).trans h8) (fun ρ rc rf q25 => ?_)
            clear h8
            exact makes_load ((hlf _ (hM.adds hC).done).1) rfl q25 ⟨Adds.refl _, rfl⟩
          · refine showA_op 10 (by intro _ _ _; kernel_rfl) rfl rfl (fun c vals w hC hD => ?_)
            have h4 : vals 4 = .agg (e.1.map B8).toArray := hD 4 rfl
            have h9 : vals 9 = .agg (f.1.map B8).toArray := hD 9 rfl
            clear hD
            refine makes2 (x := .tmp 21) (X := Value.agg (e.1.map B8).toArray) (y := .tmp 26) (Y := Value.agg (f.1.map B8).toArray) ((by kernel_rfl : _ = vals 4).trans h4) ((by kernel_rfl : _ = vals 9).trans h9) (fun ρ rc rf q21 q26 => ?_)
            clear h4 h9
            exact makes_neq heq rfl q21 q26 ⟨Adds.refl _, rfl⟩
          · refine showA_op 11 (by intro _ _ _; kernel_rfl) rfl rfl (fun c vals w hC hD => ?_)
            have h10 : vals 10 = .bool true := hD 10 rfl
            clear hD
            refine makes1 (x := .tmp 27) (X := Value.bool true) ((by kernel_rfl : _ = vals 10).trans h10) (fun ρ rc rf q27 => ?_)
            clear h10
            exact makes_move (.inl rfl) q27 ⟨Adds.refl _, rfl⟩
          · refine showA_not 12 (by intro _ _ _; kernel_rfl) (j := 11) (want := false) rfl rfl rfl (by intro _ _; kernel_rfl) rfl (fun vals w hC hD => ⟨hD 11 rfl, rfl⟩)
          · refine showA_not 13 (by intro _ _ _; kernel_rfl) (j := 11) (want := false) rfl rfl rfl (by intro _ _; kernel_rfl) rfl (fun vals w hC hD => ⟨hD 11 rfl, rfl⟩)
          · refine showA_not 14 (by intro _ _ _; kernel_rfl) (j := 11) (want := false) rfl rfl rfl (by intro _ _; kernel_rfl) rfl (fun vals w hC hD => ⟨hD 11 rfl, rfl⟩)
          · refine showA_not 15 (by intro _ _ _; kernel_rfl) (j := 11) (want := false) rfl rfl rfl (by intro _ _; kernel_rfl) rfl (fun vals w hC hD => ⟨hD 11 rfl, rfl⟩)
          · refine showA_not 16 (by intro _ _ _; kernel_rfl) (j := 11) (want := false) rfl rfl rfl (by intro _ _; kernel_rfl) rfl (fun vals w hC hD => ⟨hD 11 rfl, rfl⟩)
          · refine showA_not 17 (by intro _ _ _; kernel_rfl) (j := 11) (want := false) rfl rfl rfl (by intro _ _; kernel_rfl) rfl (fun vals w hC hD => ⟨hD 11 rfl, rfl⟩)
          · refine showA_not 18 (by intro _ _ _; kernel_rfl) (j := 11) (want := false) rfl rfl rfl (by intro _ _; kernel_rfl) rfl (fun vals w hC hD => ⟨hD 11 rfl, rfl⟩)
          · refine showA_not 19 (by intro _ _ _; kernel_rfl) (j := 11) (want := false) rfl rfl rfl (by intro _ _; kernel_rfl) rfl (fun vals w hC hD => ⟨hD 11 rfl, rfl⟩)
          · refine showA_not 20 (by intro _ _ _; kernel_rfl) (j := 11) (want := false) rfl rfl rfl (by intro _ _; kernel_rfl) rfl (fun vals w hC hD => ⟨hD 11 rfl, rfl⟩)
          · refine showA_not 21 (by intro _ _ _; kernel_rfl) (j := 11) (want := false) rfl rfl rfl (by intro _ _; kernel_rfl) rfl (fun vals w hC hD => ⟨hD 11 rfl, rfl⟩)
          · refine showA_not 22 (by intro _ _ _; kernel_rfl) (j := 11) (want := false) rfl rfl rfl (by intro _ _; kernel_rfl) rfl (fun vals w hC hD => ⟨hD 11 rfl, rfl⟩)
          · refine showA_op 23 (by intro _ _ _; kernel_rfl) rfl rfl (fun c vals w hC hD => ?_)
            have h11 : vals 11 = .bool true := hD 11 rfl
            have h22 : vals 22 = undef := hD 22 rfl
            clear hD
            refine makes2 (x := .tmp 28) (X := Value.bool true) (y := .tmp 39) (Y := undef) ((by kernel_rfl : _ = vals 11).trans h11) ((by kernel_rfl : _ = vals 22).trans h22) (fun ρ rc rf q28 q39 => ?_)
            clear h11 h22
            refine makes_value (v := (Value.bool true)) ?_ ⟨Adds.refl _, rfl⟩
            go_simp
            all_goals first | done | rfl | (rw [if_pos (by omega)]; refine congrArg (fun x => Result.ok (Next.value (Value.pointer (some ⟨_, x, none⟩))) _) ?_; omega) | (rw [wrapP_i64]; omega) | go_num | (simp; done) | (simp; omega) | (congr 1; first | rfl | (rw [wrapP_i64]; omega) | (congr 1; first | rfl | (simp; done) | (simp; omega) | (congr 2; omega) | go_num))
          intro vals w' hC hΦ hne
          have h23 : vals 23 = (Value.bool true) := hΦ 23 (by decide)
          clear hΦ hne
          simp only [List.getD_eq_getElem?_getD, List.getElem?_cons_zero, List.getElem?_cons_succ, Option.getD_some, List.drop_succ_cons, List.drop_zero]
          simp only [h23]
          clear h23
          try simp only [tuple_undef]
          replace hM := hM.adds hC
          clear hC
          have hzf := HN j (by rw [hje, hjf]; intro h; cases h; simp at hbd)
          subst hzf
          go_wp2_with fail
          go_ret
          exact ⟨rfl, hM.done⟩
        · rw [hbd] at heq
          clear hp hp2
          obtain ⟨ed, en⟩ := e
          obtain ⟨fd, fn⟩ := f
          simp only at hbd heq hld hlf
          by_cases hen : en = fn
          · subst hen
            go_wp2_with fail
            try simp only [Act.put, List.setIfInBounds_toArray, List.set_cons_succ, List.set_cons_zero]
            refine wp_region_tail 24 (by decide) (fun c vals => ⟨#[(Value.slice (some ⟨b1, o1, none⟩) n cap : Value), (Value.slice (some ⟨b2, o2, none⟩) n cap2 : Value), c 2, c 3, c 4, (Value.int .i64 ((j : Nat) : Int) : Value), c 6, c 7, c 8, c 9, c 10, c 11, c 12, c 13, c 14, c 15, c 16, vals 0, vals 1, vals 2, vals 3, vals 4, vals 5, vals 6, vals 7, vals 8, vals 9, vals 10, vals 11, vals 12, vals 13, vals 14, vals 15, vals 16, vals 17, vals 18, vals 19, vals 20, vals 21, vals 22, vals 23], []⟩) (fun t => [undef, undef, _, _, _, undef, _, _, _, _, _, _, _, _, _, _, _, undef, undef, undef, undef, undef, undef, undef, undef, undef, undef, undef, undef, undef, undef, undef, undef, undef, undef, undef, undef, undef, undef, undef, undef].getD t undef) (fun i => [_, _, _, _, _, _, _, _, _, _, _, _, _, _, _, _, _, _, _, _, _, _, _, _].getD i undef) (by kernel_rfl)
              [[], [], [0, 1], [0, 1, 2], [0, 1, 2, 3], [], [], [5, 6], [5, 6, 7], [5, 6, 7, 8], [0, 1, 2, 3, 4, 5, 6, 7, 8, 9], [0, 1, 2, 3, 4, 5, 6, 7, 8, 9, 10], [0, 1, 2, 3, 4, 5, 6, 7, 8, 9, 10, 11], [0, 1, 2, 3, 4, 5, 6, 7, 8, 9, 10, 11], [0, 1, 2, 3, 4, 5, 6, 7, 8, 9, 10, 11, 12, 13], [0, 1, 2, 3, 4, 5, 6, 7, 8, 9, 10, 11, 12, 13, 14], [0, 1, 2, 3, 4, 5, 6, 7, 8, 9, 10, 11, 12, 13, 14, 15], [0, 1, 2, 3, 4, 5, 6, 7, 8, 9, 10, 11], [0, 1, 2, 3, 4, 5, 6, 7, 8, 9, 10, 11], [0, 1, 2, 3, 4, 5, 6, 7, 8, 9, 10, 11, 17, 18], [0, 1, 2, 3, 4, 5, 6, 7, 8, 9, 10, 11, 17, 18, 19], [0, 1, 2, 3, 4, 5, 6, 7, 8, 9, 10, 11, 17, 18, 19, 20], [0, 1, 2, 3, 4, 5, 6, 7, 8, 9, 10, 11, 12, 13, 14, 15, 16, 17, 18, 19, 20, 21], [0, 1, 2, 3, 4, 5, 6, 7, 8, 9, 10, 11, 12, 13, 14, 15, 16, 17, 18, 19, 20, 21, 22]] (by kernel_rfl) (by kernel_rfl) (fun _ => True) trivial
              [fun x _ => x = (Value.slice (some ⟨b1, o1, none⟩) n cap : Value),
               fun x _ => x = (Value.int .i64 ((j : Nat) : Int) : Value),
               fun x _ => x = (Value.pointer (some ⟨b1, o1 + j * 33, none⟩) : Value),
               fun x _ => x = (Value.pointer (some ⟨b1, o1 + j * 33, none⟩) : Value),
               fun x _ => x = (Value.agg (ed.map B8).toArray : Value),
               fun x _ => x = (Value.slice (some ⟨b2, o2, none⟩) n cap2 : Value),
               fun x _ => x = (Value.int .i64 ((j : Nat) : Int) : Value),
               fun x _ => x = (Value.pointer (some ⟨b2, o2 + j * 33, none⟩) : Value),
               fun x _ => x = (Value.pointer (some ⟨b2, o2 + j * 33, none⟩) : Value),
               fun x _ => x = (Value.agg (fd.map B8).toArray : Value),
               fun x _ => x = (Value.bool false : Value),
               fun x _ => x = (Value.bool false : Value),
               fun x _ => x = (Value.slice (some ⟨b1, o1, none⟩) n cap : Value),
               fun x _ => x = (Value.int .i64 ((j : Nat) : Int) : Value),
               fun x _ => x = (Value.pointer (some ⟨b1, o1 + j * 33, none⟩) : Value),
               fun x _ => x = (Value.pointer (some ⟨b1, o1 + j * 33 + 32, none⟩) : Value),
               fun x _ => x = (Value.int .i64 en : Value),
               fun x _ => x = (Value.slice (some ⟨b2, o2, none⟩) n cap2 : Value),
               fun x _ => x = (Value.int .i64 ((j : Nat) : Int) : Value),
               fun x _ => x = (Value.pointer (some ⟨b2, o2 + j * 33, none⟩) : Value),
               fun x _ => x = (Value.pointer (some ⟨b2, o2 + j * 33 + 32, none⟩) : Value),
               fun x _ => x = (Value.int .i64 en : Value),
               fun x _ => x = (Value.bool false : Value),
               fun x _ => x = (Value.bool false : Value)]
              ⟨fun _ _ _ h _ => h, fun _ _ _ h _ => h, fun _ _ _ h _ => h, fun _ _ _ h _ => h, fun _ _ _ h _ => h, fun _ _ _ h _ => h, fun _ _ _ h _ => h, fun _ _ _ h _ => h, fun _ _ _ h _ => h, fun _ _ _ h _ => h, fun _ _ _ h _ => h, fun _ _ _ h _ => h, fun _ _ _ h _ => h, fun _ _ _ h _ => h, fun _ _ _ h _ => h, fun _ _ _ h _ => h, fun _ _ _ h _ => h, fun _ _ _ h _ => h, fun _ _ _ h _ => h, fun _ _ _ h _ => h, fun _ _ _ h _ => h, fun _ _ _ h _ => h, fun _ _ _ h _ => h, fun _ _ _ h _ => h, trivial⟩ []
              ⟨?_, ?_, ?_, ?_, ?_, ?_, ?_, ?_, ?_, ?_, ?_, ?_, ?_, ?_, ?_, ?_, ?_, ?_, ?_, ?_, ?_, ?_, ?_, ?_, trivial⟩ ?_
            · refine showA_op 0 (by intro _ _ _; kernel_rfl) rfl rfl (fun c vals w hC hD => ?_)
              clear hD
              refine makes1 (x := .tmp 0) (X := Value.slice (some ⟨b1, o1, none⟩) n cap) (by kernel_rfl : _ = (Value.slice (some ⟨b1, o1, none⟩) n cap : Value)) (fun ρ rc rf q0 => ?_)
              exact makes_move (.inl rfl) q0 ⟨Adds.refl _, rfl⟩
            · refine showA_op 1 (by intro _ _ _; kernel_rfl) rfl rfl (fun c vals w hC hD => ?_)
              clear hD
              refine makes1 (x := .tmp 5) (X := Value.int .i64 ((j : Nat) : Int)) (by kernel_rfl : _ = (Value.int .i64 ((j : Nat) : Int) : Value)) (fun ρ rc rf q5 => ?_)
              exact makes_move (.inl rfl) q5 ⟨Adds.refl _, rfl⟩
            · refine showA_op 2 (by intro _ _ _; kernel_rfl) rfl rfl (fun c vals w hC hD => ?_)
              have h0 : vals 0 = .slice (some ⟨b1, o1, none⟩) n cap := hD 0 rfl
              have h1 : vals 1 = .int .i64 ((j : Nat) : Int) := hD 1 rfl
              clear hD
              refine makes2 (x := .tmp 17) (X := Value.slice (some ⟨b1, o1, none⟩) n cap) (y := .tmp 18) (Y := Value.int .i64 ((j : Nat) : Int)) ((by kernel_rfl : _ = vals 0).trans h0) ((by kernel_rfl : _ = vals 1).trans h1) (fun ρ rc rf q17 q18 => ?_)
              clear h0 h1
              exact makes_index (us_of rfl) (el_of rfl) hlt rfl q17 q18 ⟨Adds.refl _, rfl⟩
            · refine showA_op 3 (by intro _ _ _; kernel_rfl) rfl rfl (fun c vals w hC hD => ?_)
              have h2 : vals 2 = .pointer (some ⟨b1, o1 + j * 33, none⟩) := hD 2 rfl
              clear hD
              refine makes1 (x := .tmp 19) (X := Value.pointer (some ⟨b1, o1 + j * 33, none⟩)) ((by kernel_rfl : _ = vals 2).trans h2) (fun ρ rc rf q19 => ?_)
              clear h2
              refine makes_value (v := Value.pointer (some ⟨b1, o1 + j * 33, none⟩)) ?_ ⟨Adds.refl _, rfl⟩
              go_simp
              all_goals first | done | rfl | (rw [if_pos (by omega)]; refine congrArg (fun x => Result.ok (Next.value (Value.pointer (some ⟨_, x, none⟩))) _) ?_; omega) | (rw [wrapP_i64]; omega) | go_num | (simp; done) | (simp; omega) | (congr 1; first | rfl | (rw [wrapP_i64]; omega) | (congr 1; first | rfl | (simp; done) | (simp; omega) | (congr 2; omega) | go_num))
            · refine showA_op 4 (by intro _ _ _; kernel_rfl) rfl rfl (fun c vals w hC hD => ?_)
              have h3 : vals 3 = .pointer (some ⟨b1, o1 + j * 33, none⟩) := hD 3 rfl
              clear hD
              refine makes1 (x := .tmp 20) (X := Value.pointer (some ⟨b1, o1 + j * 33, none⟩)) ((by kernel_rfl : _ = vals 3).trans h3) (fun ρ rc rf q20 => ?_)
              clear h3
              exact makes_load ((hld _ (hM.adds hC).done).1) rfl q20 ⟨Adds.refl _, rfl⟩
            · refine showA_op 5 (by intro _ _ _; kernel_rfl) rfl rfl (fun c vals w hC hD => ?_)
              clear hD
              refine makes1 (x := .tmp 1) (X := Value.slice (some ⟨b2, o2, none⟩) n cap2) (by kernel_rfl : _ = (Value.slice (some ⟨b2, o2, none⟩) n cap2 : Value)) (fun ρ rc rf q1 => ?_)
              exact makes_move (.inl rfl) q1 ⟨Adds.refl _, rfl⟩
            · refine showA_op 6 (by intro _ _ _; kernel_rfl) rfl rfl (fun c vals w hC hD => ?_)
              clear hD
              refine makes1 (x := .tmp 5) (X := Value.int .i64 ((j : Nat) : Int)) (by kernel_rfl : _ = (Value.int .i64 ((j : Nat) : Int) : Value)) (fun ρ rc rf q5 => ?_)
              exact makes_move (.inl rfl) q5 ⟨Adds.refl _, rfl⟩
            · refine showA_op 7 (by intro _ _ _; kernel_rfl) rfl rfl (fun c vals w hC hD => ?_)
              have h5 : vals 5 = .slice (some ⟨b2, o2, none⟩) n cap2 := hD 5 rfl
              have h6 : vals 6 = .int .i64 ((j : Nat) : Int) := hD 6 rfl
              clear hD
              refine makes2 (x := .tmp 22) (X := Value.slice (some ⟨b2, o2, none⟩) n cap2) (y := .tmp 23) (Y := Value.int .i64 ((j : Nat) : Int)) ((by kernel_rfl : _ = vals 5).trans h5) ((by kernel_rfl : _ = vals 6).trans h6) (fun ρ rc rf q22 q23 => ?_)
              clear h5 h6
              exact makes_index (us_of rfl) (el_of rfl) hlt rfl q22 q23 ⟨Adds.refl _, rfl⟩
            · refine showA_op 8 (by intro _ _ _; kernel_rfl) rfl rfl (fun c vals w hC hD => ?_)
              have h7 : vals 7 = .pointer (some ⟨b2, o2 + j * 33, none⟩) := hD 7 rfl
              clear hD
              refine makes1 (x := .tmp 24) (X := Value.pointer (some ⟨b2, o2 + j * 33, none⟩)) ((by kernel_rfl : _ = vals 7).trans h7) (fun ρ rc rf q24 => ?_)
              clear h7
              refine makes_value (v := Value.pointer (some ⟨b2, o2 + j * 33, none⟩)) ?_ ⟨Adds.refl _, rfl⟩
              go_simp
              all_goals first | done | rfl | (rw [if_pos (by omega)]; refine congrArg (fun x => Result.ok (Next.value (Value.pointer (some ⟨_, x, none⟩))) _) ?_; omega) | (rw [wrapP_i64]; omega) | go_num | (simp; done) | (simp; omega) | (congr 1; first | rfl | (rw [wrapP_i64]; omega) | (congr 1; first | rfl | (simp; done) | (simp; omega) | (congr 2; omega) | go_num))
            · refine showA_op 9 (by intro _ _ _; kernel_rfl) rfl rfl (fun c vals w hC hD => ?_)
              have h8 : vals 8 = .pointer (some ⟨b2, o2 + j * 33, none⟩) := hD 8 rfl
              clear hD
              refine makes1 (x := .tmp 25) (X := Value.pointer (some ⟨b2, o2 + j * 33, none⟩)) ((by kernel_rfl : _ = vals 8).trans h8) (fun ρ rc rf q25 => ?_)
              clear h8
              exact makes_load ((hlf _ (hM.adds hC).done).1) rfl q25 ⟨Adds.refl _, rfl⟩
            · refine showA_op 10 (by intro _ _ _; kernel_rfl) rfl rfl (fun c vals w hC hD => ?_)
              have h4 : vals 4 = .agg (ed.map B8).toArray := hD 4 rfl
              have h9 : vals 9 = .agg (fd.map B8).toArray := hD 9 rfl
              clear hD
              refine makes2 (x := .tmp 21) (X := Value.agg (ed.map B8).toArray) (y := .tmp 26) (Y := Value.agg (fd.map B8).toArray) ((by kernel_rfl : _ = vals 4).trans h4) ((by kernel_rfl : _ = vals 9).trans h9) (fun ρ rc rf q21 q26 => ?_)
              clear h4 h9
              exact makes_neq heq rfl q21 q26 ⟨Adds.refl _, rfl⟩
            · refine showA_op 11 (by intro _ _ _; kernel_rfl) rfl rfl (fun c vals w hC hD => ?_)
              have h10 : vals 10 = .bool false := hD 10 rfl
              clear hD
              refine makes1 (x := .tmp 27) (X := Value.bool false) ((by kernel_rfl : _ = vals 10).trans h10) (fun ρ rc rf q27 => ?_)
              clear h10
              exact makes_move (.inl rfl) q27 ⟨Adds.refl _, rfl⟩
            · refine showA_run 12 (by intro _ _ _; kernel_rfl) (j := 11) (want := false) rfl rfl rfl (by intro _ _; kernel_rfl) rfl (fun c vals w hC hD => ⟨hD 11 rfl, ?_⟩)
              clear hD
              refine makes1 (x := .tmp 0) (X := Value.slice (some ⟨b1, o1, none⟩) n cap) (by kernel_rfl : _ = (Value.slice (some ⟨b1, o1, none⟩) n cap : Value)) (fun ρ rc rf q0 => ?_)
              exact makes_move (.inl rfl) q0 ⟨Adds.refl _, rfl⟩
            · refine showA_run 13 (by intro _ _ _; kernel_rfl) (j := 11) (want := false) rfl rfl rfl (by intro _ _; kernel_rfl) rfl (fun c vals w hC hD => ⟨hD 11 rfl, ?_⟩)
              clear hD
              refine makes1 (x := .tmp 5) (X := Value.int .i64 ((j : Nat) : Int)) (by kernel_rfl : _ = (Value.int .i64 ((j : Nat) : Int) : Value)) (fun ρ rc rf q5 => ?_)
              exact makes_move (.inl rfl) q5 ⟨Adds.refl _, rfl⟩
            · refine showA_run 14 (by intro _ _ _; kernel_rfl) (j := 11) (want := false) rfl rfl rfl (by intro _ _; kernel_rfl) rfl (fun c vals w hC hD => ⟨hD 11 rfl, ?_⟩)
              have h12 : vals 12 = .slice (some ⟨b1, o1, none⟩) n cap := hD 12 rfl
              have h13 : vals 13 = .int .i64 ((j : Nat) : Int) := hD 13 rfl
              clear hD
              refine makes2 (x := .tmp 29) (X := Value.slice (some ⟨b1, o1, none⟩) n cap) (y := .tmp 30) (Y := Value.int .i64 ((j : Nat) : Int)) ((by kernel_rfl : _ = vals 12).trans h12) ((by kernel_rfl : _ = vals 13).trans h13) (fun ρ rc rf q29 q30 => ?_)
              clear h12 h13
              exact makes_index (us_of rfl) (el_of rfl) hlt rfl q29 q30 ⟨Adds.refl _, rfl⟩
            · refine showA_run 15 (by intro _ _ _; kernel_rfl) (j := 11) (want := false) rfl rfl rfl (by intro _ _; kernel_rfl) rfl (fun c vals w hC hD => ⟨hD 11 rfl, ?_⟩)
              have h14 : vals 14 = .pointer (some ⟨b1, o1 + j * 33, none⟩) := hD 14 rfl
              clear hD
              refine makes1 (x := .tmp 31) (X := Value.pointer (some ⟨b1, o1 + j * 33, none⟩)) ((by kernel_rfl : _ = vals 14).trans h14) (fun ρ rc rf q31 => ?_)
              clear h14
              refine makes_value (v := Value.pointer (some ⟨b1, o1 + j * 33 + 32, none⟩)) ?_ ⟨Adds.refl _, rfl⟩
              go_simp
              all_goals first | done | rfl | (rw [if_pos (by omega)]; refine congrArg (fun x => Result.ok (Next.value (Value.pointer (some ⟨_, x, none⟩))) _) ?_; omega) | (rw [wrapP_i64]; omega) | go_num | (simp; done) | (simp; omega) | (congr 1; first | rfl | (rw [wrapP_i64]; omega) | (congr 1; first | rfl | (simp; done) | (simp; omega) | (congr 2; omega) | go_num))
            · refine showA_run 16 (by intro _ _ _; kernel_rfl) (j := 11) (want := false) rfl rfl rfl (by intro _ _; kernel_rfl) rfl (fun c vals w hC hD => ⟨hD 11 rfl, ?_⟩)
              have h15 : vals 15 = .pointer (some ⟨b1, o1 + j * 33 + 32, none⟩) := hD 15 rfl
              clear hD
              refine makes1 (x := .tmp 32) (X := Value.pointer (some ⟨b1, o1 + j * 33 + 32, none⟩)) ((by kernel_rfl : _ = vals 15).trans h15) (fun ρ rc rf q32 => ?_)
              clear h15
              exact makes_load ((hld _ (hM.adds hC).done).2) rfl q32 ⟨Adds.refl _, rfl⟩
            · refine showA_run 17 (by intro _ _ _; kernel_rfl) (j := 11) (want := false) rfl rfl rfl (by intro _ _; kernel_rfl) rfl (fun c vals w hC hD => ⟨hD 11 rfl, ?_⟩)
              clear hD
              refine makes1 (x := .tmp 1) (X := Value.slice (some ⟨b2, o2, none⟩) n cap2) (by kernel_rfl : _ = (Value.slice (some ⟨b2, o2, none⟩) n cap2 : Value)) (fun ρ rc rf q1 => ?_)
              exact makes_move (.inl rfl) q1 ⟨Adds.refl _, rfl⟩
            · refine showA_run 18 (by intro _ _ _; kernel_rfl) (j := 11) (want := false) rfl rfl rfl (by intro _ _; kernel_rfl) rfl (fun c vals w hC hD => ⟨hD 11 rfl, ?_⟩)
              clear hD
              refine makes1 (x := .tmp 5) (X := Value.int .i64 ((j : Nat) : Int)) (by kernel_rfl : _ = (Value.int .i64 ((j : Nat) : Int) : Value)) (fun ρ rc rf q5 => ?_)
              exact makes_move (.inl rfl) q5 ⟨Adds.refl _, rfl⟩
            · refine showA_run 19 (by intro _ _ _; kernel_rfl) (j := 11) (want := false) rfl rfl rfl (by intro _ _; kernel_rfl) rfl (fun c vals w hC hD => ⟨hD 11 rfl, ?_⟩)
              have h17 : vals 17 = .slice (some ⟨b2, o2, none⟩) n cap2 := hD 17 rfl
              have h18 : vals 18 = .int .i64 ((j : Nat) : Int) := hD 18 rfl
              clear hD
              refine makes2 (x := .tmp 34) (X := Value.slice (some ⟨b2, o2, none⟩) n cap2) (y := .tmp 35) (Y := Value.int .i64 ((j : Nat) : Int)) ((by kernel_rfl : _ = vals 17).trans h17) ((by kernel_rfl : _ = vals 18).trans h18) (fun ρ rc rf q34 q35 => ?_)
              clear h17 h18
              exact makes_index (us_of rfl) (el_of rfl) hlt rfl q34 q35 ⟨Adds.refl _, rfl⟩
            · refine showA_run 20 (by intro _ _ _; kernel_rfl) (j := 11) (want := false) rfl rfl rfl (by intro _ _; kernel_rfl) rfl (fun c vals w hC hD => ⟨hD 11 rfl, ?_⟩)
              have h19 : vals 19 = .pointer (some ⟨b2, o2 + j * 33, none⟩) := hD 19 rfl
              clear hD
              refine makes1 (x := .tmp 36) (X := Value.pointer (some ⟨b2, o2 + j * 33, none⟩)) ((by kernel_rfl : _ = vals 19).trans h19) (fun ρ rc rf q36 => ?_)
              clear h19
              refine makes_value (v := Value.pointer (some ⟨b2, o2 + j * 33 + 32, none⟩)) ?_ ⟨Adds.refl _, rfl⟩
              go_simp
              all_goals first | done | rfl | (rw [if_pos (by omega)]; refine congrArg (fun x => Result.ok (Next.value (Value.pointer (some ⟨_, x, none⟩))) _) ?_; omega) | (rw [wrapP_i64]; omega) | go_num | (simp; done) | (simp; omega) | (congr 1; first | rfl | (rw [wrapP_i64]; omega) | (congr 1; first | rfl | (simp; done) | (simp; omega) | (congr 2; omega) | go_num))
            · refine showA_run 21 (by intro _ _ _; kernel_rfl) (j := 11) (want := false) rfl rfl rfl (by intro _ _; kernel_rfl) rfl (fun c vals w hC hD => ⟨hD 11 rfl, ?_⟩)
              have h20 : vals 20 = .pointer (some ⟨b2, o2 + j * 33 + 32, none⟩) := hD 20 rfl
              clear hD
              refine makes1 (x := .tmp 37) (X := Value.pointer (some ⟨b2, o2 + j * 33 + 32, none⟩)) ((by kernel_rfl : _ = vals 20).trans h20) (fun ρ rc rf q37 => ?_)
              clear h20
              exact makes_load ((hlf _ (hM.adds hC).done).2) rfl q37 ⟨Adds.refl _, rfl⟩
            · refine showA_run 22 (by intro _ _ _; kernel_rfl) (j := 11) (want := false) rfl rfl rfl (by intro _ _; kernel_rfl) rfl (fun c vals w hC hD => ⟨hD 11 rfl, ?_⟩)
              have h16 : vals 16 = .int .i64 en := hD 16 rfl
              have h21 : vals 21 = .int .i64 en := hD 21 rfl
              clear hD
              refine makes2 (x := .tmp 33) (X := Value.int .i64 en) (y := .tmp 38) (Y := Value.int .i64 en) ((by kernel_rfl : _ = vals 16).trans h16) ((by kernel_rfl : _ = vals 21).trans h21) (fun ρ rc rf q33 q38 => ?_)
              clear h16 h21
              refine makes_value (v := Value.bool false) ?_ ⟨Adds.refl _, rfl⟩
              go_simp
              all_goals first | done | rfl | (rw [if_pos (by omega)]; refine congrArg (fun x => Result.ok (Next.value (Value.pointer (some ⟨_, x, none⟩))) _) ?_; omega) | (rw [wrapP_i64]; omega) | go_num | (simp; done) | (simp; omega) | (congr 1; first | rfl | (rw [wrapP_i64]; omega) | (congr 1; first | rfl | (simp; done) | (simp; omega) | (congr 2; omega) | go_num))
            · refine showA_op 23 (by intro _ _ _; kernel_rfl) rfl rfl (fun c vals w hC hD => ?_)
              have h11 : vals 11 = .bool false := hD 11 rfl
              have h22 : vals 22 = .bool false := hD 22 rfl
              clear hD
              refine makes2 (x := .tmp 28) (X := Value.bool false) (y := .tmp 39) (Y := Value.bool false) ((by kernel_rfl : _ = vals 11).trans h11) ((by kernel_rfl : _ = vals 22).trans h22) (fun ρ rc rf q28 q39 => ?_)
              clear h11 h22
              refine makes_value (v := Value.bool false) ?_ ⟨Adds.refl _, rfl⟩
              go_simp
              all_goals first | done | rfl | (rw [if_pos (by omega)]; refine congrArg (fun x => Result.ok (Next.value (Value.pointer (some ⟨_, x, none⟩))) _) ?_; omega) | (rw [wrapP_i64]; omega) | go_num | (simp; done) | (simp; omega) | (congr 1; first | rfl | (rw [wrapP_i64]; omega) | (congr 1; first | rfl | (simp; done) | (simp; omega) | (congr 2; omega) | go_num))
            intro vals w' hC hΦ hne
            have h23 : vals 23 = .bool false := hΦ 23 (by decide)
            clear hΦ hne
            simp only [List.getD_eq_getElem?_getD, List.getElem?_cons_zero, List.getElem?_cons_succ, Option.getD_some, List.drop_succ_cons, List.drop_zero]
            simp only [h23]
            clear h23
            try simp only [tuple_undef]
            replace hM := hM.adds hC
            clear hC
            have hef : ed = fd := eq_of_beq hbd
            have hjj : l[j]? = l2[j]? := by rw [hje, hjf, hef]
            go_wp2_with fail
            go_roundw
            case rel =>
              refine ⟨j + 1, by omega, fun k hk => ?_, by go_num, hM⟩
              rcases Nat.lt_succ_iff_lt_or_eq.1 hk with h2 | h2
              · exact hyes k h2
              · rw [h2]; exact hjj
            case measure => simp [intOf]; omega
          · have hzf := HN j (by rw [hje, hjf]; intro h; cases h; exact hen rfl)
            subst hzf
            go_wp2_with fail
            try simp only [Act.put, List.setIfInBounds_toArray, List.set_cons_succ, List.set_cons_zero]
            refine wp_region_tail 24 (by decide) (fun c vals => ⟨#[(Value.slice (some ⟨b1, o1, none⟩) n cap : Value), (Value.slice (some ⟨b2, o2, none⟩) n cap2 : Value), c 2, c 3, c 4, (Value.int .i64 ((j : Nat) : Int) : Value), c 6, c 7, c 8, c 9, c 10, c 11, c 12, c 13, c 14, c 15, c 16, vals 0, vals 1, vals 2, vals 3, vals 4, vals 5, vals 6, vals 7, vals 8, vals 9, vals 10, vals 11, vals 12, vals 13, vals 14, vals 15, vals 16, vals 17, vals 18, vals 19, vals 20, vals 21, vals 22, vals 23], []⟩) (fun t => [undef, undef, _, _, _, undef, _, _, _, _, _, _, _, _, _, _, _, undef, undef, undef, undef, undef, undef, undef, undef, undef, undef, undef, undef, undef, undef, undef, undef, undef, undef, undef, undef, undef, undef, undef, undef].getD t undef) (fun i => [_, _, _, _, _, _, _, _, _, _, _, _, _, _, _, _, _, _, _, _, _, _, _, _].getD i undef) (by kernel_rfl)
              [[], [], [0, 1], [0, 1, 2], [0, 1, 2, 3], [], [], [5, 6], [5, 6, 7], [5, 6, 7, 8], [0, 1, 2, 3, 4, 5, 6, 7, 8, 9], [0, 1, 2, 3, 4, 5, 6, 7, 8, 9, 10], [0, 1, 2, 3, 4, 5, 6, 7, 8, 9, 10, 11], [0, 1, 2, 3, 4, 5, 6, 7, 8, 9, 10, 11], [0, 1, 2, 3, 4, 5, 6, 7, 8, 9, 10, 11, 12, 13], [0, 1, 2, 3, 4, 5, 6, 7, 8, 9, 10, 11, 12, 13, 14], [0, 1, 2, 3, 4, 5, 6, 7, 8, 9, 10, 11, 12, 13, 14, 15], [0, 1, 2, 3, 4, 5, 6, 7, 8, 9, 10, 11], [0, 1, 2, 3, 4, 5, 6, 7, 8, 9, 10, 11], [0, 1, 2, 3, 4, 5, 6, 7, 8, 9, 10, 11, 17, 18], [0, 1, 2, 3, 4, 5, 6, 7, 8, 9, 10, 11, 17, 18, 19], [0, 1, 2, 3, 4, 5, 6, 7, 8, 9, 10, 11, 17, 18, 19, 20], [0, 1, 2, 3, 4, 5, 6, 7, 8, 9, 10, 11, 12, 13, 14, 15, 16, 17, 18, 19, 20, 21], [0, 1, 2, 3, 4, 5, 6, 7, 8, 9, 10, 11, 12, 13, 14, 15, 16, 17, 18, 19, 20, 21, 22]] (by kernel_rfl) (by kernel_rfl) (fun _ => True) trivial
              [fun x _ => x = (Value.slice (some ⟨b1, o1, none⟩) n cap : Value),
               fun x _ => x = (Value.int .i64 ((j : Nat) : Int) : Value),
               fun x _ => x = (Value.pointer (some ⟨b1, o1 + j * 33, none⟩) : Value),
               fun x _ => x = (Value.pointer (some ⟨b1, o1 + j * 33, none⟩) : Value),
               fun x _ => x = (Value.agg (ed.map B8).toArray : Value),
               fun x _ => x = (Value.slice (some ⟨b2, o2, none⟩) n cap2 : Value),
               fun x _ => x = (Value.int .i64 ((j : Nat) : Int) : Value),
               fun x _ => x = (Value.pointer (some ⟨b2, o2 + j * 33, none⟩) : Value),
               fun x _ => x = (Value.pointer (some ⟨b2, o2 + j * 33, none⟩) : Value),
               fun x _ => x = (Value.agg (fd.map B8).toArray : Value),
               fun x _ => x = (Value.bool false : Value),
               fun x _ => x = (Value.bool false : Value),
               fun x _ => x = (Value.slice (some ⟨b1, o1, none⟩) n cap : Value),
               fun x _ => x = (Value.int .i64 ((j : Nat) : Int) : Value),
               fun x _ => x = (Value.pointer (some ⟨b1, o1 + j * 33, none⟩) : Value),
               fun x _ => x = (Value.pointer (some ⟨b1, o1 + j * 33 + 32, none⟩) : Value),
               fun x _ => x = (Value.int .i64 en : Value),
               fun x _ => x = (Value.slice (some ⟨b2, o2, none⟩) n cap2 : Value),
               fun x _ => x = (Value.int .i64 ((j : Nat) : Int) : Value),
               fun x _ => x = (Value.pointer (some ⟨b2, o2 + j * 33, none⟩) : Value),
               fun x _ => x = (Value.pointer (some ⟨b2, o2 + j * 33 + 32, none⟩) : Value),
               fun x _ => x = (Value.int .i64 fn : Value),
               fun x _ => x = (Value.bool true : Value),
               fun x _ => x = (Value.bool true : Value)]
              ⟨fun _ _ _ h _ => h, fun _ _ _ h _ => h, fun _ _ _ h _ => h, fun _ _ _ h _ => h, fun _ _ _ h _ => h, fun _ _ _ h _ => h, fun _ _ _ h _ => h, fun _ _ _ h _ => h, fun _ _ _ h _ => h, fun _ _ _ h _ => h, fun _ _ _ h _ => h, fun _ _ _ h _ => h, fun _ _ _ h _ => h, fun _ _ _ h _ => h, fun _ _ _ h _ => h, fun _ _ _ h _ => h, fun _ _ _ h _ => h, fun _ _ _ h _ => h, fun _ _ _ h _ => h, fun _ _ _ h _ => h, fun _ _ _ h _ => h, fun _ _ _ h _ => h, fun _ _ _ h _ => h, fun _ _ _ h _ => h, trivial⟩ []
              ⟨?_, ?_, ?_, ?_, ?_, ?_, ?_, ?_, ?_, ?_, ?_, ?_, ?_, ?_, ?_, ?_, ?_, ?_, ?_, ?_, ?_, ?_, ?_, ?_, trivial⟩ ?_
            · refine showA_op 0 (by intro _ _ _; kernel_rfl) rfl rfl (fun c vals w hC hD => ?_)
              clear hD
              refine makes1 (x := .tmp 0) (X := Value.slice (some ⟨b1, o1, none⟩) n cap) (by kernel_rfl : _ = (Value.slice (some ⟨b1, o1, none⟩) n cap : Value)) (fun ρ rc rf q0 => ?_)
              exact makes_move (.inl rfl) q0 ⟨Adds.refl _, rfl⟩
            · refine showA_op 1 (by intro _ _ _; kernel_rfl) rfl rfl (fun c vals w hC hD => ?_)
              clear hD
              refine makes1 (x := .tmp 5) (X := Value.int .i64 ((j : Nat) : Int)) (by kernel_rfl : _ = (Value.int .i64 ((j : Nat) : Int) : Value)) (fun ρ rc rf q5 => ?_)
              exact makes_move (.inl rfl) q5 ⟨Adds.refl _, rfl⟩
            · refine showA_op 2 (by intro _ _ _; kernel_rfl) rfl rfl (fun c vals w hC hD => ?_)
              have h0 : vals 0 = .slice (some ⟨b1, o1, none⟩) n cap := hD 0 rfl
              have h1 : vals 1 = .int .i64 ((j : Nat) : Int) := hD 1 rfl
              clear hD
              refine makes2 (x := .tmp 17) (X := Value.slice (some ⟨b1, o1, none⟩) n cap) (y := .tmp 18) (Y := Value.int .i64 ((j : Nat) : Int)) ((by kernel_rfl : _ = vals 0).trans h0) ((by kernel_rfl : _ = vals 1).trans h1) (fun ρ rc rf q17 q18 => ?_)
              clear h0 h1
              exact makes_index (us_of rfl) (el_of rfl) hlt rfl q17 q18 ⟨Adds.refl _, rfl⟩
            · refine showA_op 3 (by intro _ _ _; kernel_rfl) rfl rfl (fun c vals w hC hD => ?_)
              have h2 : vals 2 = .pointer (some ⟨b1, o1 + j * 33, none⟩) := hD 2 rfl
              clear hD
              refine makes1 (x := .tmp 19) (X := Value.pointer (some ⟨b1, o1 + j * 33, none⟩)) ((by kernel_rfl : _ = vals 2).trans h2) (fun ρ rc rf q19 => ?_)
              clear h2
              refine makes_value (v := Value.pointer (some ⟨b1, o1 + j * 33, none⟩)) ?_ ⟨Adds.refl _, rfl⟩
              go_simp
              all_goals first | done | rfl | (rw [if_pos (by omega)]; refine congrArg (fun x => Result.ok (Next.value (Value.pointer (some ⟨_, x, none⟩))) _) ?_; omega) | (rw [wrapP_i64]; omega) | go_num | (simp; done) | (simp; omega) | (congr 1; first | rfl | (rw [wrapP_i64]; omega) | (congr 1; first | rfl | (simp; done) | (simp; omega) | (congr 2; omega) | go_num))
            · refine showA_op 4 (by intro _ _ _; kernel_rfl) rfl rfl (fun c vals w hC hD => ?_)
              have h3 : vals 3 = .pointer (some ⟨b1, o1 + j * 33, none⟩) := hD 3 rfl
              clear hD
              refine makes1 (x := .tmp 20) (X := Value.pointer (some ⟨b1, o1 + j * 33, none⟩)) ((by kernel_rfl : _ = vals 3).trans h3) (fun ρ rc rf q20 => ?_)
              clear h3
              exact makes_load ((hld _ (hM.adds hC).done).1) rfl q20 ⟨Adds.refl _, rfl⟩
            · refine showA_op 5 (by intro _ _ _; kernel_rfl) rfl rfl (fun c vals w hC hD => ?_)
              clear hD
              refine makes1 (x := .tmp 1) (X := Value.slice (some ⟨b2, o2, none⟩) n cap2) (by kernel_rfl : _ = (Value.slice (some ⟨b2, o2, none⟩) n cap2 : Value)) (fun ρ rc rf q1 => ?_)
              exact makes_move (.inl rfl) q1 ⟨Adds.refl _, rfl⟩
            · refine showA_op 6 (by intro _ _ _; kernel_rfl) rfl rfl (fun c vals w hC hD => ?_)
              clear hD
              refine makes1 (x := .tmp 5) (X := Value.int .i64 ((j : Nat) : Int)) (by kernel_rfl : _ = (Value.int .i64 ((j : Nat) : Int) : Value)) (fun ρ rc rf q5 => ?_)
              exact makes_move (.inl rfl) q5 ⟨Adds.refl _, rfl⟩
            · refine showA_op 7 (by intro _ _ _; kernel_rfl) rfl rfl (fun c vals w hC hD => ?_)
              have h5 : vals 5 = .slice (some ⟨b2, o2, none⟩) n cap2 := hD 5 rfl
              have h6 : vals 6 = .int .i64 ((j : Nat) : Int) := hD 6 rfl
              clear hD
              refine makes2 (x := .tmp 22) (X := Value.slice (some ⟨b2, o2, none⟩) n cap2) (y := .tmp 23) (Y := Value.int .i64 ((j : Nat) : Int)) ((by kernel_rfl : _ = vals 5).trans h5) ((by kernel_rfl : _ = vals 6).trans h6) (fun ρ rc rf q22 q23 => ?_)
              clear h5 h6
              exact makes_index (us_of rfl) (el_of rfl) hlt rfl q22 q23 ⟨Adds.refl _, rfl⟩
            · refine showA_op 8 (by intro _ _ _; kernel_rfl) rfl rfl (fun c vals w hC hD => ?_)
              have h7 : vals 7 = .pointer (some ⟨b2, o2 + j * 33, none⟩) := hD 7 rfl
              clear hD
              refine makes1 (x := .tmp 24) (X := Value.pointer (some ⟨b2, o2 + j * 33, none⟩)) ((by kernel_rfl : _ = vals 7).trans h7) (fun ρ rc rf q24 => ?_)
              clear h7
              refine makes_value (v := Value.pointer (some ⟨b2, o2 + j * 33, none⟩)) ?_ ⟨Adds.refl _, rfl⟩
              go_simp
              all_goals first | done | rfl | (rw [if_pos (by omega)]; refine congrArg (fun x => Result.ok (Next.value (Value.pointer (some ⟨_, x, none⟩))) _) ?_; omega) | (rw [wrapP_i64]; omega) | go_num | (simp; done) | (simp; omega) | (congr 1; first | rfl | (rw [wrapP_i64]; omega) | (congr 1; first | rfl | (simp; done) | (simp; omega) | (congr 2; omega) | go_num))
            · refine showA_op 9 (by intro _ _ _; kernel_rfl) rfl rfl (fun c vals w hC hD => ?_)
              have h8 : vals 8 = .pointer (some ⟨b2, o2 + j * 33, none⟩) := hD 8 rfl
              clear hD
              refine makes1 (x := .tmp 25) (X := Value.pointer (some ⟨b2, o2 + j * 33, none⟩)) ((by kernel_rfl : _ = vals 8).trans h8) (fun ρ rc rf q25 => ?_)
              clear h8
              exact makes_load ((hlf _ (hM.adds hC).done).1) rfl q25 ⟨Adds.refl _, rfl⟩
            · refine showA_op 10 (by intro _ _ _; kernel_rfl) rfl rfl (fun c vals w hC hD => ?_)
              have h4 : vals 4 = .agg (ed.map B8).toArray := hD 4 rfl
              have h9 : vals 9 = .agg (fd.map B8).toArray := hD 9 rfl
              clear hD
              refine makes2 (x := .tmp 21) (X := Value.agg (ed.map B8).toArray) (y := .tmp 26) (Y := Value.agg (fd.map B8).toArray) ((by kernel_rfl : _ = vals 4).trans h4) ((by kernel_rfl : _ = vals 9).trans h9) (fun ρ rc rf q21 q26 => ?_)
              clear h4 h9
              exact makes_neq heq rfl q21 q26 ⟨Adds.refl _, rfl⟩
            · refine showA_op 11 (by intro _ _ _; kernel_rfl) rfl rfl (fun c vals w hC hD => ?_)
              have h10 : vals 10 = .bool false := hD 10 rfl
              clear hD
              refine makes1 (x := .tmp 27) (X := Value.bool false) ((by kernel_rfl : _ = vals 10).trans h10) (fun ρ rc rf q27 => ?_)
              clear h10
              exact makes_move (.inl rfl) q27 ⟨Adds.refl _, rfl⟩
            · refine showA_run 12 (by intro _ _ _; kernel_rfl) (j := 11) (want := false) rfl rfl rfl (by intro _ _; kernel_rfl) rfl (fun c vals w hC hD => ⟨hD 11 rfl, ?_⟩)
              clear hD
              refine makes1 (x := .tmp 0) (X := Value.slice (some ⟨b1, o1, none⟩) n cap) (by kernel_rfl : _ = (Value.slice (some ⟨b1, o1, none⟩) n cap : Value)) (fun ρ rc rf q0 => ?_)
              exact makes_move (.inl rfl) q0 ⟨Adds.refl _, rfl⟩
            · refine showA_run 13 (by intro _ _ _; kernel_rfl) (j := 11) (want := false) rfl rfl rfl (by intro _ _; kernel_rfl) rfl (fun c vals w hC hD => ⟨hD 11 rfl, ?_⟩)
              clear hD
              refine makes1 (x := .tmp 5) (X := Value.int .i64 ((j : Nat) : Int)) (by kernel_rfl : _ = (Value.int .i64 ((j : Nat) : Int) : Value)) (fun ρ rc rf q5 => ?_)
              exact makes_move (.inl rfl) q5 ⟨Adds.refl _, rfl⟩
            · refine showA_run 14 (by intro _ _ _; kernel_rfl) (j := 11) (want := false) rfl rfl rfl (by intro _ _; kernel_rfl) rfl (fun c vals w hC hD => ⟨hD 11 rfl, ?_⟩)
              have h12 : vals 12 = .slice (some ⟨b1, o1, none⟩) n cap := hD 12 rfl
              have h13 : vals 13 = .int .i64 ((j : Nat) : Int) := hD 13 rfl
              clear hD
              refine makes2 (x := .tmp 29) (X := Value.slice (some ⟨b1, o1, none⟩) n cap) (y := .tmp 30) (Y := Value.int .i64 ((j : Nat) : Int)) ((by kernel_rfl : _ = vals 12).trans h12) ((by kernel_rfl : _ = vals 13).trans h13) (fun ρ rc rf q29 q30 => ?_)
              clear h12 h13
              exact makes_index (us_of rfl) (el_of rfl) hlt rfl q29 q30 ⟨Adds.refl _, rfl⟩
            · refine showA_run 15 (by intro _ _ _; kernel_rfl) (j := 11) (want := false) rfl rfl rfl (by intro _ _; kernel_rfl) rfl (fun c vals w hC hD => ⟨hD 11 rfl, ?_⟩)
              have h14 : vals 14 = .pointer (some ⟨b1, o1 + j * 33, none⟩) := hD 14 rfl
              clear hD
              refine makes1 (x := .tmp 31) (X := Value.pointer (some ⟨b1, o1 + j * 33, none⟩)) ((by kernel_rfl : _ = vals 14).trans h14) (fun ρ rc rf q31 => ?_)
              clear h14
              refine makes_value (v := Value.pointer (some ⟨b1, o1 + j * 33 + 32, none⟩)) ?_ ⟨Adds.refl _, rfl⟩
              go_simp
              all_goals first | done | rfl | (rw [if_pos (by omega)]; refine congrArg (fun x => Result.ok (Next.value (Value.pointer (some ⟨_, x, none⟩))) _) ?_; omega) | (rw [wrapP_i64]; omega) | go_num | (simp; done) | (simp; omega) | (congr 1; first | rfl | (rw [wrapP_i64]; omega) | (congr 1; first | rfl | (simp; done) | (simp; omega) | (congr 2; omega) | go_num))
            · refine showA_run 16 (by intro _ _ _; kernel_rfl) (j := 11) (want := false) rfl rfl rfl (by intro _ _; kernel_rfl) rfl (fun c vals w hC hD => ⟨hD 11 rfl, ?_⟩)
              have h15 : vals 15 = .pointer (some ⟨b1, o1 + j * 33 + 32, none⟩) := hD 15 rfl
              clear hD
              refine makes1 (x := .tmp 32) (X := Value.pointer (some ⟨b1, o1 + j * 33 + 32, none⟩)) ((by kernel_rfl : _ = vals 15).trans h15) (fun ρ rc rf q32 => ?_)
              clear h15
              exact makes_load ((hld _ (hM.adds hC).done).2) rfl q32 ⟨Adds.refl _, rfl⟩
            · refine showA_run 17 (by intro _ _ _; kernel_rfl) (j := 11) (want := false) rfl rfl rfl (by intro _ _; kernel_rfl) rfl (fun c vals w hC hD => ⟨hD 11 rfl, ?_⟩)
              clear hD
              refine makes1 (x := .tmp 1) (X := Value.slice (some ⟨b2, o2, none⟩) n cap2) (by kernel_rfl : _ = (Value.slice (some ⟨b2, o2, none⟩) n cap2 : Value)) (fun ρ rc rf q1 => ?_)
              exact makes_move (.inl rfl) q1 ⟨Adds.refl _, rfl⟩
            · refine showA_run 18 (by intro _ _ _; kernel_rfl) (j := 11) (want := false) rfl rfl rfl (by intro _ _; kernel_rfl) rfl (fun c vals w hC hD => ⟨hD 11 rfl, ?_⟩)
              clear hD
              refine makes1 (x := .tmp 5) (X := Value.int .i64 ((j : Nat) : Int)) (by kernel_rfl : _ = (Value.int .i64 ((j : Nat) : Int) : Value)) (fun ρ rc rf q5 => ?_)
              exact makes_move (.inl rfl) q5 ⟨Adds.refl _, rfl⟩
            · refine showA_run 19 (by intro _ _ _; kernel_rfl) (j := 11) (want := false) rfl rfl rfl (by intro _ _; kernel_rfl) rfl (fun c vals w hC hD => ⟨hD 11 rfl, ?_⟩)
              have h17 : vals 17 = .slice (some ⟨b2, o2, none⟩) n cap2 := hD 17 rfl
              have h18 : vals 18 = .int .i64 ((j : Nat) : Int) := hD 18 rfl
              clear hD
              refine makes2 (x := .tmp 34) (X := Value.slice (some ⟨b2, o2, none⟩) n cap2) (y := .tmp 35) (Y := Value.int .i64 ((j : Nat) : Int)) ((by kernel_rfl : _ = vals 17).trans h17) ((by kernel_rfl : _ = vals 18).trans h18) (fun ρ rc rf q34 q35 => ?_)
              clear h17 h18
              exact makes_index (us_of rfl) (el_of rfl) hlt rfl q34 q35 ⟨Adds.refl _, rfl⟩
            · refine showA_run 20 (by intro _ _ _; kernel_rfl) (j := 11) (want := false) rfl rfl rfl (by intro _ _; kernel_rfl) rfl (fun c vals w hC hD => ⟨hD 11 rfl, ?_⟩)
              have h19 : vals 19 = .pointer (some ⟨b2, o2 + j * 33, none⟩) := hD 19 rfl
              clear hD
              refine makes1 (x := .tmp 36) (X := Value.pointer (some ⟨b2, o2 + j * 33, none⟩)) ((by kernel_rfl : _ = vals 19).trans h19) (fun ρ rc rf q36 => ?_)
              clear h19
              refine makes_value (v := Value.pointer (some ⟨b2, o2 + j * 33 + 32, none⟩)) ?_ ⟨Adds.refl _, rfl⟩
              go_simp
              all_goals first | done | rfl | (rw [if_pos (by omega)]; refine congrArg (fun x => Result.ok (Next.value (Value.pointer (some ⟨_, x, none⟩))) _) ?_; omega) | (rw [wrapP_i64]; omega) | go_num | (simp; done) | (simp; omega) | (congr 1; first | rfl | (rw [wrapP_i64]; omega) | (congr 1; first | rfl | (simp; done) | (simp; omega) | (congr 2; omega) | go_num))
            · refine showA_run 21 (by intro _ _ _; kernel_rfl) (j := 11) (want := false) rfl rfl rfl (by intro _ _; kernel_rfl) rfl (fun c vals w hC hD => ⟨hD 11 rfl, ?_⟩)
              have h20 : vals 20 = .pointer (some ⟨b2, o2 + j * 33 + 32, none⟩) := hD 20 rfl
              clear hD
              refine makes1 (x := .tmp 37) (X := Value.pointer (some ⟨b2, o2 + j * 33 + 32, none⟩)) ((by kernel_rfl : _ = vals 20).trans h20) (fun ρ rc rf q37 => ?_)
              clear h20
              exact makes_load ((hlf _ (hM.adds hC).done).2) rfl q37 ⟨Adds.refl _, rfl⟩
            · refine showA_run 22 (by intro _ _ _; kernel_rfl) (j := 11) (want := false) rfl rfl rfl (by intro _ _; kernel_rfl) rfl (fun c vals w hC hD => ⟨hD 11 rfl, ?_⟩)
              have h16 : vals 16 = .int .i64 en := hD 16 rfl
              have h21 : vals 21 = .int .i64 fn := hD 21 rfl
              clear hD
              refine makes2 (x := .tmp 33) (X := Value.int .i64 en) (y := .tmp 38) (Y := Value.int .i64 fn) ((by kernel_rfl : _ = vals 16).trans h16) ((by kernel_rfl : _ = vals 21).trans h21) (fun ρ rc rf q33 q38 => ?_)
              clear h16 h21
              refine makes_value (v := Value.bool true) ?_ ⟨Adds.refl _, rfl⟩
              go_simp
              all_goals first | done | rfl | (rw [if_pos (by omega)]; refine congrArg (fun x => Result.ok (Next.value (Value.pointer (some ⟨_, x, none⟩))) _) ?_; omega) | (rw [wrapP_i64]; omega) | go_num | (simp; done) | (simp; omega) | (congr 1; first | rfl | (rw [wrapP_i64]; omega) | (congr 1; first | rfl | (simp; done) | (simp; omega) | (congr 2; omega) | go_num))
            · refine showA_op 23 (by intro _ _ _; kernel_rfl) rfl rfl (fun c vals w hC hD => ?_)
              have h11 : vals 11 = .bool false := hD 11 rfl
              have h22 : vals 22 = .bool true := hD 22 rfl
              clear hD
              refine makes2 (x := .tmp 28) (X := Value.bool false) (y := .tmp 39) (Y := Value.bool true) ((by kernel_rfl : _ = vals 11).trans h11) ((by kernel_rfl : _ = vals 22).trans h22) (fun ρ rc rf q28 q39 => ?_)
              clear h11 h22
              refine makes_value (v := Value.bool true) ?_ ⟨Adds.refl _, rfl⟩
              go_simp
              all_goals first | done | rfl | (rw [if_pos (by omega)]; refine congrArg (fun x => Result.ok (Next.value (Value.pointer (some ⟨_, x, none⟩))) _) ?_; omega) | (rw [wrapP_i64]; omega) | go_num | (simp; done) | (simp; omega) | (congr 1; first | rfl | (rw [wrapP_i64]; omega) | (congr 1; first | rfl | (simp; done) | (simp; omega) | (congr 2; omega) | go_num))
            intro vals w' hC hΦ hne
            have h23 : vals 23 = .bool true := hΦ 23 (by decide)
            clear hΦ hne
            simp only [List.getD_eq_getElem?_getD, List.getElem?_cons_zero, List.getElem?_cons_succ, Option.getD_some, List.drop_succ_cons, List.drop_zero]
            simp only [h23]
            clear h23
            try simp only [tuple_undef]
            replace hM := hM.adds hC
            clear hC
            go_wp2_with fail
            go_ret
            exact ⟨rfl, hM.done⟩
      · have hje : j = n := by omega
        subst hje
        have hzt := HZ hyes
        subst hzt
        clear HZ HN hp hp2 hyes
        go_wp2_with fail
        go_ret
        exact ⟨rfl, hM.done⟩
  · have hz0 : z = false := by
      rw [← hz]
      cases hb : l == l2 with
      | false => rfl
      | true => exact absurd (congrArg List.length (eq_of_beq hb)) hne
    subst hz0
    clear hz hat hat2
    generalize l.length = n at *
    generalize l2.length = n2 at *
    go_enter Try.func39, Try.ntmps39
    have hni : ¬ (n : Int) = (n2 : Int) := by omega
    go_wp2_with fail
    go_ret
    exact ⟨rfl, hM.done⟩
end Go.Proofs.Ytejmbkljnhnklaa
namespace Go.Proofs.Ytejmbkljnhnklaa
open Go.RowKit Go.PK
theorem elems_good {w : World} {ao : Option Addr} {l : List Ev} (h : Elems rEv w ao l) : ∀ e ∈ l, Len e.1 32 := by
  intro e he
  obtain ⟨k, hk, rfl⟩ := List.mem_iff_getElem.1 he
  obtain ⟨b, off, g1, g2, cells, g3, g4⟩ := h k _ (List.getElem?_eq_getElem hk)
  exact (ev_K g3).2
def kept (l : List Ev) (j : Nat) : List Ev := (l.take j).take 1024
theorem kept_len {l : List Ev} {j : Nat} (h : j ≤ l.length) : (kept l j).length = min j 1024 := by simp [kept]; omega
theorem kept_good {l : List Ev} (h : ∀ e ∈ l, Len e.1 32) (j : Nat) : ∀ e ∈ kept l j, Len e.1 32 := fun e he => h e (List.mem_of_mem_take (List.mem_of_mem_take he))
theorem kept_more {l : List Ev} {j : Nat} {e : Ev} (h : l[j]? = some e) (hj : j < 1024) : kept l (j + 1) = kept l j ++ [e] := by
  rw [kept, kept, List.take_take, List.take_take, Nat.min_eq_right (by omega), Nat.min_eq_right (by omega), List.take_add_one, h]
  rfl
theorem kept_full {l : List Ev} {j : Nat} (hj : 1024 ≤ j) : kept l (j + 1) = kept l j := by
  rw [kept, kept, List.take_take, List.take_take, Nat.min_eq_left (by omega), Nat.min_eq_left (by omega)]
set_option maxRecDepth 100000 in
set_option maxHeartbeats 4000000 in
theorem law16_logged (w0 : World) (ao : Option Addr) (capl : Nat) (l : List Ev) (hE : Elems rEv w0 ao l) (hln : l.length ≤ 140737488355000) :
    Calls Try.prog 47 #[.slice ao l.length capl] w0 fun x w' => ∃ gl ob cap, x = .returned (.pointer (some ⟨gl, 0, none⟩)) ∧ cap ≤ maxLen ∧ Mem [] w0 w' [⟨some gl, 122, [sl ob (kept l l.length).length cap], 1⟩, ⟨ob, 64, evs (kept l l.length), cap * 33⟩] := by
  have hg := elems_good hE
  have hp : ∀ w, Adds w0 w → ∀ k, k < l.length → _ := fun w hw k hk => ev_at (hE.adds hw) (k := k) hk
  obtain ⟨n, hn⟩ : ∃ n, n = l.length := ⟨_, rfl⟩
  have hkl : ∀ j, j ≤ n → (kept l j).length = min j 1024 := fun j hj => kept_len (by omega)
  have hel : ∀ j, (evs (kept l j)).length = (kept l j).length * 33 := fun j => evs_len (kept_good hg j)
  rw [← hn] at hp hln ⊢
  clear hn hE hg
  have hM := Mem.start w0
  go_enter Try.func47, Try.ntmps47
  go_wp2_with fail
  refine (chain_New _).mono ?_
  rintro _ w1 ⟨gl, rfl, hM3⟩
  replace hM := hM.join hM3 (by simp)
  clear hM3
  replace hM := (hM.addNil 64).perm (.swap _ _ _)
  go_wp2_with fail
  go_loopw [4] (fun i wr => ∃ (j : Nat) (ob : Option Nat) (cap : Nat), j ≤ n ∧ i = .int .i64 j ∧ cap ≤ maxLen ∧ Mem [] w0 wr [⟨some gl, 122, [sl ob (kept l j).length cap], 1⟩, ⟨ob, 64, evs (kept l j), cap * 33⟩]) (fun i _ => n - (intOf i).toNat)
  case atStart => exact ⟨0, none, 0, by omega, rfl, by decide, hM⟩
  case round =>
    clear hM
    obtain ⟨j, ob, cap, hj, rfl, hcap, hM⟩ := hrel
    by_cases hlt : j < n
    · have hti : (j : Int) < (n : Int) := by omega
      obtain ⟨b, off, e, rfl, hje, he, hld⟩ := hp _ hM.done j hlt
      have hlen := hkl j hj
      have hadd := chain_Add gl ob (kept l j).length cap (evs (kept l j)) (hel j) hcap (L := []) hM e he
      have hmore := kept_more (l := l) hje
      have hfull := kept_full (l := l) (j := j)
      obtain ⟨K1, hK1⟩ : ∃ K, K = kept l j := ⟨_, rfl⟩
      obtain ⟨K2, hK2⟩ : ∃ K, K = kept l (j + 1) := ⟨_, rfl⟩
      rw [← hK1] at hM hlen hadd hmore hfull
      rw [← hK2] at hmore hfull
      have HK2 : ∀ _ : Unit, K2 = kept l (j + 1) := fun _ => hK2
      clear hK1 hK2 hkl hel
      obtain ⟨m, hm⟩ : ∃ m, m = K1.length := ⟨_, rfl⟩
      rw [← hm] at hM hlen hadd
      have HM1 : ∀ _ : Unit, m = K1.length := fun _ => hm
      have HM2 : ∀ _ : Unit, m = min j 1024 := fun _ => hlen
      clear hm hlen hje hM
      obtain ⟨A, hA⟩ : ∃ A, A = evs K1 := ⟨_, rfl⟩
      rw [← hA] at hadd
      have HA : ∀ _ : Unit, A = evs K1 := fun _ => hA
      clear hA
      have hev : ∀ _ : Unit, evs K1 ++ evC e = evs (K1 ++ [e]) := fun _ => evs_snoc K1 e
      generalize evC e = Z at *
      go_wp2_with (first
        | ((with_reducible refine gL_load (dst := some 20) ?_); refine ⟨_, _, rfl, hld, ?_⟩))
      refine hadd.mono ?_
      clear hadd hld
      rintro _ w2 (⟨hbig, rfl, hM⟩ | ⟨hsm, rfl, ob', cap', h1, h2, hM⟩)
      · have hj2 : 1024 ≤ j := by have := HM2 (); omega
        rw [HA (), HM1 (), ← hfull hj2, HK2 ()] at hM
        go_wp2_with fail
        go_roundw
        case rel => exact ⟨j + 1, ob, cap, by omega, by go_num, hcap, hM⟩
        case measure => simp [intOf]; omega
      · have hj2 : j < 1024 := by have := HM2 (); omega
        have hl2 : m + 1 = K2.length := by rw [hmore hj2, List.length_append, HM1 ()]; rfl
        rw [HA (), hev (), ← hmore hj2, hl2, HK2 ()] at hM
        clear hl2
        go_wp2_with fail
        go_roundw
        case rel => exact ⟨j + 1, ob', cap', by omega, by go_num, h2, hM⟩
        case measure => simp [intOf]; omega
    · have hje : j = n := by omega
      subst hje
      clear hkl hel hp
      go_wp2_with fail
      go_ret
      exact ⟨gl, ob, cap, rfl, hcap, hM⟩
end Go.Proofs.Ytejmbkljnhnklaa
namespace Go.PK.Chain
def Good (e : Ev) : Prop := e.1.length = 32 ∧ -9223372036854775808 ≤ e.2 ∧ e.2 ≤ 9223372036854775807
theorem shr64_toNat (a : UInt64) (i : Nat) (hi : i < 64) : (shr64 a i).toUInt8.toNat = a.toNat / 2 ^ i % 256 := by
  rw [shr64, if_pos hi, UInt64.toNat_toUInt8, UInt64.toNat_shiftRight, UInt64.toNat_ofNat', Nat.mod_eq_of_lt (show i < 2 ^ 64 by omega), Nat.mod_eq_of_lt hi, Nat.shiftRight_eq_div_pow]
theorem num_at {a b : UInt64} {n : Nat} (h : num a n = num b n) (i : Nat) (hi : i < n) (h8 : 8 * i < 64) : a.toNat / 2 ^ (8 * i) % 256 = b.toNat / 2 ^ (8 * i) % 256 := by
  have h1 := congrArg (fun l : List UInt8 => (l[i]?).map UInt8.toNat) h
  simp only [num, List.getElem?_map, List.getElem?_range hi, Option.map_some, Option.some.injEq] at h1
  rwa [shr64_toNat _ _ h8, shr64_toNat _ _ h8] at h1
theorem eight {x y : Nat} (hx : x < 18446744073709551616) (hy : y < 18446744073709551616) (h : ∀ i, i < 8 → x / 2 ^ (8 * i) % 256 = y / 2 ^ (8 * i) % 256) : x = y := by
  have h0 : x / 1 % 256 = y / 1 % 256 := h 0 (by omega)
  have h1 : x / 256 % 256 = y / 256 % 256 := h 1 (by omega)
  have h2 : x / 65536 % 256 = y / 65536 % 256 := h 2 (by omega)
  have h3 : x / 16777216 % 256 = y / 16777216 % 256 := h 3 (by omega)
  have h4 : x / 4294967296 % 256 = y / 4294967296 % 256 := h 4 (by omega)
  have h5 : x / 1099511627776 % 256 = y / 1099511627776 % 256 := h 5 (by omega)
  have h6 : x / 281474976710656 % 256 = y / 281474976710656 % 256 := h 6 (by omega)
  have h7 : x / 72057594037927936 % 256 = y / 72057594037927936 % 256 := h 7 (by omega)
  omega
theorem num8_inj {a b : UInt64} (h : num a 8 = num b 8) : a = b :=
  UInt64.toNat_inj.1 (eight a.toNat_lt b.toNat_lt fun i hi => num_at h i hi (by omega))
theorem ofInt_inj {a b : Int} (ha : -9223372036854775808 ≤ a ∧ a ≤ 9223372036854775807) (hb : -9223372036854775808 ≤ b ∧ b ≤ 9223372036854775807) (h : UInt64.ofInt a = UInt64.ofInt b) : a = b := by
  have h1 := congrArg UInt64.toNat h
  have e : ∀ x : Int, ((UInt64.ofInt x).toNat : Int) = x % 18446744073709551616 := fun x => by
    rw [UInt64.ofInt, UInt64.toNat_ofNat', Nat.mod_eq_of_lt (by have := Int.emod_lt_of_pos x (b := 2 ^ 64) (by decide); omega)]
    have := Int.emod_nonneg x (b := 2 ^ 64) (by decide)
    omega
  have ea := e a
  have eb := e b
  rw [h1] at ea
  omega
theorem bytes_inj {e f : Ev} (he : Good e) (hf : Good f) (h : bytes e = bytes f) : e = f := by
  obtain ⟨h1, h2⟩ := List.append_inj h (by rw [he.1, hf.1])
  exact Prod.ext h1 (ofInt_inj he.2 hf.2 (num8_inj h2))
def rowsFrom (r : List UInt8) : List Ev → List (List UInt8)
  | [] => []
  | e :: l => bytes e :: (r ++ meas e) :: rowsFrom (ext r (meas e)) l
def rows (l : List Ev) : List (List UInt8) := rowsFrom (List.replicate 32 0) l
theorem rowsFrom_append (a b : List Ev) : ∀ r, rowsFrom r (a ++ b) = rowsFrom r a ++ rowsFrom (regFrom r a) b := by
  induction a with
  | nil => intro r; rfl
  | cons e a ih => intro r; simp only [List.cons_append, rowsFrom, ih]; rfl
theorem rows_snoc (l : List Ev) (e : Ev) : rows (l ++ [e]) = rows l ++ [bytes e, reg l ++ meas e] := rowsFrom_append _ _ _
theorem rowsFrom_len (l : List Ev) : ∀ r, (rowsFrom r l).length = 2 * l.length := by
  induction l with
  | nil => intro r; rfl
  | cons e a ih => intro r; simp only [rowsFrom, List.length_cons, ih]; omega
def Pair (A B : List (List UInt8)) : Prop := ∃ p ∈ A, ∃ q ∈ B, p ≠ q ∧ Sha.of p = Sha.of q
theorem Pair.mono {A B A' B' : List (List UInt8)} (h : Pair A B) (hA : ∀ p ∈ A, p ∈ A') (hB : ∀ p ∈ B, p ∈ B') : Pair A' B' := by
  obtain ⟨p, hp, q, hq, h⟩ := h
  exact ⟨p, hA p hp, q, hB q hq, h⟩
theorem zero_snoc {l : List Ev} (e : Ev) (h : zero l = true) : zero (l ++ [e]) = true := by
  rw [zero, List.any_eq_true] at h
  obtain ⟨k, hk, h⟩ := h
  have hk := List.mem_range.1 hk
  refine zero_yes _ k (by simp; omega) ?_
  rwa [regK, List.take_append_of_le_length (by omega)]
theorem zero_last {l : List Ev} (e : Ev) (h : reg (l ++ [e]) = List.replicate 32 0) : zero (l ++ [e]) = true := by
  refine zero_yes _ l.length (by simp) ?_
  rw [regK, List.take_of_length_le (by simp), h]
  exact beq_self_eq_true _
theorem reg_like (n : Nat) : ∀ a b : List Ev, a.length ≤ n → (∀ e ∈ a, Good e) → (∀ e ∈ b, Good e) → reg a = reg b →
    a = b ∨ Pair (rows a) (rows b) ∨ (a.length ≠ b.length ∧ (zero a = true ∨ zero b = true)) := by
  induction n with
  | zero =>
    intro a b ha _ _ h
    obtain rfl : a = [] := List.eq_nil_of_length_eq_zero (by omega)
    rcases List.eq_nil_or_concat b with rfl | ⟨b, f, rfl⟩
    · exact .inl rfl
    · rw [List.concat_eq_append] at *
      exact .inr (.inr ⟨by simp, .inr (zero_last f h.symm)⟩)
  | succ n ih =>
    intro a b ha hga hgb h
    rcases List.eq_nil_or_concat a with rfl | ⟨a, e, rfl⟩ <;> rcases List.eq_nil_or_concat b with rfl | ⟨b, f, rfl⟩
    · exact .inl rfl
    · rw [List.concat_eq_append] at *
      exact .inr (.inr ⟨by simp, .inr (zero_last f h.symm)⟩)
    · rw [List.concat_eq_append] at *
      exact .inr (.inr ⟨by simp, .inl (zero_last e h)⟩)
    · rw [List.concat_eq_append] at *
      rw [List.concat_eq_append] at *
      have he := hga e (by simp)
      have hf := hgb f (by simp)
      by_cases hrow : reg a ++ meas e = reg b ++ meas f
      · obtain ⟨h1, h2⟩ := List.append_inj hrow (by rw [reg_len, reg_len])
        by_cases hby : bytes e = bytes f
        · obtain rfl := bytes_inj he hf hby
          rcases ih a b (by simp at ha; omega) (fun x hx => hga x (by simp [hx])) (fun x hx => hgb x (by simp [hx])) h1 with rfl | hp | ⟨hl, hz⟩
          · exact .inl rfl
          · refine .inr (.inl (hp.mono ?_ ?_)) <;> intro p hp <;> rw [rows_snoc] <;> simp [hp]
          · refine .inr (.inr ⟨by simp; omega, ?_⟩)
            rcases hz with hz | hz
            · exact .inl (zero_snoc _ hz)
            · exact .inr (zero_snoc _ hz)
        · exact .inr (.inl ⟨bytes e, by rw [rows_snoc]; simp, bytes f, by rw [rows_snoc]; simp, hby, h2⟩)
      · refine .inr (.inl ⟨reg a ++ meas e, by rw [rows_snoc]; simp, reg b ++ meas f, by rw [rows_snoc]; simp, hrow, ?_⟩)
        rw [reg_snoc, reg_snoc] at h
        exact h
def pairs (L : List (List UInt8)) : Bool := (List.range L.length).any fun i => (List.range i).any fun k => Sha.of (L.getD k []) == Sha.of (L.getD i []) && L.getD k [] != L.getD i []
theorem pairs_yes {L : List (List UInt8)} (i k : Nat) (hi : i < L.length) (hk : k < i) (h : (Sha.of (L.getD k []) == Sha.of (L.getD i [])) = true) (h2 : (L.getD k [] != L.getD i []) = true) : pairs L = true := by
  rw [pairs, List.any_eq_true]
  refine ⟨i, List.mem_range.2 hi, ?_⟩
  rw [List.any_eq_true]
  exact ⟨k, List.mem_range.2 hk, by rw [h, h2]; rfl⟩
theorem pairs_not {L : List (List UInt8)} (h : ∀ i, i < L.length → ∀ k, k < i → (Sha.of (L.getD k []) == Sha.of (L.getD i []) && L.getD k [] != L.getD i []) = false) : pairs L = false := by
  rw [pairs, List.any_eq_false]
  intro i hi
  rw [Bool.not_eq_true, List.any_eq_false]
  intro k hk
  rw [Bool.not_eq_true]
  exact h i (List.mem_range.1 hi) k (List.mem_range.1 hk)
theorem pairs_of {A B : List (List UInt8)} (h : Pair A B) : pairs (A ++ B) = true := by
  obtain ⟨p, hp, q, hq, hne, hh⟩ := h
  obtain ⟨k, hk, rfl⟩ := List.mem_iff_getElem.1 hp
  obtain ⟨i, hi, rfl⟩ := List.mem_iff_getElem.1 hq
  have e1 : (A ++ B).getD k [] = A[k] := by rw [List.getD_eq_getElem?_getD, List.getElem?_append_left hk, List.getElem?_eq_getElem hk]; rfl
  have e2 : (A ++ B).getD (A.length + i) [] = B[i] := by rw [List.getD_eq_getElem?_getD, List.getElem?_append_right (by omega), Nat.add_sub_cancel_left, List.getElem?_eq_getElem hi]; rfl
  refine pairs_yes (A.length + i) k (by rw [List.length_append]; omega) (by omega) ?_ ?_
  · rw [e1, e2, hh]; exact beq_self_eq_true _
  · rw [e1, e2]; exact bne_iff_ne.2 hne
def clash (key n1 : List UInt8) (l1 : List Ev) (n2 : List UInt8) (l2 : List Ev) : Bool :=
  (message n1 l1 != message n2 l2 && Mac.tag key (message n1 l1) == Mac.tag key (message n2 l2)) || pairs (rows l1 ++ rows l2)
theorem reg_unlike {a b : List Ev} (ga : ∀ e ∈ a, Good e) (gb : ∀ e ∈ b, Good e) (h : reg a = reg b) : a = b ∨ clash [] [] a [] b = true ∨ zero a = true ∨ zero b = true := by
  rcases reg_like _ a b (Nat.le_refl _) ga gb h with rfl | hp | ⟨_, hz⟩
  · exact .inl rfl
  · exact .inr (.inl (by rw [clash, pairs_of hp, Bool.or_true]))
  · exact .inr (.inr hz)
end Go.PK.Chain
namespace Go.PK
open Go.RowKit
def S8 (l : List UInt8) : Value := .string ⟨l.toArray⟩
namespace Chain
def rowsK (l : List Ev) (k : Nat) : List (List UInt8) := rows (l.take k)
theorem rowsK_succ (l : List Ev) (k : Nat) (e : Ev) (h : l[k]? = some e) : rowsK l (k + 1) = rowsK l k ++ [bytes e, regK l k ++ meas e] := by
  rw [rowsK, List.take_add_one, h, Option.toList_some, rows_snoc]
  rfl
theorem rowsK_len (l : List Ev) (k : Nat) (h : k ≤ l.length) : (rowsK l k).length = 2 * k := by
  rw [rowsK, rows, rowsFrom_len, List.length_take, Nat.min_eq_left h]
end Chain
end Go.PK
namespace Go.Proofs.Ytejmbkljnhnklaa
open Go.RowKit Go.PK
theorem S8_one (l : List (List UInt8)) : ∀ v ∈ l.map S8, v.oneCell' = true := by
  intro v hv
  obtain ⟨c, _, rfl⟩ := List.mem_map.1 hv
  rfl
theorem str_of {w : World} {v : Value} {l : List UInt8} (h : Bytes w v l) : (convert 22 9 v).run Try.prog w = .ok (.string ⟨l.toArray⟩) w :=
  run_str 22 9 5 Try.underlying22 Try.underlying5 Try.underlying9 h
theorem str2_size (a b : List UInt8) : ∀ v ∈ [Value.string ⟨a.toArray⟩, Value.string ⟨b.toArray⟩], v.cells.size = 1 := by
  intro v hv
  simp only [List.mem_cons, List.not_mem_nil, or_false] at hv
  rcases hv with rfl | rfl <;> rfl
set_option maxRecDepth 100000 in
set_option maxHeartbeats 4000000 in
theorem ref16_rows (w0 : World) (ao : Option Addr) (cap : Nat) (l : List Ev) (hE : Elems rEv w0 ao l) (hlen : l.length ≤ 1000000) :
    Calls Try.prog 80 #[.slice ao l.length cap] w0 fun x w' => ∃ g cap', x = .returned (.slice (some ⟨g, 0, none⟩) (2 * l.length) cap') ∧ cap' ≤ maxLen ∧ Mem [] w0 w' [⟨some g, 9, (Chain.rows l).map S8, cap'⟩] := by
  have HR : ∀ _ : Unit, Chain.rowsK l l.length = Chain.rows l := fun _ => by rw [Chain.rowsK, List.take_length]
  have hrl : ∀ k, k ≤ l.length → (Chain.rowsK l k).length = 2 * k := fun k hk => Chain.rowsK_len l k hk
  have hat : ∀ k, k < l.length → _ := fun k hk => ev_later hE (k := k) hk
  obtain ⟨n, hn⟩ : ∃ n, n = l.length := ⟨_, rfl⟩
  rw [← hn] at HR hlen hat hrl ⊢
  clear hn hE
  have hM := Mem.start w0
  go_enter Try.func80, Try.ntmps80
  have hz2 := zero_hash
  obtain ⟨H0, hH0⟩ : ∃ H, H = List.replicate 32 (0 : UInt8) := ⟨_, rfl⟩
  have hH0l : Len H0 32 := by rw [hH0]; exact Len.rep _ _
  have hzr : H0 = Chain.regK l 0 := hH0
  rw [← hH0] at hz2
  clear hH0
  go_wp2_with (first
    | ((with_reducible refine gL_buildEmpty hM ?_); refine ⟨_, _, _, (us_of rfl), (el_of rfl), ?_⟩; intro g7 _ hM2; clear hM; have hM := hM2; clear hM2)
    | ((with_reducible refine gL_build ?_); refine ⟨_, _, rfl, hz2, ?_⟩)
    | ((first | ((with_reducible refine gL_alloc (dst := some 4) hM ?_); refine ⟨_, _, (zr_of rfl), ?_⟩) | ((with_reducible refine gL_box (dst := some 4) hM ?_); refine ⟨_, _, _, rfl, rfl, (by first | assumption | exact Len.map (by assumption) _ | rfl | exact Len.map (by rfl) _ | exact Len.of (by simp; done)), ?_⟩)); intro g4 _ hM2; clear hM; have hM := hM2; clear hM2)
    | ((with_reducible refine gL_store hM ?_); refine ⟨_, _, _, rfl, rfl, hM.stores_all (.here _ _ _) (ag_of rfl) (hH0l.map _) (by rfl) B8_one, ?_⟩; intro _ hM2; clear hM; have hM := hM2; clear hM2))
  rw [hzr] at hM
  clear hzr hH0l hz2
  rw [show List.map B8 ([] : List UInt8) = (Chain.rowsK l 0).map S8 from rfl] at hM
  go_loopw [3, 5] (fun p i wr => ∃ (j g cap' : Nat), j ≤ n ∧ i = .int .i64 j ∧ p = .slice (some ⟨g, 0, none⟩) (2 * j) cap' ∧ cap' ≤ maxLen ∧ Mem [] w0 wr [⟨some g4, 24, (Chain.regK l j).map B8, 32⟩, ⟨some g, 9, (Chain.rowsK l j).map S8, cap'⟩]) (fun _ i _ => n - (intOf i).toNat)
  case atStart => exact ⟨0, g7, 0, by omega, rfl, rfl, by decide, hM⟩
  case round =>
    clear hM
    obtain ⟨j, g, cap', hj, rfl, rfl, hcap, hM⟩ := hrel
    by_cases hlt : j < n
    · have hti : (j : Int) < (n : Int) := by omega
      obtain ⟨b, off, e, rfl, hje, hel, hld⟩ := hat j hlt
      have hX2 := (Chain.regK_succ l j e hje).symm
      have hX3 := Chain.rowsK_succ l j e hje
      have hrj := hrl j (by omega)
      clear hje HR hrl hat
      have hl3 : Len (Chain.regK l j) 32 := Len.of (Chain.regK_len _ _)
      have hl4 : Len (Chain.regK l (j + 1)) 32 := Len.of (Chain.regK_len _ _)
      obtain ⟨M, hMM⟩ : ∃ M, Chain.meas e = M := ⟨_, rfl⟩
      have hMl : Len M 32 := by rw [← hMM]; exact Len.of (Chain.meas_len _)
      have hme : ∀ w, _ := fun w => ref16_Measure w e hel M hMM
      rw [hMM] at hX2 hX3
      clear hMM
      have hext : ∀ w, _ := fun w => ref16_Extend w (Chain.regK l j) M hl3 hMl _ hX2
      have hbo : ∀ w, _ := fun w => ref16_both w (Chain.regK l j) M hl3 hMl
      have hev : ∀ w, _ := fun w => ref16_event w e hel
      clear hX2
      obtain ⟨E1, hE1⟩ : ∃ E, E = Chain.bytes e := ⟨_, rfl⟩
      obtain ⟨E2, hE2⟩ : ∃ E, E = Chain.regK l j ++ M := ⟨_, rfl⟩
      rw [← hE1, ← hE2] at hX3
      rw [← hE1] at hev
      rw [← hE2] at hbo
      clear hE1 hE2
      obtain ⟨A2, hA2⟩ : ∃ A2, A2 = Chain.regK l (j + 1) := ⟨_, rfl⟩
      rw [← hA2] at hext hl4
      have HA2 : ∀ _ : Unit, A2 = Chain.regK l (j + 1) := fun _ => hA2
      clear hA2
      generalize hA : Chain.regK l j = A at *
      clear hA
      obtain ⟨R2, hR2⟩ : ∃ R2, R2 = Chain.rowsK l (j + 1) := ⟨_, rfl⟩
      rw [← hR2] at hX3
      have HR2 : ∀ _ : Unit, R2 = Chain.rowsK l (j + 1) := fun _ => hR2
      clear hR2
      generalize hR : Chain.rowsK l j = R at *
      clear hR
      have HX3 : ∀ _ : Unit, R2 = R ++ [E1, E2] := fun _ => hX3
      have HRJ := Lib.hid hrj
      clear hX3 hrj
      generalize evC e = Z at *
      go_wp2_with (first
        | ((with_reducible refine gL_load (dst := some 18) ?_); refine ⟨_, _, rfl, hld _ hM.done, ?_⟩)
        | (go_at_call 46; (with_reducible refine (hme _).mono ?_); rintro _ _ ⟨rfl, B1⟩; replace hM := hM.adds B1; clear B1)
        | ((first | ((with_reducible refine gL_alloc (dst := some 6) hM ?_); refine ⟨_, _, (zr_of rfl), ?_⟩) | ((with_reducible refine gL_box (dst := some 6) hM ?_); refine ⟨_, _, _, rfl, rfl, (by first | assumption | exact Len.map (by assumption) _ | rfl | exact Len.map (by rfl) _ | exact Len.of (by simp; done)), ?_⟩)); intro g6 _ hM2; clear hM; have hM := hM2; clear hM2)
        | ((with_reducible refine gL_store hM ?_); refine ⟨_, _, _, rfl, rfl, hM.stores_all (.here _ _ _) (ag_of rfl) (hMl.map _) (by rfl) B8_one, ?_⟩; intro _ hM2; clear hM; have hM := hM2; clear hM2))
      rename_i w6 K1 hK1
      try simp only [Act.put, List.setIfInBounds_toArray, List.set_cons_succ, List.set_cons_zero]
      refine wp_region_tail 12 (by decide) (fun c vals => ⟨#[(Value.slice (some ⟨b, off, none⟩) n cap : Value), c 1, c 2, (Value.slice (some ⟨g, 0, none⟩) (2 * j) cap' : Value), (Value.pointer (some ⟨g4, 0, none⟩) : Value), (Value.int .i64 ((j : Nat) : Int) : Value), (Value.pointer (some ⟨g6, 0, none⟩) : Value), c 7, c 8, c 9, c 10, c 11, c 12, c 13, c 14, c 15, c 16, c 17, c 18, c 19, vals 0, vals 1, vals 2, vals 3, vals 4, vals 5, vals 6, vals 7, vals 8, vals 9, vals 10, vals 11, c 32, c 33, c 34, c 35, c 36], []⟩) (fun t => [undef, _, _, undef, undef, undef, undef, _, _, _, _, _, _, _, _, _, _, _, _, _, undef, undef, undef, undef, undef, undef, undef, undef, undef, undef, undef, undef, _, _, _, _, _].getD t undef) (fun i => [_, _, _, _, _, _, _, _, _, _, _, _].getD i undef) (by kernel_rfl)
        [[], [], [], [1, 2], [1, 2, 3], [1, 2, 3, 4], [1, 2, 3, 4, 5], [], [], [1, 2, 3, 4, 5, 7, 8], [1, 2, 3, 4, 5, 7, 8, 9], [1, 2, 3, 4, 5, 6, 7, 8, 9, 10], [0, 1, 2, 3, 4, 5, 6, 7, 8, 9, 10, 11], [0, 1, 2, 3, 4, 5, 6, 7, 8, 9, 10, 11, 12]] (by kernel_rfl) (by kernel_rfl) (fun _ => True) trivial
        [fun x _ => x = (Value.slice (some ⟨g, 0, none⟩) (2 * j) cap' : Value),
         fun x _ => x = (Value.slice (some ⟨b, off, none⟩) n cap : Value),
         fun x _ => x = (Value.int .i64 ((j : Nat) : Int) : Value),
         fun x _ => x = (Value.pointer (some ⟨b, off + j * 33, none⟩) : Value),
         fun x _ => x = (Value.agg Z.toArray : Value),
         fun x w => Bytes w x (E1),
         fun x _ => x = (Value.string ⟨(E1).toArray⟩ : Value),
         fun x _ => x = (Value.agg (A.map B8).toArray : Value),
         fun x _ => x = (Value.agg (M.map B8).toArray : Value),
         fun x w => Bytes w x (E2),
         fun x _ => x = (Value.string ⟨(E2).toArray⟩ : Value),
         fun (xx : Value) (ww : World) => NewRow w6.heap.size 9 ww xx [S8 E1, S8 E2] 2]
        ⟨fun _ _ _ h _ => h, fun _ _ _ h _ => h, fun _ _ _ h _ => h, fun _ _ _ h _ => h, fun _ _ _ h _ => h, fun _ _ _ h hb => h.adds hb, fun _ _ _ h _ => h, fun _ _ _ h _ => h, fun _ _ _ h _ => h, fun _ _ _ h hb => h.adds hb, fun _ _ _ h _ => h, fun _ _ _ h hb => h.adds hb, trivial⟩ []
        ⟨?_, ?_, ?_, ?_, ?_, ?_, ?_, ?_, ?_, ?_, ?_, ?_, trivial⟩ ?_
      · refine showA_op 0 (by intro _ _ _; kernel_rfl) rfl rfl (fun c vals w hC hD => ?_)
        clear hD
        refine makes1 (x := .tmp 3) (X := Value.slice (some ⟨g, 0, none⟩) (2 * j) cap') (by kernel_rfl : _ = (Value.slice (some ⟨g, 0, none⟩) (2 * j) cap' : Value)) (fun ρ rc rf q3 => ?_)
        exact makes_move (.inl rfl) q3 ⟨Adds.refl _, rfl⟩
      · refine showA_op 1 (by intro _ _ _; kernel_rfl) rfl rfl (fun c vals w hC hD => ?_)
        clear hD
        refine makes1 (x := .tmp 0) (X := Value.slice (some ⟨b, off, none⟩) n cap) (by kernel_rfl : _ = (Value.slice (some ⟨b, off, none⟩) n cap : Value)) (fun ρ rc rf q0 => ?_)
        exact makes_move (.inl rfl) q0 ⟨Adds.refl _, rfl⟩
      · refine showA_op 2 (by intro _ _ _; kernel_rfl) rfl rfl (fun c vals w hC hD => ?_)
        clear hD
        refine makes1 (x := .tmp 5) (X := Value.int .i64 ((j : Nat) : Int)) (by kernel_rfl : _ = (Value.int .i64 ((j : Nat) : Int) : Value)) (fun ρ rc rf q5 => ?_)
        exact makes_move (.inl rfl) q5 ⟨Adds.refl _, rfl⟩
      · refine showA_op 3 (by intro _ _ _; kernel_rfl) rfl rfl (fun c vals w hC hD => ?_)
        have h1 : vals 1 = .slice (some ⟨b, off, none⟩) n cap := hD 1 rfl
        have h2 : vals 2 = .int .i64 ((j : Nat) : Int) := hD 2 rfl
        clear hD
        refine makes2 (x := .tmp 21) (X := Value.slice (some ⟨b, off, none⟩) n cap) (y := .tmp 22) (Y := Value.int .i64 ((j : Nat) : Int)) ((by kernel_rfl : _ = vals 1).trans h1) ((by kernel_rfl : _ = vals 2).trans h2) (fun ρ rc rf q21 q22 => ?_)
        clear h1 h2
        exact makes_index (us_of rfl) (el_of rfl) hlt rfl q21 q22 ⟨Adds.refl _, rfl⟩
      · refine showA_op 4 (by intro _ _ _; kernel_rfl) rfl rfl (fun c vals w hC hD => ?_)
        have h3 : vals 3 = .pointer (some ⟨b, off + j * 33, none⟩) := hD 3 rfl
        clear hD
        refine makes1 (x := .tmp 23) (X := Value.pointer (some ⟨b, off + j * 33, none⟩)) ((by kernel_rfl : _ = vals 3).trans h3) (fun ρ rc rf q23 => ?_)
        clear h3
        exact makes_load (hld _ ((hM.adds hC).done)) rfl q23 ⟨Adds.refl _, rfl⟩
      · refine showA_op 5 (by intro _ _ _; kernel_rfl) rfl rfl (fun c vals w hC hD => ?_)
        have h4 : vals 4 = .agg Z.toArray := hD 4 rfl
        clear hD
        refine makes1 (x := .tmp 24) (X := Value.agg Z.toArray) ((by kernel_rfl : _ = vals 4).trans h4) (fun ρ rc rf q24 => ?_)
        clear h4
        refine makes_call (hev _) ?_ (by rintro e w' ⟨v', rfl, hb1, hb2⟩; exact ⟨_, rfl, hb2, hb1⟩)
        go_simp
      · refine showA_op 6 (by intro _ _ _; kernel_rfl) rfl rfl (fun c vals w hC hD => ?_)
        have h5 : Bytes w (vals 5) (E1) := hD 5 rfl
        clear hD
        refine makes1 (x := .tmp 25) (X := vals 5) (by kernel_rfl : _ = vals 5) (fun ρ rc rf q25 => ?_)
        have hs := str_of h5
        refine makes_value (v := Value.string ⟨(E1).toArray⟩) ?_ ⟨Adds.refl _, rfl⟩
        go_simp
      · refine showA_op 7 (by intro _ _ _; kernel_rfl) rfl rfl (fun c vals w hC hD => ?_)
        clear hD
        refine makes1 (x := .tmp 4) (X := Value.pointer (some ⟨g4, 0, none⟩)) (by kernel_rfl : _ = (Value.pointer (some ⟨g4, 0, none⟩) : Value)) (fun ρ rc rf q4 => ?_)
        exact makes_load ((hM.adds hC).loads_all (.tail _ (.head _)) (ag_of rfl) (hl3.map _)) rfl q4 ⟨Adds.refl _, rfl⟩
      · refine showA_op 8 (by intro _ _ _; kernel_rfl) rfl rfl (fun c vals w hC hD => ?_)
        clear hD
        refine makes1 (x := .tmp 6) (X := Value.pointer (some ⟨g6, 0, none⟩)) (by kernel_rfl : _ = (Value.pointer (some ⟨g6, 0, none⟩) : Value)) (fun ρ rc rf q6 => ?_)
        exact makes_load ((hM.adds hC).loads_all (.head _) (ag_of rfl) (hMl.map _)) rfl q6 ⟨Adds.refl _, rfl⟩
      · refine showA_op 9 (by intro _ _ _; kernel_rfl) rfl rfl (fun c vals w hC hD => ?_)
        have h7 : vals 7 = .agg (A.map B8).toArray := hD 7 rfl
        have h8 : vals 8 = .agg (M.map B8).toArray := hD 8 rfl
        clear hD
        refine makes2 (x := .tmp 27) (X := Value.agg (A.map B8).toArray) (y := .tmp 28) (Y := Value.agg (M.map B8).toArray) ((by kernel_rfl : _ = vals 7).trans h7) ((by kernel_rfl : _ = vals 8).trans h8) (fun ρ rc rf q27 q28 => ?_)
        clear h7 h8
        refine makes_call (hbo _) ?_ (by rintro e w' ⟨v', rfl, hb1, hb2⟩; exact ⟨_, rfl, hb2, hb1⟩)
        go_simp
      · refine showA_op 10 (by intro _ _ _; kernel_rfl) rfl rfl (fun c vals w hC hD => ?_)
        have h9 : Bytes w (vals 9) (E2) := hD 9 rfl
        clear hD
        refine makes1 (x := .tmp 29) (X := vals 9) (by kernel_rfl : _ = vals 9) (fun ρ rc rf q29 => ?_)
        have hs := str_of h9
        refine makes_value (v := Value.string ⟨(E2).toArray⟩) ?_ ⟨Adds.refl _, rfl⟩
        go_simp
      · refine showA_op 11 (by intro _ _ _; kernel_rfl) rfl rfl (fun c vals w hC hD => ?_)
        have h6 : vals 6 = .string ⟨(E1).toArray⟩ := hD 6 rfl
        have h10 : vals 10 = .string ⟨(E2).toArray⟩ := hD 10 rfl
        clear hD
        refine makes2 (x := .tmp 26) (X := Value.string ⟨(E1).toArray⟩) (y := .tmp 30) (Y := Value.string ⟨(E2).toArray⟩) ((by kernel_rfl : _ = vals 6).trans h6) ((by kernel_rfl : _ = vals 10).trans h10) (fun ρ rc rf q26 q30 => ?_)
        clear h6 h10
        exact makes_buildSlice (C := [S8 E1, S8 E2]) (us_of rfl) (el_of rfl) (by decide) (by decide) rfl rfl (by simp only [List.map, q26, q30]; rfl) (by simp only [List.map, q26, q30]; exact str2_size _ _) ⟨(Below.refl _ _).alloc (Nat.le_refl _) _, w.heap.size, rfl, hC.size, _, World.alloc_heap_new _ _⟩
      intro vals w' hC hΦ hne
      have h0 : vals 0 = .slice (some ⟨g, 0, none⟩) (2 * j) cap' := hΦ 0 (by decide)
      have h11 : (fun (xx : Value) (ww : World) => NewRow w6.heap.size 9 ww xx [S8 E1, S8 E2] 2) (vals 11) w' := hΦ 11 (by decide)
      clear hΦ hne
      simp only [List.getD_eq_getElem?_getD, List.getElem?_cons_zero, List.getElem?_cons_succ, Option.getD_some, List.drop_succ_cons, List.drop_zero]
      simp only [h0]
      clear h0
      try simp only [tuple_undef]
      replace hM := hM.adds hC
      clear hC
      go_wp2_with (first
        | (refine wpList_plain rfl fun K hk => ?_; refine hM.wp_append (size := 1) (C := R.map S8) (N := cap') (n := 2 * j) (cap := cap') (m := 2) (news := [S8 E1, S8 E2]) (ob := some g) (L' := fun ob' cap2 => [_, _, ⟨ob', 9, R.map S8 ++ [S8 E1, S8 E2], cap2 * 1⟩]) rfl rfl (us_of rfl) (el_of rfl) (fun _ _ => .there _ (.there _ (.here _ _ _))) (by omega) (by rw [List.length_map, HRJ.out]; omega) hcap rfl h11.src rfl (S8_one [E1, E2]) (by simp only [maxLen]; omega) (by omega) ?_; intro ob' cap2 w2 hM2 hd1 hd2; clear hM; have hM := hM2; clear hM2; refine hk _ _ ?_; clear hk)
        | ((with_reducible refine gL_load (dst := some 33) ?_); refine ⟨_, _, rfl, hM.loads_all (.tail _ (.head _)) (ag_of rfl) (hl3.map _), ?_⟩)
        | ((with_reducible refine gL_load (dst := some 34) ?_); refine ⟨_, _, rfl, hM.loads_all (.head _) (ag_of rfl) (hMl.map _), ?_⟩)
        | (go_at_call 44; (with_reducible refine (hext _).mono ?_); rintro _ _ ⟨rfl, B1⟩; replace hM := hM.adds B1; clear B1)
        | ((with_reducible refine gL_store hM ?_); refine ⟨_, _, _, rfl, rfl, hM.stores_all (.there _ (.here _ _ _)) (ag_of rfl) (hl4.map _) (hl3.map _) B8_one, ?_⟩; intro _ hM2; clear hM; have hM := hM2; clear hM2))
      have hM1 := hM.drop
      have hRl : Len (R.map S8 ++ [S8 E1, S8 E2]) (2 * j + 2) := Len.of (by rw [List.length_append, List.length_map, HRJ.out]; rfl)
      obtain ⟨g2, hg2⟩ := hM1.some_of (.tail _ (.head _)) hRl (by omega)
      subst hg2
      rw [show R.map S8 ++ [S8 E1, S8 E2] = R2.map S8 from by rw [HX3 (), List.map_append]; rfl, HR2 (), HA2 (), Nat.mul_one] at hM1
      go_roundw
      case rel => exact ⟨j + 1, g2, cap2, by omega, by go_num, rfl, hd2, hM1⟩
      case measure => simp [intOf]; omega
    · have hje : j = n := by omega
      subst hje
      rw [HR ()] at hM
      go_wp2_with fail
      go_ret
      exact ⟨g, cap', rfl, hcap, hM.drop⟩
end Go.Proofs.Ytejmbkljnhnklaa
namespace Go.Proofs.Ytejmbkljnhnklaa
open Go.RowKit Go.PK
def hcells (P : List (List UInt8)) : List Value := P.flatMap fun r => (Sha.of r).map B8
theorem hcells_snoc (P : List (List UInt8)) (r : List UInt8) : hcells P ++ (Sha.of r).map B8 = hcells (P ++ [r]) := by simp [hcells]
theorem hcells_len (P : List (List UInt8)) : (hcells P).length = P.length * 32 := by
  induction P with
  | nil => rfl
  | cons r P ih =>
    rw [hcells, List.flatMap_cons, List.length_append, List.length_map, Sha.of_len, show (P.flatMap fun r => (Sha.of r).map B8).length = _ from ih, List.length_cons]
    omega
theorem hcells_part (P : List (List UInt8)) (k : Nat) (hk : k < P.length) : ((hcells P).drop (k * 32)).take 32 = (Sha.of (P.getD k [])).map B8 := by
  induction P generalizing k with
  | nil => simp at hk
  | cons r P ih =>
    have hl : ((Sha.of r).map B8).length = 32 := by rw [List.length_map, Sha.of_len]
    rw [hcells, List.flatMap_cons]
    cases k with
    | zero =>
      rw [Nat.zero_mul, List.drop_zero, List.take_append_of_le_length (by omega), List.take_of_length_le (by omega)]
      rfl
    | succ k =>
      rw [show (k + 1) * 32 = 32 + k * 32 from by omega, List.drop_append, List.drop_of_length_le (by omega), List.nil_append, hl, show 32 + k * 32 - 32 = k * 32 from by omega]
      exact ih k (by simpa using hk)
theorem rows_small (l : List Ev) (h : ∀ e ∈ l, Len e.1 32) : ∀ r ∈ Chain.rows l, r.length ≤ 64 := by
  have key : ∀ (l : List Ev) (r0 : List UInt8), (∀ e ∈ l, Len e.1 32) → r0.length = 32 → ∀ r ∈ Chain.rowsFrom r0 l, r.length ≤ 64 := by
    intro l
    induction l with
    | nil => intro r0 _ _ r hr; cases hr
    | cons e l ih =>
      intro r0 h h0 r hr
      simp only [Chain.rowsFrom, List.mem_cons] at hr
      rcases hr with rfl | rfl | hr
      · rw [Chain.bytes, List.length_append, Chain.num_len, (h e (by simp)).eq]; decide
      · rw [List.length_append, h0, Chain.meas_len]; decide
      · exact ih _ (fun x hx => h x (by simp [hx])) (Chain.ext_len _ _) r hr
  exact key l _ h (by simp)
def pairAt (P : List (List UInt8)) (i k : Nat) : Bool := Sha.of (P.getD k []) == Sha.of (P.getD i []) && P.getD k [] != P.getD i []
set_option maxRecDepth 100000 in
set_option maxHeartbeats 4000000 in
theorem ref16_Clash (w0 : World) (vk : Value) (key : List UInt8) (hvk : Bytes w0 vk key) (hk : key.length ≤ 140737488351232) (v1 : Value) (n1 : List UInt8) (hv1 : Bytes w0 v1 n1) (h1 : n1.length ≤ 140737488351232) (ao1 : Option Addr) (cap1 : Nat) (l1 : List Ev) (hE1 : Elems rEv w0 ao1 l1) (hl1 : l1.length ≤ 100000)
    (v2 : Value) (n2 : List UInt8) (hv2 : Bytes w0 v2 n2) (h2 : n2.length ≤ 140737488351232) (ao2 : Option Addr) (cap2 : Nat) (l2 : List Ev) (hE2 : Elems rEv w0 ao2 l2) (hl2 : l2.length ≤ 100000) (z : Bool) (hz : Chain.clash key n1 l1 n2 l2 = z) :
    Calls Try.prog 49 #[vk, v1, .slice ao1 l1.length cap1, v2, .slice ao2 l2.length cap2] w0 fun x w' => x = .returned (.bool z) ∧ Below w0.heap.size w0 w' := by
  obtain ⟨R1, hR1⟩ : ∃ R, Chain.reg l1 = R := ⟨_, rfl⟩
  obtain ⟨R2, hR2⟩ : ∃ R, Chain.reg l2 = R := ⟨_, rfl⟩
  have hm1 : ∀ w, Adds w0 w → _ := fun w hw => ref16_message w v1 n1 (hv1.below hw (Nat.le_refl _)) h1 ao1 cap1 l1 (hE1.adds hw) (by omega) R1 hR1
  have hm2 : ∀ w, Adds w0 w → _ := fun w hw => ref16_message w v2 n2 (hv2.below hw (Nat.le_refl _)) h2 ao2 cap2 l2 (hE2.adds hw) (by omega) R2 hR2
  have hr1 : ∀ w, Adds w0 w → _ := fun w hw => ref16_rows w ao1 cap1 l1 (hE1.adds hw) (by omega)
  have hr2 : ∀ w, Adds w0 w → _ := fun w hw => ref16_rows w ao2 cap2 l2 (hE2.adds hw) (by omega)
  have hrl1 : (Chain.rows l1).length = 2 * l1.length := Chain.rowsFrom_len _ _
  have hrl2 : (Chain.rows l2).length = 2 * l2.length := Chain.rowsFrom_len _ _
  clear hR1 hR2
  have hs1 := rows_small l1 (elems_good hE1)
  have hs2 := rows_small l2 (elems_good hE2)
  have hA1 : (Chain.message n1 l1).length ≤ 140737488354900 := by simp [Chain.message, Chain.num_len, Chain.reg_len]; omega
  have hA2 : (Chain.message n2 l2).length ≤ 140737488354900 := by simp [Chain.message, Chain.num_len, Chain.reg_len]; omega
  rw [Chain.clash] at hz
  generalize Chain.message n1 l1 = A1 at *
  generalize Chain.message n2 l2 = A2 at *
  obtain ⟨T1, hT1⟩ : ∃ T, Mac.tag key A1 = T := ⟨_, rfl⟩
  obtain ⟨T2, hT2⟩ : ∃ T, Mac.tag key A2 = T := ⟨_, rfl⟩
  have hTl1 : Len T1 32 := by rw [← hT1]; exact Len.of (Mac.tag_len _ _)
  have hTl2 : Len T2 32 := by rw [← hT2]; exact Len.of (Mac.tag_len _ _)
  have ho1 : ∀ w, Adds w0 w → ∀ v, Bytes w v A1 → _ := fun w hw v hv => ref03_Of w vk v key A1 (hvk.below hw (Nat.le_refl _)) hv (by omega) (by omega) T1 hT1
  have ho2 : ∀ w, Adds w0 w → ∀ v, Bytes w v A2 → _ := fun w hw v hv => ref03_Of w vk v key A2 (hvk.below hw (Nat.le_refl _)) hv (by omega) (by omega) T2 hT2
  rw [hT1, hT2] at hz
  clear hT1 hT2
  generalize Chain.rows l1 = Q1 at *
  generalize Chain.rows l2 = Q2 at *
  obtain ⟨m1, hm1e⟩ : ∃ m, m = l1.length := ⟨_, rfl⟩
  obtain ⟨m2, hm2e⟩ : ∃ m, m = l2.length := ⟨_, rfl⟩
  rw [← hm1e] at hm1 hr1 hrl1 hl1 ⊢
  rw [← hm2e] at hm2 hr2 hrl2 hl2 ⊢
  clear hm1e hm2e hE1 hE2 hv1 hv2 h1 h2
  have HQ1 := Lib.hid hrl1
  have HQ2 := Lib.hid hrl2
  have hM := Mem.start w0
  go_enter Try.func49, Try.ntmps49
  go_wp2_with fail
  refine (hm1 _ hM.done).mono ?_
  rintro _ w1 ⟨va, rfl, hba, hB⟩
  replace hM := hM.adds hB
  clear hB hm1
  go_wp2_with fail
  refine (hm2 _ hM.done).mono ?_
  rintro _ w2 ⟨vb, rfl, hbb, hB⟩
  replace hM := hM.adds hB
  replace hba := hba.adds hB
  clear hB hm2 hrl1 hrl2
  have sa := str_of hba
  have sb := str_of hbb
  have hways : (A1 = A2 ∧ Chain.pairs (Q1 ++ Q2) = z) ∨ (A1 ≠ A2 ∧ T1 = T2 ∧ z = true) ∨ (A1 ≠ A2 ∧ (T1 == T2) = false ∧ Chain.pairs (Q1 ++ Q2) = z) := by
    by_cases ha : A1 = A2
    · exact .inl ⟨ha, by rw [← hz, ha]; simp⟩
    · by_cases ht : T1 = T2
      · exact .inr (.inl ⟨ha, ht, by rw [← hz, ht]; simp [ha]⟩)
      · exact .inr (.inr ⟨ha, beq_eq_false_iff_ne.2 ht, by rw [← hz]; simp [ht]⟩)
  clear hz
  have heq := hash_eq T1 T2 hTl1 hTl2
  rcases hways with ⟨rfl, hz⟩ | ⟨hne, rfl, rfl⟩ | ⟨hne, hnt, hz⟩
  case inr.inl =>
    rw [beq_self_eq_true] at heq
    have hab : (A1 == A2) = false := beq_eq_false_iff_ne.2 hne
    go_wp2_with fail
    refine (ho1 _ hM.done _ hba).mono ?_
    rintro _ w3 ⟨rfl, hB⟩
    replace hM := hM.adds hB
    replace hbb := hbb.adds hB
    clear hB
    go_wp2_with fail
    refine (ho2 _ hM.done _ hbb).mono ?_
    rintro _ w4 ⟨rfl, hB⟩
    replace hM := hM.adds hB
    clear hB
    go_wp2_with (first | ((with_reducible refine gG_eql ?_ ?_); (exact wanted_of rfl rfl rfl rfl rfl); refine ⟨_, _, _, rfl, rfl, heq, ?_⟩))
    go_ret
    exact ⟨rfl, hM.done⟩
  case' inl =>
    go_wp2_with fail
    clear sa sb hba hbb heq
  case' inr.inr =>
    rw [hnt] at heq
    have hab : (A1 == A2) = false := beq_eq_false_iff_ne.2 hne
    go_wp2_with fail
    refine (ho1 _ hM.done _ hba).mono ?_
    rintro _ w3 ⟨rfl, hB⟩
    replace hM := hM.adds hB
    replace hbb := hbb.adds hB
    clear hB
    go_wp2_with fail
    refine (ho2 _ hM.done _ hbb).mono ?_
    rintro _ w4 ⟨rfl, hB⟩
    replace hM := hM.adds hB
    clear hB
    go_wp2_with (first | ((with_reducible refine gG_eql ?_ ?_); (exact wanted_of rfl rfl rfl rfl rfl); refine ⟨_, _, _, rfl, rfl, heq, ?_⟩))
    clear sa sb hba hbb heq hab hnt hne
  all_goals
    clear ho1 ho2
    refine (hr1 _ hM.done).mono ?_
    rintro _ w5 ⟨ga, ca, rfl, hca, hM3⟩
    replace hM := hM.join hM3 (by simp)
    clear hM3 hr1
    go_wp2_with fail
    refine (hr2 _ hM.done).mono ?_
    rintro _ w6 ⟨gb, cb, rfl, hcb, hM3⟩
    replace hM := hM.addNew hM3.done (hM3.holds _ (.head _)) (hM3.mem_new (.head _))
    clear hM3 hr2
    go_wp2_with (first
      | (refine wpList_plain rfl fun K hk => ?_; refine hM.wp_append (size := 1) (C := Q1.map S8) (N := ca) (n := 2 * m1) (cap := ca) (m := 2 * m2) (news := Q2.map S8) (ob := some ga) (L' := fun ob' cap2 => [_, ⟨ob', 9, Q1.map S8 ++ Q2.map S8, cap2 * 1⟩]) rfl rfl (us_of rfl) (el_of rfl) (fun _ _ => .there _ (.here _ _ _)) (by omega) (by rw [List.length_map, HQ1.out]; omega) hca rfl (hM.src (.head _)) (by rw [List.length_map, HQ2.out]; omega) (S8_one Q2) (by simp only [maxLen]; omega) (by omega) ?_; intro ob' cap2 w2 hM2 hd1 hd2; clear hM; have hM := hM2; clear hM2; refine hk _ _ ?_; clear hk)
      | ((with_reducible refine gL_buildEmpty (dst := some 43) hM ?_); refine ⟨_, _, _, (us_of rfl), (el_of rfl), ?_⟩; intro g7 _ hM2; clear hM; have hM := hM2; clear hM2))
    obtain ⟨P, hP⟩ : ∃ P, P = Q1 ++ Q2 := ⟨_, rfl⟩
    have hsm : ∀ r ∈ P, r.length ≤ 64 := fun r hr => by
      rw [hP, List.mem_append] at hr
      exact hr.elim (hs1 r) (hs2 r)
    have hPl : P.length = 2 * m1 + 2 * m2 := by rw [hP, List.length_append, HQ1.out, HQ2.out]
    rw [← hP] at hz
    rw [← List.map_append, ← hP, Nat.mul_one] at hM
    clear hP HQ1 HQ2 hs1 hs2
    obtain ⟨N, hN⟩ : ∃ N, N = 2 * m1 + 2 * m2 := ⟨_, rfl⟩
    have hNb : N ≤ 400000 := by omega
    rw [← hN] at hPl hd1 ⊢
    clear hN hl1 hl2
    have HY : ∀ i k, i < N → k < i → pairAt P i k = true → z = true := fun i k hi hk h => by
      rw [pairAt, Bool.and_eq_true] at h
      rw [← hz]
      exact Chain.pairs_yes i k (by omega) hk h.1 h.2
    have HN : (∀ i, i < N → ∀ k, k < i → pairAt P i k = false) → z = false := fun h => by
      rw [← hz]
      exact Chain.pairs_not (fun i hi k hk => h i (by omega) k hk)
    have HPl := Lib.hid hPl
    clear hPl hz
    rw [show List.map B8 ([] : List UInt8) = hcells (P.take 0) from rfl] at hM
    by_cases hN0 : N = 0
    · subst hN0
      have hzf := HN (fun i hi => by omega)
      subst hzf
      go_loopw [14, 15] (fun hs i wr => i = .int .i64 0 ∧ Mem [] w0 wr []) (fun _ _ _ => 0)
      case atStart => exact ⟨rfl, hM.forget⟩
      case round =>
        clear hM
        obtain ⟨rfl, hM⟩ := hrel
        go_wp2_with fail
        go_ret
        exact ⟨rfl, hM.done⟩
    obtain ⟨g0, hg0⟩ := hM.some_of (.tail _ (.tail _ (.head _))) (n := N) (Len.of (by rw [List.length_map, HPl.out])) (by omega)
    subst hg0
    simp only [sl_some]
    go_loopw [14, 15] (fun hs i wr => ∃ (j : Nat) (oh : Option Nat) (ch : Nat), j ≤ N ∧ i = .int .i64 j ∧ hs = sl oh j ch ∧ ch ≤ maxLen ∧ (∀ i, i < j → ∀ k, k < i → pairAt P i k = false) ∧ Mem [] w0 wr [⟨oh, 24, hcells (P.take j), ch * 32⟩, ⟨some gb, 9, Q2.map S8, cb⟩, ⟨some g0, 9, P.map S8, cap2⟩]) (fun _ i _ => N - (intOf i).toNat)
    case atStart => exact ⟨0, some g7, 0, by omega, rfl, rfl, by decide, (fun i hi => by omega), hM⟩
    case round =>
      clear hM
      obtain ⟨j, oh, ch, hj, rfl, rfl, hch, hno, hM⟩ := hrel
      by_cases hlt : j < N
      · have hti : (j : Int) < (N : Int) := by omega
        obtain ⟨r, hr⟩ : ∃ r, P.getD j [] = r := ⟨_, rfl⟩
        have hrj : P[j]? = some r := by
          rw [← hr, List.getD_eq_getElem?_getD, List.getElem?_eq_getElem (by rw [HPl.out]; exact hlt)]
          rfl
        have hcj : (P.map S8)[j]? = some (.string ⟨r.toArray⟩) := by rw [List.getElem?_map, hrj]; rfl
        have hrl : r.length ≤ 64 := hsm r (List.mem_of_getElem? hrj)
        have hway : ∀ w, _ := fun w => conv_bytes (P := Try.prog) (src := 9) (dst := 22) (e := 5) Try.underlying9 Try.underlying22 Try.underlying5 w r (by simp only [maxLen]; omega)
        have hof : ∀ w v, Bytes w v r → _ := fun w v hv => ref02_Of w v r hv (by omega)
        have hsnoc : ∀ _ : Unit, hcells (P.take j) ++ (Sha.of r).map B8 = hcells (P.take (j + 1)) := fun _ => by
          rw [List.take_add_one, hrj, hcells_snoc]
          rfl
        have hhl : ∀ _ : Unit, (hcells (P.take j)).length = j * 32 := fun _ => by rw [hcells_len, List.length_take, HPl.out, Nat.min_eq_left hj]
        have hpart : ∀ k, k < j → ((hcells (P.take j)).drop (k * 32)).take 32 = (Sha.of (P.getD k [])).map B8 := fun k hk => by
          rw [hcells_part _ _ (by rw [List.length_take, HPl.out]; omega)]
          congr 2
          rw [List.getD_eq_getElem?_getD, List.getD_eq_getElem?_getD, List.getElem?_take, if_pos hk]
        have hck : ∀ k, k < j → (P.map S8)[k]? = some (.string ⟨(P.getD k []).toArray⟩) := fun k hk => by
          rw [List.getElem?_map, List.getD_eq_getElem?_getD, List.getElem?_eq_getElem (by rw [HPl.out]; omega)]
          rfl
        have hpair : ∀ k, pairAt P j k = (Sha.of (P.getD k []) == Sha.of r && P.getD k [] != r) := fun k => by rw [pairAt, hr]
        have hYj : ∀ k, k < j → pairAt P j k = true → z = true := fun k hk h => HY j k hlt hk h
        have hnext : (∀ k, k < j → pairAt P j k = false) → ∀ i, i < j + 1 → ∀ k, k < i → pairAt P i k = false := fun h i hi k hk => by
          rcases Nat.lt_succ_iff_lt_or_eq.1 hi with h2 | rfl
          · exact hno i h2 k hk
          · exact h k hk
        clear hr hrj hno HY HN hsm
        obtain ⟨H, hH⟩ : ∃ H, Sha.of r = H := ⟨_, rfl⟩
        have hHl : Len H 32 := by rw [← hH]; exact Len.of (Sha.of_len _)
        simp only [hH] at hof hsnoc hpair
        clear hH
        have HHL := Lib.hid hhl
        clear hhl
        go_wp2_with (first
          | ((with_reducible refine gL_load (dst := some 53) ?_); refine ⟨_, _, rfl, hM.loads_one (.tail _ (.tail _ (.head _))) (on_of rfl) hcj, ?_⟩)
          | ((with_reducible refine gL_convert ?_); obtain ⟨cx, wx, hrun, hAx, hBx, -⟩ := hway _; refine ⟨_, _, _, rfl, hrun, ?_⟩; replace hM := hM.adds hAx; clear hAx hrun hway)
          | (go_at_call 19; (with_reducible refine (hof _ _ hBx).mono ?_); rintro _ _ ⟨rfl, B1⟩; replace hM := hM.adds B1; clear B1 hBx hof)
          | ((first | ((with_reducible refine gL_alloc (dst := some 16) hM ?_); refine ⟨_, _, (zr_of rfl), ?_⟩) | ((with_reducible refine gL_box (dst := some 16) hM ?_); refine ⟨_, _, _, rfl, rfl, (by first | assumption | exact Len.map (by assumption) _ | rfl | exact Len.map (by rfl) _ | exact Len.of (by simp; done)), ?_⟩)); intro g16 _ hM2; clear hM; have hM := hM2; clear hM2)
          | ((with_reducible refine gL_store hM ?_); refine ⟨_, _, _, rfl, rfl, hM.stores_all (.here _ _ _) (ag_of rfl) (hHl.map _) (by rfl) B8_one, ?_⟩; intro _ hM2; clear hM; have hM := hM2; clear hM2))
        go_loopw [17] (fun k wr => ∃ (i : Nat), i ≤ j ∧ k = .int .i64 i ∧ (∀ k, k < i → pairAt P j k = false) ∧ Mem [] w0 wr [⟨some g16, 24, H.map B8, 32⟩, ⟨oh, 24, hcells (P.take j), ch * 32⟩, ⟨some gb, 9, Q2.map S8, cb⟩, ⟨some g0, 9, P.map S8, cap2⟩]) (fun k _ => j - (intOf k).toNat)
        case atStart => exact ⟨0, by omega, rfl, (fun k hk => by omega), hM⟩
        case round =>
          clear hM
          obtain ⟨i, hi, rfl, hnok, hM⟩ := hrel
          by_cases hki : i < j
          · have hti2 : (i : Int) < (j : Int) := by omega
            have hkN : i < N := by omega
            obtain ⟨gh, hgh⟩ := hM.some_of (.tail _ (.head _)) (n := j * 32) (Len.of (HHL.out ())) (by omega)
            subst hgh
            have hpk0 := hpart i hki
            have hcki := hck i hki
            obtain ⟨Rk, hRk⟩ : ∃ R, R = P.getD i [] := ⟨_, rfl⟩
            rw [← hRk] at hpk0 hcki
            have hRk2 : P.getD i [] = Rk := hRk.symm
            clear hRk
            obtain ⟨D, hD⟩ : ∃ D, Sha.of Rk = D := ⟨_, rfl⟩
            have hDl : Len D 32 := by rw [← hD]; exact Len.of (Sha.of_len _)
            rw [hD] at hpk0
            have hpk1 := hpair i
            rw [hRk2, hD] at hpk1
            have hYi := hYj i hki
            rw [hpk1] at hYi
            clear hD hRk2
            have hldk : ∀ w', Adds wr w' → Loads Try.prog w' 24 ⟨gh, 0 + i * 32, none⟩ (.agg (D.map B8).toArray) := fun w' hb => by
              have := (hM.adds hb).loads_part (ty := 24) (off := i * 32) (n := 32) (.tail _ (.head _)) (ag_of rfl) (by rw [HHL.out ()]; omega)
              rw [hpk0] at this
              rwa [Nat.zero_add]
            have hlsk : ∀ w', Adds wr w' → Loads Try.prog w' 9 ⟨g0, 0 + i * 1, none⟩ (.string ⟨Rk.toArray⟩) := fun w' hb => (hM.adds hb).loads_one (.tail _ (.tail _ (.tail _ (.head _)))) (on_of rfl) (by rw [Nat.zero_add, Nat.mul_one]; exact hcki)
            have hlsj : ∀ w', Adds wr w' → Loads Try.prog w' 9 ⟨g0, 0 + j * 1, none⟩ (.string ⟨r.toArray⟩) := fun w' hb => (hM.adds hb).loads_one (.tail _ (.tail _ (.tail _ (.head _)))) (on_of rfl) (by rw [Nat.zero_add, Nat.mul_one]; exact hcj)
            have heqk := hash_eq D H hDl hHl
            have hnokS : pairAt P j i = false → ∀ k, k < i + 1 → pairAt P j k = false := fun h k hk => by
              rcases Nat.lt_succ_iff_lt_or_eq.1 hk with h2 | rfl
              · exact hnok k h2
              · exact h
            clear hnok hpart hck hpair hYj hpk0 hcki
            cases hbd : (D == H)
            · rw [hbd] at heqk hpk1
              have hpn := hnokS hpk1
              clear hnokS hYi hpk1 hnext hsnoc
              go_wp2_with fail
              try simp only [Act.put, List.setIfInBounds_toArray, List.set_cons_succ, List.set_cons_zero]
              refine wp_region_tail 17 (by decide) (fun c vals => ⟨#[c 0, c 1, c 2, c 3, c 4, c 5, c 6, c 7, c 8, c 9, c 10, c 11, c 12, (Value.slice (some ⟨g0, 0, none⟩) N cap2 : Value), (sl (some gh) j ch : Value), (Value.int .i64 ((j : Nat) : Int) : Value), (Value.pointer (some ⟨g16, 0, none⟩) : Value), (Value.int .i64 ((i : Nat) : Int) : Value), c 18, c 19, c 20, c 21, c 22, c 23, c 24, c 25, c 26, c 27, c 28, c 29, c 30, c 31, c 32, c 33, c 34, c 35, c 36, c 37, c 38, c 39, c 40, c 41, c 42, c 43, c 44, c 45, c 46, c 47, c 48, c 49, c 50, c 51, c 52, c 53, c 54, c 55, c 56, c 57, c 58, c 59, c 60, vals 0, vals 1, vals 2, vals 3, vals 4, vals 5, vals 6, vals 7, vals 8, vals 9, vals 10, vals 11, vals 12, vals 13, vals 14, vals 15, vals 16, c 78, c 79, c 80, c 81], []⟩) (fun t => [_, _, _, _, _, _, _, _, _, _, _, _, _, undef, undef, undef, undef, undef, _, _, _, _, _, _, _, _, _, _, _, _, _, _, _, _, _, _, _, _, _, _, _, _, _, _, _, _, _, _, _, _, _, _, _, _, _, _, _, _, _, _, _, undef, undef, undef, undef, undef, undef, undef, undef, undef, undef, undef, undef, undef, undef, undef, undef, undef, _, _, _, _].getD t undef) (fun i => [_, _, _, _, _, _, _, _, _, _, _, _, _, _, _, _, _].getD i undef) (by kernel_rfl)
                [[], [], [0, 1], [0, 1, 2], [], [0, 1, 2, 3, 4], [0, 1, 2, 3, 4, 5], [0, 1, 2, 3, 4, 5, 6], [0, 1, 2, 3, 4, 5, 6], [0, 1, 2, 3, 4, 5, 6, 7, 8], [0, 1, 2, 3, 4, 5, 6, 7, 8, 9], [0, 1, 2, 3, 4, 5, 6], [0, 1, 2, 3, 4, 5, 6], [0, 1, 2, 3, 4, 5, 6, 11, 12], [0, 1, 2, 3, 4, 5, 6, 11, 12, 13], [0, 1, 2, 3, 4, 5, 6, 7, 8, 9, 10, 11, 12, 13, 14], [0, 1, 2, 3, 4, 5, 6, 7, 8, 9, 10, 11, 12, 13, 14, 15]] (by kernel_rfl) (by kernel_rfl) (fun _ => True) trivial
                [fun x _ => x = (sl (some gh) j ch : Value),
                 fun x _ => x = (Value.int .i64 ((i : Nat) : Int) : Value),
                 fun x _ => x = (Value.pointer (some ⟨gh, 0 + i * 32, none⟩) : Value),
                 fun x _ => x = (Value.agg (D.map B8).toArray : Value),
                 fun x _ => x = (Value.agg (H.map B8).toArray : Value),
                 fun x _ => x = (Value.bool false : Value),
                 fun x _ => x = (Value.bool false : Value),
                 fun x _ => x = (undef : Value),
                 fun x _ => x = (undef : Value),
                 fun x _ => x = (undef : Value),
                 fun x _ => x = (undef : Value),
                 fun x _ => x = (undef : Value),
                 fun x _ => x = (undef : Value),
                 fun x _ => x = (undef : Value),
                 fun x _ => x = (undef : Value),
                 fun x _ => x = (undef : Value),
                 fun x _ => x = ((Value.bool false) : Value)]
                ⟨fun _ _ _ h _ => h, fun _ _ _ h _ => h, fun _ _ _ h _ => h, fun _ _ _ h _ => h, fun _ _ _ h _ => h, fun _ _ _ h _ => h, fun _ _ _ h _ => h, fun _ _ _ h _ => h, fun _ _ _ h _ => h, fun _ _ _ h _ => h, fun _ _ _ h _ => h, fun _ _ _ h _ => h, fun _ _ _ h _ => h, fun _ _ _ h _ => h, fun _ _ _ h _ => h, fun _ _ _ h _ => h, fun _ _ _ h _ => h, trivial⟩ []
                ⟨?_, ?_, ?_, ?_, ?_, ?_, ?_, ?_, ?_, ?_, ?_, ?_, ?_, ?_, ?_, ?_, ?_, trivial⟩ ?_
              · refine showA_op 0 (by intro _ _ _; kernel_rfl) rfl rfl (fun c vals w hC hD => ?_)
                clear hD
                refine makes1 (x := .tmp 14) (X := sl (some gh) j ch) (by kernel_rfl : _ = (sl (some gh) j ch : Value)) (fun ρ rc rf q14 => ?_)
                exact makes_move (.inl rfl) q14 ⟨Adds.refl _, rfl⟩
              · refine showA_op 1 (by intro _ _ _; kernel_rfl) rfl rfl (fun c vals w hC hD => ?_)
                clear hD
                refine makes1 (x := .tmp 17) (X := Value.int .i64 ((i : Nat) : Int)) (by kernel_rfl : _ = (Value.int .i64 ((i : Nat) : Int) : Value)) (fun ρ rc rf q17 => ?_)
                exact makes_move (.inl rfl) q17 ⟨Adds.refl _, rfl⟩
              · refine showA_op 2 (by intro _ _ _; kernel_rfl) rfl rfl (fun c vals w hC hD => ?_)
                have h0 : vals 0 = sl (some gh) j ch := hD 0 rfl
                have h1 : vals 1 = .int .i64 ((i : Nat) : Int) := hD 1 rfl
                clear hD
                refine makes2 (x := .tmp 61) (X := sl (some gh) j ch) (y := .tmp 62) (Y := Value.int .i64 ((i : Nat) : Int)) ((by kernel_rfl : _ = vals 0).trans h0) ((by kernel_rfl : _ = vals 1).trans h1) (fun ρ rc rf q61 q62 => ?_)
                clear h0 h1
                exact makes_index (us_of rfl) (el_of rfl) hki rfl q61 q62 ⟨Adds.refl _, rfl⟩
              · refine showA_op 3 (by intro _ _ _; kernel_rfl) rfl rfl (fun c vals w hC hD => ?_)
                have h2 : vals 2 = .pointer (some ⟨gh, 0 + i * 32, none⟩) := hD 2 rfl
                clear hD
                refine makes1 (x := .tmp 63) (X := Value.pointer (some ⟨gh, 0 + i * 32, none⟩)) ((by kernel_rfl : _ = vals 2).trans h2) (fun ρ rc rf q63 => ?_)
                clear h2
                exact makes_load (hldk _ hC) rfl q63 ⟨Adds.refl _, rfl⟩
              · refine showA_op 4 (by intro _ _ _; kernel_rfl) rfl rfl (fun c vals w hC hD => ?_)
                clear hD
                refine makes1 (x := .tmp 16) (X := Value.pointer (some ⟨g16, 0, none⟩)) (by kernel_rfl : _ = (Value.pointer (some ⟨g16, 0, none⟩) : Value)) (fun ρ rc rf q16 => ?_)
                exact makes_load ((hM.adds hC).loads_all (.head _) (ag_of rfl) (hHl.map _)) rfl q16 ⟨Adds.refl _, rfl⟩
              · refine showA_op 5 (by intro _ _ _; kernel_rfl) rfl rfl (fun c vals w hC hD => ?_)
                have h3 : vals 3 = .agg (D.map B8).toArray := hD 3 rfl
                have h4 : vals 4 = .agg (H.map B8).toArray := hD 4 rfl
                clear hD
                refine makes2 (x := .tmp 64) (X := Value.agg (D.map B8).toArray) (y := .tmp 65) (Y := Value.agg (H.map B8).toArray) ((by kernel_rfl : _ = vals 3).trans h3) ((by kernel_rfl : _ = vals 4).trans h4) (fun ρ rc rf q64 q65 => ?_)
                clear h3 h4
                exact makes_eql heqk rfl q64 q65 ⟨Adds.refl _, rfl⟩
              · refine showA_op 6 (by intro _ _ _; kernel_rfl) rfl rfl (fun c vals w hC hD => ?_)
                have h5 : vals 5 = .bool false := hD 5 rfl
                clear hD
                refine makes1 (x := .tmp 66) (X := Value.bool false) ((by kernel_rfl : _ = vals 5).trans h5) (fun ρ rc rf q66 => ?_)
                clear h5
                exact makes_move (.inl rfl) q66 ⟨Adds.refl _, rfl⟩
              · refine showA_not 7 (by intro _ _ _; kernel_rfl) (j := 6) (want := true) rfl rfl rfl (by intro _ _; kernel_rfl) rfl (fun vals w hC hD => ⟨hD 6 rfl, rfl⟩)
              · refine showA_not 8 (by intro _ _ _; kernel_rfl) (j := 6) (want := true) rfl rfl rfl (by intro _ _; kernel_rfl) rfl (fun vals w hC hD => ⟨hD 6 rfl, rfl⟩)
              · refine showA_not 9 (by intro _ _ _; kernel_rfl) (j := 6) (want := true) rfl rfl rfl (by intro _ _; kernel_rfl) rfl (fun vals w hC hD => ⟨hD 6 rfl, rfl⟩)
              · refine showA_not 10 (by intro _ _ _; kernel_rfl) (j := 6) (want := true) rfl rfl rfl (by intro _ _; kernel_rfl) rfl (fun vals w hC hD => ⟨hD 6 rfl, rfl⟩)
              · refine showA_not 11 (by intro _ _ _; kernel_rfl) (j := 6) (want := true) rfl rfl rfl (by intro _ _; kernel_rfl) rfl (fun vals w hC hD => ⟨hD 6 rfl, rfl⟩)
              · refine showA_not 12 (by intro _ _ _; kernel_rfl) (j := 6) (want := true) rfl rfl rfl (by intro _ _; kernel_rfl) rfl (fun vals w hC hD => ⟨hD 6 rfl, rfl⟩)
              · refine showA_not 13 (by intro _ _ _; kernel_rfl) (j := 6) (want := true) rfl rfl rfl (by intro _ _; kernel_rfl) rfl (fun vals w hC hD => ⟨hD 6 rfl, rfl⟩)
              · refine showA_not 14 (by intro _ _ _; kernel_rfl) (j := 6) (want := true) rfl rfl rfl (by intro _ _; kernel_rfl) rfl (fun vals w hC hD => ⟨hD 6 rfl, rfl⟩)
              · refine showA_not 15 (by intro _ _ _; kernel_rfl) (j := 6) (want := true) rfl rfl rfl (by intro _ _; kernel_rfl) rfl (fun vals w hC hD => ⟨hD 6 rfl, rfl⟩)
              · refine showA_op 16 (by intro _ _ _; kernel_rfl) rfl rfl (fun c vals w hC hD => ?_)
                have h6 : vals 6 = .bool false := hD 6 rfl
                have h15 : vals 15 = undef := hD 15 rfl
                clear hD
                refine makes2 (x := .tmp 67) (X := Value.bool false) (y := .tmp 76) (Y := undef) ((by kernel_rfl : _ = vals 6).trans h6) ((by kernel_rfl : _ = vals 15).trans h15) (fun ρ rc rf q67 q76 => ?_)
                clear h6 h15
                refine makes_value (v := (Value.bool false)) ?_ ⟨Adds.refl _, rfl⟩
                go_simp
                all_goals first | done | rfl | (rw [if_pos (by omega)]; refine congrArg (fun x => Result.ok (Next.value (Value.pointer (some ⟨_, x, none⟩))) _) ?_; omega) | (rw [wrapP_i64]; omega) | go_num | (simp; done) | (simp; omega) | (congr 1; first | rfl | (rw [wrapP_i64]; omega) | (congr 1; first | rfl | (simp; done) | (simp; omega) | (congr 2; omega) | go_num))
              intro vals w' hC hΦ hne
              have h16 : vals 16 = (Value.bool false) := hΦ 16 (by decide)
              clear hΦ hne
              simp only [List.getD_eq_getElem?_getD, List.getElem?_cons_zero, List.getElem?_cons_succ, Option.getD_some, List.drop_succ_cons, List.drop_zero]
              simp only [h16]
              clear h16
              try simp only [tuple_undef]
              replace hM := hM.adds hC
              clear hC
              go_wp2_with fail
              go_roundw
              case rel => exact ⟨i + 1, by omega, by go_num, hpn, hM⟩
              case measure => simp [intOf]; omega
            · rw [hbd] at heqk hpk1 hYi
              cases hbs : (Rk == r)
              · have hbn : (Rk != r) = true := by rw [bne, hbs]; rfl
                rw [hbn] at hYi
                have hzt := hYi rfl
                subst hzt
                clear hnokS hYi hpk1 hbn hnext hsnoc
                go_wp2_with fail
                try simp only [Act.put, List.setIfInBounds_toArray, List.set_cons_succ, List.set_cons_zero]
                refine wp_region_tail 17 (by decide) (fun c vals => ⟨#[c 0, c 1, c 2, c 3, c 4, c 5, c 6, c 7, c 8, c 9, c 10, c 11, c 12, (Value.slice (some ⟨g0, 0, none⟩) N cap2 : Value), (sl (some gh) j ch : Value), (Value.int .i64 ((j : Nat) : Int) : Value), (Value.pointer (some ⟨g16, 0, none⟩) : Value), (Value.int .i64 ((i : Nat) : Int) : Value), c 18, c 19, c 20, c 21, c 22, c 23, c 24, c 25, c 26, c 27, c 28, c 29, c 30, c 31, c 32, c 33, c 34, c 35, c 36, c 37, c 38, c 39, c 40, c 41, c 42, c 43, c 44, c 45, c 46, c 47, c 48, c 49, c 50, c 51, c 52, c 53, c 54, c 55, c 56, c 57, c 58, c 59, c 60, vals 0, vals 1, vals 2, vals 3, vals 4, vals 5, vals 6, vals 7, vals 8, vals 9, vals 10, vals 11, vals 12, vals 13, vals 14, vals 15, vals 16, c 78, c 79, c 80, c 81], []⟩) (fun t => [_, _, _, _, _, _, _, _, _, _, _, _, _, undef, undef, undef, undef, undef, _, _, _, _, _, _, _, _, _, _, _, _, _, _, _, _, _, _, _, _, _, _, _, _, _, _, _, _, _, _, _, _, _, _, _, _, _, _, _, _, _, _, _, undef, undef, undef, undef, undef, undef, undef, undef, undef, undef, undef, undef, undef, undef, undef, undef, undef, _, _, _, _].getD t undef) (fun i => [_, _, _, _, _, _, _, _, _, _, _, _, _, _, _, _, _].getD i undef) (by kernel_rfl)
                  [[], [], [0, 1], [0, 1, 2], [], [0, 1, 2, 3, 4], [0, 1, 2, 3, 4, 5], [0, 1, 2, 3, 4, 5, 6], [0, 1, 2, 3, 4, 5, 6], [0, 1, 2, 3, 4, 5, 6, 7, 8], [0, 1, 2, 3, 4, 5, 6, 7, 8, 9], [0, 1, 2, 3, 4, 5, 6], [0, 1, 2, 3, 4, 5, 6], [0, 1, 2, 3, 4, 5, 6, 11, 12], [0, 1, 2, 3, 4, 5, 6, 11, 12, 13], [0, 1, 2, 3, 4, 5, 6, 7, 8, 9, 10, 11, 12, 13, 14], [0, 1, 2, 3, 4, 5, 6, 7, 8, 9, 10, 11, 12, 13, 14, 15]] (by kernel_rfl) (by kernel_rfl) (fun _ => True) trivial
                  [fun x _ => x = (sl (some gh) j ch : Value),
                   fun x _ => x = (Value.int .i64 ((i : Nat) : Int) : Value),
                   fun x _ => x = (Value.pointer (some ⟨gh, 0 + i * 32, none⟩) : Value),
                   fun x _ => x = (Value.agg (D.map B8).toArray : Value),
                   fun x _ => x = (Value.agg (H.map B8).toArray : Value),
                   fun x _ => x = (Value.bool true : Value),
                   fun x _ => x = (Value.bool true : Value),
                   fun x _ => x = (Value.slice (some ⟨g0, 0, none⟩) N cap2 : Value),
                   fun x _ => x = (Value.int .i64 ((i : Nat) : Int) : Value),
                   fun x _ => x = (Value.pointer (some ⟨g0, 0 + i * 1, none⟩) : Value),
                   fun x _ => x = (Value.string ⟨Rk.toArray⟩ : Value),
                   fun x _ => x = (Value.slice (some ⟨g0, 0, none⟩) N cap2 : Value),
                   fun x _ => x = (Value.int .i64 ((j : Nat) : Int) : Value),
                   fun x _ => x = (Value.pointer (some ⟨g0, 0 + j * 1, none⟩) : Value),
                   fun x _ => x = (Value.string ⟨r.toArray⟩ : Value),
                   fun x _ => x = (Value.bool true : Value),
                   fun x _ => x = (Value.bool true : Value)]
                  ⟨fun _ _ _ h _ => h, fun _ _ _ h _ => h, fun _ _ _ h _ => h, fun _ _ _ h _ => h, fun _ _ _ h _ => h, fun _ _ _ h _ => h, fun _ _ _ h _ => h, fun _ _ _ h _ => h, fun _ _ _ h _ => h, fun _ _ _ h _ => h, fun _ _ _ h _ => h, fun _ _ _ h _ => h, fun _ _ _ h _ => h, fun _ _ _ h _ => h, fun _ _ _ h _ => h, fun _ _ _ h _ => h, fun _ _ _ h _ => h, trivial⟩ []
                  ⟨?_, ?_, ?_, ?_, ?_, ?_, ?_, ?_, ?_, ?_, ?_, ?_, ?_, ?_, ?_, ?_, ?_, trivial⟩ ?_
                · refine showA_op 0 (by intro _ _ _; kernel_rfl) rfl rfl (fun c vals w hC hD => ?_)
                  clear hD
                  refine makes1 (x := .tmp 14) (X := sl (some gh) j ch) (by kernel_rfl : _ = (sl (some gh) j ch : Value)) (fun ρ rc rf q14 => ?_)
                  exact makes_move (.inl rfl) q14 ⟨Adds.refl _, rfl⟩
                · refine showA_op 1 (by intro _ _ _; kernel_rfl) rfl rfl (fun c vals w hC hD => ?_)
                  clear hD
                  refine makes1 (x := .tmp 17) (X := Value.int .i64 ((i : Nat) : Int)) (by kernel_rfl : _ = (Value.int .i64 ((i : Nat) : Int) : Value)) (fun ρ rc rf q17 => ?_)
                  exact makes_move (.inl rfl) q17 ⟨Adds.refl _, rfl⟩
                · refine showA_op 2 (by intro _ _ _; kernel_rfl) rfl rfl (fun c vals w hC hD => ?_)
                  have h0 : vals 0 = sl (some gh) j ch := hD 0 rfl
                  have h1 : vals 1 = .int .i64 ((i : Nat) : Int) := hD 1 rfl
                  clear hD
                  refine makes2 (x := .tmp 61) (X := sl (some gh) j ch) (y := .tmp 62) (Y := Value.int .i64 ((i : Nat) : Int)) ((by kernel_rfl : _ = vals 0).trans h0) ((by kernel_rfl : _ = vals 1).trans h1) (fun ρ rc rf q61 q62 => ?_)
                  clear h0 h1
                  exact makes_index (us_of rfl) (el_of rfl) hki rfl q61 q62 ⟨Adds.refl _, rfl⟩
                · refine showA_op 3 (by intro _ _ _; kernel_rfl) rfl rfl (fun c vals w hC hD => ?_)
                  have h2 : vals 2 = .pointer (some ⟨gh, 0 + i * 32, none⟩) := hD 2 rfl
                  clear hD
                  refine makes1 (x := .tmp 63) (X := Value.pointer (some ⟨gh, 0 + i * 32, none⟩)) ((by kernel_rfl : _ = vals 2).trans h2) (fun ρ rc rf q63 => ?_)
                  clear h2
                  exact makes_load (hldk _ hC) rfl q63 ⟨Adds.refl _, rfl⟩
                · refine showA_op 4 (by intro _ _ _; kernel_rfl) rfl rfl (fun c vals w hC hD => ?_)
                  clear hD
                  refine makes1 (x := .tmp 16) (X := Value.pointer (some ⟨g16, 0, none⟩)) (by kernel_rfl : _ = (Value.pointer (some ⟨g16, 0, none⟩) : Value)) (fun ρ rc rf q16 => ?_)
                  exact makes_load ((hM.adds hC).loads_all (.head _) (ag_of rfl) (hHl.map _)) rfl q16 ⟨Adds.refl _, rfl⟩
                · refine showA_op 5 (by intro _ _ _; kernel_rfl) rfl rfl (fun c vals w hC hD => ?_)
                  have h3 : vals 3 = .agg (D.map B8).toArray := hD 3 rfl
                  have h4 : vals 4 = .agg (H.map B8).toArray := hD 4 rfl
                  clear hD
                  refine makes2 (x := .tmp 64) (X := Value.agg (D.map B8).toArray) (y := .tmp 65) (Y := Value.agg (H.map B8).toArray) ((by kernel_rfl : _ = vals 3).trans h3) ((by kernel_rfl : _ = vals 4).trans h4) (fun ρ rc rf q64 q65 => ?_)
                  clear h3 h4
                  exact makes_eql heqk rfl q64 q65 ⟨Adds.refl _, rfl⟩
                · refine showA_op 6 (by intro _ _ _; kernel_rfl) rfl rfl (fun c vals w hC hD => ?_)
                  have h5 : vals 5 = .bool true := hD 5 rfl
                  clear hD
                  refine makes1 (x := .tmp 66) (X := Value.bool true) ((by kernel_rfl : _ = vals 5).trans h5) (fun ρ rc rf q66 => ?_)
                  clear h5
                  exact makes_move (.inl rfl) q66 ⟨Adds.refl _, rfl⟩
                · refine showA_run 7 (by intro _ _ _; kernel_rfl) (j := 6) (want := true) rfl rfl rfl (by intro _ _; kernel_rfl) rfl (fun c vals w hC hD => ⟨hD 6 rfl, ?_⟩)
                  clear hD
                  refine makes1 (x := .tmp 13) (X := Value.slice (some ⟨g0, 0, none⟩) N cap2) (by kernel_rfl : _ = (Value.slice (some ⟨g0, 0, none⟩) N cap2 : Value)) (fun ρ rc rf q13 => ?_)
                  exact makes_move (.inl rfl) q13 ⟨Adds.refl _, rfl⟩
                · refine showA_run 8 (by intro _ _ _; kernel_rfl) (j := 6) (want := true) rfl rfl rfl (by intro _ _; kernel_rfl) rfl (fun c vals w hC hD => ⟨hD 6 rfl, ?_⟩)
                  clear hD
                  refine makes1 (x := .tmp 17) (X := Value.int .i64 ((i : Nat) : Int)) (by kernel_rfl : _ = (Value.int .i64 ((i : Nat) : Int) : Value)) (fun ρ rc rf q17 => ?_)
                  exact makes_move (.inl rfl) q17 ⟨Adds.refl _, rfl⟩
                · refine showA_run 9 (by intro _ _ _; kernel_rfl) (j := 6) (want := true) rfl rfl rfl (by intro _ _; kernel_rfl) rfl (fun c vals w hC hD => ⟨hD 6 rfl, ?_⟩)
                  have h7 : vals 7 = .slice (some ⟨g0, 0, none⟩) N cap2 := hD 7 rfl
                  have h8 : vals 8 = .int .i64 ((i : Nat) : Int) := hD 8 rfl
                  clear hD
                  refine makes2 (x := .tmp 68) (X := Value.slice (some ⟨g0, 0, none⟩) N cap2) (y := .tmp 69) (Y := Value.int .i64 ((i : Nat) : Int)) ((by kernel_rfl : _ = vals 7).trans h7) ((by kernel_rfl : _ = vals 8).trans h8) (fun ρ rc rf q68 q69 => ?_)
                  clear h7 h8
                  exact makes_index (us_of rfl) (el_of rfl) hkN rfl q68 q69 ⟨Adds.refl _, rfl⟩
                · refine showA_run 10 (by intro _ _ _; kernel_rfl) (j := 6) (want := true) rfl rfl rfl (by intro _ _; kernel_rfl) rfl (fun c vals w hC hD => ⟨hD 6 rfl, ?_⟩)
                  have h9 : vals 9 = .pointer (some ⟨g0, 0 + i * 1, none⟩) := hD 9 rfl
                  clear hD
                  refine makes1 (x := .tmp 70) (X := Value.pointer (some ⟨g0, 0 + i * 1, none⟩)) ((by kernel_rfl : _ = vals 9).trans h9) (fun ρ rc rf q70 => ?_)
                  clear h9
                  exact makes_load (hlsk _ hC) rfl q70 ⟨Adds.refl _, rfl⟩
                · refine showA_run 11 (by intro _ _ _; kernel_rfl) (j := 6) (want := true) rfl rfl rfl (by intro _ _; kernel_rfl) rfl (fun c vals w hC hD => ⟨hD 6 rfl, ?_⟩)
                  clear hD
                  refine makes1 (x := .tmp 13) (X := Value.slice (some ⟨g0, 0, none⟩) N cap2) (by kernel_rfl : _ = (Value.slice (some ⟨g0, 0, none⟩) N cap2 : Value)) (fun ρ rc rf q13 => ?_)
                  exact makes_move (.inl rfl) q13 ⟨Adds.refl _, rfl⟩
                · refine showA_run 12 (by intro _ _ _; kernel_rfl) (j := 6) (want := true) rfl rfl rfl (by intro _ _; kernel_rfl) rfl (fun c vals w hC hD => ⟨hD 6 rfl, ?_⟩)
                  clear hD
                  refine makes1 (x := .tmp 15) (X := Value.int .i64 ((j : Nat) : Int)) (by kernel_rfl : _ = (Value.int .i64 ((j : Nat) : Int) : Value)) (fun ρ rc rf q15 => ?_)
                  exact makes_move (.inl rfl) q15 ⟨Adds.refl _, rfl⟩
                · refine showA_run 13 (by intro _ _ _; kernel_rfl) (j := 6) (want := true) rfl rfl rfl (by intro _ _; kernel_rfl) rfl (fun c vals w hC hD => ⟨hD 6 rfl, ?_⟩)
                  have h11 : vals 11 = .slice (some ⟨g0, 0, none⟩) N cap2 := hD 11 rfl
                  have h12 : vals 12 = .int .i64 ((j : Nat) : Int) := hD 12 rfl
                  clear hD
                  refine makes2 (x := .tmp 72) (X := Value.slice (some ⟨g0, 0, none⟩) N cap2) (y := .tmp 73) (Y := Value.int .i64 ((j : Nat) : Int)) ((by kernel_rfl : _ = vals 11).trans h11) ((by kernel_rfl : _ = vals 12).trans h12) (fun ρ rc rf q72 q73 => ?_)
                  clear h11 h12
                  exact makes_index (us_of rfl) (el_of rfl) hlt rfl q72 q73 ⟨Adds.refl _, rfl⟩
                · refine showA_run 14 (by intro _ _ _; kernel_rfl) (j := 6) (want := true) rfl rfl rfl (by intro _ _; kernel_rfl) rfl (fun c vals w hC hD => ⟨hD 6 rfl, ?_⟩)
                  have h13 : vals 13 = .pointer (some ⟨g0, 0 + j * 1, none⟩) := hD 13 rfl
                  clear hD
                  refine makes1 (x := .tmp 74) (X := Value.pointer (some ⟨g0, 0 + j * 1, none⟩)) ((by kernel_rfl : _ = vals 13).trans h13) (fun ρ rc rf q74 => ?_)
                  clear h13
                  exact makes_load (hlsj _ hC) rfl q74 ⟨Adds.refl _, rfl⟩
                · refine showA_run 15 (by intro _ _ _; kernel_rfl) (j := 6) (want := true) rfl rfl rfl (by intro _ _; kernel_rfl) rfl (fun c vals w hC hD => ⟨hD 6 rfl, ?_⟩)
                  have h10 : vals 10 = .string ⟨Rk.toArray⟩ := hD 10 rfl
                  have h14 : vals 14 = .string ⟨r.toArray⟩ := hD 14 rfl
                  clear hD
                  refine makes2 (x := .tmp 71) (X := Value.string ⟨Rk.toArray⟩) (y := .tmp 75) (Y := Value.string ⟨r.toArray⟩) ((by kernel_rfl : _ = vals 10).trans h10) ((by kernel_rfl : _ = vals 14).trans h14) (fun ρ rc rf q71 q75 => ?_)
                  clear h10 h14
                  refine makes_value (v := Value.bool true) ?_ ⟨Adds.refl _, rfl⟩
                  go_simp
                  all_goals first | done | rfl | (rw [if_pos (by omega)]; refine congrArg (fun x => Result.ok (Next.value (Value.pointer (some ⟨_, x, none⟩))) _) ?_; omega) | (rw [wrapP_i64]; omega) | go_num | (simp; done) | (simp; omega) | (congr 1; first | rfl | (rw [wrapP_i64]; omega) | (congr 1; first | rfl | (simp; done) | (simp; omega) | (congr 2; omega) | go_num))
                · refine showA_op 16 (by intro _ _ _; kernel_rfl) rfl rfl (fun c vals w hC hD => ?_)
                  have h6 : vals 6 = .bool true := hD 6 rfl
                  have h15 : vals 15 = .bool true := hD 15 rfl
                  clear hD
                  refine makes2 (x := .tmp 67) (X := Value.bool true) (y := .tmp 76) (Y := Value.bool true) ((by kernel_rfl : _ = vals 6).trans h6) ((by kernel_rfl : _ = vals 15).trans h15) (fun ρ rc rf q67 q76 => ?_)
                  clear h6 h15
                  refine makes_value (v := Value.bool true) ?_ ⟨Adds.refl _, rfl⟩
                  go_simp
                  all_goals first | done | rfl | (rw [if_pos (by omega)]; refine congrArg (fun x => Result.ok (Next.value (Value.pointer (some ⟨_, x, none⟩))) _) ?_; omega) | (rw [wrapP_i64]; omega) | go_num | (simp; done) | (simp; omega) | (congr 1; first | rfl | (rw [wrapP_i64]; omega) | (congr 1; first | rfl | (simp; done) | (simp; omega) | (congr 2; omega) | go_num))
                intro vals w' hC hΦ hne
                have h16 : vals 16 = .bool true := hΦ 16 (by decide)
                clear hΦ hne
                simp only [List.getD_eq_getElem?_getD, List.getElem?_cons_zero, List.getElem?_cons_succ, Option.getD_some, List.drop_succ_cons, List.drop_zero]
                simp only [h16]
                clear h16
                try simp only [tuple_undef]
                replace hM := hM.adds hC
                clear hC
                go_wp2_with fail
                go_ret
                exact ⟨rfl, hM.done⟩
              · have hbn : (Rk != r) = false := by rw [bne, hbs]; rfl
                rw [hbn] at hpk1
                have hpn := hnokS hpk1
                clear hnokS hYi hpk1 hbn hnext hsnoc
                go_wp2_with fail
                try simp only [Act.put, List.setIfInBounds_toArray, List.set_cons_succ, List.set_cons_zero]
                refine wp_region_tail 17 (by decide) (fun c vals => ⟨#[c 0, c 1, c 2, c 3, c 4, c 5, c 6, c 7, c 8, c 9, c 10, c 11, c 12, (Value.slice (some ⟨g0, 0, none⟩) N cap2 : Value), (sl (some gh) j ch : Value), (Value.int .i64 ((j : Nat) : Int) : Value), (Value.pointer (some ⟨g16, 0, none⟩) : Value), (Value.int .i64 ((i : Nat) : Int) : Value), c 18, c 19, c 20, c 21, c 22, c 23, c 24, c 25, c 26, c 27, c 28, c 29, c 30, c 31, c 32, c 33, c 34, c 35, c 36, c 37, c 38, c 39, c 40, c 41, c 42, c 43, c 44, c 45, c 46, c 47, c 48, c 49, c 50, c 51, c 52, c 53, c 54, c 55, c 56, c 57, c 58, c 59, c 60, vals 0, vals 1, vals 2, vals 3, vals 4, vals 5, vals 6, vals 7, vals 8, vals 9, vals 10, vals 11, vals 12, vals 13, vals 14, vals 15, vals 16, c 78, c 79, c 80, c 81], []⟩) (fun t => [_, _, _, _, _, _, _, _, _, _, _, _, _, undef, undef, undef, undef, undef, _, _, _, _, _, _, _, _, _, _, _, _, _, _, _, _, _, _, _, _, _, _, _, _, _, _, _, _, _, _, _, _, _, _, _, _, _, _, _, _, _, _, _, undef, undef, undef, undef, undef, undef, undef, undef, undef, undef, undef, undef, undef, undef, undef, undef, undef, _, _, _, _].getD t undef) (fun i => [_, _, _, _, _, _, _, _, _, _, _, _, _, _, _, _, _].getD i undef) (by kernel_rfl)
                  [[], [], [0, 1], [0, 1, 2], [], [0, 1, 2, 3, 4], [0, 1, 2, 3, 4, 5], [0, 1, 2, 3, 4, 5, 6], [0, 1, 2, 3, 4, 5, 6], [0, 1, 2, 3, 4, 5, 6, 7, 8], [0, 1, 2, 3, 4, 5, 6, 7, 8, 9], [0, 1, 2, 3, 4, 5, 6], [0, 1, 2, 3, 4, 5, 6], [0, 1, 2, 3, 4, 5, 6, 11, 12], [0, 1, 2, 3, 4, 5, 6, 11, 12, 13], [0, 1, 2, 3, 4, 5, 6, 7, 8, 9, 10, 11, 12, 13, 14], [0, 1, 2, 3, 4, 5, 6, 7, 8, 9, 10, 11, 12, 13, 14, 15]] (by kernel_rfl) (by kernel_rfl) (fun _ => True) trivial
                  [fun x _ => x = (sl (some gh) j ch : Value),
                   fun x _ => x = (Value.int .i64 ((i : Nat) : Int) : Value),
                   fun x _ => x = (Value.pointer (some ⟨gh, 0 + i * 32, none⟩) : Value),
                   fun x _ => x = (Value.agg (D.map B8).toArray : Value),
                   fun x _ => x = (Value.agg (H.map B8).toArray : Value),
                   fun x _ => x = (Value.bool true : Value),
                   fun x _ => x = (Value.bool true : Value),
                   fun x _ => x = (Value.slice (some ⟨g0, 0, none⟩) N cap2 : Value),
                   fun x _ => x = (Value.int .i64 ((i : Nat) : Int) : Value),
                   fun x _ => x = (Value.pointer (some ⟨g0, 0 + i * 1, none⟩) : Value),
                   fun x _ => x = (Value.string ⟨Rk.toArray⟩ : Value),
                   fun x _ => x = (Value.slice (some ⟨g0, 0, none⟩) N cap2 : Value),
                   fun x _ => x = (Value.int .i64 ((j : Nat) : Int) : Value),
                   fun x _ => x = (Value.pointer (some ⟨g0, 0 + j * 1, none⟩) : Value),
                   fun x _ => x = (Value.string ⟨r.toArray⟩ : Value),
                   fun x _ => x = (Value.bool false : Value),
                   fun x _ => x = (Value.bool false : Value)]
                  ⟨fun _ _ _ h _ => h, fun _ _ _ h _ => h, fun _ _ _ h _ => h, fun _ _ _ h _ => h, fun _ _ _ h _ => h, fun _ _ _ h _ => h, fun _ _ _ h _ => h, fun _ _ _ h _ => h, fun _ _ _ h _ => h, fun _ _ _ h _ => h, fun _ _ _ h _ => h, fun _ _ _ h _ => h, fun _ _ _ h _ => h, fun _ _ _ h _ => h, fun _ _ _ h _ => h, fun _ _ _ h _ => h, fun _ _ _ h _ => h, trivial⟩ []
                  ⟨?_, ?_, ?_, ?_, ?_, ?_, ?_, ?_, ?_, ?_, ?_, ?_, ?_, ?_, ?_, ?_, ?_, trivial⟩ ?_
                · refine showA_op 0 (by intro _ _ _; kernel_rfl) rfl rfl (fun c vals w hC hD => ?_)
                  clear hD
                  refine makes1 (x := .tmp 14) (X := sl (some gh) j ch) (by kernel_rfl : _ = (sl (some gh) j ch : Value)) (fun ρ rc rf q14 => ?_)
                  exact makes_move (.inl rfl) q14 ⟨Adds.refl _, rfl⟩
                · refine showA_op 1 (by intro _ _ _; kernel_rfl) rfl rfl (fun c vals w hC hD => ?_)
                  clear hD
                  refine makes1 (x := .tmp 17) (X := Value.int .i64 ((i : Nat) : Int)) (by kernel_rfl : _ = (Value.int .i64 ((i : Nat) : Int) : Value)) (fun ρ rc rf q17 => ?_)
                  exact makes_move (.inl rfl) q17 ⟨Adds.refl _, rfl⟩
                · refine showA_op 2 (by intro _ _ _; kernel_rfl) rfl rfl (fun c vals w hC hD => ?_)
                  have h0 : vals 0 = sl (some gh) j ch := hD 0 rfl
                  have h1 : vals 1 = .int .i64 ((i : Nat) : Int) := hD 1 rfl
                  clear hD
                  refine makes2 (x := .tmp 61) (X := sl (some gh) j ch) (y := .tmp 62) (Y := Value.int .i64 ((i : Nat) : Int)) ((by kernel_rfl : _ = vals 0).trans h0) ((by kernel_rfl : _ = vals 1).trans h1) (fun ρ rc rf q61 q62 => ?_)
                  clear h0 h1
                  exact makes_index (us_of rfl) (el_of rfl) hki rfl q61 q62 ⟨Adds.refl _, rfl⟩
                · refine showA_op 3 (by intro _ _ _; kernel_rfl) rfl rfl (fun c vals w hC hD => ?_)
                  have h2 : vals 2 = .pointer (some ⟨gh, 0 + i * 32, none⟩) := hD 2 rfl
                  clear hD
                  refine makes1 (x := .tmp 63) (X := Value.pointer (some ⟨gh, 0 + i * 32, none⟩)) ((by kernel_rfl : _ = vals 2).trans h2) (fun ρ rc rf q63 => ?_)
                  clear h2
                  exact makes_load (hldk _ hC) rfl q63 ⟨Adds.refl _, rfl⟩
                · refine showA_op 4 (by intro _ _ _; kernel_rfl) rfl rfl (fun c vals w hC hD => ?_)
                  clear hD
                  refine makes1 (x := .tmp 16) (X := Value.pointer (some ⟨g16, 0, none⟩)) (by kernel_rfl : _ = (Value.pointer (some ⟨g16, 0, none⟩) : Value)) (fun ρ rc rf q16 => ?_)
                  exact makes_load ((hM.adds hC).loads_all (.head _) (ag_of rfl) (hHl.map _)) rfl q16 ⟨Adds.refl _, rfl⟩
                · refine showA_op 5 (by intro _ _ _; kernel_rfl) rfl rfl (fun c vals w hC hD => ?_)
                  have h3 : vals 3 = .agg (D.map B8).toArray := hD 3 rfl
                  have h4 : vals 4 = .agg (H.map B8).toArray := hD 4 rfl
                  clear hD
                  refine makes2 (x := .tmp 64) (X := Value.agg (D.map B8).toArray) (y := .tmp 65) (Y := Value.agg (H.map B8).toArray) ((by kernel_rfl : _ = vals 3).trans h3) ((by kernel_rfl : _ = vals 4).trans h4) (fun ρ rc rf q64 q65 => ?_)
                  clear h3 h4
                  exact makes_eql heqk rfl q64 q65 ⟨Adds.refl _, rfl⟩
                · refine showA_op 6 (by intro _ _ _; kernel_rfl) rfl rfl (fun c vals w hC hD => ?_)
                  have h5 : vals 5 = .bool true := hD 5 rfl
                  clear hD
                  refine makes1 (x := .tmp 66) (X := Value.bool true) ((by kernel_rfl : _ = vals 5).trans h5) (fun ρ rc rf q66 => ?_)
                  clear h5
                  exact makes_move (.inl rfl) q66 ⟨Adds.refl _, rfl⟩
                · refine showA_run 7 (by intro _ _ _; kernel_rfl) (j := 6) (want := true) rfl rfl rfl (by intro _ _; kernel_rfl) rfl (fun c vals w hC hD => ⟨hD 6 rfl, ?_⟩)
                  clear hD
                  refine makes1 (x := .tmp 13) (X := Value.slice (some ⟨g0, 0, none⟩) N cap2) (by kernel_rfl : _ = (Value.slice (some ⟨g0, 0, none⟩) N cap2 : Value)) (fun ρ rc rf q13 => ?_)
                  exact makes_move (.inl rfl) q13 ⟨Adds.refl _, rfl⟩
                · refine showA_run 8 (by intro _ _ _; kernel_rfl) (j := 6) (want := true) rfl rfl rfl (by intro _ _; kernel_rfl) rfl (fun c vals w hC hD => ⟨hD 6 rfl, ?_⟩)
                  clear hD
                  refine makes1 (x := .tmp 17) (X := Value.int .i64 ((i : Nat) : Int)) (by kernel_rfl : _ = (Value.int .i64 ((i : Nat) : Int) : Value)) (fun ρ rc rf q17 => ?_)
                  exact makes_move (.inl rfl) q17 ⟨Adds.refl _, rfl⟩
                · refine showA_run 9 (by intro _ _ _; kernel_rfl) (j := 6) (want := true) rfl rfl rfl (by intro _ _; kernel_rfl) rfl (fun c vals w hC hD => ⟨hD 6 rfl, ?_⟩)
                  have h7 : vals 7 = .slice (some ⟨g0, 0, none⟩) N cap2 := hD 7 rfl
                  have h8 : vals 8 = .int .i64 ((i : Nat) : Int) := hD 8 rfl
                  clear hD
                  refine makes2 (x := .tmp 68) (X := Value.slice (some ⟨g0, 0, none⟩) N cap2) (y := .tmp 69) (Y := Value.int .i64 ((i : Nat) : Int)) ((by kernel_rfl : _ = vals 7).trans h7) ((by kernel_rfl : _ = vals 8).trans h8) (fun ρ rc rf q68 q69 => ?_)
                  clear h7 h8
                  exact makes_index (us_of rfl) (el_of rfl) hkN rfl q68 q69 ⟨Adds.refl _, rfl⟩
                · refine showA_run 10 (by intro _ _ _; kernel_rfl) (j := 6) (want := true) rfl rfl rfl (by intro _ _; kernel_rfl) rfl (fun c vals w hC hD => ⟨hD 6 rfl, ?_⟩)
                  have h9 : vals 9 = .pointer (some ⟨g0, 0 + i * 1, none⟩) := hD 9 rfl
                  clear hD
                  refine makes1 (x := .tmp 70) (X := Value.pointer (some ⟨g0, 0 + i * 1, none⟩)) ((by kernel_rfl : _ = vals 9).trans h9) (fun ρ rc rf q70 => ?_)
                  clear h9
                  exact makes_load (hlsk _ hC) rfl q70 ⟨Adds.refl _, rfl⟩
                · refine showA_run 11 (by intro _ _ _; kernel_rfl) (j := 6) (want := true) rfl rfl rfl (by intro _ _; kernel_rfl) rfl (fun c vals w hC hD => ⟨hD 6 rfl, ?_⟩)
                  clear hD
                  refine makes1 (x := .tmp 13) (X := Value.slice (some ⟨g0, 0, none⟩) N cap2) (by kernel_rfl : _ = (Value.slice (some ⟨g0, 0, none⟩) N cap2 : Value)) (fun ρ rc rf q13 => ?_)
                  exact makes_move (.inl rfl) q13 ⟨Adds.refl _, rfl⟩
                · refine showA_run 12 (by intro _ _ _; kernel_rfl) (j := 6) (want := true) rfl rfl rfl (by intro _ _; kernel_rfl) rfl (fun c vals w hC hD => ⟨hD 6 rfl, ?_⟩)
                  clear hD
                  refine makes1 (x := .tmp 15) (X := Value.int .i64 ((j : Nat) : Int)) (by kernel_rfl : _ = (Value.int .i64 ((j : Nat) : Int) : Value)) (fun ρ rc rf q15 => ?_)
                  exact makes_move (.inl rfl) q15 ⟨Adds.refl _, rfl⟩
                · refine showA_run 13 (by intro _ _ _; kernel_rfl) (j := 6) (want := true) rfl rfl rfl (by intro _ _; kernel_rfl) rfl (fun c vals w hC hD => ⟨hD 6 rfl, ?_⟩)
                  have h11 : vals 11 = .slice (some ⟨g0, 0, none⟩) N cap2 := hD 11 rfl
                  have h12 : vals 12 = .int .i64 ((j : Nat) : Int) := hD 12 rfl
                  clear hD
                  refine makes2 (x := .tmp 72) (X := Value.slice (some ⟨g0, 0, none⟩) N cap2) (y := .tmp 73) (Y := Value.int .i64 ((j : Nat) : Int)) ((by kernel_rfl : _ = vals 11).trans h11) ((by kernel_rfl : _ = vals 12).trans h12) (fun ρ rc rf q72 q73 => ?_)
                  clear h11 h12
                  exact makes_index (us_of rfl) (el_of rfl) hlt rfl q72 q73 ⟨Adds.refl _, rfl⟩
                · refine showA_run 14 (by intro _ _ _; kernel_rfl) (j := 6) (want := true) rfl rfl rfl (by intro _ _; kernel_rfl) rfl (fun c vals w hC hD => ⟨hD 6 rfl, ?_⟩)
                  have h13 : vals 13 = .pointer (some ⟨g0, 0 + j * 1, none⟩) := hD 13 rfl
                  clear hD
                  refine makes1 (x := .tmp 74) (X := Value.pointer (some ⟨g0, 0 + j * 1, none⟩)) ((by kernel_rfl : _ = vals 13).trans h13) (fun ρ rc rf q74 => ?_)
                  clear h13
                  exact makes_load (hlsj _ hC) rfl q74 ⟨Adds.refl _, rfl⟩
                · refine showA_run 15 (by intro _ _ _; kernel_rfl) (j := 6) (want := true) rfl rfl rfl (by intro _ _; kernel_rfl) rfl (fun c vals w hC hD => ⟨hD 6 rfl, ?_⟩)
                  have h10 : vals 10 = .string ⟨Rk.toArray⟩ := hD 10 rfl
                  have h14 : vals 14 = .string ⟨r.toArray⟩ := hD 14 rfl
                  clear hD
                  refine makes2 (x := .tmp 71) (X := Value.string ⟨Rk.toArray⟩) (y := .tmp 75) (Y := Value.string ⟨r.toArray⟩) ((by kernel_rfl : _ = vals 10).trans h10) ((by kernel_rfl : _ = vals 14).trans h14) (fun ρ rc rf q71 q75 => ?_)
                  clear h10 h14
                  refine makes_value (v := Value.bool false) ?_ ⟨Adds.refl _, rfl⟩
                  go_simp
                  all_goals first | done | rfl | (rw [if_pos (by omega)]; refine congrArg (fun x => Result.ok (Next.value (Value.pointer (some ⟨_, x, none⟩))) _) ?_; omega) | (rw [wrapP_i64]; omega) | go_num | (simp; done) | (simp; omega) | (congr 1; first | rfl | (rw [wrapP_i64]; omega) | (congr 1; first | rfl | (simp; done) | (simp; omega) | (congr 2; omega) | go_num))
                · refine showA_op 16 (by intro _ _ _; kernel_rfl) rfl rfl (fun c vals w hC hD => ?_)
                  have h6 : vals 6 = .bool true := hD 6 rfl
                  have h15 : vals 15 = .bool false := hD 15 rfl
                  clear hD
                  refine makes2 (x := .tmp 67) (X := Value.bool true) (y := .tmp 76) (Y := Value.bool false) ((by kernel_rfl : _ = vals 6).trans h6) ((by kernel_rfl : _ = vals 15).trans h15) (fun ρ rc rf q67 q76 => ?_)
                  clear h6 h15
                  refine makes_value (v := Value.bool false) ?_ ⟨Adds.refl _, rfl⟩
                  go_simp
                  all_goals first | done | rfl | (rw [if_pos (by omega)]; refine congrArg (fun x => Result.ok (Next.value (Value.pointer (some ⟨_, x, none⟩))) _) ?_; omega) | (rw [wrapP_i64]; omega) | go_num | (simp; done) | (simp; omega) | (congr 1; first | rfl | (rw [wrapP_i64]; omega) | (congr 1; first | rfl | (simp; done) | (simp; omega) | (congr 2; omega) | go_num))
                intro vals w' hC hΦ hne
                have h16 : vals 16 = .bool false := hΦ 16 (by decide)
                clear hΦ hne
                simp only [List.getD_eq_getElem?_getD, List.getElem?_cons_zero, List.getElem?_cons_succ, Option.getD_some, List.drop_succ_cons, List.drop_zero]
                simp only [h16]
                clear h16
                try simp only [tuple_undef]
                replace hM := hM.adds hC
                clear hC
                go_wp2_with fail
                go_roundw
                case rel => exact ⟨i + 1, by omega, by go_num, hpn, hM⟩
                case measure => simp [intOf]; omega
          · have hie : i = j := by omega
            subst hie
            have hno2 := hnext hnok
            clear hnok hnext hpart hck hpair hYj hcj
            have hX : ∀ _ : Unit, hcells (P.take i) ++ H.map B8 = hcells (P.take (i + 1)) := hsnoc
            clear hsnoc
            go_wp2_with (first
              | ((with_reducible refine gL_load (dst := some 79) ?_); refine ⟨_, _, rfl, hM.loads_all (.head _) (ag_of rfl) (hHl.map _), ?_⟩)
              | ((with_reducible refine gL_buildSlice1 (dst := some 80) hM ?_); refine ⟨_, H.map B8, 32, _, _, (us_of rfl), (el_of rfl), (by decide), rfl, rfl, hHl.map _, ?_⟩; intro g80 _ hM2; clear hM; have hM := hM2; clear hM2)
              | (refine wpList_plain rfl fun K hk => ?_; refine hM.wp_append (size := 32) (C := hcells (P.take i)) (N := ch * 32) (n := i) (cap := ch) (m := 1) (news := H.map B8) (ob := oh) (L' := fun ob' cap3 => [_, _, ⟨ob', 24, hcells (P.take i) ++ H.map B8, cap3 * 32⟩, _, _]) rfl rfl (us_of rfl) (el_of rfl) (fun _ _ => .there _ (.there _ (.here _ _ _))) rfl (HHL.out ()) hch rfl (hM.src (.head _)) (by rw [List.length_map, hHl.eq]) B8_one (by simp only [maxLen]; omega) (by omega) ?_; intro oh2 ch2 w9 hM2 hd3 hd4; clear hM; have hM := hM2; clear hM2; refine hk _ _ ?_; clear hk))
            have hM1 := hM.drop.drop
            rw [hX ()] at hM1
            go_roundw
            case rel => exact ⟨i + 1, oh2, ch2, by omega, by go_num, rfl, hd4, hno2, hM1⟩
            case measure => simp [intOf]; omega
      · have hje : j = N := by omega
        subst hje
        have hzf := HN hno
        subst hzf
        clear HY HN hno hsm
        go_wp2_with fail
        go_ret
        exact ⟨rfl, hM.done⟩
end Go.Proofs.Ytejmbkljnhnklaa
