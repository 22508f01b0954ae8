/-
  A drawn region's operations: an element's address in a slice, whatever its size; parts of rows.
  The walk of the reference's Same.
  What a script keeps: objects, each of its own block, told by a list of states; rows of bytes, each made once, never written again.
  An append as what it makes of its operands.
  Scripts of steps (a kind, a number, bytes): what their cells say; how many bytes there are; objects and kept rows, brought forward and put back.
  Scripts over objects: the rows of their pointers and of their kept rows of bytes, the objects, the pool; what one step does to them; a slice's push of one element.
  A region that draws its order, in which some operations write what others have made: a fact ends where the operation comes that it is told for.
  What law 16's steps want: a book's blocks, a step's cells, what a call made beside what is owned.
  What law 16's script wants: the books, brought forward and put back; a step of the script.
-/
import Derived.Test.YtejmbkljnhnklaaPi
import Derived.Test.YtejmbkljnhnklaaPh
import Derived.Test.YtejmbkljnhnklaaPb
import Derived.Test.YtejmbkljnhnklaaPa
namespace Go.PK
open Go.RowKit
section
variable {P : Program} {o : Oper} {w : World} {R : Value → World → Prop} {ρ : Operand → Value}
theorem run_indexAt {t e size bytes b off n cap j : Nat} (hu : P.underlying t = some (.slice e)) (hel : El P e size bytes) (hj : j < n) :
    (Instr.indexAt t (.slice (some ⟨b, off, none⟩) n cap) (.int .i64 (j : Int))).run P w = .ok (.pointer (some ⟨b, off + j * size, none⟩)) w := by
  obtain ⟨z, hinfo, -, -⟩ := hel
  obtain ⟨i, hi, -, hsize, -⟩ := info_parts hinfo
  simp [Instr.indexAt, run_underlying hu, sizeOf, typeInfo, hi, hsize, Addr.add, asIntOf]
  rw [if_pos (by omega)]
  by_cases h0 : j * size = 0
  · rw [if_pos h0, h0]
    rfl
  · rw [if_neg h0]
theorem makes_index {t e size bytes b off n cap j : Nat} {x y : Operand} (hu : P.underlying t = some (.slice e)) (hel : El P e size bytes) (hj : j < n) (ho : o.op = .indexAddr t x y) (hx : ρ x = .slice (some ⟨b, off, none⟩) n cap) (hy : ρ y = .int .i64 (j : Int))
    (hR : R (.pointer (some ⟨b, off + j * size, none⟩)) w) : Makes P ρ o w R := by
  refine makes_value ?_ hR
  unfold execOp
  simp only [ho, hx, hy, Sem.run_bind, Sem.run_pure, Result.andThen_ok, run_indexAt hu hel hj]
end
end Go.PK

namespace Go.Proofs.Ytejmbkljnhnklaa
open Go.RowKit Go.PK
/-- an event of a slice, its parts read alone -/
theorem ev_parts {w : World} {ao : Option Addr} {l : List Ev} (h : Elems rEv w ao l) {k : Nat} (hk : k < l.length) :
    ∃ b off e, ao = some ⟨b, off, none⟩ ∧ l[k]? = some e ∧ Len e.1 32 ∧ ∀ w', Adds w w' → Loads Try.prog w' 24 ⟨b, off + k * 33, none⟩ (.agg (e.1.map B8).toArray) ∧ Loads Try.prog w' 62 ⟨b, off + k * 33 + 32, none⟩ (.int .i64 e.2) := by
  obtain ⟨b, off, g1, g2, cells, g3, g4⟩ := h k _ (List.getElem?_eq_getElem hk)
  obtain ⟨rfl, hl⟩ := ev_K g3
  refine ⟨b, off, _, g1, List.getElem?_eq_getElem hk, hl, fun w' ha => ⟨loads_agg (n := 32) (ag_of rfl) (hl.map _) fun j v hv => ?_, loads_cell ?_ (on_of rfl)⟩⟩
  · have hj : j < 32 := by
      have := (List.getElem?_eq_some_iff.1 hv).1
      rwa [(hl.map B8).eq] at this
    rw [Addr.add_lit, Nat.add_assoc, cell_below ha (by exact g2)]
    refine (g4 j (by show j < 33; omega)).trans ?_
    rw [evC, List.getElem?_append_left (by rw [(hl.map B8).eq]; exact hj), hv]
  · rw [Nat.add_assoc, cell_below ha (by exact g2)]
    refine (g4 32 (by decide)).trans ?_
    rw [evC, List.getElem?_append_right (by rw [(hl.map B8).eq]; exact Nat.le_refl _), (hl.map B8).eq]
    rfl
set_option maxRecDepth 100000 in
set_option maxHeartbeats 4000000 in
theorem ref16_Same (w0 : World) (ao : Option Addr) (cap : Nat) (l : List Ev) (hE : Elems rEv w0 ao l) (hlen : l.length ≤ 140737488355000) (ap : Option Addr) (cap2 : Nat) (l2 : List Ev) (hE2 : Elems rEv w0 ap l2) (z : Bool) (hz : (l == l2) = z) :
    Calls Try.prog 39 #[.slice ao l.length cap, .slice ap l2.length cap2] w0 fun x w' => x = .returned (.bool z) ∧ Below w0.heap.size w0 w' := by
  have hat : ∀ w, Adds w0 w → ∀ k, k < l.length → _ := fun w hw k hk => ev_at (hE.adds hw) (k := k) hk
  have hat2 : ∀ w, Adds w0 w → ∀ k, k < l2.length → _ := fun w hw k hk => ev_at (hE2.adds hw) (k := k) hk
  have hM := Mem.start w0
  by_cases hne : l.length = l2.length
  · have hp := fun k hk => ev_parts hE (k := k) hk
    have hp2 := fun k hk => ev_parts hE2 (k := k) hk
    obtain ⟨n, hn⟩ : ∃ n, n = l.length := ⟨_, rfl⟩
    rw [← hne, ← hn] at hp2
    rw [← hn] at hp
    have HZ : (∀ k : Nat, k < n → l[k]? = l2[k]?) → z = true := fun h => by
      rw [← hz, beq_iff_eq]
      refine List.ext_getElem? fun k => ?_
      by_cases hk : k < n
      · exact h k hk
      · rw [List.getElem?_eq_none (by omega), List.getElem?_eq_none (by omega)]
    have HN : ∀ k : Nat, l[k]? ≠ l2[k]? → z = false := fun k h => by
      rw [← hz]
      cases hb : l == l2 with
      | false => rfl
      | true => exact absurd (by rw [eq_of_beq hb]) h
    rw [← hne, ← hn]
    clear hz hat hat2 hE hE2
    rw [← hn] at hlen
    clear hne hn
    go_enter Try.func39, Try.ntmps39
    go_wp2_with fail
    go_loopw [5] (fun i wr => ∃ (j : Nat), j ≤ n ∧ (∀ k : Nat, k < j → l[k]? = l2[k]?) ∧ i = .int .i64 j ∧ Mem [] w0 wr []) (fun i _ => n - (intOf i).toNat)
    case atStart => exact ⟨0, by omega, (fun k hk => by omega), rfl, hM⟩
    case round =>
      clear hM
      obtain ⟨j, hj, hyes, rfl, hM⟩ := hrel
      by_cases hlt : j < n
      · have hti : (j : Int) < (n : Int) := by omega
        obtain ⟨b1, o1, e, rfl, hje, hel, hld⟩ := hp j hlt
        obtain ⟨b2, o2, f, rfl, hjf, hfl, hlf⟩ := hp2 j hlt
        have heq := hash_eq e.1 f.1 hel hfl
        cases hbd : (e.1 == f.1)
        · rw [hbd] at heq
          clear hp hp2
          go_wp2_with fail
          try simp only [Act.put, List.setIfInBounds_toArray, List.set_cons_succ, List.set_cons_zero]
          refine wp_region_tail 24 (by decide) (fun c vals => ⟨#[(Value.slice (some ⟨b1, o1, none⟩) n cap : Value), (Value.slice (some ⟨b2, o2, none⟩) n cap2 : Value), c 2, c 3, c 4, (Value.int .i64 ((j : Nat) : Int) : Value), c 6, c 7, c 8, c 9, c 10, c 11, c 12, c 13, c 14, c 15, c 16, vals 0, vals 1, vals 2, vals 3, vals 4, vals 5, vals 6, vals 7, vals 8, vals 9, vals 10, vals 11, vals 12, vals 13, vals 14, vals 15, vals 16, vals 17, vals 18, vals 19, vals 20, vals 21, vals 22, vals 23], []⟩) (fun t => [undef, undef, _, _, _, undef, _, _, _, _, _, _, _, _, _, _, _, undef, undef, undef, undef, undef, undef, undef, undef, undef, undef, undef, undef, undef, undef, undef, undef, undef, undef, undef, undef, undef, undef, undef, undef].getD t undef) (fun i => [_, _, _, _, _, _, _, _, _, _, _, _, _, _, _, _, _, _, _, _, _, _, _, _].getD i undef) (by kernel_rfl)
            [[], [], [0, 1], [0, 1, 2], [0, 1, 2, 3], [], [], [5, 6], [5, 6, 7], [5, 6, 7, 8], [0, 1, 2, 3, 4, 5, 6, 7, 8, 9], [0, 1, 2, 3, 4, 5, 6, 7, 8, 9, 10], [0, 1, 2, 3, 4, 5, 6, 7, 8, 9, 10, 11], [0, 1, 2, 3, 4, 5, 6, 7, 8, 9, 10, 11], [0, 1, 2, 3, 4, 5, 6, 7, 8, 9, 10, 11, 12, 13], [0, 1, 2, 3, 4, 5, 6, 7, 8, 9, 10, 11, 12, 13, 14], [0, 1, 2, 3, 4, 5, 6, 7, 8, 9, 10, 11, 12, 13, 14, 15], [0, 1, 2, 3, 4, 5, 6, 7, 8, 9, 10, 11], [0, 1, 2, 3, 4, 5, 6, 7, 8, 9, 10, 11], [0, 1, 2, 3, 4, 5, 6, 7, 8, 9, 10, 11, 17, 18], [0, 1, 2, 3, 4, 5, 6, 7, 8, 9, 10, 11, 17, 18, 19], [0, 1, 2, 3, 4, 5, 6, 7, 8, 9, 10, 11, 17, 18, 19, 20], [0, 1, 2, 3, 4, 5, 6, 7, 8, 9, 10, 11, 12, 13, 14, 15, 16, 17, 18, 19, 20, 21], [0, 1, 2, 3, 4, 5, 6, 7, 8, 9, 10, 11, 12, 13, 14, 15, 16, 17, 18, 19, 20, 21, 22]] (by kernel_rfl) (by kernel_rfl) (fun _ => True) trivial
            [fun x _ => x = (Value.slice (some ⟨b1, o1, none⟩) n cap : Value),
             fun x _ => x = (Value.int .i64 ((j : Nat) : Int) : Value),
             fun x _ => x = (Value.pointer (some ⟨b1, o1 + j * 33, none⟩) : Value),
             fun x _ => x = (Value.pointer (some ⟨b1, o1 + j * 33, none⟩) : Value),
             fun x _ => x = (Value.agg (e.1.map B8).toArray : Value),
             fun x _ => x = (Value.slice (some ⟨b2, o2, none⟩) n cap2 : Value),
             fun x _ => x = (Value.int .i64 ((j : Nat) : Int) : Value),
             fun x _ => x = (Value.pointer (some ⟨b2, o2 + j * 33, none⟩) : Value),
             fun x _ => x = (Value.pointer (some ⟨b2, o2 + j * 33, none⟩) : Value),
             fun x _ => x = (Value.agg (f.1.map B8).toArray : Value),
             fun x _ => x = (Value.bool true : Value),
             fun x _ => x = (Value.bool true : Value),
             fun x _ => x = (undef : Value),
             fun x _ => x = (undef : Value),
             fun x _ => x = (undef : Value),
             fun x _ => x = (undef : Value),
             fun x _ => x = (undef : Value),
             fun x _ => x = (undef : Value),
             fun x _ => x = (undef : Value),
             fun x _ => x = (undef : Value),
             fun x _ => x = (undef : Value),
             fun x _ => x = (undef : Value),
             fun x _ => x = (undef : Value),
             fun x _ => x = ((Value.bool true) : Value)]
            ⟨fun _ _ _ h _ => h, fun _ _ _ h _ => h, fun _ _ _ h _ => h, fun _ _ _ h _ => h, fun _ _ _ h _ => h, fun _ _ _ h _ => h, fun _ _ _ h _ => h, fun _ _ _ h _ => h, fun _ _ _ h _ => h, fun _ _ _ h _ => h, fun _ _ _ h _ => h, fun _ _ _ h _ => h, fun _ _ _ h _ => h, fun _ _ _ h _ => h, fun _ _ _ h _ => h, fun _ _ _ h _ => h, fun _ _ _ h _ => h, fun _ _ _ h _ => h, fun _ _ _ h _ => h, fun _ _ _ h _ => h, fun _ _ _ h _ => h, fun _ _ _ h _ => h, fun _ _ _ h _ => h, fun _ _ _ h _ => h, trivial⟩ []
            ⟨?_, ?_, ?_, ?_, ?_, ?_, ?_, ?_, ?_, ?_, ?_, ?_, ?_, ?_, ?_, ?_, ?_, ?_, ?_, ?_, ?_, ?_, ?_, ?_, trivial⟩ ?_
          · refine showA_op 0 (by intro _ _ _; kernel_rfl) rfl rfl (fun c vals w hC hD => ?_)
            clear hD
            refine makes1 (x := .tmp 0) (X := Value.slice (some ⟨b1, o1, none⟩) n cap) (by kernel_rfl : _ = (Value.slice (some ⟨b1, o1, none⟩) n cap : Value)) (fun ρ rc rf q0 => ?_)
            exact makes_move (.inl rfl) q0 ⟨Adds.refl _, rfl⟩
          · refine showA_op 1 (by intro _ _ _; kernel_rfl) rfl rfl (fun c vals w hC hD => ?_)
            clear hD
            refine makes1 (x := .tmp 5) (X := Value.int .i64 ((j : Nat) : Int)) (by kernel_rfl : _ = (Value.int .i64 ((j : Nat) : Int) : Value)) (fun ρ rc rf q5 => ?_)
            exact makes_move (.inl rfl) q5 ⟨Adds.refl _, rfl⟩
          · refine showA_op 2 (by intro _ _ _; kernel_rfl) rfl rfl (fun c vals w hC hD => ?_)
            have h0 : vals 0 = .slice (some ⟨b1, o1, none⟩) n cap := hD 0 rfl
            have h1 : vals 1 = .int .i64 ((j : Nat) : Int) := hD 1 rfl
            clear hD
            refine makes2 (x := .tmp 17) (X := Value.slice (some ⟨b1, o1, none⟩) n cap) (y := .tmp 18) (Y := Value.int .i64 ((j : Nat) : Int)) ((by kernel_rfl : _ = vals 0).trans h0) ((by kernel_rfl : _ = vals 1).trans h1) (fun ρ rc rf q17 q18 => ?_)
            clear h0 h1
            exact makes_index (us_of rfl) (el_of rfl) hlt rfl q17 q18 ⟨Adds.refl _, rfl⟩
          · refine showA_op 3 (by intro _ _ _; kernel_rfl) rfl rfl (fun c vals w hC hD => ?_)
            have h2 : vals 2 = .pointer (some ⟨b1, o1 + j * 33, none⟩) := hD 2 rfl
            clear hD
            refine makes1 (x := .tmp 19) (X := Value.pointer (some ⟨b1, o1 + j * 33, none⟩)) ((by kernel_rfl : _ = vals 2).trans h2) (fun ρ rc rf q19 => ?_)
            clear h2
            refine makes_value (v := Value.pointer (some ⟨b1, o1 + j * 33, none⟩)) ?_ ⟨Adds.refl _, rfl⟩
            go_simp
            all_goals first | done | rfl | (rw [if_pos (by omega)]; refine congrArg (fun x => Result.ok (Next.value (Value.pointer (some ⟨_, x, none⟩))) _) ?_; omega) | (rw [wrapP_i64]; omega) | go_num | (simp; done) | (simp; omega) | (congr 1; first | rfl | (rw [wrapP_i64]; omega) | (congr 1; first | rfl | (simp; done) | (simp; omega) | (congr 2; omega) | go_num))
          · refine showA_op 4 (by intro _ _ _; kernel_rfl) rfl rfl (fun c vals w hC hD => ?_)
            have h3 : vals 3 = .pointer (some ⟨b1, o1 + j * 33, none⟩) := hD 3 rfl
            clear hD
            refine makes1 (x := .tmp 20) (X := Value.pointer (some ⟨b1, o1 + j * 33, none⟩)) ((by kernel_rfl : _ = vals 3).trans h3) (fun ρ rc rf q20 => ?_)
            clear h3
            exact makes_load ((hld _ (hM.adds hC).done).1) rfl q20 ⟨Adds.refl _, rfl⟩
          · refine showA_op 5 (by intro _ _ _; kernel_rfl) rfl rfl (fun c vals w hC hD => ?_)
            clear hD
            refine makes1 (x := .tmp 1) (X := Value.slice (some ⟨b2, o2, none⟩) n cap2) (by kernel_rfl : _ = (Value.slice (some ⟨b2, o2, none⟩) n cap2 : Value)) (fun ρ rc rf q1 => ?_)
            exact makes_move (.inl rfl) q1 ⟨Adds.refl _, rfl⟩
          · refine showA_op 6 (by intro _ _ _; kernel_rfl) rfl rfl (fun c vals w hC hD => ?_)
            clear hD
            refine makes1 (x := .tmp 5) (X := Value.int .i64 ((j : Nat) : Int)) (by kernel_rfl : _ = (Value.int .i64 ((j : Nat) : Int) : Value)) (fun ρ rc rf q5 => ?_)
            exact makes_move (.inl rfl) q5 ⟨Adds.refl _, rfl⟩
          · refine showA_op 7 (by intro _ _ _; kernel_rfl) rfl rfl (fun c vals w hC hD => ?_)
            have h5 : vals 5 = .slice (some ⟨b2, o2, none⟩) n cap2 := hD 5 rfl
            have h6 : vals 6 = .int .i64 ((j : Nat) : Int) := hD 6 rfl
            clear hD
            refine makes2 (x := .tmp 22) (X := Value.slice (some ⟨b2, o2, none⟩) n cap2) (y := .tmp 23) (Y := Value.int .i64 ((j : Nat) : Int)) ((by kernel_rfl : _ = vals 5).trans h5) ((by kernel_rfl : _ = vals 6).trans h6) (fun ρ rc rf q22 q23 => ?_)
            clear h5 h6
            exact makes_index (us_of rfl) (el_of rfl) hlt rfl q22 q23 ⟨Adds.refl _, rfl⟩
          · refine showA_op 8 (by intro _ _ _; kernel_rfl) rfl rfl (fun c vals w hC hD => ?_)
            have h7 : vals 7 = .pointer (some ⟨b2, o2 + j * 33, none⟩) := hD 7 rfl
            clear hD
            refine makes1 (x := .tmp 24) (X := Value.pointer (some ⟨b2, o2 + j * 33, none⟩)) ((by kernel_rfl : _ = vals 7).trans h7) (fun ρ rc rf q24 => ?_)
            clear h7
            refine makes_value (v := Value.pointer (some ⟨b2, o2 + j * 33, none⟩)) ?_ ⟨Adds.refl _, rfl⟩
            go_simp
            all_goals first | done | rfl | (rw [if_pos (by omega)]; refine congrArg (fun x => Result.ok (Next.value (Value.pointer (some ⟨_, x, none⟩))) _) ?_; omega) | (rw [wrapP_i64]; omega) | go_num | (simp; done) | (simp; omega) | (congr 1; first | rfl | (rw [wrapP_i64]; omega) | (congr 1; first | rfl | (simp; done) | (simp; omega) | (congr 2; omega) | go_num))
          · refine showA_op 9 (by intro _ _ _; kernel_rfl) rfl rfl (fun c vals w hC hD => ?_)
            have h8 : vals 8 = .pointer (some ⟨b2, o2 + j * 33, none⟩) := hD 8 rfl
            clear hD
            refine makes1 (x := .tmp 25) (X := Value.pointer (some ⟨b2, o2 + j * 33, none⟩)) ((by kernel_rfl : _ = vals 8).trans h8) (fun ρ rc rf q25 => ?_)
            clear h8
            exact makes_load ((hlf _ (hM.adds hC).done).1) rfl q25 ⟨Adds.refl _, rfl⟩
          · refine showA_op 10 (by intro _ _ _; kernel_rfl) rfl rfl (fun c vals w hC hD => ?_)
            have h4 : vals 4 = .agg (e.1.map B8).toArray := hD 4 rfl
            have h9 : vals 9 = .agg (f.1.map B8).toArray := hD 9 rfl
            clear hD
            refine makes2 (x := .tmp 21) (X := Value.agg (e.1.map B8).toArray) (y := .tmp 26) (Y := Value.agg (f.1.map B8).toArray) ((by kernel_rfl : _ = vals 4).trans h4) ((by kernel_rfl : _ = vals 9).trans h9) (fun ρ rc rf q21 q26 => ?_)
            clear h4 h9
            exact makes_neq heq rfl q21 q26 ⟨Adds.refl _, rfl⟩
          · refine showA_op 11 (by intro _ _ _; kernel_rfl) rfl rfl (fun c vals w hC hD => ?_)
            have h10 : vals 10 = .bool true := hD 10 rfl
            clear hD
            refine makes1 (x := .tmp 27) (X := Value.bool true) ((by kernel_rfl : _ = vals 10).trans h10) (fun ρ rc rf q27 => ?_)
            clear h10
            exact makes_move (.inl rfl) q27 ⟨Adds.refl _, rfl⟩
          · refine showA_not 12 (by intro _ _ _; kernel_rfl) (j := 11) (want := false) rfl rfl rfl (by intro _ _; kernel_rfl) rfl (fun vals w hC hD => ⟨hD 11 rfl, rfl⟩)
          · refine showA_not 13 (by intro _ _ _; kernel_rfl) (j := 11) (want := false) rfl rfl rfl (by intro _ _; kernel_rfl) rfl (fun vals w hC hD => ⟨hD 11 rfl, rfl⟩)
          · refine showA_not 14 (by intro _ _ _; kernel_rfl) (j := 11) (want := false) rfl rfl rfl (by intro _ _; kernel_rfl) rfl (fun vals w hC hD => ⟨hD 11 rfl, rfl⟩)
          · refine showA_not 15 (by intro _ _ _; kernel_rfl) (j := 11) (want := false) rfl rfl rfl (by intro _ _; kernel_rfl) rfl (fun vals w hC hD => ⟨hD 11 rfl, rfl⟩)
          · refine showA_not 16 (by intro _ _ _; kernel_rfl) (j := 11) (want := false) rfl rfl rfl (by intro _ _; kernel_rfl) rfl (fun vals w hC hD => ⟨hD 11 rfl, rfl⟩)
          · refine showA_not 17 (by intro _ _ _; kernel_rfl) (j := 11) (want := false) rfl rfl rfl (by intro _ _; kernel_rfl) rfl (fun vals w hC hD => ⟨hD 11 rfl, rfl⟩)
          · refine showA_not 18 (by intro _ _ _; kernel_rfl) (j := 11) (want := false) rfl rfl rfl (by intro _ _; kernel_rfl) rfl (fun vals w hC hD => ⟨hD 11 rfl, rfl⟩)
          · refine showA_not 19 (by intro _ _ _; kernel_rfl) (j := 11) (want := false) rfl rfl rfl (by intro _ _; kernel_rfl) rfl (fun vals w hC hD => ⟨hD 11 rfl, rfl⟩)
          · refine showA_not 20 (by intro _ _ _; kernel_rfl) (j := 11) (want := false) rfl rfl rfl (by intro _ _; kernel_rfl) rfl (fun vals w hC hD => ⟨hD 11 rfl, rfl⟩)
          · refine showA_not 21 (by intro _ _ _; kernel_rfl) (j := 11) (want := false) rfl rfl rfl (by intro _ _; kernel_rfl) rfl (fun vals w hC hD => ⟨hD 11 rfl, rfl⟩)
          · refine showA_not 22 (by intro _ _ _; kernel_rfl) (j := 11) (want := false) rfl rfl rfl (by intro _ _; kernel_rfl) rfl (fun vals w hC hD => ⟨hD 11 rfl, rfl⟩)
          · refine showA_op 23 (by intro _ _ _; kernel_rfl) rfl rfl (fun c vals w hC hD => ?_)
            have h11 : vals 11 = .bool true := hD 11 rfl
            have h22 : vals 22 = undef := hD 22 rfl
            clear hD
            refine makes2 (x := .tmp 28) (X := Value.bool true) (y := .tmp 39) (Y := undef) ((by kernel_rfl : _ = vals 11).trans h11) ((by kernel_rfl : _ = vals 22).trans h22) (fun ρ rc rf q28 q39 => ?_)
            clear h11 h22
            refine makes_value (v := (Value.bool true)) ?_ ⟨Adds.refl _, rfl⟩
            go_simp
            all_goals first | done | rfl | (rw [if_pos (by omega)]; refine congrArg (fun x => Result.ok (Next.value (Value.pointer (some ⟨_, x, none⟩))) _) ?_; omega) | (rw [wrapP_i64]; omega) | go_num | (simp; done) | (simp; omega) | (congr 1; first | rfl | (rw [wrapP_i64]; omega) | (congr 1; first | rfl | (simp; done) | (simp; omega) | (congr 2; omega) | go_num))
          intro vals w' hC hΦ hne
          have h23 : vals 23 = (Value.bool true) := hΦ 23 (by decide)
          clear hΦ hne
          simp only [List.getD_eq_getElem?_getD, List.getElem?_cons_zero, List.getElem?_cons_succ, Option.getD_some, List.drop_succ_cons, List.drop_zero]
          simp only [h23]
          clear h23
          try simp only [tuple_undef]
          replace hM := hM.adds hC
          clear hC
          have hzf := HN j (by rw [hje, hjf]; intro h; cases h; simp at hbd)
          subst hzf
          go_wp2_with fail
          go_ret
          exact ⟨rfl, hM.done⟩
        · rw [hbd] at heq
          clear hp hp2
          obtain ⟨ed, en⟩ := e
          obtain ⟨fd, fn⟩ := f
          simp only at hbd heq hld hlf
          by_cases hen : en = fn
          · subst hen
            go_wp2_with fail
            try simp only [Act.put, List.setIfInBounds_toArray, List.set_cons_succ, List.set_cons_zero]
            refine wp_region_tail 24 (by decide) (fun c vals => ⟨#[(Value.slice (some ⟨b1, o1, none⟩) n cap : Value), (Value.slice (some ⟨b2, o2, none⟩) n cap2 : Value), c 2, c 3, c 4, (Value.int .i64 ((j : Nat) : Int) : Value), c 6, c 7, c 8, c 9, c 10, c 11, c 12, c 13, c 14, c 15, c 16, vals 0, vals 1, vals 2, vals 3, vals 4, vals 5, vals 6, vals 7, vals 8, vals 9, vals 10, vals 11, vals 12, vals 13, vals 14, vals 15, vals 16, vals 17, vals 18, vals 19, vals 20, vals 21, vals 22, vals 23], []⟩) (fun t => [undef, undef, _, _, _, undef, _, _, _, _, _, _, _, _, _, _, _, undef, undef, undef, undef, undef, undef, undef, undef, undef, undef, undef, undef, undef, undef, undef, undef, undef, undef, undef, undef, undef, undef, undef, undef].getD t undef) (fun i => [_, _, _, _, _, _, _, _, _, _, _, _, _, _, _, _, _, _, _, _, _, _, _, _].getD i undef) (by kernel_rfl)
              [[], [], [0, 1], [0, 1, 2], [0, 1, 2, 3], [], [], [5, 6], [5, 6, 7], [5, 6, 7, 8], [0, 1, 2, 3, 4, 5, 6, 7, 8, 9], [0, 1, 2, 3, 4, 5, 6, 7, 8, 9, 10], [0, 1, 2, 3, 4, 5, 6, 7, 8, 9, 10, 11], [0, 1, 2, 3, 4, 5, 6, 7, 8, 9, 10, 11], [0, 1, 2, 3, 4, 5, 6, 7, 8, 9, 10, 11, 12, 13], [0, 1, 2, 3, 4, 5, 6, 7, 8, 9, 10, 11, 12, 13, 14], [0, 1, 2, 3, 4, 5, 6, 7, 8, 9, 10, 11, 12, 13, 14, 15], [0, 1, 2, 3, 4, 5, 6, 7, 8, 9, 10, 11], [0, 1, 2, 3, 4, 5, 6, 7, 8, 9, 10, 11], [0, 1, 2, 3, 4, 5, 6, 7, 8, 9, 10, 11, 17, 18], [0, 1, 2, 3, 4, 5, 6, 7, 8, 9, 10, 11, 17, 18, 19], [0, 1, 2, 3, 4, 5, 6, 7, 8, 9, 10, 11, 17, 18, 19, 20], [0, 1, 2, 3, 4, 5, 6, 7, 8, 9, 10, 11, 12, 13, 14, 15, 16, 17, 18, 19, 20, 21], [0, 1, 2, 3, 4, 5, 6, 7, 8, 9, 10, 11, 12, 13, 14, 15, 16, 17, 18, 19, 20, 21, 22]] (by kernel_rfl) (by kernel_rfl) (fun _ => True) trivial
              [fun x _ => x = (Value.slice (some ⟨b1, o1, none⟩) n cap : Value),
               fun x _ => x = (Value.int .i64 ((j : Nat) : Int) : Value),
               fun x _ => x = (Value.pointer (some ⟨b1, o1 + j * 33, none⟩) : Value),
               fun x _ => x = (Value.pointer (some ⟨b1, o1 + j * 33, none⟩) : Value),
               fun x _ => x = (Value.agg (ed.map B8).toArray : Value),
               fun x _ => x = (Value.slice (some ⟨b2, o2, none⟩) n cap2 : Value),
               fun x _ => x = (Value.int .i64 ((j : Nat) : Int) : Value),
               fun x _ => x = (Value.pointer (some ⟨b2, o2 + j * 33, none⟩) : Value),
               fun x _ => x = (Value.pointer (some ⟨b2, o2 + j * 33, none⟩) : Value),
               fun x _ => x = (Value.agg (fd.map B8).toArray : Value),
               fun x _ => x = (Value.bool false : Value),
               fun x _ => x = (Value.bool false : Value),
               fun x _ => x = (Value.slice (some ⟨b1, o1, none⟩) n cap : Value),
               fun x _ => x = (Value.int .i64 ((j : Nat) : Int) : Value),
               fun x _ => x = (Value.pointer (some ⟨b1, o1 + j * 33, none⟩) : Value),
               fun x _ => x = (Value.pointer (some ⟨b1, o1 + j * 33 + 32, none⟩) : Value),
               fun x _ => x = (Value.int .i64 en : Value),
               fun x _ => x = (Value.slice (some ⟨b2, o2, none⟩) n cap2 : Value),
               fun x _ => x = (Value.int .i64 ((j : Nat) : Int) : Value),
               fun x _ => x = (Value.pointer (some ⟨b2, o2 + j * 33, none⟩) : Value),
               fun x _ => x = (Value.pointer (some ⟨b2, o2 + j * 33 + 32, none⟩) : Value),
               fun x _ => x = (Value.int .i64 en : Value),
               fun x _ => x = (Value.bool false : Value),
               fun x _ => x = (Value.bool false : Value)]
              ⟨fun _ _ _ h _ => h, fun _ _ _ h _ => h, fun _ _ _ h _ => h, fun _ _ _ h _ => h, fun _ _ _ h _ => h, fun _ _ _ h _ => h, fun _ _ _ h _ => h, fun _ _ _ h _ => h, fun _ _ _ h _ => h, fun _ _ _ h _ => h, fun _ _ _ h _ => h, fun _ _ _ h _ => h, fun _ _ _ h _ => h, fun _ _ _ h _ => h, fun _ _ _ h _ => h, fun _ _ _ h _ => h, fun _ _ _ h _ => h, fun _ _ _ h _ => h, fun _ _ _ h _ => h, fun _ _ _ h _ => h, fun _ _ _ h _ => h, fun _ _ _ h _ => h, fun _ _ _ h _ => h, fun _ _ _ h _ => h, trivial⟩ []
              ⟨?_, ?_, ?_, ?_, ?_, ?_, ?_, ?_, ?_, ?_, ?_, ?_, ?_, ?_, ?_, ?_, ?_, ?_, ?_, ?_, ?_, ?_, ?_, ?_, trivial⟩ ?_
            · refine showA_op 0 (by intro _ _ _; kernel_rfl) rfl rfl (fun c vals w hC hD => ?_)
              clear hD
              refine makes1 (x := .tmp 0) (X := Value.slice (some ⟨b1, o1, none⟩) n cap) (by kernel_rfl : _ = (Value.slice (some ⟨b1, o1, none⟩) n cap : Value)) (fun ρ rc rf q0 => ?_)
              exact makes_move (.inl rfl) q0 ⟨Adds.refl _, rfl⟩
            · refine showA_op 1 (by intro _ _ _; kernel_rfl) rfl rfl (fun c vals w hC hD => ?_)
              clear hD
              refine makes1 (x := .tmp 5) (X := Value.int .i64 ((j : Nat) : Int)) (by kernel_rfl : _ = (Value.int .i64 ((j : Nat) : Int) : Value)) (fun ρ rc rf q5 => ?_)
              exact makes_move (.inl rfl) q5 ⟨Adds.refl _, rfl⟩
            · refine showA_op 2 (by intro _ _ _; kernel_rfl) rfl rfl (fun c vals w hC hD => ?_)
              have h0 : vals 0 = .slice (some ⟨b1, o1, none⟩) n cap := hD 0 rfl
              have h1 : vals 1 = .int .i64 ((j : Nat) : Int) := hD 1 rfl
              clear hD
              refine makes2 (x := .tmp 17) (X := Value.slice (some ⟨b1, o1, none⟩) n cap) (y := .tmp 18) (Y := Value.int .i64 ((j : Nat) : Int)) ((by kernel_rfl : _ = vals 0).trans h0) ((by kernel_rfl : _ = vals 1).trans h1) (fun ρ rc rf q17 q18 => ?_)
              clear h0 h1
              exact makes_index (us_of rfl) (el_of rfl) hlt rfl q17 q18 ⟨Adds.refl _, rfl⟩
            · refine showA_op 3 (by intro _ _ _; kernel_rfl) rfl rfl (fun c vals w hC hD => ?_)
              have h2 : vals 2 = .pointer (some ⟨b1, o1 + j * 33, none⟩) := hD 2 rfl
              clear hD
              refine makes1 (x := .tmp 19) (X := Value.pointer (some ⟨b1, o1 + j * 33, none⟩)) ((by kernel_rfl : _ = vals 2).trans h2) (fun ρ rc rf q19 => ?_)
              clear h2
              refine makes_value (v := Value.pointer (some ⟨b1, o1 + j * 33, none⟩)) ?_ ⟨Adds.refl _, rfl⟩
              go_simp
              all_goals first | done | rfl | (rw [if_pos (by omega)]; refine congrArg (fun x => Result.ok (Next.value (Value.pointer (some ⟨_, x, none⟩))) _) ?_; omega) | (rw [wrapP_i64]; omega) | go_num | (simp; done) | (simp; omega) | (congr 1; first | rfl | (rw [wrapP_i64]; omega) | (congr 1; first | rfl | (simp; done) | (simp; omega) | (congr 2; omega) | go_num))
            · refine showA_op 4 (by intro _ _ _; kernel_rfl) rfl rfl (fun c vals w hC hD => ?_)
              have h3 : vals 3 = .pointer (some ⟨b1, o1 + j * 33, none⟩) := hD 3 rfl
              clear hD
              refine makes1 (x := .tmp 20) (X := Value.pointer (some ⟨b1, o1 + j * 33, none⟩)) ((by kernel_rfl : _ = vals 3).trans h3) (fun ρ rc rf q20 => ?_)
              clear h3
              exact makes_load ((hld _ (hM.adds hC).done).1) rfl q20 ⟨Adds.refl _, rfl⟩
            · refine showA_op 5 (by intro _ _ _; kernel_rfl) rfl rfl (fun c vals w hC hD => ?_)
              clear hD
              refine makes1 (x := .tmp 1) (X := Value.slice (some ⟨b2, o2, none⟩) n cap2) (by kernel_rfl : _ = (Value.slice (some ⟨b2, o2, none⟩) n cap2 : Value)) (fun ρ rc rf q1 => ?_)
              exact makes_move (.inl rfl) q1 ⟨Adds.refl _, rfl⟩
            · refine showA_op 6 (by intro _ _ _; kernel_rfl) rfl rfl (fun c vals w hC hD => ?_)
              clear hD
              refine makes1 (x := .tmp 5) (X := Value.int .i64 ((j : Nat) : Int)) (by kernel_rfl : _ = (Value.int .i64 ((j : Nat) : Int) : Value)) (fun ρ rc rf q5 => ?_)
              exact makes_move (.inl rfl) q5 ⟨Adds.refl _, rfl⟩
            · refine showA_op 7 (by intro _ _ _; kernel_rfl) rfl rfl (fun c vals w hC hD => ?_)
              have h5 : vals 5 = .slice (some ⟨b2, o2, none⟩) n cap2 := hD 5 rfl
              have h6 : vals 6 = .int .i64 ((j : Nat) : Int) := hD 6 rfl
              clear hD
              refine makes2 (x := .tmp 22) (X := Value.slice (some ⟨b2, o2, none⟩) n cap2) (y := .tmp 23) (Y := Value.int .i64 ((j : Nat) : Int)) ((by kernel_rfl : _ = vals 5).trans h5) ((by kernel_rfl : _ = vals 6).trans h6) (fun ρ rc rf q22 q23 => ?_)
              clear h5 h6
              exact makes_index (us_of rfl) (el_of rfl) hlt rfl q22 q23 ⟨Adds.refl _, rfl⟩
            · refine showA_op 8 (by intro _ _ _; kernel_rfl) rfl rfl (fun c vals w hC hD => ?_)
              have h7 : vals 7 = .pointer (some ⟨b2, o2 + j * 33, none⟩) := hD 7 rfl
              clear hD
              refine makes1 (x := .tmp 24) (X := Value.pointer (some ⟨b2, o2 + j * 33, none⟩)) ((by kernel_rfl : _ = vals 7).trans h7) (fun ρ rc rf q24 => ?_)
              clear h7
              refine makes_value (v := Value.pointer (some ⟨b2, o2 + j * 33, none⟩)) ?_ ⟨Adds.refl _, rfl⟩
              go_simp
              all_goals first | done | rfl | (rw [if_pos (by omega)]; refine congrArg (fun x => Result.ok (Next.value (Value.pointer (some ⟨_, x, none⟩))) _) ?_; omega) | (rw [wrapP_i64]; omega) | go_num | (simp; done) | (simp; omega) | (congr 1; first | rfl | (rw [wrapP_i64]; omega) | (congr 1; first | rfl | (simp; done) | (simp; omega) | (congr 2; omega) | go_num))
            · refine showA_op 9 (by intro _ _ _; kernel_rfl) rfl rfl (fun c vals w hC hD => ?_)
              have h8 : vals 8 = .pointer (some ⟨b2, o2 + j * 33, none⟩) := hD 8 rfl
              clear hD
              refine makes1 (x := .tmp 25) (X := Value.pointer (some ⟨b2, o2 + j * 33, none⟩)) ((by kernel_rfl : _ = vals 8).trans h8) (fun ρ rc rf q25 => ?_)
              clear h8
              exact makes_load ((hlf _ (hM.adds hC).done).1) rfl q25 ⟨Adds.refl _, rfl⟩
            · refine showA_op 10 (by intro _ _ _; kernel_rfl) rfl rfl (fun c vals w hC hD => ?_)
              have h4 : vals 4 = .agg (ed.map B8).toArray := hD 4 rfl
              have h9 : vals 9 = .agg (fd.map B8).toArray := hD 9 rfl
              clear hD
              refine makes2 (x := .tmp 21) (X := Value.agg (ed.map B8).toArray) (y := .tmp 26) (Y := Value.agg (fd.map B8).toArray) ((by kernel_rfl : _ = vals 4).trans h4) ((by kernel_rfl : _ = vals 9).trans h9) (fun ρ rc rf q21 q26 => ?_)
              clear h4 h9
              exact makes_neq heq rfl q21 q26 ⟨Adds.refl _, rfl⟩
            · refine showA_op 11 (by intro _ _ _; kernel_rfl) rfl rfl (fun c vals w hC hD => ?_)
              have h10 : vals 10 = .bool false := hD 10 rfl
              clear hD
              refine makes1 (x := .tmp 27) (X := Value.bool false) ((by kernel_rfl : _ = vals 10).trans h10) (fun ρ rc rf q27 => ?_)
              clear h10
              exact makes_move (.inl rfl) q27 ⟨Adds.refl _, rfl⟩
            · refine showA_run 12 (by intro _ _ _; kernel_rfl) (j := 11) (want := false) rfl rfl rfl (by intro _ _; kernel_rfl) rfl (fun c vals w hC hD => ⟨hD 11 rfl, ?_⟩)
              clear hD
              refine makes1 (x := .tmp 0) (X := Value.slice (some ⟨b1, o1, none⟩) n cap) (by kernel_rfl : _ = (Value.slice (some ⟨b1, o1, none⟩) n cap : Value)) (fun ρ rc rf q0 => ?_)
              exact makes_move (.inl rfl) q0 ⟨Adds.refl _, rfl⟩
            · refine showA_run 13 (by intro _ _ _; kernel_rfl) (j := 11) (want := false) rfl rfl rfl (by intro _ _; kernel_rfl) rfl (fun c vals w hC hD => ⟨hD 11 rfl, ?_⟩)
              clear hD
              refine makes1 (x := .tmp 5) (X := Value.int .i64 ((j : Nat) : Int)) (by kernel_rfl : _ = (Value.int .i64 ((j : Nat) : Int) : Value)) (fun ρ rc rf q5 => ?_)
              exact makes_move (.inl rfl) q5 ⟨Adds.refl _, rfl⟩
            · refine showA_run 14 (by intro _ _ _; kernel_rfl) (j := 11) (want := false) rfl rfl rfl (by intro _ _; kernel_rfl) rfl (fun c vals w hC hD => ⟨hD 11 rfl, ?_⟩)
              have h12 : vals 12 = .slice (some ⟨b1, o1, none⟩) n cap := hD 12 rfl
              have h13 : vals 13 = .int .i64 ((j : Nat) : Int) := hD 13 rfl
              clear hD
              refine makes2 (x := .tmp 29) (X := Value.slice (some ⟨b1, o1, none⟩) n cap) (y := .tmp 30) (Y := Value.int .i64 ((j : Nat) : Int)) ((by kernel_rfl : _ = vals 12).trans h12) ((by kernel_rfl : _ = vals 13).trans h13) (fun ρ rc rf q29 q30 => ?_)
              clear h12 h13
              exact makes_index (us_of rfl) (el_of rfl) hlt rfl q29 q30 ⟨Adds.refl _, rfl⟩
            · refine showA_run 15 (by intro _ _ _; kernel_rfl) (j := 11) (want := false) rfl rfl rfl (by intro _ _; kernel_rfl) rfl (fun c vals w hC hD => ⟨hD 11 rfl, ?_⟩)
              have h14 : vals 14 = .pointer (some ⟨b1, o1 + j * 33, none⟩) := hD 14 rfl
              clear hD
              refine makes1 (x := .tmp 31) (X := Value.pointer (some ⟨b1, o1 + j * 33, none⟩)) ((by kernel_rfl : _ = vals 14).trans h14) (fun ρ rc rf q31 => ?_)
              clear h14
              refine makes_value (v := Value.pointer (some ⟨b1, o1 + j * 33 + 32, none⟩)) ?_ ⟨Adds.refl _, rfl⟩
              go_simp
              all_goals first | done | rfl | (rw [if_pos (by omega)]; refine congrArg (fun x => Result.ok (Next.value (Value.pointer (some ⟨_, x, none⟩))) _) ?_; omega) | (rw [wrapP_i64]; omega) | go_num | (simp; done) | (simp; omega) | (congr 1; first | rfl | (rw [wrapP_i64]; omega) | (congr 1; first | rfl | (simp; done) | (simp; omega) | (congr 2; omega) | go_num))
            · refine showA_run 16 (by intro _ _ _; kernel_rfl) (j := 11) (want := false) rfl rfl rfl (by intro _ _; kernel_rfl) rfl (fun c vals w hC hD => ⟨hD 11 rfl, ?_⟩)
              have h15 : vals 15 = .pointer (some ⟨b1, o1 + j * 33 + 32, none⟩) := hD 15 rfl
              clear hD
              refine makes1 (x := .tmp 32) (X := Value.pointer (some ⟨b1, o1 + j * 33 + 32, none⟩)) ((by kernel_rfl : _ = vals 15).trans h15) (fun ρ rc rf q32 => ?_)
              clear h15
              exact makes_load ((hld _ (hM.adds hC).done).2) rfl q32 ⟨Adds.refl _, rfl⟩
            · refine showA_run 17 (by intro _ _ _; kernel_rfl) (j := 11) (want := false) rfl rfl rfl (by intro _ _; kernel_rfl) rfl (fun c vals w hC hD => ⟨hD 11 rfl, ?_⟩)
              clear hD
              refine makes1 (x := .tmp 1) (X := Value.slice (some ⟨b2, o2, none⟩) n cap2) (by kernel_rfl : _ = (Value.slice (some ⟨b2, o2, none⟩) n cap2 : Value)) (fun ρ rc rf q1 => ?_)
              exact makes_move (.inl rfl) q1 ⟨Adds.refl _, rfl⟩
            · refine showA_run 18 (by intro _ _ _; kernel_rfl) (j := 11) (want := false) rfl rfl rfl (by intro _ _; kernel_rfl) rfl (fun c vals w hC hD => ⟨hD 11 rfl, ?_⟩)
              clear hD
              refine makes1 (x := .tmp 5) (X := Value.int .i64 ((j : Nat) : Int)) (by kernel_rfl : _ = (Value.int .i64 ((j : Nat) : Int) : Value)) (fun ρ rc rf q5 => ?_)
              exact makes_move (.inl rfl) q5 ⟨Adds.refl _, rfl⟩
            · refine showA_run 19 (by intro _ _ _; kernel_rfl) (j := 11) (want := false) rfl rfl rfl (by intro _ _; kernel_rfl) rfl (fun c vals w hC hD => ⟨hD 11 rfl, ?_⟩)
              have h17 : vals 17 = .slice (some ⟨b2, o2, none⟩) n cap2 := hD 17 rfl
              have h18 : vals 18 = .int .i64 ((j : Nat) : Int) := hD 18 rfl
              clear hD
              refine makes2 (x := .tmp 34) (X := Value.slice (some ⟨b2, o2, none⟩) n cap2) (y := .tmp 35) (Y := Value.int .i64 ((j : Nat) : Int)) ((by kernel_rfl : _ = vals 17).trans h17) ((by kernel_rfl : _ = vals 18).trans h18) (fun ρ rc rf q34 q35 => ?_)
              clear h17 h18
              exact makes_index (us_of rfl) (el_of rfl) hlt rfl q34 q35 ⟨Adds.refl _, rfl⟩
            · refine showA_run 20 (by intro _ _ _; kernel_rfl) (j := 11) (want := false) rfl rfl rfl (by intro _ _; kernel_rfl) rfl (fun c vals w hC hD => ⟨hD 11 rfl, ?_⟩)
              have h19 : vals 19 = .pointer (some ⟨b2, o2 + j * 33, none⟩) := hD 19 rfl
              clear hD
              refine makes1 (x := .tmp 36) (X := Value.pointer (some ⟨b2, o2 + j * 33, none⟩)) ((by kernel_rfl : _ = vals 19).trans h19) (fun ρ rc rf q36 => ?_)
              clear h19
              refine makes_value (v := Value.pointer (some ⟨b2, o2 + j * 33 + 32, none⟩)) ?_ ⟨Adds.refl _, rfl⟩
              go_simp
              all_goals first | done | rfl | (rw [if_pos (by omega)]; refine congrArg (fun x => Result.ok (Next.value (Value.pointer (some ⟨_, x, none⟩))) _) ?_; omega) | (rw [wrapP_i64]; omega) | go_num | (simp; done) | (simp; omega) | (congr 1; first | rfl | (rw [wrapP_i64]; omega) | (congr 1; first | rfl | (simp; done) | (simp; omega) | (congr 2; omega) | go_num))
            · refine showA_run 21 (by intro _ _ _; kernel_rfl) (j := 11) (want := false) rfl rfl rfl (by intro _ _; kernel_rfl) rfl (fun c vals w hC hD => ⟨hD 11 rfl, ?_⟩)
              have h20 : vals 20 = .pointer (some ⟨b2, o2 + j * 33 + 32, none⟩) := hD 20 rfl
              clear hD
              refine makes1 (x := .tmp 37) (X := Value.pointer (some ⟨b2, o2 + j * 33 + 32, none⟩)) ((by kernel_rfl : _ = vals 20).trans h20) (fun ρ rc rf q37 => ?_)
              clear h20
              exact makes_load ((hlf _ (hM.adds hC).done).2) rfl q37 ⟨Adds.refl _, rfl⟩
            · refine showA_run 22 (by intro _ _ _; kernel_rfl) (j := 11) (want := false) rfl rfl rfl (by intro _ _; kernel_rfl) rfl (fun c vals w hC hD => ⟨hD 11 rfl, ?_⟩)
              have h16 : vals 16 = .int .i64 en := hD 16 rfl
              have h21 : vals 21 = .int .i64 en := hD 21 rfl
              clear hD
              refine makes2 (x := .tmp 33) (X := Value.int .i64 en) (y := .tmp 38) (Y := Value.int .i64 en) ((by kernel_rfl : _ = vals 16).trans h16) ((by kernel_rfl : _ = vals 21).trans h21) (fun ρ rc rf q33 q38 => ?_)
              clear h16 h21
              refine makes_value (v := Value.bool false) ?_ ⟨Adds.refl _, rfl⟩
              go_simp
              all_goals first | done | rfl | (rw [if_pos (by omega)]; refine congrArg (fun x => Result.ok (Next.value (Value.pointer (some ⟨_, x, none⟩))) _) ?_; omega) | (rw [wrapP_i64]; omega) | go_num | (simp; done) | (simp; omega) | (congr 1; first | rfl | (rw [wrapP_i64]; omega) | (congr 1; first | rfl | (simp; done) | (simp; omega) | (congr 2; omega) | go_num))
            · refine showA_op 23 (by intro _ _ _; kernel_rfl) rfl rfl (fun c vals w hC hD => ?_)
              have h11 : vals 11 = .bool false := hD 11 rfl
              have h22 : vals 22 = .bool false := hD 22 rfl
              clear hD
              refine makes2 (x := .tmp 28) (X := Value.bool false) (y := .tmp 39) (Y := Value.bool false) ((by kernel_rfl : _ = vals 11).trans h11) ((by kernel_rfl : _ = vals 22).trans h22) (fun ρ rc rf q28 q39 => ?_)
              clear h11 h22
              refine makes_value (v := Value.bool false) ?_ ⟨Adds.refl _, rfl⟩
              go_simp
              all_goals first | done | rfl | (rw [if_pos (by omega)]; refine congrArg (fun x => Result.ok (Next.value (Value.pointer (some ⟨_, x, none⟩))) _) ?_; omega) | (rw [wrapP_i64]; omega) | go_num | (simp; done) | (simp; omega) | (congr 1; first | rfl | (rw [wrapP_i64]; omega) | (congr 1; first | rfl | (simp; done) | (simp; omega) | (congr 2; omega) | go_num))
            intro vals w' hC hΦ hne
            have h23 : vals 23 = .bool false := hΦ 23 (by decide)
            clear hΦ hne
            simp only [List.getD_eq_getElem?_getD, List.getElem?_cons_zero, List.getElem?_cons_succ, Option.getD_some, List.drop_succ_cons, List.drop_zero]
            simp only [h23]
            clear h23
            try simp only [tuple_undef]
            replace hM := hM.adds hC
            clear hC
            have hef : ed = fd := eq_of_beq hbd
            have hjj : l[j]? = l2[j]? := by rw [hje, hjf, hef]
            go_wp2_with fail
            go_roundw
            case rel =>
              refine ⟨j + 1, by omega, fun k hk => ?_, by go_num, hM⟩
              rcases Nat.lt_succ_iff_lt_or_eq.1 hk with h2 | h2
              · exact hyes k h2
              · rw [h2]; exact hjj
            case measure => simp [intOf]; omega
          · have hzf := HN j (by rw [hje, hjf]; intro h; cases h; exact hen rfl)
            subst hzf
            go_wp2_with fail
            try simp only [Act.put, List.setIfInBounds_toArray, List.set_cons_succ, List.set_cons_zero]
            refine wp_region_tail 24 (by decide) (fun c vals => ⟨#[(Value.slice (some ⟨b1, o1, none⟩) n cap : Value), (Value.slice (some ⟨b2, o2, none⟩) n cap2 : Value), c 2, c 3, c 4, (Value.int .i64 ((j : Nat) : Int) : Value), c 6, c 7, c 8, c 9, c 10, c 11, c 12, c 13, c 14, c 15, c 16, vals 0, vals 1, vals 2, vals 3, vals 4, vals 5, vals 6, vals 7, vals 8, vals 9, vals 10, vals 11, vals 12, vals 13, vals 14, vals 15, vals 16, vals 17, vals 18, vals 19, vals 20, vals 21, vals 22, vals 23], []⟩) (fun t => [undef, undef, _, _, _, undef, _, _, _, _, _, _, _, _, _, _, _, undef, undef, undef, undef, undef, undef, undef, undef, undef, undef, undef, undef, undef, undef, undef, undef, undef, undef, undef, undef, undef, undef, undef, undef].getD t undef) (fun i => [_, _, _, _, _, _, _, _, _, _, _, _, _, _, _, _, _, _, _, _, _, _, _, _].getD i undef) (by kernel_rfl)
              [[], [], [0, 1], [0, 1, 2], [0, 1, 2, 3], [], [], [5, 6], [5, 6, 7], [5, 6, 7, 8], [0, 1, 2, 3, 4, 5, 6, 7, 8, 9], [0, 1, 2, 3, 4, 5, 6, 7, 8, 9, 10], [0, 1, 2, 3, 4, 5, 6, 7, 8, 9, 10, 11], [0, 1, 2, 3, 4, 5, 6, 7, 8, 9, 10, 11], [0, 1, 2, 3, 4, 5, 6, 7, 8, 9, 10, 11, 12, 13], [0, 1, 2, 3, 4, 5, 6, 7, 8, 9, 10, 11, 12, 13, 14], [0, 1, 2, 3, 4, 5, 6, 7, 8, 9, 10, 11, 12, 13, 14, 15], [0, 1, 2, 3, 4, 5, 6, 7, 8, 9, 10, 11], [0, 1, 2, 3, 4, 5, 6, 7, 8, 9, 10, 11], [0, 1, 2, 3, 4, 5, 6, 7, 8, 9, 10, 11, 17, 18], [0, 1, 2, 3, 4, 5, 6, 7, 8, 9, 10, 11, 17, 18, 19], [0, 1, 2, 3, 4, 5, 6, 7, 8, 9, 10, 11, 17, 18, 19, 20], [0, 1, 2, 3, 4, 5, 6, 7, 8, 9, 10, 11, 12, 13, 14, 15, 16, 17, 18, 19, 20, 21], [0, 1, 2, 3, 4, 5, 6, 7, 8, 9, 10, 11, 12, 13, 14, 15, 16, 17, 18, 19, 20, 21, 22]] (by kernel_rfl) (by kernel_rfl) (fun _ => True) trivial
              [fun x _ => x = (Value.slice (some ⟨b1, o1, none⟩) n cap : Value),
               fun x _ => x = (Value.int .i64 ((j : Nat) : Int) : Value),
               fun x _ => x = (Value.pointer (some ⟨b1, o1 + j * 33, none⟩) : Value),
               fun x _ => x = (Value.pointer (some ⟨b1, o1 + j * 33, none⟩) : Value),
               fun x _ => x = (Value.agg (ed.map B8).toArray : Value),
               fun x _ => x = (Value.slice (some ⟨b2, o2, none⟩) n cap2 : Value),
               fun x _ => x = (Value.int .i64 ((j : Nat) : Int) : Value),
               fun x _ => x = (Value.pointer (some ⟨b2, o2 + j * 33, none⟩) : Value),
               fun x _ => x = (Value.pointer (some ⟨b2, o2 + j * 33, none⟩) : Value),
               fun x _ => x = (Value.agg (fd.map B8).toArray : Value),
               fun x _ => x = (Value.bool false : Value),
               fun x _ => x = (Value.bool false : Value),
               fun x _ => x = (Value.slice (some ⟨b1, o1, none⟩) n cap : Value),
               fun x _ => x = (Value.int .i64 ((j : Nat) : Int) : Value),
               fun x _ => x = (Value.pointer (some ⟨b1, o1 + j * 33, none⟩) : Value),
               fun x _ => x = (Value.pointer (some ⟨b1, o1 + j * 33 + 32, none⟩) : Value),
               fun x _ => x = (Value.int .i64 en : Value),
               fun x _ => x = (Value.slice (some ⟨b2, o2, none⟩) n cap2 : Value),
               fun x _ => x = (Value.int .i64 ((j : Nat) : Int) : Value),
               fun x _ => x = (Value.pointer (some ⟨b2, o2 + j * 33, none⟩) : Value),
               fun x _ => x = (Value.pointer (some ⟨b2, o2 + j * 33 + 32, none⟩) : Value),
               fun x _ => x = (Value.int .i64 fn : Value),
               fun x _ => x = (Value.bool true : Value),
               fun x _ => x = (Value.bool true : Value)]
              ⟨fun _ _ _ h _ => h, fun _ _ _ h _ => h, fun _ _ _ h _ => h, fun _ _ _ h _ => h, fun _ _ _ h _ => h, fun _ _ _ h _ => h, fun _ _ _ h _ => h, fun _ _ _ h _ => h, fun _ _ _ h _ => h, fun _ _ _ h _ => h, fun _ _ _ h _ => h, fun _ _ _ h _ => h, fun _ _ _ h _ => h, fun _ _ _ h _ => h, fun _ _ _ h _ => h, fun _ _ _ h _ => h, fun _ _ _ h _ => h, fun _ _ _ h _ => h, fun _ _ _ h _ => h, fun _ _ _ h _ => h, fun _ _ _ h _ => h, fun _ _ _ h _ => h, fun _ _ _ h _ => h, fun _ _ _ h _ => h, trivial⟩ []
              ⟨?_, ?_, ?_, ?_, ?_, ?_, ?_, ?_, ?_, ?_, ?_, ?_, ?_, ?_, ?_, ?_, ?_, ?_, ?_, ?_, ?_, ?_, ?_, ?_, trivial⟩ ?_
            · refine showA_op 0 (by intro _ _ _; kernel_rfl) rfl rfl (fun c vals w hC hD => ?_)
              clear hD
              refine makes1 (x := .tmp 0) (X := Value.slice (some ⟨b1, o1, none⟩) n cap) (by kernel_rfl : _ = (Value.slice (some ⟨b1, o1, none⟩) n cap : Value)) (fun ρ rc rf q0 => ?_)
              exact makes_move (.inl rfl) q0 ⟨Adds.refl _, rfl⟩
            · refine showA_op 1 (by intro _ _ _; kernel_rfl) rfl rfl (fun c vals w hC hD => ?_)
              clear hD
              refine makes1 (x := .tmp 5) (X := Value.int .i64 ((j : Nat) : Int)) (by kernel_rfl : _ = (Value.int .i64 ((j : Nat) : Int) : Value)) (fun ρ rc rf q5 => ?_)
              exact makes_move (.inl rfl) q5 ⟨Adds.refl _, rfl⟩
            · refine showA_op 2 (by intro _ _ _; kernel_rfl) rfl rfl (fun c vals w hC hD => ?_)
              have h0 : vals 0 = .slice (some ⟨b1, o1, none⟩) n cap := hD 0 rfl
              have h1 : vals 1 = .int .i64 ((j : Nat) : Int) := hD 1 rfl
              clear hD
              refine makes2 (x := .tmp 17) (X := Value.slice (some ⟨b1, o1, none⟩) n cap) (y := .tmp 18) (Y := Value.int .i64 ((j : Nat) : Int)) ((by kernel_rfl : _ = vals 0).trans h0) ((by kernel_rfl : _ = vals 1).trans h1) (fun ρ rc rf q17 q18 => ?_)
              clear h0 h1
              exact makes_index (us_of rfl) (el_of rfl) hlt rfl q17 q18 ⟨Adds.refl _, rfl⟩
            · refine showA_op 3 (by intro _ _ _; kernel_rfl) rfl rfl (fun c vals w hC hD => ?_)
              have h2 : vals 2 = .pointer (some ⟨b1, o1 + j * 33, none⟩) := hD 2 rfl
              clear hD
              refine makes1 (x := .tmp 19) (X := Value.pointer (some ⟨b1, o1 + j * 33, none⟩)) ((by kernel_rfl : _ = vals 2).trans h2) (fun ρ rc rf q19 => ?_)
              clear h2
              refine makes_value (v := Value.pointer (some ⟨b1, o1 + j * 33, none⟩)) ?_ ⟨Adds.refl _, rfl⟩
              go_simp
              all_goals first | done | rfl | (rw [if_pos (by omega)]; refine congrArg (fun x => Result.ok (Next.value (Value.pointer (some ⟨_, x, none⟩))) _) ?_; omega) | (rw [wrapP_i64]; omega) | go_num | (simp; done) | (simp; omega) | (congr 1; first | rfl | (rw [wrapP_i64]; omega) | (congr 1; first | rfl | (simp; done) | (simp; omega) | (congr 2; omega) | go_num))
            · refine showA_op 4 (by intro _ _ _; kernel_rfl) rfl rfl (fun c vals w hC hD => ?_)
              have h3 : vals 3 = .pointer (some ⟨b1, o1 + j * 33, none⟩) := hD 3 rfl
              clear hD
              refine makes1 (x := .tmp 20) (X := Value.pointer (some ⟨b1, o1 + j * 33, none⟩)) ((by kernel_rfl : _ = vals 3).trans h3) (fun ρ rc rf q20 => ?_)
              clear h3
              exact makes_load ((hld _ (hM.adds hC).done).1) rfl q20 ⟨Adds.refl _, rfl⟩
            · refine showA_op 5 (by intro _ _ _; kernel_rfl) rfl rfl (fun c vals w hC hD => ?_)
              clear hD
              refine makes1 (x := .tmp 1) (X := Value.slice (some ⟨b2, o2, none⟩) n cap2) (by kernel_rfl : _ = (Value.slice (some ⟨b2, o2, none⟩) n cap2 : Value)) (fun ρ rc rf q1 => ?_)
              exact makes_move (.inl rfl) q1 ⟨Adds.refl _, rfl⟩
            · refine showA_op 6 (by intro _ _ _; kernel_rfl) rfl rfl (fun c vals w hC hD => ?_)
              clear hD
              refine makes1 (x := .tmp 5) (X := Value.int .i64 ((j : Nat) : Int)) (by kernel_rfl : _ = (Value.int .i64 ((j : Nat) : Int) : Value)) (fun ρ rc rf q5 => ?_)
              exact makes_move (.inl rfl) q5 ⟨Adds.refl _, rfl⟩
            · refine showA_op 7 (by intro _ _ _; kernel_rfl) rfl rfl (fun c vals w hC hD => ?_)
              have h5 : vals 5 = .slice (some ⟨b2, o2, none⟩) n cap2 := hD 5 rfl
              have h6 : vals 6 = .int .i64 ((j : Nat) : Int) := hD 6 rfl
              clear hD
              refine makes2 (x := .tmp 22) (X := Value.slice (some ⟨b2, o2, none⟩) n cap2) (y := .tmp 23) (Y := Value.int .i64 ((j : Nat) : Int)) ((by kernel_rfl : _ = vals 5).trans h5) ((by kernel_rfl : _ = vals 6).trans h6) (fun ρ rc rf q22 q23 => ?_)
              clear h5 h6
              exact makes_index (us_of rfl) (el_of rfl) hlt rfl q22 q23 ⟨Adds.refl _, rfl⟩
            · refine showA_op 8 (by intro _ _ _; kernel_rfl) rfl rfl (fun c vals w hC hD => ?_)
              have h7 : vals 7 = .pointer (some ⟨b2, o2 + j * 33, none⟩) := hD 7 rfl
              clear hD
              refine makes1 (x := .tmp 24) (X := Value.pointer (some ⟨b2, o2 + j * 33, none⟩)) ((by kernel_rfl : _ = vals 7).trans h7) (fun ρ rc rf q24 => ?_)
              clear h7
              refine makes_value (v := Value.pointer (some ⟨b2, o2 + j * 33, none⟩)) ?_ ⟨Adds.refl _, rfl⟩
              go_simp
              all_goals first | done | rfl | (rw [if_pos (by omega)]; refine congrArg (fun x => Result.ok (Next.value (Value.pointer (some ⟨_, x, none⟩))) _) ?_; omega) | (rw [wrapP_i64]; omega) | go_num | (simp; done) | (simp; omega) | (congr 1; first | rfl | (rw [wrapP_i64]; omega) | (congr 1; first | rfl | (simp; done) | (simp; omega) | (congr 2; omega) | go_num))
            · refine showA_op 9 (by intro _ _ _; kernel_rfl) rfl rfl (fun c vals w hC hD => ?_)
              have h8 : vals 8 = .pointer (some ⟨b2, o2 + j * 33, none⟩) := hD 8 rfl
              clear hD
              refine makes1 (x := .tmp 25) (X := Value.pointer (some ⟨b2, o2 + j * 33, none⟩)) ((by kernel_rfl : _ = vals 8).trans h8) (fun ρ rc rf q25 => ?_)
              clear h8
              exact makes_load ((hlf _ (hM.adds hC).done).1) rfl q25 ⟨Adds.refl _, rfl⟩
            · refine showA_op 10 (by intro _ _ _; kernel_rfl) rfl rfl (fun c vals w hC hD => ?_)
              have h4 : vals 4 = .agg (ed.map B8).toArray := hD 4 rfl
              have h9 : vals 9 = .agg (fd.map B8).toArray := hD 9 rfl
              clear hD
              refine makes2 (x := .tmp 21) (X := Value.agg (ed.map B8).toArray) (y := .tmp 26) (Y := Value.agg (fd.map B8).toArray) ((by kernel_rfl : _ = vals 4).trans h4) ((by kernel_rfl : _ = vals 9).trans h9) (fun ρ rc rf q21 q26 => ?_)
              clear h4 h9
              exact makes_neq heq rfl q21 q26 ⟨Adds.refl _, rfl⟩
            · refine showA_op 11 (by intro _ _ _; kernel_rfl) rfl rfl (fun c vals w hC hD => ?_)
              have h10 : vals 10 = .bool false := hD 10 rfl
              clear hD
              refine makes1 (x := .tmp 27) (X := Value.bool false) ((by kernel_rfl : _ = vals 10).trans h10) (fun ρ rc rf q27 => ?_)
              clear h10
              exact makes_move (.inl rfl) q27 ⟨Adds.refl _, rfl⟩
            · refine showA_run 12 (by intro _ _ _; kernel_rfl) (j := 11) (want := false) rfl rfl rfl (by intro _ _; kernel_rfl) rfl (fun c vals w hC hD => ⟨hD 11 rfl, ?_⟩)
              clear hD
              refine makes1 (x := .tmp 0) (X := Value.slice (some ⟨b1, o1, none⟩) n cap) (by kernel_rfl : _ = (Value.slice (some ⟨b1, o1, none⟩) n cap : Value)) (fun ρ rc rf q0 => ?_)
              exact makes_move (.inl rfl) q0 ⟨Adds.refl _, rfl⟩
            · refine showA_run 13 (by intro _ _ _; kernel_rfl) (j := 11) (want := false) rfl rfl rfl (by intro _ _; kernel_rfl) rfl (fun c vals w hC hD => ⟨hD 11 rfl, ?_⟩)
              clear hD
              refine makes1 (x := .tmp 5) (X := Value.int .i64 ((j : Nat) : Int)) (by kernel_rfl : _ = (Value.int .i64 ((j : Nat) : Int) : Value)) (fun ρ rc rf q5 => ?_)
              exact makes_move (.inl rfl) q5 ⟨Adds.refl _, rfl⟩
            · refine showA_run 14 (by intro _ _ _; kernel_rfl) (j := 11) (want := false) rfl rfl rfl (by intro _ _; kernel_rfl) rfl (fun c vals w hC hD => ⟨hD 11 rfl, ?_⟩)
              have h12 : vals 12 = .slice (some ⟨b1, o1, none⟩) n cap := hD 12 rfl
              have h13 : vals 13 = .int .i64 ((j : Nat) : Int) := hD 13 rfl
              clear hD
              refine makes2 (x := .tmp 29) (X := Value.slice (some ⟨b1, o1, none⟩) n cap) (y := .tmp 30) (Y := Value.int .i64 ((j : Nat) : Int)) ((by kernel_rfl : _ = vals 12).trans h12) ((by kernel_rfl : _ = vals 13).trans h13) (fun ρ rc rf q29 q30 => ?_)
              clear h12 h13
              exact makes_index (us_of rfl) (el_of rfl) hlt rfl q29 q30 ⟨Adds.refl _, rfl⟩
            · refine showA_run 15 (by intro _ _ _; kernel_rfl) (j := 11) (want := false) rfl rfl rfl (by intro _ _; kernel_rfl) rfl (fun c vals w hC hD => ⟨hD 11 rfl, ?_⟩)
              have h14 : vals 14 = .pointer (some ⟨b1, o1 + j * 33, none⟩) := hD 14 rfl
              clear hD
              refine makes1 (x := .tmp 31) (X := Value.pointer (some ⟨b1, o1 + j * 33, none⟩)) ((by kernel_rfl : _ = vals 14).trans h14) (fun ρ rc rf q31 => ?_)
              clear h14
              refine makes_value (v := Value.pointer (some ⟨b1, o1 + j * 33 + 32, none⟩)) ?_ ⟨Adds.refl _, rfl⟩
              go_simp
              all_goals first | done | rfl | (rw [if_pos (by omega)]; refine congrArg (fun x => Result.ok (Next.value (Value.pointer (some ⟨_, x, none⟩))) _) ?_; omega) | (rw [wrapP_i64]; omega) | go_num | (simp; done) | (simp; omega) | (congr 1; first | rfl | (rw [wrapP_i64]; omega) | (congr 1; first | rfl | (simp; done) | (simp; omega) | (congr 2; omega) | go_num))
            · refine showA_run 16 (by intro _ _ _; kernel_rfl) (j := 11) (want := false) rfl rfl rfl (by intro _ _; kernel_rfl) rfl (fun c vals w hC hD => ⟨hD 11 rfl, ?_⟩)
              have h15 : vals 15 = .pointer (some ⟨b1, o1 + j * 33 + 32, none⟩) := hD 15 rfl
              clear hD
              refine makes1 (x := .tmp 32) (X := Value.pointer (some ⟨b1, o1 + j * 33 + 32, none⟩)) ((by kernel_rfl : _ = vals 15).trans h15) (fun ρ rc rf q32 => ?_)
              clear h15
              exact makes_load ((hld _ (hM.adds hC).done).2) rfl q32 ⟨Adds.refl _, rfl⟩
            · refine showA_run 17 (by intro _ _ _; kernel_rfl) (j := 11) (want := false) rfl rfl rfl (by intro _ _; kernel_rfl) rfl (fun c vals w hC hD => ⟨hD 11 rfl, ?_⟩)
              clear hD
              refine makes1 (x := .tmp 1) (X := Value.slice (some ⟨b2, o2, none⟩) n cap2) (by kernel_rfl : _ = (Value.slice (some ⟨b2, o2, none⟩) n cap2 : Value)) (fun ρ rc rf q1 => ?_)
              exact makes_move (.inl rfl) q1 ⟨Adds.refl _, rfl⟩
            · refine showA_run 18 (by intro _ _ _; kernel_rfl) (j := 11) (want := false) rfl rfl rfl (by intro _ _; kernel_rfl) rfl (fun c vals w hC hD => ⟨hD 11 rfl, ?_⟩)
              clear hD
              refine makes1 (x := .tmp 5) (X := Value.int .i64 ((j : Nat) : Int)) (by kernel_rfl : _ = (Value.int .i64 ((j : Nat) : Int) : Value)) (fun ρ rc rf q5 => ?_)
              exact makes_move (.inl rfl) q5 ⟨Adds.refl _, rfl⟩
            · refine showA_run 19 (by intro _ _ _; kernel_rfl) (j := 11) (want := false) rfl rfl rfl (by intro _ _; kernel_rfl) rfl (fun c vals w hC hD => ⟨hD 11 rfl, ?_⟩)
              have h17 : vals 17 = .slice (some ⟨b2, o2, none⟩) n cap2 := hD 17 rfl
              have h18 : vals 18 = .int .i64 ((j : Nat) : Int) := hD 18 rfl
              clear hD
              refine makes2 (x := .tmp 34) (X := Value.slice (some ⟨b2, o2, none⟩) n cap2) (y := .tmp 35) (Y := Value.int .i64 ((j : Nat) : Int)) ((by kernel_rfl : _ = vals 17).trans h17) ((by kernel_rfl : _ = vals 18).trans h18) (fun ρ rc rf q34 q35 => ?_)
              clear h17 h18
              exact makes_index (us_of rfl) (el_of rfl) hlt rfl q34 q35 ⟨Adds.refl _, rfl⟩
            · refine showA_run 20 (by intro _ _ _; kernel_rfl) (j := 11) (want := false) rfl rfl rfl (by intro _ _; kernel_rfl) rfl (fun c vals w hC hD => ⟨hD 11 rfl, ?_⟩)
              have h19 : vals 19 = .pointer (some ⟨b2, o2 + j * 33, none⟩) := hD 19 rfl
              clear hD
              refine makes1 (x := .tmp 36) (X := Value.pointer (some ⟨b2, o2 + j * 33, none⟩)) ((by kernel_rfl : _ = vals 19).trans h19) (fun ρ rc rf q36 => ?_)
              clear h19
              refine makes_value (v := Value.pointer (some ⟨b2, o2 + j * 33 + 32, none⟩)) ?_ ⟨Adds.refl _, rfl⟩
              go_simp
              all_goals first | done | rfl | (rw [if_pos (by omega)]; refine congrArg (fun x => Result.ok (Next.value (Value.pointer (some ⟨_, x, none⟩))) _) ?_; omega) | (rw [wrapP_i64]; omega) | go_num | (simp; done) | (simp; omega) | (congr 1; first | rfl | (rw [wrapP_i64]; omega) | (congr 1; first | rfl | (simp; done) | (simp; omega) | (congr 2; omega) | go_num))
            · refine showA_run 21 (by intro _ _ _; kernel_rfl) (j := 11) (want := false) rfl rfl rfl (by intro _ _; kernel_rfl) rfl (fun c vals w hC hD => ⟨hD 11 rfl, ?_⟩)
              have h20 : vals 20 = .pointer (some ⟨b2, o2 + j * 33 + 32, none⟩) := hD 20 rfl
              clear hD
              refine makes1 (x := .tmp 37) (X := Value.pointer (some ⟨b2, o2 + j * 33 + 32, none⟩)) ((by kernel_rfl : _ = vals 20).trans h20) (fun ρ rc rf q37 => ?_)
              clear h20
              exact makes_load ((hlf _ (hM.adds hC).done).2) rfl q37 ⟨Adds.refl _, rfl⟩
            · refine showA_run 22 (by intro _ _ _; kernel_rfl) (j := 11) (want := false) rfl rfl rfl (by intro _ _; kernel_rfl) rfl (fun c vals w hC hD => ⟨hD 11 rfl, ?_⟩)
              have h16 : vals 16 = .int .i64 en := hD 16 rfl
              have h21 : vals 21 = .int .i64 fn := hD 21 rfl
              clear hD
              refine makes2 (x := .tmp 33) (X := Value.int .i64 en) (y := .tmp 38) (Y := Value.int .i64 fn) ((by kernel_rfl : _ = vals 16).trans h16) ((by kernel_rfl : _ = vals 21).trans h21) (fun ρ rc rf q33 q38 => ?_)
              clear h16 h21
              refine makes_value (v := Value.bool true) ?_ ⟨Adds.refl _, rfl⟩
              go_simp
              all_goals first | done | rfl | (rw [if_pos (by omega)]; refine congrArg (fun x => Result.ok (Next.value (Value.pointer (some ⟨_, x, none⟩))) _) ?_; omega) | (rw [wrapP_i64]; omega) | go_num | (simp; done) | (simp; omega) | (congr 1; first | rfl | (rw [wrapP_i64]; omega) | (congr 1; first | rfl | (simp; done) | (simp; omega) | (congr 2; omega) | go_num))
            · refine showA_op 23 (by intro _ _ _; kernel_rfl) rfl rfl (fun c vals w hC hD => ?_)
              have h11 : vals 11 = .bool false := hD 11 rfl
              have h22 : vals 22 = .bool true := hD 22 rfl
              clear hD
              refine makes2 (x := .tmp 28) (X := Value.bool false) (y := .tmp 39) (Y := Value.bool true) ((by kernel_rfl : _ = vals 11).trans h11) ((by kernel_rfl : _ = vals 22).trans h22) (fun ρ rc rf q28 q39 => ?_)
              clear h11 h22
              refine makes_value (v := Value.bool true) ?_ ⟨Adds.refl _, rfl⟩
              go_simp
              all_goals first | done | rfl | (rw [if_pos (by omega)]; refine congrArg (fun x => Result.ok (Next.value (Value.pointer (some ⟨_, x, none⟩))) _) ?_; omega) | (rw [wrapP_i64]; omega) | go_num | (simp; done) | (simp; omega) | (congr 1; first | rfl | (rw [wrapP_i64]; omega) | (congr 1; first | rfl | (simp; done) | (simp; omega) | (congr 2; omega) | go_num))
            intro vals w' hC hΦ hne
            have h23 : vals 23 = .bool true := hΦ 23 (by decide)
            clear hΦ hne
            simp only [List.getD_eq_getElem?_getD, List.getElem?_cons_zero, List.getElem?_cons_succ, Option.getD_some, List.drop_succ_cons, List.drop_zero]
            simp only [h23]
            clear h23
            try simp only [tuple_undef]
            replace hM := hM.adds hC
            clear hC
            go_wp2_with fail
            go_ret
            exact ⟨rfl, hM.done⟩
      · have hje : j = n := by omega
        subst hje
        have hzt := HZ hyes
        subst hzt
        clear HZ HN hp hp2 hyes
        go_wp2_with fail
        go_ret
        exact ⟨rfl, hM.done⟩
  · have hz0 : z = false := by
      rw [← hz]
      cases hb : l == l2 with
      | false => rfl
      | true => exact absurd (congrArg List.length (eq_of_beq hb)) hne
    subst hz0
    clear hz hat hat2
    generalize l.length = n at *
    generalize l2.length = n2 at *
    go_enter Try.func39, Try.ntmps39
    have hni : ¬ (n : Int) = (n2 : Int) := by omega
    go_wp2_with fail
    go_ret
    exact ⟨rfl, hM.done⟩
end Go.Proofs.Ytejmbkljnhnklaa

namespace Go.PK
open Go.RowKit
/-- a row of bytes that was made -/
structure PR where
  ob : Option Nat
  m : List UInt8
  cap : Nat
def PR.v (r : PR) : Value := sl r.ob r.m.length r.cap
def PR.blk (t : TypeId) (r : PR) : Blk := ⟨r.ob, t, r.m.map B8, r.cap⟩
def PR.nil : PR := ⟨none, [], 0⟩
section
variable {G : List Nat} {w0 w : World} {L : List Blk}
theorem PR.bytes {r : PR} {t : TypeId} (hM : Mem G w0 w L) (hb : r.blk t ∈ L) (hcap : r.cap ≤ maxLen) : Bytes w r.v r.m := hM.whole hb (Len.of rfl) hcap
end
end Go.PK

namespace Go.PK
open Go.RowKit
section
variable {P : Program} {o : Oper} {w w0 : World} {R : Value → World → Prop} {ρ : Operand → Value} {G : List Nat} {L : List Blk}
theorem makes_value2 {v : Value} {w' : World} (hr : (execOp ρ o).run P w = .ok (.value v) w') (hR : R v w') : Makes P ρ o w R := .inl ⟨v, w', hr, hR⟩
theorem Mem.makes_append (hM : Mem G w0 w L) {s x : Operand} {t : TypeId} {ob : Option Nat} {e : TypeId} {C : List Value} {N n cap size bytes : Nat} {L' : Option Nat → Nat → List Blk} (ho : o.op = .call { callee := .builtin .append, args := #[s, x], argTypes := #[t, t] })
    (hs : ρ s = sl ob n cap) (ht : P.underlying t = some (.slice e)) (hel : El P e size bytes)
    {news : List Value} (hb : ∀ ob' cap', Swap L ⟨ob, e, C, N⟩ ⟨ob', e, C ++ news, cap' * size⟩ (L' ob' cap')) (hN : N = cap * size) (hC : C.length = n * size) (hcap : cap ≤ maxLen)
    {u : Value} {m : Nat} (hx : ρ x = u) (hsrc : Src w u m news) (hl : news.length = m * size) (h1 : ∀ u ∈ news, u.oneCell' = true)
    (h63 : n + m ≤ maxLen) (hbytes : (n + m) * bytes ≤ 140737488355328)
    (h : ∀ ob' cap' w', Mem G w0 w' (L' ob' cap') → n + m ≤ cap' → cap' ≤ maxLen → R (sl ob' (n + m) cap') w') :
    Makes P ρ o w R := by
  obtain ⟨z, hinfo, hzs, hsz⟩ := hel
  obtain ⟨i, hi, hz, hsize, hby⟩ := info_parts hinfo
  have hmem := (hb none 0).mem
  obtain ⟨base, hb1, hb2⟩ : ∃ base, base ≤ w.heap.size ∧ ∀ g, ob = some g → base ≤ g ∧ g = base := by
    cases ob with
    | none => exact ⟨w.heap.size, Nat.le_refl _, by simp⟩
    | some g => exact ⟨g, Nat.le_of_lt ((hM.holds _ hmem).lt rfl), fun g' hg' => by cases hg'; exact ⟨Nat.le_refl _, rfl⟩⟩
  have hown := hM.owns hmem hN hC hsz hcap base (fun g hg => (hb2 g hg).1)
  have hrow : ∀ k, (sl ob n cap).ownBlock = some k → ob = some k := by
    intro k hk
    cases ob with
    | none => simp [sl, Value.ownBlock] at hk
    | some g => simpa [sl, Value.ownBlock] using hk
  have fin : ∀ (ob' : Option Nat) (cap' : Nat) (w' : World), w.grownBy w' (sl ob n cap).ownBlock → (Blk.mk ob' e (C ++ news) (cap' * size)).holds w' → (∀ g, ob' = some g → ob = some g ∨ g = w.heap.size) → Mem G w0 w' (L' ob' cap') := by
    intro ob' cap' w' hg hh hlies
    have hsw := hb ob' cap'
    refine ⟨hM.touch.step (H := (ob.toList)) ⟨hg.os, hg.tape, hg.output, hg.size, fun k hk hno => hg.block k hk fun he => hno (by rw [hrow k he.symm]; simp)⟩ ?_, fun b hb' => ?_, fun b hb' => ?_, ?_⟩
    · intro k hk
      have hk' : ob = some k := by cases ob <;> simp_all
      exact hM.own _ hmem k hk'
    · rcases hsw.other hM.nodup b hb' with rfl | ⟨h1, h2⟩
      · exact hh
      · refine (hM.holds b h1).of_block fun k hk => hg.block k ((hM.holds b h1).lt hk) fun he => ?_
        exact h2 k (hrow k he.symm) hk
    · rcases hsw.mem' b hb' with rfl | h1
      · intro g hg'
        rcases hlies g hg' with h1 | h1
        · exact hM.own _ hmem g h1
        · exact .inr (by rw [h1]; exact hM.touch.size)
      · exact hM.own b h1
    · refine hsw.nodup hM.nodup fun g hg' => ?_
      rcases hlies g hg' with h1 | h1
      · exact .inl h1
      · exact .inr fun y hy he => by have := (hM.holds y hy).lt he; omega
  have hrun : ∃ v' w', (Builtin.append_ #[t, t] o.type #[sl ob n cap, u]).run P w = .ok v' w' ∧ w'.ownsRow base e size v' (n + m) (C ++ news) ∧ w.grownBy w' (sl ob n cap).ownBlock ∧ (v'.ownBlock = (sl ob n cap).ownBlock ∨ v'.ownBlock = some w.heap.size) := by
    rcases hsrc with ⟨ad, c, rfl, hnews⟩ | ⟨rfl, rfl, rfl⟩
    · obtain ⟨v', w', r1, r2, r3, -, r4⟩ := run_append_own_at (P := P) w base t o.type e i z size bytes ht hi hz hsize hby hzs hsz (sl ob n cap) n C hown ad m c news hl hnews h1 h63 hbytes hb1
      exact ⟨v', w', r1, r2, r3, r4⟩
    · refine ⟨_, w, run_append_owned_none (P := P) w base t o.type e i size ht hi (sl ob n cap) n C hown, by simpa using hown, World.grownBy.refl _ _, .inl rfl⟩
  obtain ⟨v', w', hr, hown2, hg, hlies⟩ := hrun
  have hr2 : (execOp ρ o).run P w = .ok (.value v') w' := by
    unfold execOp
    simp only [ho, resolve, invoke, builtin, Sem.run_bind, Sem.run_pure, Result.andThen_ok, List.map_toArray, List.map_cons, List.map_nil, hs, hx, hr]
  refine makes_value2 hr2 ?_
  rcases hown2.2 with ⟨rfl, h0⟩ | ⟨g, cap', cur, rfl, hbg, hcell, hc1, hc2, hc3, hc4⟩
  · have hCn : C ++ news = [] := List.eq_nil_of_length_eq_zero (by rw [hown2.1, h0, Nat.zero_mul])
    have := h none 0 w' (fin none 0 w' hg ⟨hCn, by simp⟩ (by simp)) (by omega) (by simp [maxLen])
    rw [h0] at this
    exact this
  · refine h (some g) cap' w' (fin (some g) cap' w' hg ⟨cur.toList.drop ((n + m) * size), ?_, ?_⟩ ?_) hc1 hc2
    · rw [hcell, ← hc4, List.take_append_drop]
    · simp only [List.length_append, hC, hl, List.length_drop, Array.length_toList, hc3]
      have : (n + m) * size ≤ cap' * size := Nat.mul_le_mul_right _ hc1
      rw [Nat.add_mul] at this ⊢
      omega
    · intro k hk
      cases hk
      rcases hlies with h1 | h1
      · left
        exact hrow g (by rw [← h1]; rfl)
      · right
        simpa [Value.ownBlock] using h1
/-- append(nil, u..): a new row -/
theorem makes_append_nil {s x : Operand} {t e : TypeId} {size bytes m : Nat} {news : List Value} {u : Value} (ho : o.op = .call { callee := .builtin .append, args := #[s, x], argTypes := #[t, t] }) (hs : ρ s = .slice none 0 0) (ht : P.underlying t = some (.slice e)) (hel : El P e size bytes)
    (hx : ρ x = u) (hsrc : Src w u m news) (hl : news.length = m * size) (h1 : ∀ u ∈ news, u.oneCell' = true) (h63 : m ≤ maxLen) (hbytes : m * bytes ≤ 140737488355328)
    (h : ∀ ob cap w', Mem [] w w' [⟨ob, e, news, cap * size⟩] → m ≤ cap → cap ≤ maxLen → R (sl ob m cap) w') : Makes P ρ o w R := by
  have hM := (Mem.start w).addNil e
  refine hM.makes_append (ob := none) (n := 0) (cap := 0) (C := []) (N := 0) (L' := fun ob' cap' => [⟨ob', e, [] ++ news, cap' * size⟩]) ho hs ht hel (fun _ _ => .here _ _ _) (by rw [Nat.zero_mul]) (by rw [Nat.zero_mul]; rfl) (by decide) hx hsrc hl h1 (by omega) (by rw [Nat.zero_add]; exact hbytes) ?_
  intro ob cap w' hM2 h2 h3
  rw [Nat.zero_add] at h2
  have := h ob cap w' hM2 h2 h3
  rwa [Nat.zero_add]
end
end Go.PK

namespace Go.PK
open Go.RowKit
abbrev Step := Int × Int × List UInt8
abbrev rOp : Rd Step := rPair rInt (rPair rInt (rSlice rByte))
/-- bytes and steps up to a step -/
def pre (l : List Step) (k : Nat) : Nat := ((l.take k).map fun o => o.2.2.length + 1).sum
end Go.PK

namespace Go.PK
open Go.RowKit
/-- an object: its block, its cells, the row of bytes that is kept beside it -/
structure Sd where
  g : Nat
  C : List Value
  r : PR
def Sd.p (d : Sd) : Value := .pointer (some ⟨d.g, 0, none⟩)
def Sd.v (d : Sd) : Value := d.r.v
def Sd.obj (t : TypeId) (N : Nat) (d : Sd) : Blk := ⟨some d.g, t, d.C, N⟩
section
variable {G : List Nat} {w0 w : World} {t u tp tr : TypeId} {N cP cA : Nat} {oP oA : Option Nat} {ds : List Sd} {ps : List PR} {Z : List Blk}
theorem set_same {α β : Type} (f : α → β) : ∀ {l : List α} {k : Nat} {x y : α}, l[k]? = some x → f y = f x → (l.set k y).map f = l.map f
  | [], _, _, _, h, _ => by simp at h
  | a :: l, 0, x, y, h, e => by
    simp at h
    subst h
    simp [e]
  | a :: l, k + 1, x, y, h, e => by
    rw [List.set_cons_succ, List.map_cons, List.map_cons, set_same f (by simpa using h) e]
end
section
variable {P : Program} {Q : Exit → Act → World → Prop} {ops : Array Oper} {rest : List Oper} {a : Act} {w : World} {G : List Nat} {w0 : World} {L : List Blk} {dst : Option Tmp} {type : TypeId} {pos : String} {after : Array Edge}
/-- append(s, x) of one element of one cell -/
theorem gL_push (hM : Mem G w0 w L) {s x : Operand} {t : TypeId} (h : ∃ (v u : Value) (ob : Option Nat) (n cap : Nat) (e : TypeId) (bytes : Nat) (C : List Value) (X : Value) (L' : Option Nat → Nat → List Blk), a.eval s = v ∧ a.eval x = u ∧ v = sl ob n cap ∧ P.underlying t = some (.slice e) ∧ El P e 1 bytes ∧ Src w u 1 [X] ∧
    (∀ ob' cap', Swap L ⟨ob, e, C, cap * 1⟩ ⟨ob', e, C ++ [X], cap' * 1⟩ (L' ob' cap')) ∧ Len C n ∧ X.oneCell' = true ∧ cap ≤ maxLen ∧ n + 1 ≤ maxLen ∧ (n + 1) * bytes ≤ 140737488355328 ∧
    ∀ ob' cap' w', Mem G w0 w' (L' ob' cap') → n + 1 ≤ cap' → cap' ≤ maxLen → wpList P ops Q rest (a.put dst (sl ob' (n + 1) cap')) w') :
    wpList P ops Q (Oper.mk dst (.call { callee := .builtin .append, args := #[s, x], argTypes := #[t, t] }) type pos after none :: rest) a w :=
  let ⟨_, _, _, _, _, _, _, _, _, _, h1, h2, h3, h4, h5, h6, h7, h8, h9, h10, h11, h12, h13⟩ := h
  wpList_plain rfl fun _ hk => hM.wp_append rfl (h1.trans h3) h4 h5 h7 rfl (by rw [h8.eq, Nat.mul_one]) h10 h2 h6 rfl (fun v hv => by simp at hv; subst hv; exact h9) h11 h12 fun ob' cap' w' g1 g2 g3 => hk _ _ (h13 ob' cap' w' g1 g2 g3)
end
/-- k % n, as Go's program brings it into 0 .. n-1 -/
def wrapI (o : Int) (n : Nat) : Nat := (if o.tmod n < 0 then o.tmod n + n else o.tmod n).toNat
theorem wrapI_lt (o : Int) {n : Nat} (h : 0 < n) : wrapI o n < n := by
  unfold wrapI
  have h1 := Int.tmod_lt_of_pos o (b := (n : Int)) (by omega)
  have h2 := Int.lt_tmod_of_pos o (b := (n : Int)) (by omega)
  split <;> omega
theorem wrapI_neg {o : Int} {n : Nat} (hn : 0 < n) (h : o.tmod n < 0) : o.tmod n + n = (wrapI o n : Int) := by
  unfold wrapI
  have h2 := Int.lt_tmod_of_pos o (b := (n : Int)) (by omega)
  rw [if_pos h]
  omega
theorem wrapI_pos {o : Int} {n : Nat} (h : ¬ o.tmod n < 0) : o.tmod n = (wrapI o n : Int) := by
  unfold wrapI
  rw [if_neg h]
  omega
end Go.PK

namespace Go.PK
open Go.RowKit
section
variable {P : Program} {Q : Exit → Act → World → Prop}
/-- the i-th fact still stands when the k-th operation comes -/
def alive (Ks : List (Option Nat)) (D : List (List Nat)) (i k : Nat) : Bool := match Ks.getD i none with
  | none => true
  | some j => j == k || (D.getD j []).contains k
/-- what a writer may meet: it follows .., or it ends the fact, or the fact says nothing of the world -/
def killOk (n : Nat) (D : List (List Nat)) (Ks : List (Option Nat)) (Is : List Bool) (Ws : List Nat) : Bool :=
  Ws.all fun k => (List.range n).all fun i => i == k || (D.getD i []).contains k || Ks.getD i none == some k || Is.getD i false || (match Ks.getD i none with | some j => (D.getD k []).contains j | none => false)
def ShowK (P : Program) (ops : Array Oper) (Q : Exit → Act → World → Prop) (fr : (Nat → Value) → (Nat → Value) → Act) (X : (Nat → Value) → Prop) (C : World → Prop) (Φs : List (Value → World → Prop)) (D : List (List Nat)) (Ks : List (Option Nat)) (Ws : List Nat) (k : Nat) (o : Oper) : Prop :=
  (∀ c vals v, (fr c vals).put o.dst v = fr c (upd vals k v)) ∧
     ∀ c, X c → ∀ vals w, C w → (∀ j, (D.getD k []).contains j = true → alive Ks D j k = true → Φs.getD j (fun _ _ => True) (vals j) w) →
      ∀ K : Act → World → Prop, (∀ v w', (if Ws.contains k then C w' else Adds w w') → Φs.getD k (fun _ _ => True) v w' → K (fr c (upd vals k v)) w') →
       if Region.wanted o (yielded ops (fr c vals).tmps) = true then o.wp P (fr c vals) w K Q else K ((fr c vals).put o.dst undef) w
def ShowsK (P : Program) (ops : Array Oper) (Q : Exit → Act → World → Prop) (fr : (Nat → Value) → (Nat → Value) → Act) (X : (Nat → Value) → Prop) (C : World → Prop) (Φs : List (Value → World → Prop)) (D : List (List Nat)) (Ks : List (Option Nat)) (Ws : List Nat) :
    Nat → List Oper → Prop
  | _, [] => True
  | k, o :: rest => ShowK P ops Q fr X C Φs D Ks Ws k o ∧ ShowsK P ops Q fr X C Φs D Ks Ws (k + 1) rest
theorem ShowsK.get {ops : Array Oper} {fr : (Nat → Value) → (Nat → Value) → Act} {X : (Nat → Value) → Prop} {C : World → Prop} {Φs : List (Value → World → Prop)} {D : List (List Nat)} {Ks : List (Option Nat)} {Ws : List Nat} :
    ∀ (l : List Oper) (k : Nat), ShowsK P ops Q fr X C Φs D Ks Ws k l → ∀ i o, l[i]? = some o → ShowK P ops Q fr X C Φs D Ks Ws (k + i) o := by
  intro l
  induction l with
  | nil => intro k _ i o h; simp at h
  | cons x l ih =>
    intro k h i o hi
    obtain ⟨h1, h2⟩ := h
    cases i with
    | zero =>
      simp at hi
      subst hi
      exact h1
    | succ i =>
      have := ih (k + 1) h2 i o (by simpa using hi)
      rwa [show k + 1 + i = k + (i + 1) from by omega] at this
def KillInv (l : List Oper) (fr : (Nat → Value) → (Nat → Value) → Act) (c : Nat → Value) (C : World → Prop) (Φs : List (Value → World → Prop)) (D : List (List Nat)) (Ks : List (Option Nat)) (listed : Array Bool) (a : Act) (w' : World) : Prop :=
  listed.size = l.length ∧ C w' ∧ (∃ vals, a = fr c vals ∧ ∀ i, listed[i]? = some true → (∀ k, Ks.getD i none = some k → listed[k]? ≠ some true) → Φs.getD i (fun _ _ => True) (vals i) w') ∧
    ∀ i o, listed[i]? = some true → l[i]? = some o → (∀ k ∈ bound o, listed[k]? = some true) ∧ ∀ j, (D.getD i []).contains j = true → listed[j]? = some true
theorem wp_region_kill {id : Nat} {l : List Oper} (fr : (Nat → Value) → (Nat → Value) → Act) (c vals0 : Nat → Value) {w : World} (hm : P.follows .mixedOrders = true)
    (D : List (List Nat)) (hD : aheadOk l D = true) (Ks : List (Option Nat)) (Is : List Bool) (Ws : List Nat) (hW : killOk l.length D Ks Is Ws = true) (X : (Nat → Value) → Prop) (hX : X c) (C : World → Prop) (hC0 : C w.drew) (hCR : ∀ w w', C w → Adds w w' → C w')
    (Φs : List (Value → World → Prop)) (hΦ : StableAll Φs) (hI : ∀ i x w w', Is.getD i false = true → Φs.getD i (fun _ _ => True) x w → Φs.getD i (fun _ _ => True) x w')
    (hshow : ShowsK P l.toArray Q fr X C Φs D Ks Ws 0 l)
    (hfin : ∀ vals w', C w' → (∀ i, i < l.length → Ks.getD i none = none → Φs.getD i (fun _ _ => True) (vals i) w') → Q .normal (fr c vals) w') : (Code.region id l.toArray true).wp P Q (fr c vals0) w := by
  refine wp_region_any hm ?_
  have hdrew : ({ w with drawn := w.drawn + 1 } : World) = w.drew := rfl
  rw [hdrew]
  have hacyc : ∀ i o, l[i]? = some o → (∀ k ∈ bound o, k < i) ∧ ∀ j, (D.getD i []).contains j = true → j ∈ bound o ∨ ∃ k ∈ bound o, (D.getD k []).contains j = true := by
    intro i o ho
    unfold aheadOk at hD
    rw [List.all_eq_true] at hD
    have := hD (o, i) (by rw [List.mem_iff_getElem?]; exact ⟨i, by simp [ho]⟩)
    simp only [Bool.and_eq_true, List.all_eq_true] at this
    obtain ⟨h1, h2⟩ := this
    refine ⟨fun k hk => by simpa using h1 k hk, fun j hj => ?_⟩
    have := h2 j (by simpa using hj)
    rw [Bool.or_eq_true] at this
    rcases this with h | h
    · exact .inl (by simpa using h)
    · rw [List.any_eq_true] at h
      obtain ⟨k, hk, hj'⟩ := h
      exact .inr ⟨k, hk, hj'⟩
  have hkill : ∀ k, Ws.contains k = true → ∀ i, i < l.length → i = k ∨ (D.getD i []).contains k = true ∨ Ks.getD i none = some k ∨ Is.getD i false = true ∨ ∃ j, Ks.getD i none = some j ∧ (D.getD k []).contains j = true := by
    intro k hk i hi
    unfold killOk at hW
    rw [List.all_eq_true] at hW
    have := hW k (by simpa using hk)
    rw [List.all_eq_true] at this
    have := this i (List.mem_range.2 hi)
    rw [Bool.or_eq_true, Bool.or_eq_true, Bool.or_eq_true, Bool.or_eq_true] at this
    rcases this with (((h | h) | h) | h) | h
    · exact .inl (by simpa using h)
    · exact .inr (.inl h)
    · exact .inr (.inr (.inl (by simpa using h)))
    · exact .inr (.inr (.inr (.inl h)))
    · split at h
      · rename_i j hj
        exact .inr (.inr (.inr (.inr ⟨j, hj, h⟩)))
      · cases h
  refine wpAny_inv (I := KillInv l fr c C Φs D Ks) ?_ ?_ _ _ _ _ ?_ ?_
  · rintro listed a w' ⟨hs, hC, ⟨vals, rfl, hv⟩, hcl⟩ hr
    have hall : ∀ i, i < l.length → listed[i]? = some true := by
      intro i
      induction i using Nat.strongRecOn with
      | ind i ih =>
        intro hi
        have hil : i < listed.size := by omega
        cases hb : listed[i] with
        | true => simp [hil, hb]
        | false =>
          exfalso
          have ho : l[i]? = some l[i] := List.getElem?_eq_getElem hi
          have hmem : i ∈ Region.ready .any l.toArray listed := by
            unfold Region.ready
            rw [List.mem_filter]
            refine ⟨by simp [hi], ?_⟩
            rw [Bool.and_eq_true]
            refine ⟨by simp [Array.getD, hil, hb], ?_⟩
            have : l.toArray[i]? = some l[i] := by simp
            rw [this]
            simp only [Option.map_some, Option.getD_some]
            rw [Array.all_eq_true']
            intro e he
            cases hbd : Region.binds .any e with
            | false => rfl
            | true =>
              have hk : e.on ∈ bound l[i] := by
                unfold bound
                rw [List.mem_map]
                exact ⟨e, List.mem_filter.2 ⟨Array.mem_toList_iff.2 he, hbd⟩, rfl⟩
              have hlt := (hacyc i l[i] ho).1 e.on hk
              have hle := ih e.on hlt (by omega)
              have hlt' : e.on < listed.size := by omega
              simp only [Array.getD, hlt', dite_true, Bool.not_true, Bool.false_or]
              rw [Array.getElem?_eq_getElem hlt'] at hle
              exact Option.some.inj hle
          rw [hr] at hmem
          cases hmem
    exact hfin vals w' hC fun i hi hk => hv i (hall i hi) fun k h => by rw [hk] at h; cases h
  · rintro listed a w' i ⟨hs, hC, ⟨vals, rfl, hv⟩, hcl⟩ hi
    obtain ⟨hun, o, ho, hbd⟩ := mem_ready hi
    have ho' : l[i]? = some o := by simpa using ho
    have hil : i < l.length := (List.getElem?_eq_some_iff.1 ho').1
    have hbd' : ∀ k ∈ bound o, listed[k]? = some true := by
      intro k hk
      unfold bound at hk
      rw [List.mem_map] at hk
      obtain ⟨e, he, rfl⟩ := hk
      rw [List.mem_filter] at he
      have := hbd e he.1 he.2
      by_cases hlt : e.on < listed.size
      · simp [Array.getD, hlt] at this
        simp [hlt, this]
      · simp [Array.getD, hlt] at this
    have hDl : ∀ j, (D.getD i []).contains j = true → listed[j]? = some true := by
      intro j hj
      rcases (hacyc i o ho').2 j hj with h | ⟨k, hk, hj'⟩
      · exact hbd' j h
      · have hkl := hbd' k hk
        have hklt : k < l.length := by have := (hacyc i o ho').1 k hk; omega
        exact (hcl k l[k] hkl (List.getElem?_eq_getElem hklt)).2 j hj'
    have hi' : listed[i]? ≠ some true := by
      have hlt : i < listed.size := by omega
      simp [Array.getD, hlt] at hun
      simp [hlt, hun]
    have hback : ∀ j, j ≠ i → (listed.setIfInBounds i true)[j]? = some true → listed[j]? = some true := fun j hj h => by
      rwa [Array.getElem?_setIfInBounds_ne (Ne.symm hj)] at h
    have hmono : ∀ j : Nat, listed[j]? = some true → (listed.setIfInBounds i true)[j]? = some true := by
      intro j hj
      rw [Array.getElem?_setIfInBounds]
      split
      · rename_i h
        subst h
        rw [if_pos (by omega)]
      · exact hj
    have here : (listed.setIfInBounds i true)[i]? = some true := by rw [Array.getElem?_setIfInBounds, if_pos rfl, if_pos (by omega)]
    obtain ⟨hput, hsh⟩ : ShowK P l.toArray Q fr X C Φs D Ks Ws i o := by
      have := ShowsK.get l 0 hshow i o ho'
      rwa [Nat.zero_add] at this
    have hfin' : ∀ v w'', (if Ws.contains i then C w'' else Adds w' w'') → Φs.getD i (fun _ _ => True) v w'' →
        KillInv l fr c C Φs D Ks (listed.setIfInBounds i true) (fr c (upd vals i v)) w'' := by
      intro v w'' hR hΦi
      refine ⟨by simpa using hs, ?_, ⟨upd vals i v, rfl, fun j hj hnk => ?_⟩, fun j o' hj ho'' => ?_⟩
      · split at hR
        · exact hR
        · exact hCR _ _ hC hR
      · unfold upd
        by_cases hji : j = i
        · subst hji
          rw [if_pos rfl]
          exact hΦi
        · rw [if_neg hji]
          have hjl := hback j hji hj
          have hold := hv j hjl fun k hk h => hnk k hk (hmono k h)
          have hjlt : j < l.length := by
            have := (Array.getElem?_eq_some_iff.1 hjl).1
            omega
          split at hR
          · rename_i hwr
            rcases hkill i hwr j hjlt with h | h | h | h | ⟨j2, h, h2⟩
            · exact absurd h hji
            · exact absurd ((hcl j l[j] hjl (List.getElem?_eq_getElem hjlt)).2 i h) hi'
            · exact absurd here (hnk i h)
            · exact hI _ _ _ _ h hold
            · exact absurd (hmono j2 (hDl j2 h2)) (hnk j2 h)
          · exact hΦ.get _ _ _ _ _ hold hR
      · by_cases hji : j = i
        · subst hji
          rw [ho'] at ho''
          cases ho''
          exact ⟨fun k hk => hmono k (hbd' k hk), fun j' hj' => hmono j' (hDl j' hj')⟩
        · obtain ⟨g1, g2⟩ := hcl j o' (hback j hji hj) ho''
          exact ⟨fun k hk => hmono k (g1 k hk), fun j' hj' => hmono j' (g2 j' hj')⟩
    have hal : ∀ j, alive Ks D j i = true → ∀ k, Ks.getD j none = some k → listed[k]? ≠ some true := by
      intro j ha k hk hkl
      unfold alive at ha
      rw [hk] at ha
      simp only [Bool.or_eq_true] at ha
      rcases ha with h | h
      · have : k = i := by simpa using h
        subst this
        exact hi' hkl
      · have hklt : k < l.length := by
          have := (Array.getElem?_eq_some_iff.1 hkl).1
          omega
        exact hi' ((hcl k l[k] hkl (List.getElem?_eq_getElem hklt)).2 i h)
    have hrun := hsh c hX vals w' hC (fun j hj ha => hv j (hDl j hj) (hal j ha)) _ (fun v w'' hR hΦi => hfin' v w'' hR hΦi)
    unfold wpOp
    rw [ho]
    show if Region.wanted o (yielded l.toArray (fr c vals).tmps) = true then _ else _
    split
    · rename_i hw
      rw [if_pos hw] at hrun
      exact .inl hrun
    · rename_i hw
      rw [if_neg hw] at hrun
      exact hrun
  · show unlisted (Array.replicate l.toArray.size false) ≤ l.toArray.size
    unfold unlisted
    have := List.countP_le_length (p := (! ·)) (l := (Array.replicate l.toArray.size false).toList)
    simpa using this
  · refine ⟨by simp, hC0, ⟨vals0, rfl, fun i hi => ?_⟩, fun i o hi => ?_⟩
    · rw [Array.getElem?_replicate] at hi
      split at hi <;> cases hi
    · rw [Array.getElem?_replicate] at hi
      split at hi <;> cases hi
variable {ops : Array Oper} {fr : (Nat → Value) → (Nat → Value) → Act} {X : (Nat → Value) → Prop} {C : World → Prop} {Φs : List (Value → World → Prop)} {D : List (List Nat)} {Ks : List (Option Nat)} {Ws : List Nat} {o : Oper}
theorem showK_of (k : Nat) (hput : ∀ c vals v, (fr c vals).put o.dst v = fr c (upd vals k v)) (b : Bool) (hW : Ws.contains k = b)
    (h : ∀ c vals w, C w → (∀ j, (D.getD k []).contains j = true → alive Ks D j k = true → Φs.getD j (fun _ _ => True) (vals j) w) → Region.wanted o (yielded ops (fr c vals).tmps) = true ∧ Makes P (fr c vals).eval o w fun v w' => (if b then C w' else Adds w w') ∧ Φs.getD k (fun _ _ => True) v w') :
    ShowK P ops Q fr X C Φs D Ks Ws k o := by
  refine ⟨hput, fun c _ vals w hC hD K hK => ?_⟩
  obtain ⟨hw, hm⟩ := h c vals w hC hD
  rw [if_pos hw]
  refine hm.wp fun v w' hR => ?_
  rw [hput]
  exact hK v w' (by rw [hW]; exact hR.1) hR.2
theorem showK_op (k : Nat) (hput : ∀ c vals v, (fr c vals).put o.dst v = fr c (upd vals k v)) (hg : o.guard = none) (hW : Ws.contains k = false)
    (h : ∀ c vals w, C w → (∀ j, (D.getD k []).contains j = true → alive Ks D j k = true → Φs.getD j (fun _ _ => True) (vals j) w) → Makes P (fr c vals).eval o w fun v w' => Adds w w' ∧ Φs.getD k (fun _ _ => True) v w') :
    ShowK P ops Q fr X C Φs D Ks Ws k o := showK_of k hput false hW fun c vals w hC hD => ⟨wanted_none hg, h c vals w hC hD⟩
theorem showK_wr (k : Nat) (hput : ∀ c vals v, (fr c vals).put o.dst v = fr c (upd vals k v)) (hg : o.guard = none) (hW : Ws.contains k = true)
    (h : ∀ c vals w, C w → (∀ j, (D.getD k []).contains j = true → alive Ks D j k = true → Φs.getD j (fun _ _ => True) (vals j) w) → Makes P (fr c vals).eval o w fun v w' => C w' ∧ Φs.getD k (fun _ _ => True) v w') :
    ShowK P ops Q fr X C Φs D Ks Ws k o := showK_of k hput true hW fun c vals w hC hD => ⟨wanted_none hg, h c vals w hC hD⟩
theorem showK_run (k : Nat) (hput : ∀ c vals v, (fr c vals).put o.dst v = fr c (upd vals k v)) {j : Nat} {want : Bool} {oj : Oper} {d : Nat} (hg : o.guard = some (j, want)) (hj : ops[j]? = some oj) (hd : oj.dst = some d)
    (hv : ∀ c vals, (fr c vals).tmps[d]? = some (vals j)) (hW : Ws.contains k = false)
    (h : ∀ c vals w, C w → (∀ j, (D.getD k []).contains j = true → alive Ks D j k = true → Φs.getD j (fun _ _ => True) (vals j) w) → vals j = .bool want ∧ Makes P (fr c vals).eval o w fun v w' => Adds w w' ∧ Φs.getD k (fun _ _ => True) v w') :
    ShowK P ops Q fr X C Φs D Ks Ws k o :=
  showK_of k hput false hW fun c vals w hC hD => ⟨wanted_of hg hj hd (hv c vals) (h c vals w hC hD).1, (h c vals w hC hD).2⟩
theorem showK_runwr (k : Nat) (hput : ∀ c vals v, (fr c vals).put o.dst v = fr c (upd vals k v)) {j : Nat} {want : Bool} {oj : Oper} {d : Nat} (hg : o.guard = some (j, want)) (hj : ops[j]? = some oj) (hd : oj.dst = some d)
    (hv : ∀ c vals, (fr c vals).tmps[d]? = some (vals j)) (hW : Ws.contains k = true)
    (h : ∀ c vals w, C w → (∀ j, (D.getD k []).contains j = true → alive Ks D j k = true → Φs.getD j (fun _ _ => True) (vals j) w) → vals j = .bool want ∧ Makes P (fr c vals).eval o w fun v w' => C w' ∧ Φs.getD k (fun _ _ => True) v w') :
    ShowK P ops Q fr X C Φs D Ks Ws k o :=
  showK_of k hput true hW fun c vals w hC hD => ⟨wanted_of hg hj hd (hv c vals) (h c vals w hC hD).1, (h c vals w hC hD).2⟩
end
end Go.PK

namespace Go.PK
open Go.RowKit
/-- what a call made, beside what is owned -/
theorem Mem.plus {G : List Nat} {w0 w w' : World} {L L' : List Blk} (h : Mem G w0 w L) (k : Mem [] w w' L') : Mem G w0 w' (L' ++ L) := by
  have h2 := h.adds k.done
  refine ⟨h2.touch, fun b hb => ?_, fun b hb g hg => ?_, ?_⟩
  · rcases List.mem_append.1 hb with hb | hb
    · exact k.holds b hb
    · exact h2.holds b hb
  · rcases List.mem_append.1 hb with hb | hb
    · exact .inr (Nat.le_trans h.touch.size ((k.own b hb g hg).resolve_left (by simp)))
    · exact h.own b hb g hg
  · rw [List.filterMap_append, List.nodup_append]
    refine ⟨k.nodup, h.nodup, fun a ha b hb hab => ?_⟩
    subst hab
    obtain ⟨x, hx, hxe⟩ := mem_ids.1 ha
    obtain ⟨y, hy, hye⟩ := mem_ids.1 hb
    have h3 := (k.own x hx a hxe).resolve_left (by simp)
    have h4 := (h.holds y hy).lt hye
    omega
theorem rot3 {α : Type} (a b c : α) (R : List α) : (a :: b :: c :: R).Perm (b :: c :: a :: R) := (List.Perm.swap b a _).trans (List.Perm.cons b (List.Perm.swap c a _))
end Go.PK
namespace Go.Proofs.Ytejmbkljnhnklaa
open Go.RowKit Go.PK
/-- a book's four blocks -/
abbrev bkL (gl : Nat) (ob : Option Nat) (cap gb : Nat) (oa : Option Nat) (capa n : Nat) (A : List Value) (L : List Blk) : List Blk :=
  ⟨some gl, 122, [sl ob n cap], 1⟩ :: ⟨ob, 64, A, cap * 33⟩ :: ⟨some gb, 60, [.pointer (some ⟨gl, 0, none⟩), sl oa n capa], 2⟩ :: ⟨oa, 64, A, capa * 33⟩ :: L
/-- a step's cells -/
def opC (kd on : Int) (e : Ev) (vk vn : Value) : List Value := .int .i64 kd :: .int .i64 on :: (evC e ++ [vk, vn])
section
variable {kd on : Int} {e : Ev} {vk vn : Value}
theorem opC_len (he : Len e.1 32) : Len (opC kd on e vk vn) 37 := Len.of (by
  have := (evC_len he).eq
  simp only [opC, List.length_cons, List.length_append, this, List.length_nil])
theorem opC_e (he : Len e.1 32) : ((opC kd on e vk vn).drop 2).take 33 = evC e := by
  show (evC e ++ [vk, vn]).take 33 = evC e
  exact List.take_left' (evC_len he).eq
theorem opC_k (he : Len e.1 32) : (opC kd on e vk vn)[35]? = some vk := by
  show (evC e ++ [vk, vn])[33]? = some vk
  rw [List.getElem?_append_right (by rw [(evC_len he).eq]; exact Nat.le_refl _), (evC_len he).eq]
  rfl
theorem opC_n (he : Len e.1 32) : (opC kd on e vk vn)[36]? = some vn := by
  show (evC e ++ [vk, vn])[34]? = some vn
  rw [List.getElem?_append_right (by rw [(evC_len he).eq]; decide), (evC_len he).eq]
  rfl
end
theorem str_at {w : World} {v : Value} {l : List UInt8} (h : Bytes w v l) : (convert 22 9 v).run Try.prog w = .ok (.string ⟨l.toArray⟩) w :=
  run_str 22 9 5 Try.underlying22 Try.underlying5 Try.underlying9 h
end Go.Proofs.Ytejmbkljnhnklaa

namespace Go.PK
open Go.RowKit
/-- one of many, brought forward and put back -/
theorem flat_out {α β : Type} (f : α → List β) : ∀ {l : List α} {k : Nat} {d : α}, l[k]? = some d → ∃ R, (l.flatMap f).Perm (f d ++ R) ∧ ∀ d', ((l.set k d').flatMap f).Perm (f d' ++ R)
  | [], _, _, h => by simp at h
  | a :: l, 0, d, h => by
    simp at h
    subst h
    exact ⟨l.flatMap f, by rw [List.flatMap_cons], fun d' => by rw [List.set_cons_zero, List.flatMap_cons]⟩
  | a :: l, k + 1, d, h => by
    obtain ⟨R, h1, h2⟩ := flat_out f (l := l) (k := k) (by simpa using h)
    have key : ∀ (X Y : List β), X.Perm (Y ++ R) → (f a ++ X).Perm (Y ++ (f a ++ R)) := fun X Y h => by
      refine (List.Perm.append_left _ h).trans ?_
      rw [← List.append_assoc, ← List.append_assoc]
      exact List.Perm.append_right _ List.perm_append_comm
    refine ⟨f a ++ R, ?_, fun d' => ?_⟩
    · rw [List.flatMap_cons]; exact key _ _ h1
    · rw [List.set_cons_succ, List.flatMap_cons]; exact key _ _ (h2 d')
end Go.PK
namespace Go.Proofs.Ytejmbkljnhnklaa
open Go.RowKit Go.PK
/-- a book: its log, its own block, the events -/
structure Bk where
  gl : Nat
  ob : Option Nat
  cap : Nat
  gb : Nat
  oa : Option Nat
  capa : Nat
  l : List Ev
def Bk.p (d : Bk) : Value := .pointer (some ⟨d.gb, 0, none⟩)
abbrev Bk.bs (d : Bk) (L : List Blk) : List Blk := bkL d.gl d.ob d.cap d.gb d.oa d.capa d.l.length (evs d.l) L
structure Bk.Ok (d : Bk) : Prop where
  good : ∀ e ∈ d.l, Len e.1 32
  few : d.l.length ≤ 1024
  cap : d.cap ≤ maxLen
  capa : d.capa ≤ maxLen
/-- all books' blocks -/
def bks (ds : List Bk) : List Blk := ds.flatMap fun d => d.bs []
section
variable {G : List Nat} {w0 w : World} {ds : List Bk} {b : Blk}
theorem Mem.bk_out {k : Nat} {d : Bk} (h : ds[k]? = some d) : ∃ R, (Mem G w0 w (b :: bks ds) → Mem G w0 w (d.bs (b :: R))) ∧ ∀ d' w', Mem G w0 w' (d'.bs (b :: R)) → Mem G w0 w' (b :: bks (ds.set k d')) := by
  obtain ⟨R, h1, h2⟩ := flat_out (fun d : Bk => d.bs []) h
  have key : ∀ (d : Bk), (b :: (d.bs [] ++ R)).Perm (d.bs (b :: R)) := fun d => (List.perm_middle (a := b) (l₁ := d.bs []) (l₂ := R)).symm
  exact ⟨R, fun hM => hM.perm ((List.Perm.cons b h1).trans (key d)), fun d' w' hM => hM.perm ((key d').symm.trans (List.Perm.cons b (h2 d').symm))⟩
theorem Mem.bk_new {d : Bk} (hM : Mem G w0 w (d.bs (b :: bks ds))) : Mem G w0 w (b :: bks (ds ++ [d])) := by
  refine hM.perm ?_
  have e : bks (ds ++ [d]) = bks ds ++ d.bs [] := by unfold bks; rw [List.flatMap_append]; simp
  rw [e]
  have h1 : (d.bs (b :: bks ds)).Perm (b :: (d.bs [] ++ bks ds)) := List.perm_middle (a := b) (l₁ := d.bs []) (l₂ := bks ds)
  exact h1.trans (List.Perm.cons b List.perm_append_comm)
end
section
variable {P : Program}
/-- a slice, and how many bytes its elements are together -/
def rSliceB (k : Nat) {α : Type} (r : Rd α) : Rd (List α) := { rSlice r with ok := fun l => l.length * k ≤ 140737488351232 ∧ (rSlice r).ok l }
theorem opens_sliceB {α : Type} {r : Rd α} {t e : TypeId} (k : Nat) (ht : P.underlying t = some (.slice e)) (hr : Opens P e r) (hc : P.cellsOf e = r.sz) (hsz : 0 < r.sz) (hb : 1 ≤ P.bytesOf e) (hk : k ≤ P.bytesOf e) : Opens P t (rSliceB k r) := by
  intro H enc w fuel cs x h hw
  obtain ⟨l, hK, hok⟩ := opens_slice ht hr hc hsz hb H enc w fuel cs x h hw
  refine ⟨l, hK, ?_, hok⟩
  obtain ⟨ao, cp, he, -⟩ := hK
  rcases DataW.trod_slice ht h with ⟨rfl, rfl⟩ | ⟨a, len, cap, elems, rest, n, _, rfl, rfl, -, hl, hm, hlen, hel, hsp, -⟩
  · have : l.length = 0 := by simp at he; exact he.2.1.symm
    rw [this, Nat.zero_mul]
    exact Nat.zero_le _
  · have h1 := hw (((elems.map (·.1)).length + (rest.map (·.1)).length) * P.bytesOf e) (by simp [DataW.weights, ht])
    rw [List.length_map, List.length_map, hlen] at h1
    have h2 : l.length = len := by simp at he; exact he.2.1.symm
    rw [h2]
    have h3 : len * k ≤ (len + rest.length) * P.bytesOf e := Nat.mul_le_mul (Nat.le_add_right _ _) hk
    exact Nat.le_trans h3 h1
end
abbrev Op16 := Int × Int × Ev × List UInt8 × List UInt8
abbrev rOp16 : Rd Op16 := rPair rInt (rPair rInt (rPair rEv (rPair (rSlice rByte) (rSlice rByte))))
theorem ops_form {w : World} {v : Value} {l : List Op16} (h : (rSlice rOp16).K w [v] l) : ∃ ao cap, v = .slice ao l.length cap ∧ l.length ≤ cap ∧ cap ≤ 9223372036854775807 := by
  obtain ⟨ao, cap, e, h1, h2, -⟩ := h
  exact ⟨ao, cap, by simpa using e, h1, h2⟩
/-- a step of the script, in every later world -/
theorem op16_at {w0 : World} {ao : Option Addr} {n cap : Nat} {l : List Op16} (hK : (rSlice rOp16).K w0 [.slice ao n cap] l) (ho : (rSlice rOp16).ok l) {j : Nat} (hj : j < l.length) :
    ∃ (kd on : Int) (e : Ev) (vk vn : Value) (key nonce : List UInt8) (b off : Nat), ao = some ⟨b, off, none⟩ ∧ Len e.1 32 ∧ key.length ≤ 140737488351232 ∧ nonce.length ≤ 140737488351232 ∧ (∀ w, Adds w0 w → Bytes w vk key) ∧ (∀ w, Adds w0 w → Bytes w vn nonce) ∧
      ∀ w, Adds w0 w → Loads Try.prog w 66 ⟨b, off + j * 37, none⟩ (.agg (opC kd on e vk vn).toArray) := by
  obtain ⟨ao', cap', he, h1, h2, h3, h4⟩ := hK
  cases he
  obtain ⟨b, off, rfl, hb, cells, hC, hc⟩ := h4 j _ (List.getElem?_eq_getElem hj)
  have hok := ho.2 _ (List.getElem_mem hj)
  obtain ⟨c1, c2, rfl, e1, c3, c4, rfl, e2, c5, c6, rfl, e3, c7, c8, rfl, e4, e5⟩ := hC
  obtain rfl : c1 = [.int .i64 l[j].1] := e1
  obtain rfl : c3 = [.int .i64 l[j].2.1] := e2
  obtain ⟨rfl, hl⟩ := ev_K e3
  obtain ⟨ao7, cap7, e7, -⟩ := id e4
  obtain ⟨ao8, cap8, e8, -⟩ := id e5
  obtain ⟨vk, rfl⟩ : ∃ v, c7 = [v] := ⟨_, e7⟩
  obtain ⟨vn, rfl⟩ : ∃ v, c8 = [v] := ⟨_, e8⟩
  have hk := Bytes.of_K e4
  have hn := Bytes.of_K e5
  refine ⟨l[j].1, l[j].2.1, l[j].2.2.1, vk, vn, l[j].2.2.2.1, l[j].2.2.2.2, b, off, rfl, hl, hok.2.2.2.1.1, hok.2.2.2.2.1, fun w hw => hk.adds hw, fun w hw => hn.adds hw, fun w hw => loads_agg (n := 37) (ag_of rfl) (opC_len hl) fun i v hi => ?_⟩
  have hi37 : i < 37 := by
    have := (List.getElem?_eq_some_iff.1 hi).1
    rwa [(opC_len hl).eq] at this
  rw [Addr.add_lit, Nat.add_assoc, cell_below hw (by exact hb)]
  refine (hc i (by exact hi37)).trans ?_
  rw [← hi]
  simp only [opC, List.cons_append, List.nil_append]
end Go.Proofs.Ytejmbkljnhnklaa
