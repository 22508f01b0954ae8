/-
  Law 16's step: Register.
  Law 16's step: Add.
  Law 16's step: Events.
-/
import Derived.Test.YtejmbkljnhnklaaPk
import Derived.ArgAppend
namespace Go.Proofs.Ytejmbkljnhnklaa
open Go.RowKit Go.PK
set_option maxRecDepth 100000 in
set_option maxHeartbeats 4000000 in
theorem step_register {w0 wS : World} {L : List Blk} (gl gb : Nat) (ob oa : Option Nat) (cap capa : Nat) (l : List Ev) (hg : ∀ e ∈ l, Len e.1 32) (hl : l.length ≤ 1024)
    (hM : Mem [] w0 wS (bkL gl ob cap gb oa capa l.length (evs l) L)) (C : List Value) (hCl : Len C 37) (h0 : C[0]? = some (.int .i64 3)) :
    Calls Try.prog 36 #[.pointer (some ⟨gb, 0, none⟩), .agg C.toArray] wS fun x w' => x = .returned (.bool true) ∧ Mem [] w0 w' (bkL gl ob cap gb oa capa l.length (evs l) L) := by
  obtain ⟨T, hT⟩ : ∃ T, Chain.reg l = T := ⟨_, rfl⟩
  have hTl : Len T 32 := by rw [← hT]; exact Len.of (Chain.reg_len _)
  have hlog : ∀ w', Mem [] w0 w' (bkL gl ob cap gb oa capa l.length (evs l) L) → _ := fun w' hM => log_Register w' gl ob l.length cap l (hM.rowN (.head _) rfl) (evs_elems hM (.tail _ (.head _)) hg) (Len.of rfl) (by omega) T hT
  have href : ∀ w', Mem [] w0 w' (bkL gl ob cap gb oa capa l.length (evs l) L) → _ := fun w' hM => ref16_Register w' (oa.map fun g => ⟨g, 0, none⟩) capa l (evs_elems hM (.tail _ (.tail _ (.tail _ (.head _)))) hg) (by omega) T hT
  clear hT
  obtain ⟨n, hn⟩ : ∃ n, n = l.length := ⟨_, rfl⟩
  obtain ⟨A, hA⟩ : ∃ A, A = evs l := ⟨_, rfl⟩
  rw [← hn, ← hA] at hM hlog href
  rw [← hn] at hl
  rw [← hn, ← hA]
  clear hn hA hg
  go_enter Try.func36, Try.ntmps36
  go_wp2_with (first
    | ((with_reducible refine gL_box hM ?_); refine ⟨_, C, 37, rfl, rfl, hCl, ?_⟩; intro g3 w1 hM2; clear hM; have hM := hM2; clear hM2)
    | ((with_reducible refine gL_load (dst := some 14) ?_); refine ⟨_, _, rfl, hM.loads_one (.head _) (on_of rfl) h0, ?_⟩))
  try simp only [Act.put, List.setIfInBounds_toArray, List.set_cons_succ, List.set_cons_zero]
  refine wp_region_tail 12 (by decide) (fun c vals => ⟨#[(Value.pointer (some ⟨gb, 0, none⟩) : Value), c 1, c 2, c 3, vals 11, c 5, c 6, c 7, c 8, c 9, c 10, c 11, c 12, c 13, c 14, c 15, c 16, c 17, c 18, c 19, c 20, c 21, c 22, c 23, c 24, c 25, c 26, c 27, c 28, c 29, c 30, c 31, c 32, c 33, c 34, c 35, c 36, c 37, c 38, c 39, c 40, c 41, c 42, c 43, c 44, c 45, c 46, c 47, vals 0, vals 1, vals 2, vals 3, vals 4, vals 5, vals 6, vals 7, vals 8, vals 9, vals 10, c 59, c 60, c 61, c 62, c 63, c 64, c 65, c 66, c 67, c 68, c 69, c 70, c 71, c 72, c 73, c 74, c 75, c 76, c 77, c 78, c 79, c 80, c 81, c 82, c 83, c 84, c 85, c 86, c 87, c 88, c 89, c 90, c 91, c 92, c 93, c 94, c 95, c 96, c 97, c 98, c 99, c 100, c 101, c 102, c 103, c 104, c 105, c 106, c 107, c 108, c 109, c 110, c 111, c 112, c 113, c 114, c 115, c 116, c 117, c 118, c 119, c 120, c 121, c 122, c 123, c 124, c 125, c 126, c 127, c 128, c 129, c 130, c 131, c 132, c 133, c 134, c 135, c 136, c 137, c 138, c 139, c 140, c 141, c 142, c 143, c 144, c 145, c 146, c 147, c 148, c 149, c 150, c 151, c 152, c 153, c 154, c 155, c 156, c 157, c 158, c 159, c 160, c 161, c 162, c 163, c 164, c 165, c 166, c 167, c 168, c 169, c 170, c 171, c 172, c 173, c 174, c 175, c 176, c 177, c 178, c 179], []⟩) (fun t => [undef, _, _, _, undef, _, _, _, _, _, _, _, _, _, _, _, _, _, _, _, _, _, _, _, _, _, _, _, _, _, _, _, _, _, _, _, _, _, _, _, _, _, _, _, _, _, _, _, undef, undef, undef, undef, undef, undef, undef, undef, undef, undef, undef, _, _, _, _, _, _, _, _, _, _, _, _, _, _, _, _, _, _, _, _, _, _, _, _, _, _, _, _, _, _, _, _, _, _, _, _, _, _, _, _, _, _, _, _, _, _, _, _, _, _, _, _, _, _, _, _, _, _, _, _, _, _, _, _, _, _, _, _, _, _, _, _, _, _, _, _, _, _, _, _, _, _, _, _, _, _, _, _, _, _, _, _, _, _, _, _, _, _, _, _, _, _, _, _, _, _, _, _, _, _, _, _, _, _, _, _, _, _, _, _, _].getD t undef) (fun i => [_, _, _, _, _, _, _, _, _, _, _, _].getD i undef) (by kernel_rfl)
    [[], [0], [0, 1], [0, 1, 2], [0, 1, 2, 3], [], [5], [5, 6], [5, 6, 7], [0, 1, 2, 3, 4, 5, 6, 7, 8], [0, 1, 2, 3, 4, 5, 6, 7, 8, 9], [0, 1, 2, 3, 4, 5, 6, 7, 8, 9, 10]] (by kernel_rfl) (by kernel_rfl) (fun _ => True) trivial
    [fun x _ => x = (Value.pointer (some ⟨gb, 0, none⟩) : Value),
     fun x _ => x = (Value.pointer (some ⟨gb, 0, none⟩) : Value),
     fun x _ => x = (Value.pointer (some ⟨gb, 0, none⟩) : Value),
     fun x _ => x = (Value.pointer (some ⟨gl, 0, none⟩) : Value),
     fun x _ => x = (Value.agg (T.map B8).toArray : Value),
     fun x _ => x = (Value.pointer (some ⟨gb, 0, none⟩) : Value),
     fun x _ => x = (Value.pointer (some ⟨gb, 0, none⟩) : Value),
     fun x _ => x = (Value.pointer (some ⟨gb, 1, none⟩) : Value),
     fun x _ => x = (sl oa n capa : Value),
     fun x _ => x = (Value.agg (T.map B8).toArray : Value),
     fun x _ => x = (Value.bool true : Value),
     fun x _ => x = (Value.bool true : Value)]
    ⟨fun _ _ _ h _ => h, fun _ _ _ h _ => h, fun _ _ _ h _ => h, fun _ _ _ h _ => h, fun _ _ _ h _ => h, fun _ _ _ h _ => h, fun _ _ _ h _ => h, fun _ _ _ h _ => h, fun _ _ _ h _ => h, fun _ _ _ h _ => h, fun _ _ _ h _ => h, fun _ _ _ h _ => h, trivial⟩ []
    ⟨?_, ?_, ?_, ?_, ?_, ?_, ?_, ?_, ?_, ?_, ?_, ?_, trivial⟩ ?_
  · refine showA_op 0 (by intro _ _ _; kernel_rfl) rfl rfl (fun c vals w hC hD => ?_)
    clear hD
    refine makes1 (x := .tmp 0) (X := Value.pointer (some ⟨gb, 0, none⟩)) (by kernel_rfl : _ = (Value.pointer (some ⟨gb, 0, none⟩) : Value)) (fun ρ rc rf q0 => ?_)
    exact makes_move (.inl rfl) q0 ⟨Adds.refl _, rfl⟩
  · refine showA_op 1 (by intro _ _ _; kernel_rfl) rfl rfl (fun c vals w hC hD => ?_)
    have h0 : vals 0 = .pointer (some ⟨gb, 0, none⟩) := hD 0 rfl
    clear hD
    refine makes1 (x := .tmp 48) (X := Value.pointer (some ⟨gb, 0, none⟩)) ((by kernel_rfl : _ = vals 0).trans h0) (fun ρ rc rf q48 => ?_)
    clear h0
    refine makes_value (v := Value.pointer (some ⟨gb, 0, none⟩)) ?_ ⟨Adds.refl _, rfl⟩
    go_simp
    all_goals first | done | rfl | (rw [if_pos (by omega)]; refine congrArg (fun x => Result.ok (Next.value (Value.pointer (some ⟨_, x, none⟩))) _) ?_; omega) | (rw [wrapP_i64]; omega) | go_num | (simp; done) | (simp; omega) | (congr 1; first | rfl | (rw [wrapP_i64]; omega) | (congr 1; first | rfl | (simp; done) | (simp; omega) | (congr 2; omega) | go_num))
  · refine showA_op 2 (by intro _ _ _; kernel_rfl) rfl rfl (fun c vals w hC hD => ?_)
    have h1 : vals 1 = .pointer (some ⟨gb, 0, none⟩) := hD 1 rfl
    clear hD
    refine makes1 (x := .tmp 49) (X := Value.pointer (some ⟨gb, 0, none⟩)) ((by kernel_rfl : _ = vals 1).trans h1) (fun ρ rc rf q49 => ?_)
    clear h1
    refine makes_value (v := Value.pointer (some ⟨gb, 0, none⟩)) ?_ ⟨Adds.refl _, rfl⟩
    go_simp
    all_goals first | done | rfl | (rw [if_pos (by omega)]; refine congrArg (fun x => Result.ok (Next.value (Value.pointer (some ⟨_, x, none⟩))) _) ?_; omega) | (rw [wrapP_i64]; omega) | go_num | (simp; done) | (simp; omega) | (congr 1; first | rfl | (rw [wrapP_i64]; omega) | (congr 1; first | rfl | (simp; done) | (simp; omega) | (congr 2; omega) | go_num))
  · refine showA_op 3 (by intro _ _ _; kernel_rfl) rfl rfl (fun c vals w hC hD => ?_)
    have h2 : vals 2 = .pointer (some ⟨gb, 0, none⟩) := hD 2 rfl
    clear hD
    refine makes1 (x := .tmp 50) (X := Value.pointer (some ⟨gb, 0, none⟩)) ((by kernel_rfl : _ = vals 2).trans h2) (fun ρ rc rf q50 => ?_)
    clear h2
    exact makes_load ((hM.adds hC).loads_one (.tail _ (.tail _ (.tail _ (.head _)))) (on_of rfl) rfl) rfl q50 ⟨Adds.refl _, rfl⟩
  · refine showA_op 4 (by intro _ _ _; kernel_rfl) rfl rfl (fun c vals w hC hD => ?_)
    have h3 : vals 3 = .pointer (some ⟨gl, 0, none⟩) := hD 3 rfl
    clear hD
    refine makes1 (x := .tmp 51) (X := Value.pointer (some ⟨gl, 0, none⟩)) ((by kernel_rfl : _ = vals 3).trans h3) (fun ρ rc rf q51 => ?_)
    clear h3
    refine makes_call (hlog _ (hM.adds hC).drop) ?_ (by rintro e w' ⟨rfl, hb⟩; exact ⟨_, rfl, hb, rfl⟩)
    go_simp
  · refine showA_op 5 (by intro _ _ _; kernel_rfl) rfl rfl (fun c vals w hC hD => ?_)
    clear hD
    refine makes1 (x := .tmp 0) (X := Value.pointer (some ⟨gb, 0, none⟩)) (by kernel_rfl : _ = (Value.pointer (some ⟨gb, 0, none⟩) : Value)) (fun ρ rc rf q0 => ?_)
    exact makes_move (.inl rfl) q0 ⟨Adds.refl _, rfl⟩
  · refine showA_op 6 (by intro _ _ _; kernel_rfl) rfl rfl (fun c vals w hC hD => ?_)
    have h5 : vals 5 = .pointer (some ⟨gb, 0, none⟩) := hD 5 rfl
    clear hD
    refine makes1 (x := .tmp 53) (X := Value.pointer (some ⟨gb, 0, none⟩)) ((by kernel_rfl : _ = vals 5).trans h5) (fun ρ rc rf q53 => ?_)
    clear h5
    refine makes_value (v := Value.pointer (some ⟨gb, 0, none⟩)) ?_ ⟨Adds.refl _, rfl⟩
    go_simp
    all_goals first | done | rfl | (rw [if_pos (by omega)]; refine congrArg (fun x => Result.ok (Next.value (Value.pointer (some ⟨_, x, none⟩))) _) ?_; omega) | (rw [wrapP_i64]; omega) | go_num | (simp; done) | (simp; omega) | (congr 1; first | rfl | (rw [wrapP_i64]; omega) | (congr 1; first | rfl | (simp; done) | (simp; omega) | (congr 2; omega) | go_num))
  · refine showA_op 7 (by intro _ _ _; kernel_rfl) rfl rfl (fun c vals w hC hD => ?_)
    have h6 : vals 6 = .pointer (some ⟨gb, 0, none⟩) := hD 6 rfl
    clear hD
    refine makes1 (x := .tmp 54) (X := Value.pointer (some ⟨gb, 0, none⟩)) ((by kernel_rfl : _ = vals 6).trans h6) (fun ρ rc rf q54 => ?_)
    clear h6
    refine makes_value (v := Value.pointer (some ⟨gb, 1, none⟩)) ?_ ⟨Adds.refl _, rfl⟩
    go_simp
    all_goals first | done | rfl | (rw [if_pos (by omega)]; refine congrArg (fun x => Result.ok (Next.value (Value.pointer (some ⟨_, x, none⟩))) _) ?_; omega) | (rw [wrapP_i64]; omega) | go_num | (simp; done) | (simp; omega) | (congr 1; first | rfl | (rw [wrapP_i64]; omega) | (congr 1; first | rfl | (simp; done) | (simp; omega) | (congr 2; omega) | go_num))
  · refine showA_op 8 (by intro _ _ _; kernel_rfl) rfl rfl (fun c vals w hC hD => ?_)
    have h7 : vals 7 = .pointer (some ⟨gb, 1, none⟩) := hD 7 rfl
    clear hD
    refine makes1 (x := .tmp 55) (X := Value.pointer (some ⟨gb, 1, none⟩)) ((by kernel_rfl : _ = vals 7).trans h7) (fun ρ rc rf q55 => ?_)
    clear h7
    exact makes_load ((hM.adds hC).loads_one (.tail _ (.tail _ (.tail _ (.head _)))) (on_of rfl) rfl) rfl q55 ⟨Adds.refl _, rfl⟩
  · refine showA_op 9 (by intro _ _ _; kernel_rfl) rfl rfl (fun c vals w hC hD => ?_)
    have h8 : vals 8 = sl oa n capa := hD 8 rfl
    clear hD
    refine makes1 (x := .tmp 56) (X := sl oa n capa) ((by kernel_rfl : _ = vals 8).trans h8) (fun ρ rc rf q56 => ?_)
    clear h8
    refine makes_call (href _ (hM.adds hC).drop) ?_ (by rintro e w' ⟨rfl, hb⟩; exact ⟨_, rfl, hb, rfl⟩)
    go_simp
  · refine showA_op 10 (by intro _ _ _; kernel_rfl) rfl rfl (fun c vals w hC hD => ?_)
    have h4 : vals 4 = .agg (T.map B8).toArray := hD 4 rfl
    have h9 : vals 9 = .agg (T.map B8).toArray := hD 9 rfl
    clear hD
    refine makes2 (x := .tmp 52) (X := Value.agg (T.map B8).toArray) (y := .tmp 57) (Y := Value.agg (T.map B8).toArray) ((by kernel_rfl : _ = vals 4).trans h4) ((by kernel_rfl : _ = vals 9).trans h9) (fun ρ rc rf q52 q57 => ?_)
    clear h4 h9
    exact makes_eql (hash_self _ hTl) rfl q52 q57 ⟨Adds.refl _, rfl⟩
  · refine showA_op 11 (by intro _ _ _; kernel_rfl) rfl rfl (fun c vals w hC hD => ?_)
    have h10 : vals 10 = .bool true := hD 10 rfl
    clear hD
    refine makes1 (x := .tmp 58) (X := Value.bool true) ((by kernel_rfl : _ = vals 10).trans h10) (fun ρ rc rf q58 => ?_)
    clear h10
    exact makes_move (.inr rfl) q58 ⟨Adds.refl _, rfl⟩
  intro vals w' hC hΦ hne
  have h11 : vals 11 = .bool true := hΦ 11 (by decide)
  clear hΦ hne
  simp only [List.getD_eq_getElem?_getD, List.getElem?_cons_zero, List.getElem?_cons_succ, Option.getD_some, List.drop_succ_cons, List.drop_zero]
  simp only [h11]
  clear h11
  try simp only [tuple_undef]
  replace hM := hM.adds hC
  go_wp2_with fail
  go_ret
  exact ⟨rfl, hM.drop⟩
end Go.Proofs.Ytejmbkljnhnklaa

namespace Go.PK
open Go.RowKit
section
variable {G : List Nat} {w0 w : World} {a : Blk} {R : List Blk}
theorem Mem.down (l : List Blk) (hM : Mem G w0 w (a :: (l ++ R))) : Mem G w0 w (l ++ a :: R) := hM.perm List.perm_middle.symm
theorem Mem.up (l : List Blk) (hM : Mem G w0 w (l ++ a :: R)) : Mem G w0 w (a :: (l ++ R)) := hM.perm List.perm_middle
end
theorem evs_src2 {G : List Nat} {w0 w : World} {L : List Blk} {ob : Option Nat} {e : TypeId} {n cap k : Nat} {A : List Value} (hM : Mem G w0 w L) (hb : ⟨ob, e, A, cap * (k + 1)⟩ ∈ L) (hA : A.length = n * (k + 1)) : Src w (sl ob n cap) n A := by
  cases ob with
  | none =>
    have hh := hM.holds _ hb
    obtain ⟨h1, h2⟩ : A = [] ∧ cap * (k + 1) = 0 := hh
    have h3 : cap = 0 := by
      rcases Nat.mul_eq_zero.1 h2 with h | h
      · exact h
      · omega
    subst h1 h3
    have h4 : n = 0 := by
      rcases Nat.mul_eq_zero.1 hA.symm with h | h
      · exact h
      · omega
    subst h4
    exact .inr ⟨rfl, rfl, rfl⟩
  | some g => exact hM.src hb
end Go.PK
namespace Go.Proofs.Ytejmbkljnhnklaa
open Go.RowKit Go.PK
theorem evs_one (l : List Ev) : ∀ v ∈ evs l, v.oneCell' = true := by
  intro v hv
  obtain ⟨e, -, h⟩ := List.mem_flatMap.1 hv
  exact evC_one e v h
/-- what a step leaves of a book -/
def StepOut (w0 w : World) (gl gb : Nat) (L : List Blk) : Prop :=
  ∃ (ob : Option Nat) (cap : Nat) (oa : Option Nat) (capa : Nat) (l : List Ev), (∀ e ∈ l, Len e.1 32) ∧ l.length ≤ 1024 ∧ cap ≤ maxLen ∧ capa ≤ maxLen ∧ Mem [] w0 w (bkL gl ob cap gb oa capa l.length (evs l) L)
set_option maxRecDepth 100000 in
set_option maxHeartbeats 4000000 in
theorem step_add {w0 wS : World} {L : List Blk} (gl gb : Nat) (ob oa : Option Nat) (cap capa : Nat) (l : List Ev) (hg : ∀ e ∈ l, Len e.1 32) (hl : l.length ≤ 1024) (hcap : cap ≤ maxLen) (hcapa : capa ≤ maxLen)
    (hM : Mem [] w0 wS (bkL gl ob cap gb oa capa l.length (evs l) L)) (C : List Value) (hCl : Len C 37) (h0 : C[0]? = some (.int .i64 2)) (e : Ev) (he : Len e.1 32) (h2 : (C.drop 2).take 33 = evC e) :
    Calls Try.prog 36 #[.pointer (some ⟨gb, 0, none⟩), .agg C.toArray] wS fun x w' => x = .returned (.bool true) ∧ StepOut w0 w' gl gb L := by
  have hadd : ∀ (w' : World) (b : Blk), Mem [] w0 w' (⟨some gl, 122, [sl ob l.length cap], 1⟩ :: ⟨ob, 64, evs l, cap * 33⟩ :: b :: ⟨some gb, 60, [.pointer (some ⟨gl, 0, none⟩), sl oa l.length capa], 2⟩ :: ⟨oa, 64, evs l, capa * 33⟩ :: L) → _ := fun w' b hM => chain_Add gl ob l.length cap (evs l) (evs_len hg) hcap hM e he
  have hAl := evs_len hg
  have hone := evs_one l
  have hZl := evC_len he
  have hZ1 := evC_one e
  have HG : ∀ _ : Unit, (∀ x ∈ l ++ [e], Len x.1 32) := fun _ x hx => by
    rcases List.mem_append.1 hx with hx | hx
    · exact hg x hx
    · rw [List.mem_singleton.1 hx]; exact he
  have hev : ∀ _ : Unit, evs l ++ evC e = evs (l ++ [e]) := fun _ => evs_snoc l e
  obtain ⟨n, hn⟩ : ∃ n, n = l.length := ⟨_, rfl⟩
  obtain ⟨A, hA⟩ : ∃ A, A = evs l := ⟨_, rfl⟩
  obtain ⟨Z, hZ⟩ : ∃ Z, Z = evC e := ⟨_, rfl⟩
  have HN : ∀ _ : Unit, n = l.length := fun _ => hn
  have HA : ∀ _ : Unit, A = evs l := fun _ => hA
  have HZ : ∀ _ : Unit, Z = evC e := fun _ => hZ
  rw [← hn, ← hA] at hM hadd hAl
  rw [← hZ] at hadd hZl hZ1 h2
  rw [← hA] at hone
  rw [← hn] at hl
  clear hn hA hZ
  have HAl := Lib.hid hAl
  clear hAl
  go_enter Try.func36, Try.ntmps36
  go_wp2_with (first
    | ((with_reducible refine gL_box hM ?_); refine ⟨_, C, 37, rfl, rfl, hCl, ?_⟩; intro g3 w1 hM2; clear hM; have hM := hM2; clear hM2)
    | ((with_reducible refine gL_load (dst := some 14) ?_); refine ⟨_, _, rfl, hM.loads_one (.head _) (on_of rfl) h0, ?_⟩))
  have hE22 : ∀ w', Adds w1 w' → Loads Try.prog w' 64 ⟨g3, 2, none⟩ (.agg Z.toArray) := fun w' hw => h2 ▸ (hM.adds hw).loads_part (n := 33) (.head _) (ag_of rfl) (by have := hCl.eq; omega)
  try simp only [Act.put, List.setIfInBounds_toArray, List.set_cons_succ, List.set_cons_zero]
  refine wp_region_tail 6 (by decide) (fun c vals => ⟨#[(Value.pointer (some ⟨gb, 0, none⟩) : Value), c 1, c 2, (Value.pointer (some ⟨g3, 0, none⟩) : Value), c 4, c 5, c 6, c 7, c 8, c 9, c 10, c 11, c 12, c 13, c 14, c 15, c 16, vals 0, vals 1, vals 2, vals 3, vals 4, vals 5, c 23, c 24, c 25, c 26, c 27, c 28, c 29, c 30, c 31, c 32, c 33, c 34, c 35, c 36, c 37, c 38, c 39, c 40, c 41, c 42, c 43, c 44, c 45, c 46, c 47, c 48, c 49, c 50, c 51, c 52, c 53, c 54, c 55, c 56, c 57, c 58, c 59, c 60, c 61, c 62, c 63, c 64, c 65, c 66, c 67, c 68, c 69, c 70, c 71, c 72, c 73, c 74, c 75, c 76, c 77, c 78, c 79, c 80, c 81, c 82, c 83, c 84, c 85, c 86, c 87, c 88, c 89, c 90, c 91, c 92, c 93, c 94, c 95, c 96, c 97, c 98, c 99, c 100, c 101, c 102, c 103, c 104, c 105, c 106, c 107, c 108, c 109, c 110, c 111, c 112, c 113, c 114, c 115, c 116, c 117, c 118, c 119, c 120, c 121, c 122, c 123, c 124, c 125, c 126, c 127, c 128, c 129, c 130, c 131, c 132, c 133, c 134, c 135, c 136, c 137, c 138, c 139, c 140, c 141, c 142, c 143, c 144, c 145, c 146, c 147, c 148, c 149, c 150, c 151, c 152, c 153, c 154, c 155, c 156, c 157, c 158, c 159, c 160, c 161, c 162, c 163, c 164, c 165, c 166, c 167, c 168, c 169, c 170, c 171, c 172, c 173, c 174, c 175, c 176, c 177, c 178, c 179], []⟩) (fun t => [undef, _, _, undef, _, _, _, _, _, _, _, _, _, _, _, _, _, undef, undef, undef, undef, undef, undef, _, _, _, _, _, _, _, _, _, _, _, _, _, _, _, _, _, _, _, _, _, _, _, _, _, _, _, _, _, _, _, _, _, _, _, _, _, _, _, _, _, _, _, _, _, _, _, _, _, _, _, _, _, _, _, _, _, _, _, _, _, _, _, _, _, _, _, _, _, _, _, _, _, _, _, _, _, _, _, _, _, _, _, _, _, _, _, _, _, _, _, _, _, _, _, _, _, _, _, _, _, _, _, _, _, _, _, _, _, _, _, _, _, _, _, _, _, _, _, _, _, _, _, _, _, _, _, _, _, _, _, _, _, _, _, _, _, _, _, _, _, _, _, _, _, _, _, _, _, _, _, _, _, _, _, _, _].getD t undef) (fun i => [_, _, _, _, _, _].getD i undef) (by kernel_rfl)
    [[], [0], [0, 1], [0, 1, 2], [], [4], [0, 1, 2, 3, 4, 5], [0, 1, 2, 3, 4, 5, 6]] (by kernel_rfl) (by kernel_rfl) (fun _ => True) trivial
    [fun x _ => x = (Value.pointer (some ⟨gb, 0, none⟩) : Value),
     fun x _ => x = (Value.pointer (some ⟨gb, 0, none⟩) : Value),
     fun x _ => x = (Value.pointer (some ⟨gb, 0, none⟩) : Value),
     fun x _ => x = (Value.pointer (some ⟨gl, 0, none⟩) : Value),
     fun x _ => x = (Value.pointer (some ⟨g3, 2, none⟩) : Value),
     fun x _ => x = (Value.agg Z.toArray : Value)]
    ⟨fun _ _ _ h _ => h, fun _ _ _ h _ => h, fun _ _ _ h _ => h, fun _ _ _ h _ => h, fun _ _ _ h _ => h, fun _ _ _ h _ => h, trivial⟩ []
    ⟨?_, ?_, ?_, ?_, ?_, ?_, trivial⟩ ?_
  · refine showA_op 0 (by intro _ _ _; kernel_rfl) rfl rfl (fun c vals w hC hD => ?_)
    clear hD
    refine makes1 (x := .tmp 0) (X := Value.pointer (some ⟨gb, 0, none⟩)) (by kernel_rfl : _ = (Value.pointer (some ⟨gb, 0, none⟩) : Value)) (fun ρ rc rf q0 => ?_)
    exact makes_move (.inl rfl) q0 ⟨Adds.refl _, rfl⟩
  · refine showA_op 1 (by intro _ _ _; kernel_rfl) rfl rfl (fun c vals w hC hD => ?_)
    have h0 : vals 0 = .pointer (some ⟨gb, 0, none⟩) := hD 0 rfl
    clear hD
    refine makes1 (x := .tmp 17) (X := Value.pointer (some ⟨gb, 0, none⟩)) ((by kernel_rfl : _ = vals 0).trans h0) (fun ρ rc rf q17 => ?_)
    clear h0
    refine makes_value (v := Value.pointer (some ⟨gb, 0, none⟩)) ?_ ⟨Adds.refl _, rfl⟩
    go_simp
    all_goals first | done | rfl | (rw [if_pos (by omega)]; refine congrArg (fun x => Result.ok (Next.value (Value.pointer (some ⟨_, x, none⟩))) _) ?_; omega) | (rw [wrapP_i64]; omega) | go_num | (simp; done) | (simp; omega) | (congr 1; first | rfl | (rw [wrapP_i64]; omega) | (congr 1; first | rfl | (simp; done) | (simp; omega) | (congr 2; omega) | go_num))
  · refine showA_op 2 (by intro _ _ _; kernel_rfl) rfl rfl (fun c vals w hC hD => ?_)
    have h1 : vals 1 = .pointer (some ⟨gb, 0, none⟩) := hD 1 rfl
    clear hD
    refine makes1 (x := .tmp 18) (X := Value.pointer (some ⟨gb, 0, none⟩)) ((by kernel_rfl : _ = vals 1).trans h1) (fun ρ rc rf q18 => ?_)
    clear h1
    refine makes_value (v := Value.pointer (some ⟨gb, 0, none⟩)) ?_ ⟨Adds.refl _, rfl⟩
    go_simp
    all_goals first | done | rfl | (rw [if_pos (by omega)]; refine congrArg (fun x => Result.ok (Next.value (Value.pointer (some ⟨_, x, none⟩))) _) ?_; omega) | (rw [wrapP_i64]; omega) | go_num | (simp; done) | (simp; omega) | (congr 1; first | rfl | (rw [wrapP_i64]; omega) | (congr 1; first | rfl | (simp; done) | (simp; omega) | (congr 2; omega) | go_num))
  · refine showA_op 3 (by intro _ _ _; kernel_rfl) rfl rfl (fun c vals w hC hD => ?_)
    have h2 : vals 2 = .pointer (some ⟨gb, 0, none⟩) := hD 2 rfl
    clear hD
    refine makes1 (x := .tmp 19) (X := Value.pointer (some ⟨gb, 0, none⟩)) ((by kernel_rfl : _ = vals 2).trans h2) (fun ρ rc rf q19 => ?_)
    clear h2
    exact makes_load ((hM.adds hC).loads_one (.tail _ (.tail _ (.tail _ (.head _)))) (on_of rfl) rfl) rfl q19 ⟨Adds.refl _, rfl⟩
  · refine showA_op 4 (by intro _ _ _; kernel_rfl) rfl rfl (fun c vals w hC hD => ?_)
    clear hD
    refine makes1 (x := .tmp 3) (X := Value.pointer (some ⟨g3, 0, none⟩)) (by kernel_rfl : _ = (Value.pointer (some ⟨g3, 0, none⟩) : Value)) (fun ρ rc rf q3 => ?_)
    refine makes_value (v := Value.pointer (some ⟨g3, 2, none⟩)) ?_ ⟨Adds.refl _, rfl⟩
    go_simp
    all_goals first | done | rfl | (rw [if_pos (by omega)]; refine congrArg (fun x => Result.ok (Next.value (Value.pointer (some ⟨_, x, none⟩))) _) ?_; omega) | (rw [wrapP_i64]; omega) | go_num | (simp; done) | (simp; omega) | (congr 1; first | rfl | (rw [wrapP_i64]; omega) | (congr 1; first | rfl | (simp; done) | (simp; omega) | (congr 2; omega) | go_num))
  · refine showA_op 5 (by intro _ _ _; kernel_rfl) rfl rfl (fun c vals w hC hD => ?_)
    have h4 : vals 4 = .pointer (some ⟨g3, 2, none⟩) := hD 4 rfl
    clear hD
    refine makes1 (x := .tmp 21) (X := Value.pointer (some ⟨g3, 2, none⟩)) ((by kernel_rfl : _ = vals 4).trans h4) (fun ρ rc rf q21 => ?_)
    clear h4
    exact makes_load (hE22 _ hC) rfl q21 ⟨Adds.refl _, rfl⟩
  intro vals w' hC hΦ hne
  have h3 : vals 3 = .pointer (some ⟨gl, 0, none⟩) := hΦ 3 (by decide)
  have h5 : vals 5 = .agg Z.toArray := hΦ 5 (by decide)
  clear hΦ hne
  simp only [List.getD_eq_getElem?_getD, List.getElem?_cons_zero, List.getElem?_cons_succ, Option.getD_some, List.drop_succ_cons, List.drop_zero]
  simp only [h3, h5]
  clear h3 h5
  try simp only [tuple_undef]
  replace hM := hM.adds hC
  clear hC hE22
  go_wp2_with fail
  refine (hadd _ _ (hM.perm (rot3 _ _ _ _))).mono ?_
  clear hadd hM
  rintro _ w2 (⟨hbig, rfl, hM⟩ | ⟨hsm, rfl, ob', cap', h1, h3, hM⟩)
  · have hi : (n : Int) ≥ 1024 := by omega
    go_wp2_with (first
      | ((with_reducible refine gL_load (dst := some 27) ?_); refine ⟨_, _, rfl, hM.loads_one (.tail _ (.tail _ (.tail _ (.head _)))) (on_of rfl) rfl, ?_⟩))
    go_ret
    have hM2 := (Mem.up [_, _] hM).drop
    rw [HN (), HA ()] at hM2
    rw [HN ()] at hl
    exact ⟨rfl, ob, cap, oa, capa, l, hg, hl, hcap, hcapa, hM2⟩
  · have hi : ¬ (n : Int) ≥ 1024 := by omega
    go_wp2_with (first
      | ((with_reducible refine gL_load (dst := some 27) ?_); refine ⟨_, _, rfl, hM.loads_one (.tail _ (.tail _ (.tail _ (.head _)))) (on_of rfl) rfl, ?_⟩))
    have hE22 : ∀ w', Adds w2 w' → Loads Try.prog w' 64 ⟨g3, 2, none⟩ (.agg Z.toArray) := fun w' hw => h2 ▸ (hM.adds hw).loads_part (n := 33) (.tail _ (.tail _ (.head _))) (ag_of rfl) (by have := hCl.eq; omega)
    have hAs : ∀ w', Adds w2 w' → Src w' (sl oa n capa) n A := fun w' hw => evs_src2 (hM.adds hw) (.tail _ (.tail _ (.tail _ (.tail _ (.head _))))) HAl.out
    try simp only [Act.put, List.setIfInBounds_toArray, List.set_cons_succ, List.set_cons_zero]
    refine wp_region_writer 9 (by decide) [0] (fun c vals => ⟨#[(Value.pointer (some ⟨gb, 0, none⟩) : Value), c 1, c 2, (Value.pointer (some ⟨g3, 0, none⟩) : Value), c 4, c 5, c 6, c 7, c 8, c 9, c 10, c 11, c 12, c 13, c 14, c 15, c 16, c 17, c 18, c 19, c 20, c 21, c 22, c 23, c 24, c 25, c 26, c 27, c 28, c 29, c 30, c 31, vals 0, vals 1, vals 2, vals 3, vals 4, vals 5, vals 6, vals 7, vals 8, vals 9, c 42, c 43, c 44, c 45, c 46, c 47, c 48, c 49, c 50, c 51, c 52, c 53, c 54, c 55, c 56, c 57, c 58, c 59, c 60, c 61, c 62, c 63, c 64, c 65, c 66, c 67, c 68, c 69, c 70, c 71, c 72, c 73, c 74, c 75, c 76, c 77, c 78, c 79, c 80, c 81, c 82, c 83, c 84, c 85, c 86, c 87, c 88, c 89, c 90, c 91, c 92, c 93, c 94, c 95, c 96, c 97, c 98, c 99, c 100, c 101, c 102, c 103, c 104, c 105, c 106, c 107, c 108, c 109, c 110, c 111, c 112, c 113, c 114, c 115, c 116, c 117, c 118, c 119, c 120, c 121, c 122, c 123, c 124, c 125, c 126, c 127, c 128, c 129, c 130, c 131, c 132, c 133, c 134, c 135, c 136, c 137, c 138, c 139, c 140, c 141, c 142, c 143, c 144, c 145, c 146, c 147, c 148, c 149, c 150, c 151, c 152, c 153, c 154, c 155, c 156, c 157, c 158, c 159, c 160, c 161, c 162, c 163, c 164, c 165, c 166, c 167, c 168, c 169, c 170, c 171, c 172, c 173, c 174, c 175, c 176, c 177, c 178, c 179], []⟩) (fun t => [undef, _, _, undef, _, _, _, _, _, _, _, _, _, _, _, _, _, _, _, _, _, _, _, _, _, _, _, _, _, _, _, _, undef, undef, undef, undef, undef, undef, undef, undef, undef, undef, _, _, _, _, _, _, _, _, _, _, _, _, _, _, _, _, _, _, _, _, _, _, _, _, _, _, _, _, _, _, _, _, _, _, _, _, _, _, _, _, _, _, _, _, _, _, _, _, _, _, _, _, _, _, _, _, _, _, _, _, _, _, _, _, _, _, _, _, _, _, _, _, _, _, _, _, _, _, _, _, _, _, _, _, _, _, _, _, _, _, _, _, _, _, _, _, _, _, _, _, _, _, _, _, _, _, _, _, _, _, _, _, _, _, _, _, _, _, _, _, _, _, _, _, _, _, _, _, _, _, _, _, _, _, _, _, _, _].getD t undef) (fun i => [_, _, _, _, _, _, _, _, _, _].getD i undef) (by kernel_rfl)
      [[], [], [1], [1, 2], [1, 2, 3], [1, 2, 3, 4], [], [6], [6, 7], [1, 2, 3, 4, 5, 6, 7, 8], [0, 1, 2, 3, 4, 5, 6, 7, 8, 9], [0, 1, 2, 3, 4, 5, 6, 7, 8, 9, 10], [0, 1, 2, 3, 4, 5, 6, 7, 8, 9, 10, 11]] (by kernel_rfl) (by kernel_rfl) (fun _ => True) trivial
      [fun x _ => x = (Value.pointer (some ⟨gb, 0, none⟩) : Value),
       fun x _ => x = (Value.pointer (some ⟨gb, 0, none⟩) : Value),
       fun x _ => x = (Value.pointer (some ⟨gb, 0, none⟩) : Value),
       fun x _ => x = (Value.pointer (some ⟨gb, 1, none⟩) : Value),
       fun x _ => x = (sl oa n capa : Value),
       fun (xx : Value) (ww : World) => ∃ o6 c6, xx = sl o6 n c6 ∧ n ≤ c6 ∧ c6 ≤ maxLen ∧ Mem [] w2 ww [⟨o6, 64, A, c6 * 33⟩],
       fun x _ => x = (Value.pointer (some ⟨g3, 2, none⟩) : Value),
       fun x _ => x = (Value.agg Z.toArray : Value),
       fun (xx : Value) (ww : World) => NewRow w2.heap.size 64 ww xx Z 1]
      ⟨fun _ _ _ h _ => h, fun _ _ _ h _ => h, fun _ _ _ h _ => h, fun _ _ _ h _ => h, fun _ _ _ h _ => h, fun _ _ _ h hb => (let ⟨o6, c6, h1, h2, h3, h4⟩ := h; ⟨o6, c6, h1, h2, h3, h4.adds hb⟩), fun _ _ _ h _ => h, fun _ _ _ h _ => h, fun _ _ _ h hb => h.adds hb, trivial⟩
      [fun x => x = (Value.pointer (some ⟨gb, 0, none⟩) : Value), fun x => x = (Value.pointer (some ⟨gb, 0, none⟩) : Value), fun x => x = (Value.pointer (some ⟨gb, 0, none⟩) : Value), fun x => x = (Value.pointer (some ⟨gb, 1, none⟩) : Value), fun x => x = (sl oa n capa : Value), fun _ => True, fun x => x = (Value.pointer (some ⟨g3, 2, none⟩) : Value), fun x => x = (Value.agg Z.toArray : Value), fun _ => True]
      (fun i => match i with | 0 => fun _ _ _ h => h | 1 => fun _ _ _ h => h | 2 => fun _ _ _ h => h | 3 => fun _ _ _ h => h | 4 => fun _ _ _ h => h | 5 => fun _ _ _ h => trivial | 6 => fun _ _ _ h => h | 7 => fun _ _ _ h => h | 8 => fun _ _ _ h => trivial | (_ + 9) => fun _ _ h _ => absurd h (by omega))
      (fun v w' => ∃ oa' capa', v = sl oa' (n + 1) capa' ∧ capa' ≤ maxLen ∧ Mem [] w0 w' (⟨oa', 64, A ++ Z, capa' * 33⟩ :: ⟨some gl, 122, [sl ob' (n + 1) cap'], 1⟩ :: ⟨ob', 64, A ++ Z, cap' * 33⟩ :: ⟨some g3, 66, C, 37⟩ :: ⟨some gb, 60, [.pointer (some ⟨gl, 0, none⟩), sl oa n capa], 2⟩ :: ⟨oa, 64, A, capa * 33⟩ :: L))
      ⟨?_, ?_, ?_, ?_, ?_, ?_, ?_, ?_, ?_, trivial⟩ ?_ ?_ ?_
    · refine showA_op 0 (by intro _ _ _; kernel_rfl) rfl rfl (fun c vals w hC hD => ?_)
      clear hD
      refine makes1 (x := .tmp 0) (X := Value.pointer (some ⟨gb, 0, none⟩)) (by kernel_rfl : _ = (Value.pointer (some ⟨gb, 0, none⟩) : Value)) (fun ρ rc rf q0 => ?_)
      exact makes_move (.inl rfl) q0 ⟨Adds.refl _, rfl⟩
    · refine showA_op 1 (by intro _ _ _; kernel_rfl) rfl rfl (fun c vals w hC hD => ?_)
      clear hD
      refine makes1 (x := .tmp 0) (X := Value.pointer (some ⟨gb, 0, none⟩)) (by kernel_rfl : _ = (Value.pointer (some ⟨gb, 0, none⟩) : Value)) (fun ρ rc rf q0 => ?_)
      exact makes_move (.inl rfl) q0 ⟨Adds.refl _, rfl⟩
    · refine showA_op 2 (by intro _ _ _; kernel_rfl) rfl rfl (fun c vals w hC hD => ?_)
      have h1 : vals 1 = .pointer (some ⟨gb, 0, none⟩) := hD 1 rfl
      clear hD
      refine makes1 (x := .tmp 33) (X := Value.pointer (some ⟨gb, 0, none⟩)) ((by kernel_rfl : _ = vals 1).trans h1) (fun ρ rc rf q33 => ?_)
      clear h1
      refine makes_value (v := Value.pointer (some ⟨gb, 0, none⟩)) ?_ ⟨Adds.refl _, rfl⟩
      go_simp
      all_goals first | done | rfl | (rw [if_pos (by omega)]; refine congrArg (fun x => Result.ok (Next.value (Value.pointer (some ⟨_, x, none⟩))) _) ?_; omega) | (rw [wrapP_i64]; omega) | go_num | (simp; done) | (simp; omega) | (congr 1; first | rfl | (rw [wrapP_i64]; omega) | (congr 1; first | rfl | (simp; done) | (simp; omega) | (congr 2; omega) | go_num))
    · refine showA_op 3 (by intro _ _ _; kernel_rfl) rfl rfl (fun c vals w hC hD => ?_)
      have h2 : vals 2 = .pointer (some ⟨gb, 0, none⟩) := hD 2 rfl
      clear hD
      refine makes1 (x := .tmp 34) (X := Value.pointer (some ⟨gb, 0, none⟩)) ((by kernel_rfl : _ = vals 2).trans h2) (fun ρ rc rf q34 => ?_)
      clear h2
      refine makes_value (v := Value.pointer (some ⟨gb, 1, none⟩)) ?_ ⟨Adds.refl _, rfl⟩
      go_simp
      all_goals first | done | rfl | (rw [if_pos (by omega)]; refine congrArg (fun x => Result.ok (Next.value (Value.pointer (some ⟨_, x, none⟩))) _) ?_; omega) | (rw [wrapP_i64]; omega) | go_num | (simp; done) | (simp; omega) | (congr 1; first | rfl | (rw [wrapP_i64]; omega) | (congr 1; first | rfl | (simp; done) | (simp; omega) | (congr 2; omega) | go_num))
    · refine showA_op 4 (by intro _ _ _; kernel_rfl) rfl rfl (fun c vals w hC hD => ?_)
      have h3 : vals 3 = .pointer (some ⟨gb, 1, none⟩) := hD 3 rfl
      clear hD
      refine makes1 (x := .tmp 35) (X := Value.pointer (some ⟨gb, 1, none⟩)) ((by kernel_rfl : _ = vals 3).trans h3) (fun ρ rc rf q35 => ?_)
      clear h3
      exact makes_load ((hM.adds hC).loads_one (.tail _ (.tail _ (.tail _ (.head _)))) (on_of rfl) rfl) rfl q35 ⟨Adds.refl _, rfl⟩
    · refine showA_op 5 (by intro _ _ _; kernel_rfl) rfl rfl (fun c vals w hC hD => ?_)
      have h4 : vals 4 = sl oa n capa := hD 4 rfl
      clear hD
      refine makes1 (x := .tmp 36) (X := sl oa n capa) ((by kernel_rfl : _ = vals 4).trans h4) (fun ρ rc rf q36 => ?_)
      clear h4
      exact makes_append_nil rfl (rc _) (us_of rfl) (el_of rfl) q36 (hAs _ hC) HAl.out hone (by simp only [maxLen]; omega) (by omega) (fun o6 c6 w' h1 h2 h3 => ⟨h1.done, o6, c6, rfl, h2, h3, ((Mem.start _).adds hC).join h1 (by simp)⟩)
    · refine showA_op 6 (by intro _ _ _; kernel_rfl) rfl rfl (fun c vals w hC hD => ?_)
      clear hD
      refine makes1 (x := .tmp 3) (X := Value.pointer (some ⟨g3, 0, none⟩)) (by kernel_rfl : _ = (Value.pointer (some ⟨g3, 0, none⟩) : Value)) (fun ρ rc rf q3 => ?_)
      refine makes_value (v := Value.pointer (some ⟨g3, 2, none⟩)) ?_ ⟨Adds.refl _, rfl⟩
      go_simp
      all_goals first | done | rfl | (rw [if_pos (by omega)]; refine congrArg (fun x => Result.ok (Next.value (Value.pointer (some ⟨_, x, none⟩))) _) ?_; omega) | (rw [wrapP_i64]; omega) | go_num | (simp; done) | (simp; omega) | (congr 1; first | rfl | (rw [wrapP_i64]; omega) | (congr 1; first | rfl | (simp; done) | (simp; omega) | (congr 2; omega) | go_num))
    · refine showA_op 7 (by intro _ _ _; kernel_rfl) rfl rfl (fun c vals w hC hD => ?_)
      have h6 : vals 6 = .pointer (some ⟨g3, 2, none⟩) := hD 6 rfl
      clear hD
      refine makes1 (x := .tmp 38) (X := Value.pointer (some ⟨g3, 2, none⟩)) ((by kernel_rfl : _ = vals 6).trans h6) (fun ρ rc rf q38 => ?_)
      clear h6
      exact makes_load (hE22 _ hC) rfl q38 ⟨Adds.refl _, rfl⟩
    · refine showA_op 8 (by intro _ _ _; kernel_rfl) rfl rfl (fun c vals w hC hD => ?_)
      have h7 : vals 7 = .agg Z.toArray := hD 7 rfl
      clear hD
      refine makes1 (x := .tmp 39) (X := Value.agg Z.toArray) ((by kernel_rfl : _ = vals 7).trans h7) (fun ρ rc rf q39 => ?_)
      clear h7
      exact makes_buildSlice (C := Z) Try.underlying58 (el_of rfl) (by decide) (by decide) rfl rfl (by simp only [List.map, q39, List.flatMap_cons, List.flatMap_nil, List.append_nil]; rfl) (by simp only [List.map, q39, List.mem_cons, List.not_mem_nil, or_false]; rintro _ rfl; exact List.size_toArray.trans hZl.eq) ⟨(Below.refl _ _).alloc (Nat.le_refl _) _, w.heap.size, rfl, hC.size, _, World.alloc_heap_new _ _⟩
    · intro i o hi hF ho vals w' K hK
      obtain rfl : i = 0 := by simpa using hF
      all_goals (cases ho; exact free_move rfl rfl rfl hK (by intro _; kernel_rfl) rfl)
    · intro o ho vals w' hC hD K hK
      cases ho
      have h1 : vals 1 = Value.pointer (some ⟨gb, 0, none⟩) := hD 1 (by decide) rfl
      have h2 : vals 2 = Value.pointer (some ⟨gb, 0, none⟩) := hD 2 (by decide) rfl
      have h3 : vals 3 = Value.pointer (some ⟨gb, 1, none⟩) := hD 3 (by decide) rfl
      have h4 : vals 4 = sl oa n capa := hD 4 (by decide) rfl
      have h5 : (fun (xx : Value) (ww : World) => ∃ o6 c6, xx = sl o6 n c6 ∧ n ≤ c6 ∧ c6 ≤ maxLen ∧ Mem [] w2 ww [⟨o6, 64, A, c6 * 33⟩]) (vals 5) w' := hD 5 (by decide) rfl
      have h6 : vals 6 = Value.pointer (some ⟨g3, 2, none⟩) := hD 6 (by decide) rfl
      have h7 : vals 7 = Value.agg Z.toArray := hD 7 (by decide) rfl
      have h8 : (fun (xx : Value) (ww : World) => NewRow w2.heap.size 64 ww xx Z 1) (vals 8) w' := hD 8 (by decide) rfl
      clear hD
      refine writer_of rfl hK (by intro _; kernel_rfl) (fun K2 hK2 => ?_)
      clear hK
      (obtain ⟨o6, c6, e6, hc5, hc6, m6⟩ := h5; have m7 := hM.plus m6; simp only [List.cons_append, List.nil_append] at m7; exact m7.wp_append rfl ((by kernel_rfl : _ = vals 5).trans e6) (us_of rfl) (el_of rfl) (fun _ _ => .here _ _ _) rfl HAl.out hc6 (by kernel_rfl : _ = vals 8) h8.src (by have := hZl.eq; omega) hZ1 (by simp only [maxLen]; omega) (by omega) (fun ob' cap' w2 hM2 g1 g2 => hK2 _ _ ⟨ob', cap', rfl, g2, hM2⟩))
    intro vals w' hS hΦ
    have h0 : vals 0 = .pointer (some ⟨gb, 0, none⟩) := hΦ 0 (by decide)
    clear hΦ
    simp only [List.drop_succ_cons, List.drop_zero]
    simp only [h0]
    clear h0
    obtain ⟨oa', capa', e7, h8, hM2⟩ := hS
    clear hM
    have hM := hM2
    clear hM2
    rw [e7]
    clear e7
    go_wp2_with (first
      | ((with_reducible refine gL_store hM ?_); refine ⟨_, _, _, rfl, rfl, hM.stores_one (.there _ (.there _ (.there _ (.there _ (.here _ _ _))))) (on_of rfl) (by simp) rfl rfl, ?_⟩; intro _ hM2; clear hM; have hM := hM2; clear hM2))
    go_ret
    have hM2 := (Mem.up [_, _] (Mem.up [_, _, _, _, _] (Mem.down [_, _, _, _] hM)).drop).drop
    rw [HA (), HZ (), hev (), show n + 1 = (l ++ [e]).length by rw [List.length_append, HN ()]; rfl] at hM2
    exact ⟨rfl, ob', cap', oa', capa', l ++ [e], HG (), by rw [List.length_append, ← HN ()]; show n + 1 ≤ 1024; omega, h3, h8, hM2⟩
end Go.Proofs.Ytejmbkljnhnklaa

namespace Go.PK
open Go.RowKit
section
variable {P : Program} {Q : Exit → Act → World → Prop} {ops : Array Oper} {rest : List Oper} {a : Act} {w : World} {G : List Nat} {w0 : World} {L : List Blk} {dst : Option Tmp} {type : TypeId} {pos : String} {after : Array Edge}
/-- append(s, x..) to a slice that is owned to its end, or that has no room -/
theorem gL_append_any {ob : Option Nat} {e : TypeId} {C : List Value} {N n cap : Nat} (hM : Mem G w0 w (⟨ob, e, C, N⟩ :: L)) {s x : Operand} {t : TypeId} (h : ∃ (v u : Value) (m size bytes : Nat) (news : List Value), a.eval s = v ∧ a.eval x = u ∧ v = sl ob n cap ∧ P.underlying t = some (.slice e) ∧ El P e size bytes ∧ Src w u m news ∧ 0 < m ∧
    (N = cap * size ∨ cap = n) ∧ C.length = n * size ∧ news.length = m * size ∧ (∀ u ∈ news, u.oneCell' = true) ∧ cap ≤ maxLen ∧ n + m ≤ maxLen ∧ (n + m) * bytes ≤ 140737488355328 ∧
    ∀ ob' cap' w', Mem G w0 w' (⟨ob', e, C ++ news, cap' * size⟩ :: L) → n + m ≤ cap' → cap' ≤ maxLen → wpList P ops Q rest (a.put dst (sl ob' (n + m) cap')) w') :
    wpList P ops Q (Oper.mk dst (.call { callee := .builtin .append, args := #[s, x], argTypes := #[t, t] }) type pos after none :: rest) a w := by
  obtain ⟨v, u, m, size, bytes, news, hs, hx, rfl, ht, hel, hsrc, hm, hor, hC, hl, h1, hcap, h63, hb, h⟩ := h
  refine wpList_plain rfl fun K hk => ?_
  by_cases hN : N = cap * size
  · exact hM.wp_append rfl hs ht hel (fun _ _ => .here _ _ _) hN hC hcap hx hsrc hl h1 h63 hb fun ob' cap' w' g1 g2 g3 => hk _ _ (h ob' cap' w' g1 g2 g3)
  · have hcn : cap = n := hor.resolve_left hN
    subst hcn
    cases ob with
    | none =>
      have hh := hM.holds _ (.head _)
      obtain ⟨h2, h3⟩ : C = [] ∧ N = 0 := hh
      subst h2
      exact absurd (by rw [h3, ← hC]; rfl) hN
    | some g =>
      rcases hsrc with ⟨ad, c, rfl, hnews⟩ | ⟨-, h0, -⟩
      · obtain ⟨z, hinfo, hzs, hsz⟩ := hel
        obtain ⟨i, hi, hz, hsize, hby⟩ := info_parts hinfo
        obtain ⟨v', w', hr, ho, hg⟩ := run_append_arg_grows (P := P) w t type e i z size bytes ht hi hz hsize hby hzs hsz ⟨g, 0, none⟩ cap cap C hC (fun j u hj => by rw [Addr.add_lit, Nat.zero_add]; exact hM.cell (.head _) hj) ad m c news hl hnews (by omega) h63 hb
        have hA : Adds w w' := ⟨hg.os, hg.tape, hg.output, hg.size, fun k hk => hg.block k hk (by simp)⟩
        unfold Oper.wp execOp
        simp only [resolve, invoke, builtin, Sem.run_bind, Sem.run_pure, Result.andThen_ok, List.map_toArray, List.map_cons, List.map_nil, hs, hx]
        rw [show sl (some g) cap cap = .slice (some ⟨g, 0, none⟩) cap cap from rfl, hr]
        rcases ho.2 with ⟨rfl, h0⟩ | ⟨g', cap', cur, rfl, hbg, hcell, hc1, hc2, hc3, hc4⟩
        · omega
        · refine hk _ _ (h (some g') cap' w' ?_ hc1 hc2)
          refine hM.drop.addNew hA ⟨cur.toList.drop ((cap + m) * size), ?_, ?_⟩ hbg
          · rw [hcell, ← hc4, List.take_append_drop]
          · simp only [List.length_append, hC, hl, List.length_drop, Array.length_toList, hc3]
            have : (cap + m) * size ≤ cap' * size := Nat.mul_le_mul_right _ hc1
            rw [Nat.add_mul] at this ⊢
            omega
      · omega
end
end Go.PK
namespace Go.Proofs.Ytejmbkljnhnklaa
open Go.RowKit Go.PK
set_option maxRecDepth 100000 in
set_option maxHeartbeats 4000000 in
theorem step_events {w0 wS : World} {L : List Blk} (gl gb : Nat) (ob oa : Option Nat) (cap capa : Nat) (l : List Ev) (hg : ∀ e ∈ l, Len e.1 32) (hl : l.length ≤ 1024)
    (hM : Mem [] w0 wS (bkL gl ob cap gb oa capa l.length (evs l) L)) (C : List Value) (hCl : Len C 37) (h0 : C[0]? = some (.int .i64 4)) :
    Calls Try.prog 36 #[.pointer (some ⟨gb, 0, none⟩), .agg C.toArray] wS fun x w' => x = .returned (.bool true) ∧ Mem [] w0 w' (bkL gl ob cap gb oa capa l.length (evs l) L) := by
  have hsm : ∀ (w' : World) (L' : List Blk) (oX oY : Option Nat) (N1 N2 c1 c2 : Nat), Mem [] w0 w' L' → ⟨oX, 64, evs l, N1⟩ ∈ L' → ⟨oY, 64, evs l, N2⟩ ∈ L' →
      Calls Try.prog 39 #[sl oX l.length c1, sl oY l.length c2] w' fun x w'' => x = .returned (.bool true) ∧ Below w'.heap.size w' w'' := fun w' L' oX oY N1 N2 c1 c2 hM hb1 hb2 =>
    ref16_Same w' (oX.map fun g => ⟨g, 0, none⟩) c1 l (evs_elems hM hb1 hg) (by omega) (oY.map fun g => ⟨g, 0, none⟩) c2 l (evs_elems hM hb2 hg) true (by simp)
  have hAl := evs_len hg
  have hone := evs_one l
  obtain ⟨n, hn⟩ : ∃ n, n = l.length := ⟨_, rfl⟩
  obtain ⟨A, hA⟩ : ∃ A, A = evs l := ⟨_, rfl⟩
  rw [← hn, ← hA] at hM hAl
  rw [← hA] at hone
  rw [← hn, ← hA] at hsm
  rw [← hn] at hl
  rw [← hn, ← hA]
  clear hn hA hg
  have HAl := Lib.hid hAl
  clear hAl
  obtain ⟨E77, hb77, hl77, ho77⟩ : ∃ E : List Value, Builds Try.prog 64 [(1, .int .i64 77)] (.agg E.toArray) ∧ Len E 33 ∧ ∀ v ∈ E, v.oneCell' = true := ⟨evC (List.replicate 32 0, 77), fun w => by kernel_rfl, evC_len rfl, evC_one _⟩
  obtain ⟨E78, hb78, hl78, ho78⟩ : ∃ E : List Value, Builds Try.prog 64 [(1, .int .i64 78)] (.agg E.toArray) ∧ Len E 33 ∧ ∀ v ∈ E, v.oneCell' = true := ⟨evC (List.replicate 32 0, 78), fun w => by kernel_rfl, evC_len rfl, evC_one _⟩
  go_enter Try.func36, Try.ntmps36
  go_upto_region 11 with (first
    | ((with_reducible refine gL_box hM ?_); refine ⟨_, C, 37, rfl, rfl, hCl, ?_⟩; intro g3 w1 hM2; clear hM; have hM := hM2; clear hM2)
    | ((with_reducible refine gL_load (dst := some 14) ?_); refine ⟨_, _, rfl, hM.loads_one (.head _) (on_of rfl) h0, ?_⟩))
  go_cut [6, 7] from 61 to 71 (fun a b wx => ∃ (oa1 ob1 : Option Nat) (N1 N2 : Nat), a = sl oa1 n n ∧ b = sl ob1 n n ∧
    Mem [] w0 wx (⟨oa1, 64, A, N1⟩ :: ⟨ob1, 64, A, N2⟩ :: ⟨some g3, 66, C, 37⟩ :: bkL gl ob cap gb oa capa n A L))
  case first =>
    have c0 : w1.cell? ⟨gb, 0, none⟩ = some (.pointer (some ⟨gl, 0, none⟩)) := hM.cell (.tail _ (.tail _ (.tail _ (.head _)))) rfl
    have hMd := hM.drew
    have h1 := log_Events w1.drew gl ob n cap A (hMd.rowN (.tail _ (.head _)) (Len.of rfl)) HAl.out hone (by omega) (evs_src2 hMd (.tail _ (.tail _ (.head _))) HAl.out)
    clear hM hsm hb77 hb78
    go_region_with (first
      | (go_at_call 40; (with_reducible refine h1.mono ?_); rintro _ w2 ⟨o1, N1, rfl, -, hM3⟩; clear h1; have hM4 := hMd.plus hM3; simp only [List.cons_append, List.nil_append] at hM4; clear hM3; have c1 : w2.cell? ⟨gb, 0, none⟩ = some (.pointer (some ⟨gl, 0, none⟩)) := hM4.cell (.tail _ (.tail _ (.tail _ (.tail _ (.head _))))) rfl; have h2 := log_Events w2 gl ob n cap A (hM4.rowN (.tail _ (.tail _ (.head _))) (Len.of rfl)) HAl.out hone (by omega) (evs_src2 hM4 (.tail _ (.tail _ (.tail _ (.head _)))) HAl.out))
      | (go_at_call 40; (with_reducible refine h2.mono ?_); rintro _ w3 ⟨o2, N2, rfl, -, hM5⟩; clear h2; have hM := hM4.plus hM5; simp only [List.cons_append, List.nil_append] at hM; clear hM5))
    all_goals
      go_wp2_with fail
      go_meet
      first
        | exact ⟨o1, o2, N1, N2, rfl, rfl, hM.perm (.swap _ _ _)⟩
        | exact ⟨o2, o1, N2, N1, rfl, rfl, hM⟩
  case rest =>
  clear hM
  obtain ⟨oa1, ob1, N1, N2, rfl, rfl, hM⟩ := hcut
  go_wp2_with (first
    | ((with_reducible refine gL_load (dst := some 75) ?_); refine ⟨_, _, rfl, hM.loads_one (.tail _ (.tail _ (.tail _ (.tail _ (.tail _ (.head _)))))) (on_of rfl) rfl, ?_⟩))
  refine (hsm _ _ oa1 oa _ _ n capa hM (.head _) (.tail _ (.tail _ (.tail _ (.tail _ (.tail _ (.tail _ (.head _)))))))).mono ?_
  rintro _ wA ⟨rfl, hB⟩
  replace hM := hM.adds hB
  clear hB
  go_wp2_with (first
    | ((with_reducible refine gG_load (dst := some 83) ?_ ?_); (exact wanted_of rfl rfl rfl rfl rfl); refine ⟨_, _, rfl, hM.loads_one (.tail _ (.tail _ (.tail _ (.tail _ (.tail _ (.head _)))))) (on_of rfl) rfl, ?_⟩))
  refine (hsm _ _ ob1 oa _ _ n capa hM (.tail _ (.head _)) (.tail _ (.tail _ (.tail _ (.tail _ (.tail _ (.tail _ (.head _)))))))).mono ?_
  rintro _ wB ⟨rfl, hB⟩
  replace hM := hM.adds hB
  clear hB
  go_wp2_with fail
  go_loopw [8] (fun i wr => ∃ (j : Nat) (X : List Value), j ≤ n ∧ i = .int .i64 j ∧ Len X (n * 33) ∧ Mem [] w0 wr (⟨oa1, 64, X, N1⟩ :: ⟨ob1, 64, A, N2⟩ :: ⟨some g3, 66, C, 37⟩ :: bkL gl ob cap gb oa capa n A L)) (fun i _ => n - (intOf i).toNat)
  case atStart => exact ⟨0, A, by omega, rfl, Len.of HAl.out, hM⟩
  case round =>
    clear hM
    obtain ⟨j, X, hj, rfl, hXl, hM⟩ := hrel
    by_cases hlt : j < n
    · have hti : (j : Int) < (n : Int) := by omega
      obtain ⟨ga, rfl⟩ := hM.some_of (.head _) (n := n * 33) hXl (by omega)
      rw [show sl (some ga) n n = .slice (some ⟨ga, 0, none⟩) n n from rfl]
      go_wp2_with (first
        | ((with_reducible refine gL_build (dst := some 95) ?_); refine ⟨_, _, rfl, hb77, ?_⟩)
        | ((with_reducible refine gL_store hM ?_); refine ⟨_, _, _, rfl, rfl, hM.stores (C1 := E77) (n := 33) (.here _ _ _) (ag_of rfl) hl77 (by have := hXl.eq; omega) ho77, ?_⟩; intro _ hM2; clear hM; have hM := hM2; clear hM2))
      go_roundw
      case rel => exact ⟨j + 1, _, by omega, by go_num, Len.of (by have := hXl.eq; have := hl77.eq; simp only [List.length_append, List.length_take, List.length_drop]; omega), hM⟩
      case measure => simp [intOf]; omega
    · have hje : j = n := by omega
      subst hje
      have hti : ¬ (j : Int) < (j : Int) := by omega
      go_wp2_with fail
      go_loopw [6, 9] (fun s i wr => ∃ (k m cc N : Nat) (o : Option Nat) (Y : List Value), k ≤ 20 ∧ i = .int .i64 k ∧ m = j + k ∧ s = sl o m cc ∧ cc ≤ maxLen ∧ (N = cc * 33 ∨ cc = m) ∧ Len Y (m * 33) ∧ Mem [] w0 wr (⟨o, 64, Y, N⟩ :: ⟨ob1, 64, A, N2⟩ :: ⟨some g3, 66, C, 37⟩ :: bkL gl ob cap gb oa capa j A L)) (fun _ i _ => 20 - (intOf i).toNat)
      case atStart => exact ⟨0, j, j, N1, oa1, X, by omega, rfl, rfl, rfl, by simp only [maxLen]; omega, .inr rfl, hXl, hM⟩
      case round =>
        clear hM
        obtain ⟨k, m, cc, N, o, Y, hk, rfl, rfl, rfl, hcc, hor, hYl, hM⟩ := hrel
        by_cases hlt : k < 20
        · have hti : (k : Int) < (20 : Int) := by omega
          go_wp2_with (first
            | ((with_reducible refine gL_build (dst := some 102) ?_); refine ⟨_, _, rfl, hb78, ?_⟩)
            | ((with_reducible refine gL_buildSlice1 (dst := some 103) hM ?_); refine ⟨_, E78, _, _, _, (us_of rfl), (el_of rfl), (by decide), rfl, rfl, hl78, ?_⟩; intro g103 _ hM2; clear hM; have hM := hM2; clear hM2)
            | (have hM1 := hM.perm (.swap _ _ _); (with_reducible refine gL_append_any (dst := some 104) (n := j + k) (cap := cc) hM1 ?_); refine ⟨_, _, 1, 33, _, E78, rfl, rfl, rfl, (us_of rfl), (el_of rfl), hM.src (.head _), (by decide), hor, hYl.eq, hl78.eq, ho78, hcc, (by simp only [maxLen]; omega), (by omega), ?_⟩; clear hM1; intro o2 cc2 _ hM2 hc1 hc2; clear hM; have hM := hM2.drop2; clear hM2))
          go_roundw
          case rel => exact ⟨k + 1, j + k + 1, cc2, _, o2, _, by omega, by go_num, by omega, rfl, hc2, .inl rfl, Len.of (by have := hYl.eq; have := hl78.eq; simp only [List.length_append]; omega), hM⟩
          case measure => simp [intOf]; omega
        · have hke : k = 20 := by omega
          subst hke
          have hti : ¬ ((20 : Nat) : Int) < (20 : Int) := by omega
          go_wp2_with (first
            | ((with_reducible refine gL_load (dst := some 109) ?_); refine ⟨_, _, rfl, hM.loads_one (.tail _ (.tail _ (.tail _ (.tail _ (.tail _ (.head _)))))) (on_of rfl) rfl, ?_⟩))
          refine (hsm _ _ ob1 oa _ _ j capa hM (.tail _ (.head _)) (.tail _ (.tail _ (.tail _ (.tail _ (.tail _ (.tail _ (.head _)))))))).mono ?_
          rintro _ wB ⟨rfl, hB⟩
          replace hM := hM.adds hB
          go_wp2_with fail
          go_ret
          exact ⟨rfl, hM.drop.drop.drop⟩
end Go.Proofs.Ytejmbkljnhnklaa
