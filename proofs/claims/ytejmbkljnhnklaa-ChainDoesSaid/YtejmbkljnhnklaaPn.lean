/-
  Law 16's step: Quote.
  Law 16's step, any: what it leaves of a book.
  The walk of ChainDoes.
-/
import Derived.Test.YtejmbkljnhnklaaPm
import Derived.Test.YtejmbkljnhnklaaPk
import Derived.Deep.CutRange
namespace Go.PK
open Go.RowKit
section
variable {P : Program}
/-- x[:k] of a slice -/
theorem sliced_upto {t e n cap k : Nat} (hu : P.underlying t = some (.slice e)) {z : Nat} (he : (P.info? e).map (·.size) = some z) {ao : Option Addr} (h : k ≤ cap) :
    Sliced P t (.slice ao n cap) none (some (.int .i64 (k : Int))) none (.slice ao k cap) := by
  intro w
  cases hq : P.info? e with
  | none => simp [hq] at he
  | some i =>
    have hb : (Instr.sliceBounds true n cap none (some (.int .i64 (k : Int))) none).run P w = .ok (0, k, cap) w := by
      have : (k : Int) ≤ cap := by omega
      simp [Instr.sliceBounds, run_sliceBound, this]
    simp only [Instr.sliceAt, Instr.slice, Sem.run_bind, run_underlying hu, Sem.run_pure, Result.andThen_ok, hb, sizeOf, typeInfo]
    simp [hq]
    intro h0
    cases ao <;> simp [Addr.add]
variable {Q : Exit → Act → World → Prop} {ops : Array Oper} {fr : (Nat → Value) → (Nat → Value) → Act} {X : (Nat → Value) → Prop} {w0 : World} {Φs : List (Value → World → Prop)} {D : List (List Nat)} {As : List Nat} {o : Oper}
theorem showA_new (k : Nat) (hput : ∀ c vals v, (fr c vals).put o.dst v = fr c (upd vals k v)) (hg : o.guard = none) {ty : TypeId} {C : List Value} {n : Nat} (ho : o.op = .alloc ty)
    (hΦ : Φs.getD k (fun _ _ => True) = fun (xx : Value) (ww : World) => ∃ g, xx = Value.pointer (some ⟨g, 0, none⟩) ∧ w0.heap.size ≤ g ∧ (Blk.mk (some g) ty C n).holds ww) (hz : Zr P ty C n) :
    ShowA P ops Q fr X (Adds w0) Φs D As k o := by
  refine ⟨hput, fun c _ vals w hC hD K hK => ?_⟩
  rw [if_pos (wanted_none hg)]
  refine wp_new_region ho hz hC ?_
  intro v2 w2 ha hp hn
  rw [hput]
  exact hK _ _ ha (by rw [hΦ]; exact hp) (fun _ => hn)
end
end Go.PK
namespace Go.Proofs.Ytejmbkljnhnklaa
open Go.RowKit Go.PK
theorem str_of {w : World} {v : Value} {l : List UInt8} (h : Bytes w v l) : (convert 22 9 v).run Try.prog w = .ok (.string ⟨l.toArray⟩) w := str_at h
set_option maxRecDepth 100000 in
set_option maxHeartbeats 4000000 in
theorem step_quote {w0 wS : World} {L : List Blk} (gl gb : Nat) (ob oa : Option Nat) (cap capa : Nat) (l : List Ev) (hg : ∀ e ∈ l, Len e.1 32) (hl : l.length ≤ 1024)
    (hM : Mem [] w0 wS (bkL gl ob cap gb oa capa l.length (evs l) L)) (C : List Value) (hCl : Len C 37) (kd : Int) (h0 : C[0]? = some (.int .i64 kd)) (hk2 : ¬ kd = 2) (hk3 : ¬ kd = 3) (hk4 : ¬ kd = 4)
    (vk vn : Value) (key nonce : List UInt8) (hvk : ∀ w', Adds w0 w' → Bytes w' vk key) (hvn : ∀ w', Adds w0 w' → Bytes w' vn nonce) (hkl : key.length ≤ 140737488351232) (hnl : nonce.length ≤ 140737488351232) (hCk : C[35]? = some vk) (hCn : C[36]? = some vn) :
    Calls Try.prog 36 #[.pointer (some ⟨gb, 0, none⟩), .agg C.toArray] wS fun x w' => x = .returned (.bool true) ∧ Mem [] w0 w' (bkL gl ob cap gb oa capa l.length (evs l) L) := by
  obtain ⟨T, hT⟩ : ∃ T, Chain.quote key nonce l = T := ⟨_, rfl⟩
  have hTl : Len T 32 := by rw [← hT]; exact Len.of (Chain.quote_len _ _ _)
  have hquo : ∀ (w' : World) (L' : List Blk) (v1 v2 : Value), Mem [] w0 w' L' → ⟨some gl, 122, [sl ob l.length cap], 1⟩ ∈ L' → ⟨ob, 64, evs l, cap * 33⟩ ∈ L' → Bytes w' v1 key → Bytes w' v2 nonce →
      Calls Try.prog 48 #[.pointer (some ⟨gl, 0, none⟩), v1, v2] w' fun x w'' => x = .returned (.agg (T.map B8).toArray) ∧ Below w'.heap.size w' w'' := fun w' L' v1 v2 hM hb1 hb2 h1 h2 =>
    log_Quote w' gl ob l.length cap l (hM.rowN hb1 rfl) (evs_elems hM hb2 hg) (Len.of rfl) (by omega) v1 key h1 (by omega) v2 nonce h2 (by omega) T hT
  have href : ∀ (w' : World) (L' : List Blk), Mem [] w0 w' L' → ⟨oa, 64, evs l, capa * 33⟩ ∈ L' →
      Calls Try.prog 71 #[vk, vn, sl oa l.length capa] w' fun x w'' => x = .returned (.agg (T.map B8).toArray) ∧ Below w'.heap.size w' w'' := fun w' L' hM hb =>
    ref16_Quote w' vk key (hvk _ hM.done) hkl vn nonce (hvn _ hM.done) hnl (oa.map fun g => ⟨g, 0, none⟩) capa l (evs_elems hM hb hg) (by omega) T hT
  have hchk : ∀ (w' : World) (L' : List Blk), Mem [] w0 w' L' → ⟨oa, 64, evs l, capa * 33⟩ ∈ L' →
      Calls Try.prog 41 #[vk, vn, sl oa l.length capa, .agg (T.map B8).toArray] w' fun x w'' => x = .returned (.int .i64 0) ∧ Below w'.heap.size w' w'' := fun w' L' hM hb =>
    chain_Check w' vk key (hvk _ hM.done) (by omega) vn nonce (hvn _ hM.done) (by omega) (oa.map fun g => ⟨g, 0, none⟩) capa l (evs_elems hM hb hg) (by omega) T hTl 0 (by unfold Chain.check; rw [if_neg (by omega), hT]; simp)
  clear hT
  obtain ⟨n, hn⟩ : ∃ n, n = l.length := ⟨_, rfl⟩
  obtain ⟨A, hA⟩ : ∃ A, A = evs l := ⟨_, rfl⟩
  rw [← hn, ← hA] at hM hquo href hchk
  rw [← hn, ← hA]
  clear hl hn hA hg
  obtain ⟨aK, cK, rfl, -⟩ := hvk _ (Adds.refl w0)
  obtain ⟨aN, cN, rfl, -⟩ := hvn _ (Adds.refl w0)
  have hKs : ∀ w', Adds w0 w' → Src w' (.slice aK key.length cK) key.length (key.map B8) := fun w' hw => (hvk w' hw).src
  have hNs : ∀ w', Adds w0 w' → Src w' (.slice aN nonce.length cN) nonce.length (nonce.map B8) := fun w' hw => (hvn w' hw).src
  clear hvk hvn
  obtain ⟨nk, hnk⟩ : ∃ nk, nk = key.length := ⟨_, rfl⟩
  obtain ⟨nn, hnn⟩ : ∃ nn, nn = nonce.length := ⟨_, rfl⟩
  have hKl : Len key nk := Len.of hnk.symm
  have hNl : Len nonce nn := Len.of hnn.symm
  rw [← hnk] at hKs hkl hCk href hchk
  rw [← hnn] at hNs hnl hCn href hchk
  clear hnk hnn
  go_enter Try.func36, Try.ntmps36
  go_wp2_with (first
    | ((with_reducible refine gL_box (dst := some 3) hM ?_); refine ⟨_, C, 37, rfl, rfl, hCl, ?_⟩; intro g3 _ hM2; clear hM; have hM := hM2; clear hM2)
    | ((with_reducible refine gL_load (dst := some 14) ?_); refine ⟨_, _, rfl, hM.loads_one (.head _) (on_of rfl) h0, ?_⟩)
    | ((with_reducible refine gL_load (dst := some 112) ?_); refine ⟨_, _, rfl, hM.loads_one (.head _) (on_of rfl) hCk, ?_⟩)
    | (have hMn : Mem [] w0 _ (⟨none, 5, ([] : List UInt8).map B8, 0⟩ :: _) := hM.addNil 5; (with_reducible refine gL_append_B (dst := some 113) hMn ?_); refine ⟨_, _, none, 0, 0, 5, [], key, nk, _, rfl, rfl, rfl, (us_of rfl), (el_of rfl), hKs _ hM.done, (fun _ _ => .here _ _ _), rfl, hKl, (by decide), (by omega), ?_⟩; clear hMn; intro ob1 cap1 _ hM2 h11 h12; rw [Nat.zero_add] at h11 ⊢; rw [List.nil_append] at hM2; clear hM; have hM := hM2; clear hM2)
    | ((with_reducible refine gL_buildBytes (dst := some 114) hM ?_); refine ⟨_, _, (us_of rfl), (el_of rfl), (by decide), (by decide), rfl, (by (repeat (first | exact EvB.nil | apply EvB.cons rfl (by first | exact (rfl : B8 _ = B8 _) | exact lit8 _ (by decide)))); done), ?_⟩; intro g114 _ hM2; clear hM; have hM := hM2; clear hM2)
    | ((with_reducible refine gL_append_B (dst := some 115) hM ?_); have hx := hM.src (m := 1) (cap := 1) (.head _); refine ⟨_, _, ob1, nk, cap1, 5, key, [119], 1, _, rfl, rfl, rfl, (us_of rfl), (el_of rfl), hx, (fun _ _ => .there _ (.here _ _ _)), hKl, rfl, h12, (by omega), ?_⟩; clear hx; intro ob2 capK _ hM2 hK1 hK2; obtain ⟨gK, rfl⟩ := hM2.some_of (.tail _ (.head _)) (n := nk + 1) (Len.of (by simp [hKl.eq])) (by omega); clear hM; have hM := hM2.drop; clear hM2 h11 h12)
    | ((with_reducible refine gL_load (dst := some 117) ?_); refine ⟨_, _, rfl, hM.loads_one (.tail _ (.head _)) (on_of rfl) hCn, ?_⟩)
    | (have hMn : Mem [] w0 _ (⟨none, 5, ([] : List UInt8).map B8, 0⟩ :: _) := hM.addNil 5; (with_reducible refine gL_append_B (dst := some 118) hMn ?_); refine ⟨_, _, none, 0, 0, 5, [], nonce, nn, _, rfl, rfl, rfl, (us_of rfl), (el_of rfl), hNs _ hM.done, (fun _ _ => .here _ _ _), rfl, hNl, (by decide), (by omega), ?_⟩; clear hMn; intro ob3 cap3 _ hM2 h31 h32; rw [Nat.zero_add] at h31 ⊢; rw [List.nil_append] at hM2; clear hM; have hM := hM2; clear hM2)
    | ((with_reducible refine gL_buildBytes (dst := some 119) hM ?_); refine ⟨_, _, (us_of rfl), (el_of rfl), (by decide), (by decide), rfl, (by (repeat (first | exact EvB.nil | apply EvB.cons rfl (by first | exact (rfl : B8 _ = B8 _) | exact lit8 _ (by decide)))); done), ?_⟩; intro g119 _ hM2; clear hM; have hM := hM2; clear hM2)
    | ((with_reducible refine gL_append_B (dst := some 120) hM ?_); have hx := hM.src (m := 1) (cap := 1) (.head _); refine ⟨_, _, ob3, nn, cap3, 5, nonce, [120], 1, _, rfl, rfl, rfl, (us_of rfl), (el_of rfl), hx, (fun _ _ => .there _ (.here _ _ _)), hNl, rfl, h32, (by omega), ?_⟩; clear hx; intro ob4 capN wA hM2 hN1 hN2; obtain ⟨gN, rfl⟩ := hM2.some_of (.tail _ (.head _)) (n := nn + 1) (Len.of (by simp [hNl.eq])) (by omega); clear hM; have hM := hM2.drop; clear hM2 h31 h32))
  have hKt : (key ++ [119]).take nk = key := List.take_left' hKl.eq
  have hNt : (nonce ++ [120]).take nn = nonce := List.take_left' hNl.eq
  have hKt1 : (key ++ [119]).length = nk + 1 := by simp [hKl.eq]
  have hNt1 : (nonce ++ [120]).length = nn + 1 := by simp [hNl.eq]
  have hK3 : capK ≤ 9223372036854775807 := by simp only [maxLen] at hK2; omega
  have hN3 : capN ≤ 9223372036854775807 := by simp only [maxLen] at hN2; omega
  have hBk : ∀ w', Adds wA w' → Bytes w' (.slice (some ⟨gK, 0, none⟩) nk capK) key := fun w' hw => by
    have h := (hM.adds hw).part' (off := 0) (n := nk) (cap := capK) (.tail _ (.head _)) (by omega) (by omega) hK3
    rwa [List.drop_zero, hKt] at h
  have hBn : ∀ w', Adds wA w' → Bytes w' (.slice (some ⟨gN, 0, none⟩) nn capN) nonce := fun w' hw => by
    have h := (hM.adds hw).part' (off := 0) (n := nn) (cap := capN) (.head _) (by omega) (by omega) hN3
    rwa [List.drop_zero, hNt] at h
  have hck := sliced_upto (P := Try.prog) (t := 22) (e := 5) (n := nk + 1) (cap := capK) (k := nk) (us_of rfl) (z := 1) (by kernel_rfl) (ao := some ⟨gK, 0, none⟩) (by omega)
  have hcn := sliced_upto (P := Try.prog) (t := 22) (e := 5) (n := nn + 1) (cap := capN) (k := nn) (us_of rfl) (z := 1) (by kernel_rfl) (ao := some ⟨gN, 0, none⟩) (by omega)
  try simp only [Act.put, List.setIfInBounds_toArray, List.set_cons_succ, List.set_cons_zero]
  refine wp_region_tail 16 (by decide) (fun c vals => ⟨#[(Value.pointer (some ⟨gb, 0, none⟩) : Value), c 1, c 2, (Value.pointer (some ⟨g3, 0, none⟩) : Value), c 4, c 5, c 6, c 7, c 8, c 9, (Value.slice (some ⟨gK, 0, none⟩) (nk + 1) capK : Value), (Value.slice (some ⟨gN, 0, none⟩) (nn + 1) capN : Value), vals 15, c 13, c 14, c 15, c 16, c 17, c 18, c 19, c 20, c 21, c 22, c 23, c 24, c 25, c 26, c 27, c 28, c 29, c 30, c 31, c 32, c 33, c 34, c 35, c 36, c 37, c 38, c 39, c 40, c 41, c 42, c 43, c 44, c 45, c 46, c 47, c 48, c 49, c 50, c 51, c 52, c 53, c 54, c 55, c 56, c 57, c 58, c 59, c 60, c 61, c 62, c 63, c 64, c 65, c 66, c 67, c 68, c 69, c 70, c 71, c 72, c 73, c 74, c 75, c 76, c 77, c 78, c 79, c 80, c 81, c 82, c 83, c 84, c 85, c 86, c 87, c 88, c 89, c 90, c 91, c 92, c 93, c 94, c 95, c 96, c 97, c 98, c 99, c 100, c 101, c 102, c 103, c 104, c 105, c 106, c 107, c 108, c 109, c 110, c 111, c 112, c 113, c 114, c 115, c 116, c 117, c 118, c 119, c 120, vals 0, vals 1, vals 2, vals 3, vals 4, vals 5, vals 6, vals 7, vals 8, vals 9, vals 10, vals 11, vals 12, vals 13, vals 14, c 136, c 137, c 138, c 139, c 140, c 141, c 142, c 143, c 144, c 145, c 146, c 147, c 148, c 149, c 150, c 151, c 152, c 153, c 154, c 155, c 156, c 157, c 158, c 159, c 160, c 161, c 162, c 163, c 164, c 165, c 166, c 167, c 168, c 169, c 170, c 171, c 172, c 173, c 174, c 175, c 176, c 177, c 178, c 179], []⟩) (fun t => [undef, _, _, undef, _, _, _, _, _, _, undef, undef, undef, _, _, _, _, _, _, _, _, _, _, _, _, _, _, _, _, _, _, _, _, _, _, _, _, _, _, _, _, _, _, _, _, _, _, _, _, _, _, _, _, _, _, _, _, _, _, _, _, _, _, _, _, _, _, _, _, _, _, _, _, _, _, _, _, _, _, _, _, _, _, _, _, _, _, _, _, _, _, _, _, _, _, _, _, _, _, _, _, _, _, _, _, _, _, _, _, _, _, _, _, _, _, _, _, _, _, _, _, undef, undef, undef, undef, undef, undef, undef, undef, undef, undef, undef, undef, undef, undef, undef, _, _, _, _, _, _, _, _, _, _, _, _, _, _, _, _, _, _, _, _, _, _, _, _, _, _, _, _, _, _, _, _, _, _, _, _, _, _, _, _, _, _, _, _].getD t undef) (fun i => [_, _, _, _, _, _, _, _, _, _, _, _, _, _, _, _].getD i undef) (by kernel_rfl)
    [[], [0], [0, 1], [0, 1, 2], [], [], [5], [5, 6], [4, 5, 6, 7], [], [], [10], [10, 11], [9, 10, 11, 12], [0, 1, 2, 3, 4, 5, 6, 7, 8, 9, 10, 11, 12, 13], [], [0, 1, 2, 3, 4, 5, 6, 7, 8, 9, 10, 11, 12, 13, 14, 15]] (by kernel_rfl) (by kernel_rfl) (fun _ => True) trivial
    [fun x _ => x = (Value.pointer (some ⟨gb, 0, none⟩) : Value),
     fun x _ => x = (Value.pointer (some ⟨gb, 0, none⟩) : Value),
     fun x _ => x = (Value.pointer (some ⟨gb, 0, none⟩) : Value),
     fun x _ => x = (Value.pointer (some ⟨gl, 0, none⟩) : Value),
     fun x _ => x = (Value.slice (some ⟨gK, 0, none⟩) (nk + 1) capK : Value),
     fun x _ => x = (Value.pointer (some ⟨g3, 35, none⟩) : Value),
     fun x _ => x = (Value.slice aK nk cK : Value),
     fun x _ => x = (Value.int .i64 (nk : Int) : Value),
     fun x _ => x = (Value.slice (some ⟨gK, 0, none⟩) nk capK : Value),
     fun x _ => x = (Value.slice (some ⟨gN, 0, none⟩) (nn + 1) capN : Value),
     fun x _ => x = (Value.pointer (some ⟨g3, 36, none⟩) : Value),
     fun x _ => x = (Value.slice aN nn cN : Value),
     fun x _ => x = (Value.int .i64 (nn : Int) : Value),
     fun x _ => x = (Value.slice (some ⟨gN, 0, none⟩) nn capN : Value),
     fun x _ => x = (Value.agg (T.map B8).toArray : Value),
     fun (xx : Value) (ww : World) => ∃ g, xx = Value.pointer (some ⟨g, 0, none⟩) ∧ (wA).heap.size ≤ g ∧ (Blk.mk (some g) 24 ((List.replicate 32 (0 : UInt8)).map B8) 32).holds ww]
    ⟨fun _ _ _ h _ => h, fun _ _ _ h _ => h, fun _ _ _ h _ => h, fun _ _ _ h _ => h, fun _ _ _ h _ => h, fun _ _ _ h _ => h, fun _ _ _ h _ => h, fun _ _ _ h _ => h, fun _ _ _ h _ => h, fun _ _ _ h _ => h, fun _ _ _ h _ => h, fun _ _ _ h _ => h, fun _ _ _ h _ => h, fun _ _ _ h _ => h, fun _ _ _ h _ => h, fun _ _ _ ⟨g, h1, h2, h3⟩ hb => ⟨g, h1, h2, h3.adds hb⟩, trivial⟩ [15]
    ⟨?_, ?_, ?_, ?_, ?_, ?_, ?_, ?_, ?_, ?_, ?_, ?_, ?_, ?_, ?_, ?_, trivial⟩ ?_
  · refine showA_op 0 (by intro _ _ _; kernel_rfl) rfl rfl (fun c vals w hC hD => ?_)
    clear hD
    refine makes1 (x := .tmp 0) (X := Value.pointer (some ⟨gb, 0, none⟩)) (by kernel_rfl : _ = (Value.pointer (some ⟨gb, 0, none⟩) : Value)) (fun ρ rc rf q0 => ?_)
    exact makes_move (.inl rfl) q0 ⟨Adds.refl _, rfl⟩
  · refine showA_op 1 (by intro _ _ _; kernel_rfl) rfl rfl (fun c vals w hC hD => ?_)
    have h0 : vals 0 = .pointer (some ⟨gb, 0, none⟩) := hD 0 rfl
    clear hD
    refine makes1 (x := .tmp 121) (X := Value.pointer (some ⟨gb, 0, none⟩)) ((by kernel_rfl : _ = vals 0).trans h0) (fun ρ rc rf q121 => ?_)
    clear h0
    refine makes_value (v := Value.pointer (some ⟨gb, 0, none⟩)) ?_ ⟨Adds.refl _, rfl⟩
    go_simp
    all_goals first | done | rfl | (rw [if_pos (by omega)]; refine congrArg (fun x => Result.ok (Next.value (Value.pointer (some ⟨_, x, none⟩))) _) ?_; omega) | (rw [wrapP_i64]; omega) | go_num | (simp; done) | (simp; omega) | (congr 1; first | rfl | (rw [wrapP_i64]; omega) | (congr 1; first | rfl | (simp; done) | (simp; omega) | (congr 2; omega) | go_num))
  · refine showA_op 2 (by intro _ _ _; kernel_rfl) rfl rfl (fun c vals w hC hD => ?_)
    have h1 : vals 1 = .pointer (some ⟨gb, 0, none⟩) := hD 1 rfl
    clear hD
    refine makes1 (x := .tmp 122) (X := Value.pointer (some ⟨gb, 0, none⟩)) ((by kernel_rfl : _ = vals 1).trans h1) (fun ρ rc rf q122 => ?_)
    clear h1
    refine makes_value (v := Value.pointer (some ⟨gb, 0, none⟩)) ?_ ⟨Adds.refl _, rfl⟩
    go_simp
    all_goals first | done | rfl | (rw [if_pos (by omega)]; refine congrArg (fun x => Result.ok (Next.value (Value.pointer (some ⟨_, x, none⟩))) _) ?_; omega) | (rw [wrapP_i64]; omega) | go_num | (simp; done) | (simp; omega) | (congr 1; first | rfl | (rw [wrapP_i64]; omega) | (congr 1; first | rfl | (simp; done) | (simp; omega) | (congr 2; omega) | go_num))
  · refine showA_op 3 (by intro _ _ _; kernel_rfl) rfl rfl (fun c vals w hC hD => ?_)
    have h2 : vals 2 = .pointer (some ⟨gb, 0, none⟩) := hD 2 rfl
    clear hD
    refine makes1 (x := .tmp 123) (X := Value.pointer (some ⟨gb, 0, none⟩)) ((by kernel_rfl : _ = vals 2).trans h2) (fun ρ rc rf q123 => ?_)
    clear h2
    exact makes_load ((hM.adds hC).loads_one (.tail _ (.tail _ (.tail _ (.tail _ (.tail _ (.head _)))))) (on_of rfl) rfl) rfl q123 ⟨Adds.refl _, rfl⟩
  · refine showA_op 4 (by intro _ _ _; kernel_rfl) rfl rfl (fun c vals w hC hD => ?_)
    clear hD
    refine makes1 (x := .tmp 10) (X := Value.slice (some ⟨gK, 0, none⟩) (nk + 1) capK) (by kernel_rfl : _ = (Value.slice (some ⟨gK, 0, none⟩) (nk + 1) capK : Value)) (fun ρ rc rf q10 => ?_)
    exact makes_move (.inl rfl) q10 ⟨Adds.refl _, rfl⟩
  · refine showA_op 5 (by intro _ _ _; kernel_rfl) rfl rfl (fun c vals w hC hD => ?_)
    clear hD
    refine makes1 (x := .tmp 3) (X := Value.pointer (some ⟨g3, 0, none⟩)) (by kernel_rfl : _ = (Value.pointer (some ⟨g3, 0, none⟩) : Value)) (fun ρ rc rf q3 => ?_)
    refine makes_value (v := Value.pointer (some ⟨g3, 35, none⟩)) ?_ ⟨Adds.refl _, rfl⟩
    go_simp
    all_goals first | done | rfl | (rw [if_pos (by omega)]; refine congrArg (fun x => Result.ok (Next.value (Value.pointer (some ⟨_, x, none⟩))) _) ?_; omega) | (rw [wrapP_i64]; omega) | go_num | (simp; done) | (simp; omega) | (congr 1; first | rfl | (rw [wrapP_i64]; omega) | (congr 1; first | rfl | (simp; done) | (simp; omega) | (congr 2; omega) | go_num))
  · refine showA_op 6 (by intro _ _ _; kernel_rfl) rfl rfl (fun c vals w hC hD => ?_)
    have h5 : vals 5 = .pointer (some ⟨g3, 35, none⟩) := hD 5 rfl
    clear hD
    refine makes1 (x := .tmp 126) (X := Value.pointer (some ⟨g3, 35, none⟩)) ((by kernel_rfl : _ = vals 5).trans h5) (fun ρ rc rf q126 => ?_)
    clear h5
    exact makes_load ((hM.adds hC).loads_one (.tail _ (.tail _ (.head _))) (on_of rfl) hCk) rfl q126 ⟨Adds.refl _, rfl⟩
  · refine showA_op 7 (by intro _ _ _; kernel_rfl) rfl rfl (fun c vals w hC hD => ?_)
    have h6 : vals 6 = .slice aK nk cK := hD 6 rfl
    clear hD
    refine makes1 (x := .tmp 127) (X := Value.slice aK nk cK) ((by kernel_rfl : _ = vals 6).trans h6) (fun ρ rc rf q127 => ?_)
    clear h6
    refine makes_value (v := Value.int .i64 (nk : Int)) ?_ ⟨Adds.refl _, rfl⟩
    go_simp
    all_goals first | done | rfl | (rw [if_pos (by omega)]; refine congrArg (fun x => Result.ok (Next.value (Value.pointer (some ⟨_, x, none⟩))) _) ?_; omega) | (rw [wrapP_i64]; omega) | go_num | (simp; done) | (simp; omega) | (congr 1; first | rfl | (rw [wrapP_i64]; omega) | (congr 1; first | rfl | (simp; done) | (simp; omega) | (congr 2; omega) | go_num))
  · refine showA_op 8 (by intro _ _ _; kernel_rfl) rfl rfl (fun c vals w hC hD => ?_)
    have h4 : vals 4 = .slice (some ⟨gK, 0, none⟩) (nk + 1) capK := hD 4 rfl
    have h7 : vals 7 = .int .i64 (nk : Int) := hD 7 rfl
    clear hD
    refine makes2 (x := .tmp 125) (X := Value.slice (some ⟨gK, 0, none⟩) (nk + 1) capK) (y := .tmp 128) (Y := Value.int .i64 (nk : Int)) ((by kernel_rfl : _ = vals 4).trans h4) ((by kernel_rfl : _ = vals 7).trans h7) (fun ρ rc rf q125 q128 => ?_)
    clear h4 h7
    exact makes_slice hck rfl q125 rfl (congrArg some q128) rfl ⟨Adds.refl _, rfl⟩
  · refine showA_op 9 (by intro _ _ _; kernel_rfl) rfl rfl (fun c vals w hC hD => ?_)
    clear hD
    refine makes1 (x := .tmp 11) (X := Value.slice (some ⟨gN, 0, none⟩) (nn + 1) capN) (by kernel_rfl : _ = (Value.slice (some ⟨gN, 0, none⟩) (nn + 1) capN : Value)) (fun ρ rc rf q11 => ?_)
    exact makes_move (.inl rfl) q11 ⟨Adds.refl _, rfl⟩
  · refine showA_op 10 (by intro _ _ _; kernel_rfl) rfl rfl (fun c vals w hC hD => ?_)
    clear hD
    refine makes1 (x := .tmp 3) (X := Value.pointer (some ⟨g3, 0, none⟩)) (by kernel_rfl : _ = (Value.pointer (some ⟨g3, 0, none⟩) : Value)) (fun ρ rc rf q3 => ?_)
    refine makes_value (v := Value.pointer (some ⟨g3, 36, none⟩)) ?_ ⟨Adds.refl _, rfl⟩
    go_simp
    all_goals first | done | rfl | (rw [if_pos (by omega)]; refine congrArg (fun x => Result.ok (Next.value (Value.pointer (some ⟨_, x, none⟩))) _) ?_; omega) | (rw [wrapP_i64]; omega) | go_num | (simp; done) | (simp; omega) | (congr 1; first | rfl | (rw [wrapP_i64]; omega) | (congr 1; first | rfl | (simp; done) | (simp; omega) | (congr 2; omega) | go_num))
  · refine showA_op 11 (by intro _ _ _; kernel_rfl) rfl rfl (fun c vals w hC hD => ?_)
    have h10 : vals 10 = .pointer (some ⟨g3, 36, none⟩) := hD 10 rfl
    clear hD
    refine makes1 (x := .tmp 131) (X := Value.pointer (some ⟨g3, 36, none⟩)) ((by kernel_rfl : _ = vals 10).trans h10) (fun ρ rc rf q131 => ?_)
    clear h10
    exact makes_load ((hM.adds hC).loads_one (.tail _ (.tail _ (.head _))) (on_of rfl) hCn) rfl q131 ⟨Adds.refl _, rfl⟩
  · refine showA_op 12 (by intro _ _ _; kernel_rfl) rfl rfl (fun c vals w hC hD => ?_)
    have h11 : vals 11 = .slice aN nn cN := hD 11 rfl
    clear hD
    refine makes1 (x := .tmp 132) (X := Value.slice aN nn cN) ((by kernel_rfl : _ = vals 11).trans h11) (fun ρ rc rf q132 => ?_)
    clear h11
    refine makes_value (v := Value.int .i64 (nn : Int)) ?_ ⟨Adds.refl _, rfl⟩
    go_simp
    all_goals first | done | rfl | (rw [if_pos (by omega)]; refine congrArg (fun x => Result.ok (Next.value (Value.pointer (some ⟨_, x, none⟩))) _) ?_; omega) | (rw [wrapP_i64]; omega) | go_num | (simp; done) | (simp; omega) | (congr 1; first | rfl | (rw [wrapP_i64]; omega) | (congr 1; first | rfl | (simp; done) | (simp; omega) | (congr 2; omega) | go_num))
  · refine showA_op 13 (by intro _ _ _; kernel_rfl) rfl rfl (fun c vals w hC hD => ?_)
    have h9 : vals 9 = .slice (some ⟨gN, 0, none⟩) (nn + 1) capN := hD 9 rfl
    have h12 : vals 12 = .int .i64 (nn : Int) := hD 12 rfl
    clear hD
    refine makes2 (x := .tmp 130) (X := Value.slice (some ⟨gN, 0, none⟩) (nn + 1) capN) (y := .tmp 133) (Y := Value.int .i64 (nn : Int)) ((by kernel_rfl : _ = vals 9).trans h9) ((by kernel_rfl : _ = vals 12).trans h12) (fun ρ rc rf q130 q133 => ?_)
    clear h9 h12
    exact makes_slice hcn rfl q130 rfl (congrArg some q133) rfl ⟨Adds.refl _, rfl⟩
  · refine showA_op 14 (by intro _ _ _; kernel_rfl) rfl rfl (fun c vals w hC hD => ?_)
    have h3 : vals 3 = .pointer (some ⟨gl, 0, none⟩) := hD 3 rfl
    have h8 : vals 8 = .slice (some ⟨gK, 0, none⟩) nk capK := hD 8 rfl
    have h13 : vals 13 = .slice (some ⟨gN, 0, none⟩) nn capN := hD 13 rfl
    clear hD
    refine makes3 (x := .tmp 124) (X := Value.pointer (some ⟨gl, 0, none⟩)) (y := .tmp 129) (Y := Value.slice (some ⟨gK, 0, none⟩) nk capK) (z := .tmp 134) (Z := Value.slice (some ⟨gN, 0, none⟩) nn capN) ((by kernel_rfl : _ = vals 3).trans h3) ((by kernel_rfl : _ = vals 8).trans h8) ((by kernel_rfl : _ = vals 13).trans h13) (fun ρ rc rf q124 q129 q134 => ?_)
    clear h3 h8 h13
    refine makes_call (hquo _ _ _ _ (hM.adds hC) (.tail _ (.tail _ (.tail _ (.head _)))) (.tail _ (.tail _ (.tail _ (.tail _ (.head _))))) (hBk _ hC) (hBn _ hC)) ?_ (by rintro e w' ⟨rfl, hb⟩; exact ⟨_, rfl, hb, rfl⟩)
    go_simp
  · exact showA_new 15 (by intro _ _ _; kernel_rfl) rfl rfl rfl (zr_of rfl)
  intro vals w' hC hΦ hne
  have h14 : vals 14 = .agg (T.map B8).toArray := hΦ 14 (by decide)
  obtain ⟨g12, hp15, hl12, hh12⟩ : (fun (xx : Value) (ww : World) => ∃ g, xx = Value.pointer (some ⟨g, 0, none⟩) ∧ (wA).heap.size ≤ g ∧ (Blk.mk (some g) 24 ((List.replicate 32 (0 : UInt8)).map B8) 32).holds ww) (vals 15) w' := hΦ 15 (by decide)
  clear hΦ hne
  simp only [List.getD_eq_getElem?_getD, List.getElem?_cons_zero, List.getElem?_cons_succ, Option.getD_some, List.drop_succ_cons, List.drop_zero]
  simp only [h14, hp15]
  clear h14 hp15
  try simp only [tuple_undef]
  replace hM := hM.addNew hC hh12 hl12
  clear hC hBk hBn hck hcn hquo hh12 hl12
  go_wp2_with (first
    | ((with_reducible refine gL_store hM ?_); refine ⟨_, _, _, rfl, rfl, hM.stores_all (.here _ _ _) (ag_of rfl) (hTl.map _) (by rfl) B8_one, ?_⟩; intro wB hM2; clear hM; have hM := hM2; clear hM2))
  have hBK : Bytes wB (.slice (some ⟨gK, 0, none⟩) (nk + 1) capK) (key ++ [119]) := by
    have h := hM.part' (off := 0) (n := nk + 1) (cap := capK) (.tail _ (.tail _ (.head _))) (by omega) (by omega) hK3
    rwa [List.drop_zero, List.take_of_length_le (by omega)] at h
  have hBN : Bytes wB (.slice (some ⟨gN, 0, none⟩) (nn + 1) capN) (nonce ++ [120]) := by
    have h := hM.part' (off := 0) (n := nn + 1) (cap := capN) (.tail _ (.head _)) (by omega) (by omega) hN3
    rwa [List.drop_zero, List.take_of_length_le (by omega)] at h
  have happ : ∀ (w' : World) (o6 : Option Nat) (c6 m : Nat) (B : List UInt8) (z : UInt8), (∃ ob' cap', Mem [] wB w' [⟨ob', 5, B.map B8 ++ [B8 z], cap' * 1⟩] ∧ m + 1 ≤ cap' ∧ cap' ≤ maxLen ∧ o6 = ob' ∧ c6 = cap') → Len B m → Bytes w' (sl o6 (m + 1) c6) (B ++ [z]) := fun w' o6 c6 m B z ⟨ob', cap', h, h1, h2, e1, e2⟩ hB => by
    subst e1 e2
    have hm : Mem [] wB w' [⟨o6, 5, (B ++ [z]).map B8, c6 * 1⟩] := by rw [List.map_append]; exact h
    obtain ⟨g, rfl⟩ := hm.some_of (.head _) (n := m + 1) (Len.of (by simp [hB.eq])) (by omega)
    have h := hm.part' (off := 0) (n := m + 1) (cap := c6) (.head _) (by simp [hB.eq]) (by omega) (by simp only [maxLen] at h2; omega)
    rwa [List.drop_zero, List.take_of_length_le (by simp [hB.eq])] at h
  obtain ⟨KB, hKB⟩ : ∃ KB, KB = key ++ [119] := ⟨_, rfl⟩
  obtain ⟨NB, hNB⟩ : ∃ NB, NB = nonce ++ [120] := ⟨_, rfl⟩
  have hapK := fun (w' : World) (o6 : Option Nat) (c6 : Nat) h => happ w' o6 c6 nk key 119 h hKl
  have hapN := fun (w' : World) (o6 : Option Nat) (c6 : Nat) h => happ w' o6 c6 nn nonce 120 h hNl
  rw [← hKB] at hBK hapK
  rw [← hNB] at hBN hapN
  clear hKB hNB happ hKt hNt hKt1 hNt1
  try simp only [Act.put]
  refine wp_region_kill (fun c vals => ⟨#[c 0, c 1, c 2, (Value.pointer (some ⟨g3, 0, none⟩) : Value), c 4, c 5, c 6, c 7, c 8, c 9, (Value.slice (some ⟨gK, 0, none⟩) (nk + 1) capK : Value), (Value.slice (some ⟨gN, 0, none⟩) (nn + 1) capN : Value), c 12, c 13, c 14, c 15, c 16, c 17, c 18, c 19, c 20, c 21, c 22, c 23, c 24, c 25, c 26, c 27, c 28, c 29, c 30, c 31, c 32, c 33, c 34, c 35, c 36, c 37, c 38, c 39, c 40, c 41, c 42, c 43, c 44, c 45, c 46, c 47, c 48, c 49, c 50, c 51, c 52, c 53, c 54, c 55, c 56, c 57, c 58, c 59, c 60, c 61, c 62, c 63, c 64, c 65, c 66, c 67, c 68, c 69, c 70, c 71, c 72, c 73, c 74, c 75, c 76, c 77, c 78, c 79, c 80, c 81, c 82, c 83, c 84, c 85, c 86, c 87, c 88, c 89, c 90, c 91, c 92, c 93, c 94, c 95, c 96, c 97, c 98, c 99, c 100, c 101, c 102, c 103, c 104, c 105, c 106, c 107, c 108, c 109, c 110, c 111, c 112, c 113, c 114, c 115, c 116, c 117, c 118, c 119, c 120, c 121, c 122, c 123, c 124, c 125, c 126, c 127, c 128, c 129, c 130, c 131, c 132, c 133, c 134, c 135, vals 0, vals 1, vals 2, vals 3, vals 4, vals 5, vals 6, vals 7, vals 8, vals 9, vals 10, vals 11, vals 12, vals 13, vals 14, vals 15, vals 16, vals 17, vals 18, vals 19, c 156, c 157, c 158, c 159, c 160, c 161, c 162, c 163, c 164, c 165, c 166, c 167, c 168, c 169, c 170, c 171, c 172, c 173, c 174, c 175, c 176, c 177, c 178, c 179], []⟩) (fun t => [_, _, _, undef, _, _, _, _, _, _, undef, undef, _, _, _, _, _, _, _, _, _, _, _, _, _, _, _, _, _, _, _, _, _, _, _, _, _, _, _, _, _, _, _, _, _, _, _, _, _, _, _, _, _, _, _, _, _, _, _, _, _, _, _, _, _, _, _, _, _, _, _, _, _, _, _, _, _, _, _, _, _, _, _, _, _, _, _, _, _, _, _, _, _, _, _, _, _, _, _, _, _, _, _, _, _, _, _, _, _, _, _, _, _, _, _, _, _, _, _, _, _, _, _, _, _, _, _, _, _, _, _, _, _, _, _, _, undef, undef, undef, undef, undef, undef, undef, undef, undef, undef, undef, undef, undef, undef, undef, undef, undef, undef, undef, undef, _, _, _, _, _, _, _, _, _, _, _, _, _, _, _, _, _, _, _, _, _, _, _, _].getD t undef) (fun i => [_, _, _, _, _, _, _, _, _, _, _, _, _, _, _, _, _, _, _, _].getD i undef) (by kernel_rfl)
    [[], [0], [], [2], [2, 3], [], [2, 3, 4, 5], [2, 3, 4, 5, 6], [0, 1, 2, 3, 4, 5, 6, 7], [0, 1, 2, 3, 4, 5, 6, 7, 8], [0, 1, 2, 3, 4, 5, 6, 7, 8, 9], [0, 1, 2, 3, 4, 5, 6, 7, 8, 9, 10], [0, 1, 2, 3, 4, 5, 6, 7, 8, 9], [0, 1, 2, 3, 4, 5, 6, 7, 8, 9, 12], [0, 1, 2, 3, 4, 5, 6, 7, 8, 9, 12, 13], [0, 1, 2, 3, 4, 5, 6, 7, 8, 9], [0, 1, 2, 3, 4, 5, 6, 7, 8, 9, 12, 13, 14, 15], [0, 1, 2, 3, 4, 5, 6, 7, 8, 9, 12, 13, 14, 15, 16], [0, 1, 2, 3, 4, 5, 6, 7, 8, 9, 10, 11, 12, 13, 14, 15, 16, 17], [0, 1, 2, 3, 4, 5, 6, 7, 8, 9, 10, 11, 12, 13, 14, 15, 16, 17, 18]] (by kernel_rfl) [none, none, none, none, some 6, some 6, some 16, none, none, none, none, none, none, none, some 16, some 16, none, none, none, none] [true, true, true, true, false, false, false, true, true, true, true, true, true, true, false, false, false, true, true, true] [6, 16] (by kernel_rfl) (fun _ => True) trivial (Adds wB) ((Adds.refl _).drew) (fun _ _ h k => h.trans k)
    [fun x _ => x = (Value.slice (some ⟨gK, 0, none⟩) (nk + 1) capK : Value),
     fun x _ => x = (Value.string ⟨(KB).toArray⟩ : Value),
     fun x _ => x = (Value.pointer (some ⟨g3, 35, none⟩) : Value),
     fun x _ => x = (Value.slice aK nk cK : Value),
     fun (xx : Value) (ww : World) => ∃ o6 c6, xx = sl o6 nk c6 ∧ c6 ≤ maxLen ∧ Mem [] wB ww [⟨o6, 5, key.map B8, c6 * 1⟩],
     fun (xx : Value) (ww : World) => NewRow wB.heap.size 5 ww xx [B8 119] 1,
     fun (xx : Value) (ww : World) => Bytes ww xx KB,
     fun x _ => x = (Value.string ⟨(KB).toArray⟩ : Value),
     fun x _ => x = (Value.bool false : Value),
     fun x _ => x = (Value.bool false : Value),
     fun x _ => x = (Value.slice (some ⟨gN, 0, none⟩) (nn + 1) capN : Value),
     fun x _ => x = (Value.string ⟨(NB).toArray⟩ : Value),
     fun x _ => x = (Value.pointer (some ⟨g3, 36, none⟩) : Value),
     fun x _ => x = (Value.slice aN nn cN : Value),
     fun (xx : Value) (ww : World) => ∃ o6 c6, xx = sl o6 nn c6 ∧ c6 ≤ maxLen ∧ Mem [] wB ww [⟨o6, 5, nonce.map B8, c6 * 1⟩],
     fun (xx : Value) (ww : World) => NewRow wB.heap.size 5 ww xx [B8 120] 1,
     fun (xx : Value) (ww : World) => Bytes ww xx NB,
     fun x _ => x = (Value.string ⟨(NB).toArray⟩ : Value),
     fun x _ => x = (Value.bool false : Value),
     fun x _ => x = (Value.bool false : Value)]
    ⟨fun _ _ _ h _ => h, fun _ _ _ h _ => h, fun _ _ _ h _ => h, fun _ _ _ h _ => h, fun _ _ _ h hb => (let ⟨o6, c6, h1, h2, h3⟩ := h; ⟨o6, c6, h1, h2, h3.adds hb⟩), fun _ _ _ h hb => h.adds hb, fun _ _ _ h hb => h.adds hb, fun _ _ _ h _ => h, fun _ _ _ h _ => h, fun _ _ _ h _ => h, fun _ _ _ h _ => h, fun _ _ _ h _ => h, fun _ _ _ h _ => h, fun _ _ _ h _ => h, fun _ _ _ h hb => (let ⟨o6, c6, h1, h2, h3⟩ := h; ⟨o6, c6, h1, h2, h3.adds hb⟩), fun _ _ _ h hb => h.adds hb, fun _ _ _ h hb => h.adds hb, fun _ _ _ h _ => h, fun _ _ _ h _ => h, fun _ _ _ h _ => h, trivial⟩
    (fun i => match i with | 0 => fun _ _ _ h0 h => h | 1 => fun _ _ _ h0 h => h | 2 => fun _ _ _ h0 h => h | 3 => fun _ _ _ h0 h => h | 4 => fun _ _ _ h0 h => absurd (show false = true from h0) (by decide) | 5 => fun _ _ _ h0 h => absurd (show false = true from h0) (by decide) | 6 => fun _ _ _ h0 h => absurd (show false = true from h0) (by decide) | 7 => fun _ _ _ h0 h => h | 8 => fun _ _ _ h0 h => h | 9 => fun _ _ _ h0 h => h | 10 => fun _ _ _ h0 h => h | 11 => fun _ _ _ h0 h => h | 12 => fun _ _ _ h0 h => h | 13 => fun _ _ _ h0 h => h | 14 => fun _ _ _ h0 h => absurd (show false = true from h0) (by decide) | 15 => fun _ _ _ h0 h => absurd (show false = true from h0) (by decide) | 16 => fun _ _ _ h0 h => absurd (show false = true from h0) (by decide) | 17 => fun _ _ _ h0 h => h | 18 => fun _ _ _ h0 h => h | 19 => fun _ _ _ h0 h => h | (_ + 20) => fun _ _ _ h0 _ => absurd (show false = true from h0) (by decide))
    ⟨?_, ?_, ?_, ?_, ?_, ?_, ?_, ?_, ?_, ?_, ?_, ?_, ?_, ?_, ?_, ?_, ?_, ?_, ?_, ?_, trivial⟩ ?_
  · refine showK_op 0 (by intro _ _ _; kernel_rfl) rfl rfl (fun c vals w hC hD => ?_)
    clear hD
    refine makes1 (x := .tmp 10) (X := Value.slice (some ⟨gK, 0, none⟩) (nk + 1) capK) (by kernel_rfl : _ = (Value.slice (some ⟨gK, 0, none⟩) (nk + 1) capK : Value)) (fun ρ rc rf q10 => ?_)
    exact makes_move (.inl rfl) q10 ⟨Adds.refl _, rfl⟩
  · refine showK_op 1 (by intro _ _ _; kernel_rfl) rfl rfl (fun c vals w hC hD => ?_)
    have h0 : vals 0 = .slice (some ⟨gK, 0, none⟩) (nk + 1) capK := hD 0 rfl rfl
    clear hD
    refine makes1 (x := .tmp 136) (X := Value.slice (some ⟨gK, 0, none⟩) (nk + 1) capK) ((by kernel_rfl : _ = vals 0).trans h0) (fun ρ rc rf q136 => ?_)
    clear h0
    have hs := str_of (hBK.adds hC)
    refine makes_value (v := Value.string ⟨(KB).toArray⟩) ?_ ⟨Adds.refl _, rfl⟩
    go_simp
  · refine showK_op 2 (by intro _ _ _; kernel_rfl) rfl rfl (fun c vals w hC hD => ?_)
    clear hD
    refine makes1 (x := .tmp 3) (X := Value.pointer (some ⟨g3, 0, none⟩)) (by kernel_rfl : _ = (Value.pointer (some ⟨g3, 0, none⟩) : Value)) (fun ρ rc rf q3 => ?_)
    refine makes_value (v := Value.pointer (some ⟨g3, 35, none⟩)) ?_ ⟨Adds.refl _, rfl⟩
    go_simp
    all_goals first | done | rfl | (rw [if_pos (by omega)]; refine congrArg (fun x => Result.ok (Next.value (Value.pointer (some ⟨_, x, none⟩))) _) ?_; omega) | (rw [wrapP_i64]; omega) | go_num | (simp; done) | (simp; omega) | (congr 1; first | rfl | (rw [wrapP_i64]; omega) | (congr 1; first | rfl | (simp; done) | (simp; omega) | (congr 2; omega) | go_num))
  · refine showK_op 3 (by intro _ _ _; kernel_rfl) rfl rfl (fun c vals w hC hD => ?_)
    have h2 : vals 2 = .pointer (some ⟨g3, 35, none⟩) := hD 2 rfl rfl
    clear hD
    refine makes1 (x := .tmp 138) (X := Value.pointer (some ⟨g3, 35, none⟩)) ((by kernel_rfl : _ = vals 2).trans h2) (fun ρ rc rf q138 => ?_)
    clear h2
    exact makes_load ((hM.adds hC).loads_one (.tail _ (.tail _ (.tail _ (.head _)))) (on_of rfl) hCk) rfl q138 ⟨Adds.refl _, rfl⟩
  · refine showK_op 4 (by intro _ _ _; kernel_rfl) rfl rfl (fun c vals w hC hD => ?_)
    have h3 : vals 3 = .slice aK nk cK := hD 3 rfl rfl
    clear hD
    refine makes1 (x := .tmp 139) (X := Value.slice aK nk cK) ((by kernel_rfl : _ = vals 3).trans h3) (fun ρ rc rf q139 => ?_)
    clear h3
    exact makes_append_nil rfl (rc _) (us_of rfl) (el_of rfl) q139 (hKs _ (hM.adds hC).done) (by rw [List.length_map, Nat.mul_one]; exact hKl.eq) B8_one (by simp only [maxLen]; omega) (by omega) (fun o6 c6 w' h1 h2 h3 => ⟨h1.done, o6, c6, rfl, h3, ((Mem.start _).adds hC).join h1 (by simp)⟩)
  · refine showK_op 5 (by intro _ _ _; kernel_rfl) rfl rfl (fun c vals w hC hD => ?_)
    clear hD
    refine makes0 (fun ρ rc rf => ?_)
    exact makes_buildSlice (C := [B8 119]) Try.underlying22 (el_of rfl) (by decide) (by decide) rfl rfl (by simp only [List.map, rc]; rfl) (by simp only [List.map, rc]; decide) ⟨(Below.refl _ _).alloc (Nat.le_refl _) _, w.heap.size, rfl, hC.size, _, World.alloc_heap_new _ _⟩
  · refine showK_wr 6 (by intro _ _ _; kernel_rfl) rfl rfl (fun c vals w hC hD => ?_)
    have h4 : (fun (xx : Value) (ww : World) => ∃ o6 c6, xx = sl o6 nk c6 ∧ c6 ≤ maxLen ∧ Mem [] wB ww [⟨o6, 5, key.map B8, c6 * 1⟩]) (vals 4) w := hD 4 rfl rfl
    have h5 : (fun (xx : Value) (ww : World) => NewRow wB.heap.size 5 ww xx [B8 119] 1) (vals 5) w := hD 5 rfl rfl
    clear hD
    refine makes2 (x := .tmp 140) (X := vals 4) (y := .tmp 141) (Y := vals 5) (by kernel_rfl : _ = vals 4) (by kernel_rfl : _ = vals 5) (fun ρ rc rf q140 q141 => ?_)
    (obtain ⟨o6, c6, e6, hc6, m6⟩ := h4; exact m6.makes_append (L' := fun ob' cap' => [⟨ob', 5, key.map B8 ++ [B8 119], cap' * 1⟩]) rfl (q140.trans e6) (us_of rfl) (el_of rfl) (fun _ _ => .here _ _ _) rfl (by rw [List.length_map, Nat.mul_one]; exact hKl.eq) hc6 q141 h5.src rfl (B8_one (l := [119])) (by simp only [maxLen]; omega) (by omega) (fun ob' cap' w' hM2 g1 g2 => ⟨hM2.done, hapK _ _ _ ⟨ob', cap', hM2, g1, g2, rfl, rfl⟩⟩))
  · refine showK_op 7 (by intro _ _ _; kernel_rfl) rfl rfl (fun c vals w hC hD => ?_)
    have h6 : (fun (xx : Value) (ww : World) => Bytes ww xx KB) (vals 6) w := hD 6 rfl rfl
    clear hD
    refine makes1 (x := .tmp 142) (X := vals 6) (by kernel_rfl : _ = vals 6) (fun ρ rc rf q142 => ?_)
    (have hs := str_of (h6 : Bytes w (vals 6) KB); refine makes_value (v := .string ⟨(KB).toArray⟩) ?_ ⟨Adds.refl _, rfl⟩; go_simp)
  · refine showK_op 8 (by intro _ _ _; kernel_rfl) rfl rfl (fun c vals w hC hD => ?_)
    have h1 : vals 1 = .string ⟨(KB).toArray⟩ := hD 1 rfl rfl
    have h7 : vals 7 = .string ⟨(KB).toArray⟩ := hD 7 rfl rfl
    clear hD
    refine makes2 (x := .tmp 137) (X := Value.string ⟨(KB).toArray⟩) (y := .tmp 143) (Y := Value.string ⟨(KB).toArray⟩) ((by kernel_rfl : _ = vals 1).trans h1) ((by kernel_rfl : _ = vals 7).trans h7) (fun ρ rc rf q137 q143 => ?_)
    clear h1 h7
    refine makes_value (v := Value.bool false) ?_ ⟨Adds.refl _, rfl⟩
    go_simp
    all_goals first | done | rfl | (rw [if_pos (by omega)]; refine congrArg (fun x => Result.ok (Next.value (Value.pointer (some ⟨_, x, none⟩))) _) ?_; omega) | (rw [wrapP_i64]; omega) | go_num | (simp; done) | (simp; omega) | (congr 1; first | rfl | (rw [wrapP_i64]; omega) | (congr 1; first | rfl | (simp; done) | (simp; omega) | (congr 2; omega) | go_num))
  · refine showK_op 9 (by intro _ _ _; kernel_rfl) rfl rfl (fun c vals w hC hD => ?_)
    have h8 : vals 8 = .bool false := hD 8 rfl rfl
    clear hD
    refine makes1 (x := .tmp 144) (X := Value.bool false) ((by kernel_rfl : _ = vals 8).trans h8) (fun ρ rc rf q144 => ?_)
    clear h8
    exact makes_move (.inl rfl) q144 ⟨Adds.refl _, rfl⟩
  · refine showK_run 10 (by intro _ _ _; kernel_rfl) (j := 9) (want := false) rfl rfl rfl (by intro _ _; kernel_rfl) rfl (fun c vals w hC hD => ⟨hD 9 rfl rfl, ?_⟩)
    clear hD
    refine makes1 (x := .tmp 11) (X := Value.slice (some ⟨gN, 0, none⟩) (nn + 1) capN) (by kernel_rfl : _ = (Value.slice (some ⟨gN, 0, none⟩) (nn + 1) capN : Value)) (fun ρ rc rf q11 => ?_)
    exact makes_move (.inl rfl) q11 ⟨Adds.refl _, rfl⟩
  · refine showK_run 11 (by intro _ _ _; kernel_rfl) (j := 9) (want := false) rfl rfl rfl (by intro _ _; kernel_rfl) rfl (fun c vals w hC hD => ⟨hD 9 rfl rfl, ?_⟩)
    have h10 : vals 10 = .slice (some ⟨gN, 0, none⟩) (nn + 1) capN := hD 10 rfl rfl
    clear hD
    refine makes1 (x := .tmp 146) (X := Value.slice (some ⟨gN, 0, none⟩) (nn + 1) capN) ((by kernel_rfl : _ = vals 10).trans h10) (fun ρ rc rf q146 => ?_)
    clear h10
    have hs := str_of (hBN.adds hC)
    refine makes_value (v := Value.string ⟨(NB).toArray⟩) ?_ ⟨Adds.refl _, rfl⟩
    go_simp
  · refine showK_run 12 (by intro _ _ _; kernel_rfl) (j := 9) (want := false) rfl rfl rfl (by intro _ _; kernel_rfl) rfl (fun c vals w hC hD => ⟨hD 9 rfl rfl, ?_⟩)
    clear hD
    refine makes1 (x := .tmp 3) (X := Value.pointer (some ⟨g3, 0, none⟩)) (by kernel_rfl : _ = (Value.pointer (some ⟨g3, 0, none⟩) : Value)) (fun ρ rc rf q3 => ?_)
    refine makes_value (v := Value.pointer (some ⟨g3, 36, none⟩)) ?_ ⟨Adds.refl _, rfl⟩
    go_simp
    all_goals first | done | rfl | (rw [if_pos (by omega)]; refine congrArg (fun x => Result.ok (Next.value (Value.pointer (some ⟨_, x, none⟩))) _) ?_; omega) | (rw [wrapP_i64]; omega) | go_num | (simp; done) | (simp; omega) | (congr 1; first | rfl | (rw [wrapP_i64]; omega) | (congr 1; first | rfl | (simp; done) | (simp; omega) | (congr 2; omega) | go_num))
  · refine showK_run 13 (by intro _ _ _; kernel_rfl) (j := 9) (want := false) rfl rfl rfl (by intro _ _; kernel_rfl) rfl (fun c vals w hC hD => ⟨hD 9 rfl rfl, ?_⟩)
    have h12 : vals 12 = .pointer (some ⟨g3, 36, none⟩) := hD 12 rfl rfl
    clear hD
    refine makes1 (x := .tmp 148) (X := Value.pointer (some ⟨g3, 36, none⟩)) ((by kernel_rfl : _ = vals 12).trans h12) (fun ρ rc rf q148 => ?_)
    clear h12
    exact makes_load ((hM.adds hC).loads_one (.tail _ (.tail _ (.tail _ (.head _)))) (on_of rfl) hCn) rfl q148 ⟨Adds.refl _, rfl⟩
  · refine showK_run 14 (by intro _ _ _; kernel_rfl) (j := 9) (want := false) rfl rfl rfl (by intro _ _; kernel_rfl) rfl (fun c vals w hC hD => ⟨hD 9 rfl rfl, ?_⟩)
    have h13 : vals 13 = .slice aN nn cN := hD 13 rfl rfl
    clear hD
    refine makes1 (x := .tmp 149) (X := Value.slice aN nn cN) ((by kernel_rfl : _ = vals 13).trans h13) (fun ρ rc rf q149 => ?_)
    clear h13
    exact makes_append_nil rfl (rc _) (us_of rfl) (el_of rfl) q149 (hNs _ (hM.adds hC).done) (by rw [List.length_map, Nat.mul_one]; exact hNl.eq) B8_one (by simp only [maxLen]; omega) (by omega) (fun o6 c6 w' h1 h2 h3 => ⟨h1.done, o6, c6, rfl, h3, ((Mem.start _).adds hC).join h1 (by simp)⟩)
  · refine showK_run 15 (by intro _ _ _; kernel_rfl) (j := 9) (want := false) rfl rfl rfl (by intro _ _; kernel_rfl) rfl (fun c vals w hC hD => ⟨hD 9 rfl rfl, ?_⟩)
    clear hD
    refine makes0 (fun ρ rc rf => ?_)
    exact makes_buildSlice (C := [B8 120]) Try.underlying22 (el_of rfl) (by decide) (by decide) rfl rfl (by simp only [List.map, rc]; rfl) (by simp only [List.map, rc]; decide) ⟨(Below.refl _ _).alloc (Nat.le_refl _) _, w.heap.size, rfl, hC.size, _, World.alloc_heap_new _ _⟩
  · refine showK_runwr 16 (by intro _ _ _; kernel_rfl) (j := 9) (want := false) rfl rfl rfl (by intro _ _; kernel_rfl) rfl (fun c vals w hC hD => ⟨hD 9 rfl rfl, ?_⟩)
    have h14 : (fun (xx : Value) (ww : World) => ∃ o6 c6, xx = sl o6 nn c6 ∧ c6 ≤ maxLen ∧ Mem [] wB ww [⟨o6, 5, nonce.map B8, c6 * 1⟩]) (vals 14) w := hD 14 rfl rfl
    have h15 : (fun (xx : Value) (ww : World) => NewRow wB.heap.size 5 ww xx [B8 120] 1) (vals 15) w := hD 15 rfl rfl
    clear hD
    refine makes2 (x := .tmp 150) (X := vals 14) (y := .tmp 151) (Y := vals 15) (by kernel_rfl : _ = vals 14) (by kernel_rfl : _ = vals 15) (fun ρ rc rf q150 q151 => ?_)
    (obtain ⟨o6, c6, e6, hc6, m6⟩ := h14; exact m6.makes_append (L' := fun ob' cap' => [⟨ob', 5, nonce.map B8 ++ [B8 120], cap' * 1⟩]) rfl (q150.trans e6) (us_of rfl) (el_of rfl) (fun _ _ => .here _ _ _) rfl (by rw [List.length_map, Nat.mul_one]; exact hNl.eq) hc6 q151 h15.src rfl (B8_one (l := [120])) (by simp only [maxLen]; omega) (by omega) (fun ob' cap' w' hM2 g1 g2 => ⟨hM2.done, hapN _ _ _ ⟨ob', cap', hM2, g1, g2, rfl, rfl⟩⟩))
  · refine showK_run 17 (by intro _ _ _; kernel_rfl) (j := 9) (want := false) rfl rfl rfl (by intro _ _; kernel_rfl) rfl (fun c vals w hC hD => ⟨hD 9 rfl rfl, ?_⟩)
    have h16 : (fun (xx : Value) (ww : World) => Bytes ww xx NB) (vals 16) w := hD 16 rfl rfl
    clear hD
    refine makes1 (x := .tmp 152) (X := vals 16) (by kernel_rfl : _ = vals 16) (fun ρ rc rf q152 => ?_)
    (have hs := str_of (h16 : Bytes w (vals 16) NB); refine makes_value (v := .string ⟨(NB).toArray⟩) ?_ ⟨Adds.refl _, rfl⟩; go_simp)
  · refine showK_run 18 (by intro _ _ _; kernel_rfl) (j := 9) (want := false) rfl rfl rfl (by intro _ _; kernel_rfl) rfl (fun c vals w hC hD => ⟨hD 9 rfl rfl, ?_⟩)
    have h11 : vals 11 = .string ⟨(NB).toArray⟩ := hD 11 rfl rfl
    have h17 : vals 17 = .string ⟨(NB).toArray⟩ := hD 17 rfl rfl
    clear hD
    refine makes2 (x := .tmp 147) (X := Value.string ⟨(NB).toArray⟩) (y := .tmp 153) (Y := Value.string ⟨(NB).toArray⟩) ((by kernel_rfl : _ = vals 11).trans h11) ((by kernel_rfl : _ = vals 17).trans h17) (fun ρ rc rf q147 q153 => ?_)
    clear h11 h17
    refine makes_value (v := Value.bool false) ?_ ⟨Adds.refl _, rfl⟩
    go_simp
    all_goals first | done | rfl | (rw [if_pos (by omega)]; refine congrArg (fun x => Result.ok (Next.value (Value.pointer (some ⟨_, x, none⟩))) _) ?_; omega) | (rw [wrapP_i64]; omega) | go_num | (simp; done) | (simp; omega) | (congr 1; first | rfl | (rw [wrapP_i64]; omega) | (congr 1; first | rfl | (simp; done) | (simp; omega) | (congr 2; omega) | go_num))
  · refine showK_op 19 (by intro _ _ _; kernel_rfl) rfl rfl (fun c vals w hC hD => ?_)
    have h9 : vals 9 = .bool false := hD 9 rfl rfl
    have h18 : vals 18 = .bool false := hD 18 rfl rfl
    clear hD
    refine makes2 (x := .tmp 145) (X := Value.bool false) (y := .tmp 154) (Y := Value.bool false) ((by kernel_rfl : _ = vals 9).trans h9) ((by kernel_rfl : _ = vals 18).trans h18) (fun ρ rc rf q145 q154 => ?_)
    clear h9 h18
    refine makes_value (v := Value.bool false) ?_ ⟨Adds.refl _, rfl⟩
    go_simp
    all_goals first | done | rfl | (rw [if_pos (by omega)]; refine congrArg (fun x => Result.ok (Next.value (Value.pointer (some ⟨_, x, none⟩))) _) ?_; omega) | (rw [wrapP_i64]; omega) | go_num | (simp; done) | (simp; omega) | (congr 1; first | rfl | (rw [wrapP_i64]; omega) | (congr 1; first | rfl | (simp; done) | (simp; omega) | (congr 2; omega) | go_num))
  intro vals w' hC hΦ
  have h19 : vals 19 = .bool false := hΦ 19 (by decide) rfl
  clear hΦ
  simp only [List.getD_eq_getElem?_getD, List.getElem?_cons_zero, List.getElem?_cons_succ, Option.getD_some]
  simp only [h19]
  clear h19
  try simp only [tuple_undef]
  replace hM := hM.adds hC
  clear hC hBK hBN hapK hapN hKs hNs
  go_wp2_with fail
  rename_i wC K1 hK1
  try simp only [Act.put, List.setIfInBounds_toArray, List.set_cons_succ, List.set_cons_zero]
  refine wp_region_tail 25 (by decide) (fun c vals => ⟨#[(Value.pointer (some ⟨gb, 0, none⟩) : Value), c 1, c 2, (Value.pointer (some ⟨g3, 0, none⟩) : Value), vals 24, c 5, c 6, c 7, c 8, c 9, c 10, c 11, (Value.pointer (some ⟨g12, 0, none⟩) : Value), c 13, c 14, c 15, c 16, c 17, c 18, c 19, c 20, c 21, c 22, c 23, c 24, c 25, c 26, c 27, c 28, c 29, c 30, c 31, c 32, c 33, c 34, c 35, c 36, c 37, c 38, c 39, c 40, c 41, c 42, c 43, c 44, c 45, c 46, c 47, c 48, c 49, c 50, c 51, c 52, c 53, c 54, c 55, c 56, c 57, c 58, c 59, c 60, c 61, c 62, c 63, c 64, c 65, c 66, c 67, c 68, c 69, c 70, c 71, c 72, c 73, c 74, c 75, c 76, c 77, c 78, c 79, c 80, c 81, c 82, c 83, c 84, c 85, c 86, c 87, c 88, c 89, c 90, c 91, c 92, c 93, c 94, c 95, c 96, c 97, c 98, c 99, c 100, c 101, c 102, c 103, c 104, c 105, c 106, c 107, c 108, c 109, c 110, c 111, c 112, c 113, c 114, c 115, c 116, c 117, c 118, c 119, c 120, c 121, c 122, c 123, c 124, c 125, c 126, c 127, c 128, c 129, c 130, c 131, c 132, c 133, c 134, c 135, c 136, c 137, c 138, c 139, c 140, c 141, c 142, c 143, c 144, c 145, c 146, c 147, c 148, c 149, c 150, c 151, c 152, c 153, c 154, c 155, vals 0, vals 1, vals 2, vals 3, vals 4, vals 5, vals 6, vals 7, vals 8, vals 9, vals 10, vals 11, vals 12, vals 13, vals 14, vals 15, vals 16, vals 17, vals 18, vals 19, vals 20, vals 21, vals 22, vals 23], []⟩) (fun t => [undef, _, _, undef, undef, _, _, _, _, _, _, _, undef, _, _, _, _, _, _, _, _, _, _, _, _, _, _, _, _, _, _, _, _, _, _, _, _, _, _, _, _, _, _, _, _, _, _, _, _, _, _, _, _, _, _, _, _, _, _, _, _, _, _, _, _, _, _, _, _, _, _, _, _, _, _, _, _, _, _, _, _, _, _, _, _, _, _, _, _, _, _, _, _, _, _, _, _, _, _, _, _, _, _, _, _, _, _, _, _, _, _, _, _, _, _, _, _, _, _, _, _, _, _, _, _, _, _, _, _, _, _, _, _, _, _, _, _, _, _, _, _, _, _, _, _, _, _, _, _, _, _, _, _, _, _, _, undef, undef, undef, undef, undef, undef, undef, undef, undef, undef, undef, undef, undef, undef, undef, undef, undef, undef, undef, undef, undef, undef, undef, undef].getD t undef) (fun i => [_, _, _, _, _, _, _, _, _, _, _, _, _, _, _, _, _, _, _, _, _, _, _, _, _].getD i undef) (by kernel_rfl)
    [[], [], [1], [], [3], [], [5], [5, 6], [5, 6, 7], [1, 2, 3, 4, 5, 6, 7, 8], [0, 1, 2, 3, 4, 5, 6, 7, 8, 9], [0, 1, 2, 3, 4, 5, 6, 7, 8, 9, 10], [0, 1, 2, 3, 4, 5, 6, 7, 8, 9, 10, 11], [0, 1, 2, 3, 4, 5, 6, 7, 8, 9, 10, 11, 12], [0, 1, 2, 3, 4, 5, 6, 7, 8, 9, 10, 11], [0, 1, 2, 3, 4, 5, 6, 7, 8, 9, 10, 11, 14], [0, 1, 2, 3, 4, 5, 6, 7, 8, 9, 10, 11], [0, 1, 2, 3, 4, 5, 6, 7, 8, 9, 10, 11, 16], [0, 1, 2, 3, 4, 5, 6, 7, 8, 9, 10, 11, 16, 17], [0, 1, 2, 3, 4, 5, 6, 7, 8, 9, 10, 11, 16, 17, 18], [0, 1, 2, 3, 4, 5, 6, 7, 8, 9, 10, 11], [0, 1, 2, 3, 4, 5, 6, 7, 8, 9, 10, 11, 12, 13, 14, 15, 16, 17, 18, 19, 20], [0, 1, 2, 3, 4, 5, 6, 7, 8, 9, 10, 11, 12, 13, 14, 15, 16, 17, 18, 19, 20, 21], [0, 1, 2, 3, 4, 5, 6, 7, 8, 9, 10, 11, 12, 13, 14, 15, 16, 17, 18, 19, 20, 21, 22], [0, 1, 2, 3, 4, 5, 6, 7, 8, 9, 10, 11, 12, 13, 14, 15, 16, 17, 18, 19, 20, 21, 22, 23]] (by kernel_rfl) (by kernel_rfl) (fun _ => True) trivial
    [fun x _ => x = (Value.agg (T.map B8).toArray : Value),
     fun x _ => x = (Value.pointer (some ⟨g3, 35, none⟩) : Value),
     fun x _ => x = (Value.slice aK nk cK : Value),
     fun x _ => x = (Value.pointer (some ⟨g3, 36, none⟩) : Value),
     fun x _ => x = (Value.slice aN nn cN : Value),
     fun x _ => x = (Value.pointer (some ⟨gb, 0, none⟩) : Value),
     fun x _ => x = (Value.pointer (some ⟨gb, 0, none⟩) : Value),
     fun x _ => x = (Value.pointer (some ⟨gb, 1, none⟩) : Value),
     fun x _ => x = (sl oa n capa : Value),
     fun x _ => x = (Value.agg (T.map B8).toArray : Value),
     fun x _ => x = (Value.bool true : Value),
     fun x _ => x = (Value.bool true : Value),
     fun x _ => x = (Value.pointer (some ⟨g3, 35, none⟩) : Value),
     fun x _ => x = (Value.slice aK nk cK : Value),
     fun x _ => x = (Value.pointer (some ⟨g3, 36, none⟩) : Value),
     fun x _ => x = (Value.slice aN nn cN : Value),
     fun x _ => x = (Value.pointer (some ⟨gb, 0, none⟩) : Value),
     fun x _ => x = (Value.pointer (some ⟨gb, 0, none⟩) : Value),
     fun x _ => x = (Value.pointer (some ⟨gb, 1, none⟩) : Value),
     fun x _ => x = (sl oa n capa : Value),
     fun x _ => x = (Value.agg (T.map B8).toArray : Value),
     fun x _ => x = (Value.int .i64 0 : Value),
     fun x _ => x = (Value.bool true : Value),
     fun x _ => x = (Value.bool true : Value),
     fun x _ => x = (Value.bool true : Value)]
    ⟨fun _ _ _ h _ => h, fun _ _ _ h _ => h, fun _ _ _ h _ => h, fun _ _ _ h _ => h, fun _ _ _ h _ => h, fun _ _ _ h _ => h, fun _ _ _ h _ => h, fun _ _ _ h _ => h, fun _ _ _ h _ => h, fun _ _ _ h _ => h, fun _ _ _ h _ => h, fun _ _ _ h _ => h, fun _ _ _ h _ => h, fun _ _ _ h _ => h, fun _ _ _ h _ => h, fun _ _ _ h _ => h, fun _ _ _ h _ => h, fun _ _ _ h _ => h, fun _ _ _ h _ => h, fun _ _ _ h _ => h, fun _ _ _ h _ => h, fun _ _ _ h _ => h, fun _ _ _ h _ => h, fun _ _ _ h _ => h, fun _ _ _ h _ => h, trivial⟩ []
    ⟨?_, ?_, ?_, ?_, ?_, ?_, ?_, ?_, ?_, ?_, ?_, ?_, ?_, ?_, ?_, ?_, ?_, ?_, ?_, ?_, ?_, ?_, ?_, ?_, ?_, trivial⟩ ?_
  · refine showA_op 0 (by intro _ _ _; kernel_rfl) rfl rfl (fun c vals w hC hD => ?_)
    clear hD
    refine makes1 (x := .tmp 12) (X := Value.pointer (some ⟨g12, 0, none⟩)) (by kernel_rfl : _ = (Value.pointer (some ⟨g12, 0, none⟩) : Value)) (fun ρ rc rf q12 => ?_)
    exact makes_load ((hM.adds hC).loads_all (.head _) (ag_of rfl) (hTl.map _)) rfl q12 ⟨Adds.refl _, rfl⟩
  · refine showA_op 1 (by intro _ _ _; kernel_rfl) rfl rfl (fun c vals w hC hD => ?_)
    clear hD
    refine makes1 (x := .tmp 3) (X := Value.pointer (some ⟨g3, 0, none⟩)) (by kernel_rfl : _ = (Value.pointer (some ⟨g3, 0, none⟩) : Value)) (fun ρ rc rf q3 => ?_)
    refine makes_value (v := Value.pointer (some ⟨g3, 35, none⟩)) ?_ ⟨Adds.refl _, rfl⟩
    go_simp
    all_goals first | done | rfl | (rw [if_pos (by omega)]; refine congrArg (fun x => Result.ok (Next.value (Value.pointer (some ⟨_, x, none⟩))) _) ?_; omega) | (rw [wrapP_i64]; omega) | go_num | (simp; done) | (simp; omega) | (congr 1; first | rfl | (rw [wrapP_i64]; omega) | (congr 1; first | rfl | (simp; done) | (simp; omega) | (congr 2; omega) | go_num))
  · refine showA_op 2 (by intro _ _ _; kernel_rfl) rfl rfl (fun c vals w hC hD => ?_)
    have h1 : vals 1 = .pointer (some ⟨g3, 35, none⟩) := hD 1 rfl
    clear hD
    refine makes1 (x := .tmp 157) (X := Value.pointer (some ⟨g3, 35, none⟩)) ((by kernel_rfl : _ = vals 1).trans h1) (fun ρ rc rf q157 => ?_)
    clear h1
    exact makes_load ((hM.adds hC).loads_one (.tail _ (.tail _ (.tail _ (.head _)))) (on_of rfl) hCk) rfl q157 ⟨Adds.refl _, rfl⟩
  · refine showA_op 3 (by intro _ _ _; kernel_rfl) rfl rfl (fun c vals w hC hD => ?_)
    clear hD
    refine makes1 (x := .tmp 3) (X := Value.pointer (some ⟨g3, 0, none⟩)) (by kernel_rfl : _ = (Value.pointer (some ⟨g3, 0, none⟩) : Value)) (fun ρ rc rf q3 => ?_)
    refine makes_value (v := Value.pointer (some ⟨g3, 36, none⟩)) ?_ ⟨Adds.refl _, rfl⟩
    go_simp
    all_goals first | done | rfl | (rw [if_pos (by omega)]; refine congrArg (fun x => Result.ok (Next.value (Value.pointer (some ⟨_, x, none⟩))) _) ?_; omega) | (rw [wrapP_i64]; omega) | go_num | (simp; done) | (simp; omega) | (congr 1; first | rfl | (rw [wrapP_i64]; omega) | (congr 1; first | rfl | (simp; done) | (simp; omega) | (congr 2; omega) | go_num))
  · refine showA_op 4 (by intro _ _ _; kernel_rfl) rfl rfl (fun c vals w hC hD => ?_)
    have h3 : vals 3 = .pointer (some ⟨g3, 36, none⟩) := hD 3 rfl
    clear hD
    refine makes1 (x := .tmp 159) (X := Value.pointer (some ⟨g3, 36, none⟩)) ((by kernel_rfl : _ = vals 3).trans h3) (fun ρ rc rf q159 => ?_)
    clear h3
    exact makes_load ((hM.adds hC).loads_one (.tail _ (.tail _ (.tail _ (.head _)))) (on_of rfl) hCn) rfl q159 ⟨Adds.refl _, rfl⟩
  · refine showA_op 5 (by intro _ _ _; kernel_rfl) rfl rfl (fun c vals w hC hD => ?_)
    clear hD
    refine makes1 (x := .tmp 0) (X := Value.pointer (some ⟨gb, 0, none⟩)) (by kernel_rfl : _ = (Value.pointer (some ⟨gb, 0, none⟩) : Value)) (fun ρ rc rf q0 => ?_)
    exact makes_move (.inl rfl) q0 ⟨Adds.refl _, rfl⟩
  · refine showA_op 6 (by intro _ _ _; kernel_rfl) rfl rfl (fun c vals w hC hD => ?_)
    have h5 : vals 5 = .pointer (some ⟨gb, 0, none⟩) := hD 5 rfl
    clear hD
    refine makes1 (x := .tmp 161) (X := Value.pointer (some ⟨gb, 0, none⟩)) ((by kernel_rfl : _ = vals 5).trans h5) (fun ρ rc rf q161 => ?_)
    clear h5
    refine makes_value (v := Value.pointer (some ⟨gb, 0, none⟩)) ?_ ⟨Adds.refl _, rfl⟩
    go_simp
    all_goals first | done | rfl | (rw [if_pos (by omega)]; refine congrArg (fun x => Result.ok (Next.value (Value.pointer (some ⟨_, x, none⟩))) _) ?_; omega) | (rw [wrapP_i64]; omega) | go_num | (simp; done) | (simp; omega) | (congr 1; first | rfl | (rw [wrapP_i64]; omega) | (congr 1; first | rfl | (simp; done) | (simp; omega) | (congr 2; omega) | go_num))
  · refine showA_op 7 (by intro _ _ _; kernel_rfl) rfl rfl (fun c vals w hC hD => ?_)
    have h6 : vals 6 = .pointer (some ⟨gb, 0, none⟩) := hD 6 rfl
    clear hD
    refine makes1 (x := .tmp 162) (X := Value.pointer (some ⟨gb, 0, none⟩)) ((by kernel_rfl : _ = vals 6).trans h6) (fun ρ rc rf q162 => ?_)
    clear h6
    refine makes_value (v := Value.pointer (some ⟨gb, 1, none⟩)) ?_ ⟨Adds.refl _, rfl⟩
    go_simp
    all_goals first | done | rfl | (rw [if_pos (by omega)]; refine congrArg (fun x => Result.ok (Next.value (Value.pointer (some ⟨_, x, none⟩))) _) ?_; omega) | (rw [wrapP_i64]; omega) | go_num | (simp; done) | (simp; omega) | (congr 1; first | rfl | (rw [wrapP_i64]; omega) | (congr 1; first | rfl | (simp; done) | (simp; omega) | (congr 2; omega) | go_num))
  · refine showA_op 8 (by intro _ _ _; kernel_rfl) rfl rfl (fun c vals w hC hD => ?_)
    have h7 : vals 7 = .pointer (some ⟨gb, 1, none⟩) := hD 7 rfl
    clear hD
    refine makes1 (x := .tmp 163) (X := Value.pointer (some ⟨gb, 1, none⟩)) ((by kernel_rfl : _ = vals 7).trans h7) (fun ρ rc rf q163 => ?_)
    clear h7
    exact makes_load ((hM.adds hC).loads_one (.tail _ (.tail _ (.tail _ (.tail _ (.tail _ (.tail _ (.head _))))))) (on_of rfl) rfl) rfl q163 ⟨Adds.refl _, rfl⟩
  · refine showA_op 9 (by intro _ _ _; kernel_rfl) rfl rfl (fun c vals w hC hD => ?_)
    have h2 : vals 2 = .slice aK nk cK := hD 2 rfl
    have h4 : vals 4 = .slice aN nn cN := hD 4 rfl
    have h8 : vals 8 = sl oa n capa := hD 8 rfl
    clear hD
    refine makes3 (x := .tmp 158) (X := Value.slice aK nk cK) (y := .tmp 160) (Y := Value.slice aN nn cN) (z := .tmp 164) (Z := sl oa n capa) ((by kernel_rfl : _ = vals 2).trans h2) ((by kernel_rfl : _ = vals 4).trans h4) ((by kernel_rfl : _ = vals 8).trans h8) (fun ρ rc rf q158 q160 q164 => ?_)
    clear h2 h4 h8
    refine makes_call (href _ _ (hM.adds hC) (.tail _ (.tail _ (.tail _ (.tail _ (.tail _ (.tail _ (.tail _ (.head _))))))))) ?_ (by rintro e w' ⟨rfl, hb⟩; exact ⟨_, rfl, hb, rfl⟩)
    go_simp
  · refine showA_op 10 (by intro _ _ _; kernel_rfl) rfl rfl (fun c vals w hC hD => ?_)
    have h0 : vals 0 = .agg (T.map B8).toArray := hD 0 rfl
    have h9 : vals 9 = .agg (T.map B8).toArray := hD 9 rfl
    clear hD
    refine makes2 (x := .tmp 156) (X := Value.agg (T.map B8).toArray) (y := .tmp 165) (Y := Value.agg (T.map B8).toArray) ((by kernel_rfl : _ = vals 0).trans h0) ((by kernel_rfl : _ = vals 9).trans h9) (fun ρ rc rf q156 q165 => ?_)
    clear h0 h9
    exact makes_eql (hash_self _ hTl) rfl q156 q165 ⟨Adds.refl _, rfl⟩
  · refine showA_op 11 (by intro _ _ _; kernel_rfl) rfl rfl (fun c vals w hC hD => ?_)
    have h10 : vals 10 = .bool true := hD 10 rfl
    clear hD
    refine makes1 (x := .tmp 166) (X := Value.bool true) ((by kernel_rfl : _ = vals 10).trans h10) (fun ρ rc rf q166 => ?_)
    clear h10
    exact makes_move (.inl rfl) q166 ⟨Adds.refl _, rfl⟩
  · refine showA_run 12 (by intro _ _ _; kernel_rfl) (j := 11) (want := true) rfl rfl rfl (by intro _ _; kernel_rfl) rfl (fun c vals w hC hD => ⟨hD 11 rfl, ?_⟩)
    clear hD
    refine makes1 (x := .tmp 3) (X := Value.pointer (some ⟨g3, 0, none⟩)) (by kernel_rfl : _ = (Value.pointer (some ⟨g3, 0, none⟩) : Value)) (fun ρ rc rf q3 => ?_)
    refine makes_value (v := Value.pointer (some ⟨g3, 35, none⟩)) ?_ ⟨Adds.refl _, rfl⟩
    go_simp
    all_goals first | done | rfl | (rw [if_pos (by omega)]; refine congrArg (fun x => Result.ok (Next.value (Value.pointer (some ⟨_, x, none⟩))) _) ?_; omega) | (rw [wrapP_i64]; omega) | go_num | (simp; done) | (simp; omega) | (congr 1; first | rfl | (rw [wrapP_i64]; omega) | (congr 1; first | rfl | (simp; done) | (simp; omega) | (congr 2; omega) | go_num))
  · refine showA_run 13 (by intro _ _ _; kernel_rfl) (j := 11) (want := true) rfl rfl rfl (by intro _ _; kernel_rfl) rfl (fun c vals w hC hD => ⟨hD 11 rfl, ?_⟩)
    have h12 : vals 12 = .pointer (some ⟨g3, 35, none⟩) := hD 12 rfl
    clear hD
    refine makes1 (x := .tmp 168) (X := Value.pointer (some ⟨g3, 35, none⟩)) ((by kernel_rfl : _ = vals 12).trans h12) (fun ρ rc rf q168 => ?_)
    clear h12
    exact makes_load ((hM.adds hC).loads_one (.tail _ (.tail _ (.tail _ (.head _)))) (on_of rfl) hCk) rfl q168 ⟨Adds.refl _, rfl⟩
  · refine showA_run 14 (by intro _ _ _; kernel_rfl) (j := 11) (want := true) rfl rfl rfl (by intro _ _; kernel_rfl) rfl (fun c vals w hC hD => ⟨hD 11 rfl, ?_⟩)
    clear hD
    refine makes1 (x := .tmp 3) (X := Value.pointer (some ⟨g3, 0, none⟩)) (by kernel_rfl : _ = (Value.pointer (some ⟨g3, 0, none⟩) : Value)) (fun ρ rc rf q3 => ?_)
    refine makes_value (v := Value.pointer (some ⟨g3, 36, none⟩)) ?_ ⟨Adds.refl _, rfl⟩
    go_simp
    all_goals first | done | rfl | (rw [if_pos (by omega)]; refine congrArg (fun x => Result.ok (Next.value (Value.pointer (some ⟨_, x, none⟩))) _) ?_; omega) | (rw [wrapP_i64]; omega) | go_num | (simp; done) | (simp; omega) | (congr 1; first | rfl | (rw [wrapP_i64]; omega) | (congr 1; first | rfl | (simp; done) | (simp; omega) | (congr 2; omega) | go_num))
  · refine showA_run 15 (by intro _ _ _; kernel_rfl) (j := 11) (want := true) rfl rfl rfl (by intro _ _; kernel_rfl) rfl (fun c vals w hC hD => ⟨hD 11 rfl, ?_⟩)
    have h14 : vals 14 = .pointer (some ⟨g3, 36, none⟩) := hD 14 rfl
    clear hD
    refine makes1 (x := .tmp 170) (X := Value.pointer (some ⟨g3, 36, none⟩)) ((by kernel_rfl : _ = vals 14).trans h14) (fun ρ rc rf q170 => ?_)
    clear h14
    exact makes_load ((hM.adds hC).loads_one (.tail _ (.tail _ (.tail _ (.head _)))) (on_of rfl) hCn) rfl q170 ⟨Adds.refl _, rfl⟩
  · refine showA_run 16 (by intro _ _ _; kernel_rfl) (j := 11) (want := true) rfl rfl rfl (by intro _ _; kernel_rfl) rfl (fun c vals w hC hD => ⟨hD 11 rfl, ?_⟩)
    clear hD
    refine makes1 (x := .tmp 0) (X := Value.pointer (some ⟨gb, 0, none⟩)) (by kernel_rfl : _ = (Value.pointer (some ⟨gb, 0, none⟩) : Value)) (fun ρ rc rf q0 => ?_)
    exact makes_move (.inl rfl) q0 ⟨Adds.refl _, rfl⟩
  · refine showA_run 17 (by intro _ _ _; kernel_rfl) (j := 11) (want := true) rfl rfl rfl (by intro _ _; kernel_rfl) rfl (fun c vals w hC hD => ⟨hD 11 rfl, ?_⟩)
    have h16 : vals 16 = .pointer (some ⟨gb, 0, none⟩) := hD 16 rfl
    clear hD
    refine makes1 (x := .tmp 172) (X := Value.pointer (some ⟨gb, 0, none⟩)) ((by kernel_rfl : _ = vals 16).trans h16) (fun ρ rc rf q172 => ?_)
    clear h16
    refine makes_value (v := Value.pointer (some ⟨gb, 0, none⟩)) ?_ ⟨Adds.refl _, rfl⟩
    go_simp
    all_goals first | done | rfl | (rw [if_pos (by omega)]; refine congrArg (fun x => Result.ok (Next.value (Value.pointer (some ⟨_, x, none⟩))) _) ?_; omega) | (rw [wrapP_i64]; omega) | go_num | (simp; done) | (simp; omega) | (congr 1; first | rfl | (rw [wrapP_i64]; omega) | (congr 1; first | rfl | (simp; done) | (simp; omega) | (congr 2; omega) | go_num))
  · refine showA_run 18 (by intro _ _ _; kernel_rfl) (j := 11) (want := true) rfl rfl rfl (by intro _ _; kernel_rfl) rfl (fun c vals w hC hD => ⟨hD 11 rfl, ?_⟩)
    have h17 : vals 17 = .pointer (some ⟨gb, 0, none⟩) := hD 17 rfl
    clear hD
    refine makes1 (x := .tmp 173) (X := Value.pointer (some ⟨gb, 0, none⟩)) ((by kernel_rfl : _ = vals 17).trans h17) (fun ρ rc rf q173 => ?_)
    clear h17
    refine makes_value (v := Value.pointer (some ⟨gb, 1, none⟩)) ?_ ⟨Adds.refl _, rfl⟩
    go_simp
    all_goals first | done | rfl | (rw [if_pos (by omega)]; refine congrArg (fun x => Result.ok (Next.value (Value.pointer (some ⟨_, x, none⟩))) _) ?_; omega) | (rw [wrapP_i64]; omega) | go_num | (simp; done) | (simp; omega) | (congr 1; first | rfl | (rw [wrapP_i64]; omega) | (congr 1; first | rfl | (simp; done) | (simp; omega) | (congr 2; omega) | go_num))
  · refine showA_run 19 (by intro _ _ _; kernel_rfl) (j := 11) (want := true) rfl rfl rfl (by intro _ _; kernel_rfl) rfl (fun c vals w hC hD => ⟨hD 11 rfl, ?_⟩)
    have h18 : vals 18 = .pointer (some ⟨gb, 1, none⟩) := hD 18 rfl
    clear hD
    refine makes1 (x := .tmp 174) (X := Value.pointer (some ⟨gb, 1, none⟩)) ((by kernel_rfl : _ = vals 18).trans h18) (fun ρ rc rf q174 => ?_)
    clear h18
    exact makes_load ((hM.adds hC).loads_one (.tail _ (.tail _ (.tail _ (.tail _ (.tail _ (.tail _ (.head _))))))) (on_of rfl) rfl) rfl q174 ⟨Adds.refl _, rfl⟩
  · refine showA_run 20 (by intro _ _ _; kernel_rfl) (j := 11) (want := true) rfl rfl rfl (by intro _ _; kernel_rfl) rfl (fun c vals w hC hD => ⟨hD 11 rfl, ?_⟩)
    clear hD
    refine makes1 (x := .tmp 12) (X := Value.pointer (some ⟨g12, 0, none⟩)) (by kernel_rfl : _ = (Value.pointer (some ⟨g12, 0, none⟩) : Value)) (fun ρ rc rf q12 => ?_)
    exact makes_load ((hM.adds hC).loads_all (.head _) (ag_of rfl) (hTl.map _)) rfl q12 ⟨Adds.refl _, rfl⟩
  · refine showA_run 21 (by intro _ _ _; kernel_rfl) (j := 11) (want := true) rfl rfl rfl (by intro _ _; kernel_rfl) rfl (fun c vals w hC hD => ⟨hD 11 rfl, ?_⟩)
    have h13 : vals 13 = .slice aK nk cK := hD 13 rfl
    have h15 : vals 15 = .slice aN nn cN := hD 15 rfl
    have h19 : vals 19 = sl oa n capa := hD 19 rfl
    have h20 : vals 20 = .agg (T.map B8).toArray := hD 20 rfl
    clear hD
    refine makes4 (x := .tmp 169) (X := Value.slice aK nk cK) (y := .tmp 171) (Y := Value.slice aN nn cN) (z := .tmp 175) (Z := sl oa n capa) (t := .tmp 176) (T := Value.agg (T.map B8).toArray) ((by kernel_rfl : _ = vals 13).trans h13) ((by kernel_rfl : _ = vals 15).trans h15) ((by kernel_rfl : _ = vals 19).trans h19) ((by kernel_rfl : _ = vals 20).trans h20) (fun ρ rc rf q169 q171 q175 q176 => ?_)
    clear h13 h15 h19 h20
    refine makes_call (hchk _ _ (hM.adds hC) (.tail _ (.tail _ (.tail _ (.tail _ (.tail _ (.tail _ (.tail _ (.head _))))))))) ?_ (by rintro e w' ⟨rfl, hb⟩; exact ⟨_, rfl, hb, rfl⟩)
    go_simp
  · refine showA_run 22 (by intro _ _ _; kernel_rfl) (j := 11) (want := true) rfl rfl rfl (by intro _ _; kernel_rfl) rfl (fun c vals w hC hD => ⟨hD 11 rfl, ?_⟩)
    have h21 : vals 21 = .int .i64 0 := hD 21 rfl
    clear hD
    refine makes1 (x := .tmp 177) (X := Value.int .i64 0) ((by kernel_rfl : _ = vals 21).trans h21) (fun ρ rc rf q177 => ?_)
    clear h21
    refine makes_value (v := Value.bool true) ?_ ⟨Adds.refl _, rfl⟩
    go_simp
    all_goals first | done | rfl | (rw [if_pos (by omega)]; refine congrArg (fun x => Result.ok (Next.value (Value.pointer (some ⟨_, x, none⟩))) _) ?_; omega) | (rw [wrapP_i64]; omega) | go_num | (simp; done) | (simp; omega) | (congr 1; first | rfl | (rw [wrapP_i64]; omega) | (congr 1; first | rfl | (simp; done) | (simp; omega) | (congr 2; omega) | go_num))
  · refine showA_op 23 (by intro _ _ _; kernel_rfl) rfl rfl (fun c vals w hC hD => ?_)
    have h11 : vals 11 = .bool true := hD 11 rfl
    have h22 : vals 22 = .bool true := hD 22 rfl
    clear hD
    refine makes2 (x := .tmp 167) (X := Value.bool true) (y := .tmp 178) (Y := Value.bool true) ((by kernel_rfl : _ = vals 11).trans h11) ((by kernel_rfl : _ = vals 22).trans h22) (fun ρ rc rf q167 q178 => ?_)
    clear h11 h22
    refine makes_value (v := Value.bool true) ?_ ⟨Adds.refl _, rfl⟩
    go_simp
    all_goals first | done | rfl | (rw [if_pos (by omega)]; refine congrArg (fun x => Result.ok (Next.value (Value.pointer (some ⟨_, x, none⟩))) _) ?_; omega) | (rw [wrapP_i64]; omega) | go_num | (simp; done) | (simp; omega) | (congr 1; first | rfl | (rw [wrapP_i64]; omega) | (congr 1; first | rfl | (simp; done) | (simp; omega) | (congr 2; omega) | go_num))
  · refine showA_op 24 (by intro _ _ _; kernel_rfl) rfl rfl (fun c vals w hC hD => ?_)
    have h23 : vals 23 = .bool true := hD 23 rfl
    clear hD
    refine makes1 (x := .tmp 179) (X := Value.bool true) ((by kernel_rfl : _ = vals 23).trans h23) (fun ρ rc rf q179 => ?_)
    clear h23
    exact makes_move (.inr rfl) q179 ⟨Adds.refl _, rfl⟩
  intro vals w' hC hΦ hne
  have h24 : vals 24 = .bool true := hΦ 24 (by decide)
  clear hΦ hne
  simp only [List.getD_eq_getElem?_getD, List.getElem?_cons_zero, List.getElem?_cons_succ, Option.getD_some, List.drop_succ_cons, List.drop_zero]
  simp only [h24]
  clear h24
  try simp only [tuple_undef]
  replace hM := hM.adds hC
  go_wp2_with fail
  go_ret
  exact ⟨rfl, hM.drop.drop.drop.drop⟩
end Go.Proofs.Ytejmbkljnhnklaa

namespace Go.Proofs.Ytejmbkljnhnklaa
open Go.RowKit Go.PK
theorem law16_step {w0 wS : World} {L : List Blk} (d : Bk) (hd : d.Ok) (hM : Mem [] w0 wS (d.bs L)) (C : List Value) (hCl : Len C 37) (kd : Int) (h0 : C[0]? = some (.int .i64 kd)) (e : Ev) (he : Len e.1 32) (he2 : (C.drop 2).take 33 = evC e)
    (vk vn : Value) (key nonce : List UInt8) (hvk : ∀ w', Adds w0 w' → Bytes w' vk key) (hvn : ∀ w', Adds w0 w' → Bytes w' vn nonce) (hkl : key.length ≤ 140737488351232) (hnl : nonce.length ≤ 140737488351232) (hCk : C[35]? = some vk) (hCn : C[36]? = some vn) :
    Calls Try.prog 36 #[.pointer (some ⟨d.gb, 0, none⟩), .agg C.toArray] wS fun x w' => x = .returned (.bool true) ∧ ∃ d' : Bk, d'.gb = d.gb ∧ d'.Ok ∧ Mem [] w0 w' (d'.bs L) := by
  by_cases h2 : kd = 2
  · subst h2
    refine (step_add d.gl d.gb d.ob d.oa d.cap d.capa d.l hd.good hd.few hd.cap hd.capa hM C hCl h0 e he he2).mono ?_
    rintro x w' ⟨hx, ob, cap, oa, capa, l, h1, h2, h3, h4, h5⟩
    exact ⟨hx, ⟨d.gl, ob, cap, d.gb, oa, capa, l⟩, rfl, ⟨h1, h2, h3, h4⟩, h5⟩
  by_cases h3 : kd = 3
  · subst h3
    refine (step_register d.gl d.gb d.ob d.oa d.cap d.capa d.l hd.good hd.few hM C hCl h0).mono ?_
    rintro x w' ⟨hx, h5⟩
    exact ⟨hx, d, rfl, hd, h5⟩
  by_cases h4 : kd = 4
  · subst h4
    refine (step_events d.gl d.gb d.ob d.oa d.cap d.capa d.l hd.good hd.few hM C hCl h0).mono ?_
    rintro x w' ⟨hx, h5⟩
    exact ⟨hx, d, rfl, hd, h5⟩
  · refine (step_quote d.gl d.gb d.ob d.oa d.cap d.capa d.l hd.good hd.few hM C hCl kd h0 h2 h3 h4 vk vn key nonce hvk hvn hkl hnl hCk hCn).mono ?_
    rintro x w' ⟨hx, h5⟩
    exact ⟨hx, d, rfl, hd, h5⟩
theorem bks_mem {ds : List Bk} {d : Bk} (hd : d ∈ ds) {b : Blk} (hb : b ∈ d.bs []) : b ∈ bks ds := List.mem_flatMap.2 ⟨d, hd, hb⟩
theorem opC_one {kd on : Int} {e : Ev} {vk vn : Value} (hk : vk.oneCell' = true) (hn : vn.oneCell' = true) : ∀ v ∈ opC kd on e vk vn, v.oneCell' = true := by
  intro v hv
  rcases List.mem_cons.1 hv with rfl | hv
  · rfl
  rcases List.mem_cons.1 hv with rfl | hv
  · rfl
  rcases List.mem_append.1 hv with hv | hv
  · exact evC_one e v hv
  rcases List.mem_cons.1 hv with rfl | hv
  · exact hk
  rw [List.mem_singleton.1 hv]
  exact hn
end Go.Proofs.Ytejmbkljnhnklaa

namespace Go.Proofs.Ytejmbkljnhnklaa
open Go.RowKit Go.PK
theorem perm52 {α : Type} (a b c d e : α) : [a, b, c, d, e].Perm [c, e, a, d, b] :=
  (List.perm_middle (l₁ := [a, b]) (a := c) (l₂ := [d, e])).trans (.cons c ((List.perm_middle (l₁ := [a, b, d]) (a := e) (l₂ := [])).trans (.cons e (.cons a (.swap d b [])))))
set_option maxRecDepth 100000 in
set_option maxHeartbeats 4000000 in
theorem ChainDoes_walk (w0 : World) (v : Value) (l : List Op16) (hK : (rSliceB 8 rOp16).K w0 [v] l) (ho : (rSliceB 8 rOp16).ok l) :
    Calls Try.prog 10 #[v] w0 fun e w' => e = .returned (.bool true) ∧ Below w0.heap.size w0 w' := by
  obtain ⟨ao, capl, rfl, hc1, hc2⟩ := ops_form hK
  have hst : ∀ j (hj : j < l.length), _ := fun j hj => op16_at hK ho.2 hj
  have hln : l.length * 8 ≤ 140737488351232 := ho.1
  clear hK ho
  obtain ⟨n, hn⟩ : ∃ n, n = l.length := ⟨_, rfl⟩
  rw [← hn] at hln hc1 hst ⊢
  clear hn
  have hM := Mem.start w0
  go_enter Try.func10, Try.ntmps10
  go_wp2_with fail
  refine (chain_New _).mono ?_
  rintro _ w1 ⟨gl, rfl, hM3⟩
  replace hM := hM.join hM3 (by simp)
  clear hM3
  go_wp2_with (first
    | ((with_reducible refine gL_box (dst := some 11) hM ?_); refine ⟨_, [.pointer (some ⟨gl, 0, none⟩), .slice none 0 0], 2, rfl, rfl, rfl, ?_⟩; intro gb _ hM2; clear hM; have hM := hM2; clear hM2)
    | ((with_reducible refine gL_buildSlice1 (dst := some 12) hM ?_); refine ⟨_, [.pointer (some ⟨gb, 0, none⟩)], _, _, _, (us_of rfl), (el_of rfl), (by decide), rfl, rfl, rfl, ?_⟩; intro gP wI hM2; clear hM; have hM := hM2; clear hM2)
    | ((with_reducible refine gL_load (dst := some 15) ?_); refine ⟨_, _, rfl, hM.loads_one (.head _) (on_of rfl) rfl, ?_⟩)
    | ((with_reducible refine gL_load (dst := some 18) ?_); refine ⟨_, _, rfl, hM.loads_one (.tail _ (.head _)) (on_of rfl) rfl, ?_⟩))
  replace hM : Mem [] w0 wI (⟨some gP, 55, [(⟨gl, none, 0, gb, none, 0, []⟩ : Bk)].map Bk.p, 1 * 1⟩ :: bks [⟨gl, none, 0, gb, none, 0, []⟩]) := ((hM.addNil 64).addNil 64).perm (perm52 _ _ _ _ _)
  go_loopw [3, 4, 5, 6, 7] (fun lv i _ _ _ wr => ∃ (j gP capP : Nat) (ds : List Bk), j ≤ n ∧ i = .int .i64 j ∧ lv = .slice (some ⟨gP, 0, none⟩) ds.length capP ∧ capP ≤ maxLen ∧ 0 < ds.length ∧ ds.length ≤ j + 1 ∧ (∀ d ∈ ds, d.Ok) ∧
    Mem [] w0 wr (⟨some gP, 55, ds.map Bk.p, capP * 1⟩ :: bks ds)) (fun _ i _ _ _ _ => n - (intOf i).toNat)
  case atStart => exact ⟨0, gP, 1, [⟨gl, none, 0, gb, none, 0, []⟩], by omega, rfl, rfl, by decide, Nat.zero_lt_one, Nat.le_refl _, (fun d hd => by rw [List.mem_singleton.1 hd]; exact ⟨by simp, by simp, Nat.zero_le _, Nat.zero_le _⟩), hM⟩
  case round =>
    clear hM
    obtain ⟨j, gP, capP, ds, hj, rfl, rfl, hcP, hm0, hm1, hOk, hM⟩ := hrel
    obtain ⟨m, hm⟩ : ∃ m, m = ds.length := ⟨_, rfl⟩
    obtain ⟨PL, hPL⟩ : ∃ PL, PL = ds.map Bk.p := ⟨_, rfl⟩
    obtain ⟨OL, hOL⟩ : ∃ OL, OL = bks ds := ⟨_, rfl⟩
    have hPl : Len PL m := by rw [hPL, hm]; exact Len.of (by simp)
    rw [← hPL, ← hOL] at hM
    rw [← hm] at hm0 hm1 ⊢
    have Hm : ∀ _ : Unit, m = ds.length := fun _ => hm
    have HPL : ∀ _ : Unit, PL = ds.map Bk.p := fun _ => hPL
    have HOL : ∀ _ : Unit, OL = bks ds := fun _ => hOL
    clear hm hPL hOL
    by_cases hlt : j < n
    · have hti : (j : Int) < (n : Int) := by omega
      obtain ⟨kd, on, e, vk, vn, key, nonce, b, off, rfl, he, hkl, hnl, hBk, hBn, hL⟩ := hst j hlt
      have hko : vk.oneCell' = true := by obtain ⟨_, _, rfl, -⟩ := hBk _ (Adds.refl w0); rfl
      have hno : vn.oneCell' = true := by obtain ⟨_, _, rfl, -⟩ := hBn _ (Adds.refl w0); rfl
      have hCl : Len (opC kd on e vk vn) 37 := opC_len he
      have hC1 := opC_one (kd := kd) (on := on) (e := e) hko hno
      have h0 : (opC kd on e vk vn)[0]? = some (.int .i64 kd) := rfl
      have h1 : (opC kd on e vk vn)[1]? = some (.int .i64 on) := rfl
      have he2 := opC_e (kd := kd) (on := on) (vk := vk) (vn := vn) he
      have hCk := opC_k (kd := kd) (on := on) (vk := vk) (vn := vn) he
      have hCn := opC_n (kd := kd) (on := on) (vk := vk) (vn := vn) he
      generalize opC kd on e vk vn = C at *
      have hL0 := hL _ hM.done
      clear hst hL hko hno
      go_upto_if 32 with (first
        | ((with_reducible refine gL_load (dst := some 29) ?_); refine ⟨_, _, rfl, hL0, ?_⟩)
        | ((first | ((with_reducible refine gL_alloc (dst := some 5) hM ?_); refine ⟨_, _, (zr_of rfl), ?_⟩) | ((with_reducible refine gL_box (dst := some 5) hM ?_); refine ⟨_, _, _, rfl, rfl, (by first | assumption | exact Len.map (by assumption) _ | rfl | exact Len.map (by rfl) _ | exact Len.of (by simp; done)), ?_⟩)); intro g5 _ hM2; clear hM; have hM := hM2; clear hM2)
        | ((with_reducible refine gL_store hM ?_); refine ⟨_, _, _, rfl, rfl, hM.stores_all (.here _ _ _) (ag_of rfl) hCl (by rfl) hC1, ?_⟩; intro wA hM2; clear hM; have hM := hM2; clear hM2)
        | ((with_reducible refine gL_load (dst := some 31) ?_); refine ⟨_, _, rfl, hM.loads_one (.head _) (on_of rfl) h0, ?_⟩))
      clear hL0
      by_cases hk1 : kd = 1
      · --[
        subst hk1
        go_wp2_with fail
        refine (chain_New _).mono ?_
        rintro _ w4 ⟨gl, rfl, hM3⟩
        replace hM := hM.plus hM3
        clear hM3
        simp only [List.cons_append, List.nil_append] at hM
        go_wp2_with (first
          | ((with_reducible refine gL_box (dst := some 39) hM ?_); refine ⟨_, [.pointer (some ⟨gl, 0, none⟩), .slice none 0 0], 2, rfl, rfl, rfl, ?_⟩; intro gb _ hM2; clear hM; have hM := hM2; clear hM2)
          | ((with_reducible refine gL_buildSlice1 (dst := some 40) hM ?_); refine ⟨_, [.pointer (some ⟨gb, 0, none⟩)], _, _, _, (us_of rfl), (el_of rfl), (by decide), rfl, rfl, rfl, ?_⟩; intro g40 _ hM2; clear hM; have hM := hM2; clear hM2)
          | ((with_reducible refine gL_push (dst := some 41) hM ?_); refine ⟨_, _, some gP, m, capP, _, _, PL, .pointer (some ⟨gb, 0, none⟩), _, rfl, rfl, rfl, (us_of rfl), (el_of rfl), hM.src (.head _), (fun _ _ => .there _ (.there _ (.there _ (.there _ (.here _ _ _))))), hPl, rfl, hcP, (by simp only [maxLen]; omega), (by omega), ?_⟩; intro oP' cP' _ hM2 _ hP2; obtain ⟨gP', rfl⟩ := hM2.some_of (.tail _ (.tail _ (.tail _ (.tail _ (.head _))))) (n := m + 1) (Len.of (by rw [List.length_append, hPl.eq]; rfl)) (by omega); clear hM; have hM := hM2.drop; clear hM2))
        replace hM := (Mem.up [_, _] hM).drop
        have hM2 := Mem.down [_, _, _] (((Mem.down [_] ((hM.perm (.swap _ _ _)).addNil 64)).addNil 64))
        rw [HPL (), HOL ()] at hM2
        have hM3 := Mem.bk_new (d := ⟨gl, none, 0, gb, none, 0, []⟩) hM2
        have e1 : m + 1 = (ds ++ [(⟨gl, none, 0, gb, none, 0, []⟩ : Bk)]).length := by rw [List.length_append, ← Hm ()]; rfl
        have e2 : ds.map Bk.p ++ [.pointer (some ⟨gb, 0, none⟩)] = (ds ++ [(⟨gl, none, 0, gb, none, 0, []⟩ : Bk)]).map Bk.p := by rw [List.map_append]; rfl
        rw [e2] at hM3
        go_roundw
        case rel => exact ⟨j + 1, gP', cP', ds ++ [⟨gl, none, 0, gb, none, 0, []⟩], by omega, by go_num, by rw [← e1], hP2, by rw [← e1]; omega, by rw [← e1]; omega, (fun d hd => by
          rcases List.mem_append.1 hd with hd | hd
          · exact hOk d hd
          · rw [List.mem_singleton.1 hd]; exact ⟨by simp, by simp, Nat.zero_le _, Nat.zero_le _⟩), hM3⟩
        case measure => simp [intOf]; omega
        --]
      · --[
        obtain ⟨r, hr⟩ : ∃ r : Int, on.tmod (m : Int) = r := ⟨_, rfl⟩
        obtain ⟨k, hkm, hway⟩ : ∃ k : Nat, k < m ∧ ((r < 0 ∧ r + (m : Int) = (k : Int)) ∨ (¬ r < 0 ∧ r = (k : Int))) := by
          refine ⟨wrapI on m, wrapI_lt _ (by omega), ?_⟩
          rw [← hr]
          by_cases h : on.tmod (m : Int) < 0
          · exact .inl ⟨h, wrapI_neg (by omega) h⟩
          · exact .inr ⟨h, wrapI_pos h⟩
        have hkmi : (k : Int) < (m : Int) := by omega
        obtain ⟨d, hd⟩ : ∃ d, ds[k]? = some d := ⟨_, List.getElem?_eq_getElem (by rw [← Hm ()]; exact hkm)⟩
        have hPk : PL[k]? = some (.pointer (some ⟨d.gb, 0, none⟩)) := by rw [HPL ()]; simp [hd, Bk.p]
        have hdOk := hOk d (List.mem_of_getElem? hd)
        go_upto_if 48 with (first
          | ((with_reducible refine gL_load (dst := some 43) ?_); refine ⟨_, _, rfl, hM.loads_one (.head _) (on_of rfl) h1, ?_⟩))
        go_cut [7] from 20 to 59 (fun k7 wx => k7 = .int .i64 (k : Int) ∧ wA = wx)
        case first =>
          rcases hway with ⟨h1, h2⟩ | ⟨h1, rfl⟩
          all_goals
            go_wp2_with fail
            go_meet
            exact ⟨rfl, rfl⟩
        case rest =>
        obtain ⟨rfl, hwc⟩ := hcut
        subst hwc
        clear hway hr
        go_wp2_with fail
        try simp only [Act.put, List.setIfInBounds_toArray, List.set_cons_succ, List.set_cons_zero]
        refine wp_region_tail 5 (by decide) (fun c vals => ⟨#[c 0, c 1, c 2, (Value.slice (some ⟨gP, 0, none⟩) m capP : Value), c 4, (Value.pointer (some ⟨g5, 0, none⟩) : Value), c 6, (Value.int .i64 (k : Int) : Value), c 8, c 9, c 10, c 11, c 12, c 13, c 14, c 15, c 16, c 17, c 18, c 19, c 20, c 21, c 22, c 23, c 24, c 25, c 26, c 27, c 28, c 29, c 30, c 31, c 32, c 33, c 34, c 35, c 36, c 37, c 38, c 39, c 40, c 41, c 42, c 43, c 44, c 45, c 46, c 47, c 48, c 49, c 50, c 51, c 52, vals 0, vals 1, vals 2, vals 3, vals 4, c 58, c 59, c 60, c 61, c 62, c 63, c 64, c 65, c 66, c 67, c 68, c 69, c 70, c 71, c 72, c 73, c 74, c 75, c 76, c 77, c 78, c 79, c 80, c 81, c 82, c 83, c 84, c 85, c 86, c 87, c 88, c 89, c 90, c 91, c 92, c 93, c 94, c 95, c 96, c 97, c 98, c 99, c 100, c 101, c 102], []⟩) (fun t => [_, _, _, undef, _, undef, _, undef, _, _, _, _, _, _, _, _, _, _, _, _, _, _, _, _, _, _, _, _, _, _, _, _, _, _, _, _, _, _, _, _, _, _, _, _, _, _, _, _, _, _, _, _, _, undef, undef, undef, undef, undef, _, _, _, _, _, _, _, _, _, _, _, _, _, _, _, _, _, _, _, _, _, _, _, _, _, _, _, _, _, _, _, _, _, _, _, _, _, _, _, _, _, _, _, _, _].getD t undef) (fun i => [_, _, _, _, _].getD i undef) (by kernel_rfl)
          [[], [], [0, 1], [0, 1, 2], [], [0, 1, 2, 3, 4], [0, 1, 2, 3, 4, 5]] (by kernel_rfl) (by kernel_rfl) (fun _ => True) trivial
          [fun x _ => x = (Value.slice (some ⟨gP, 0, none⟩) m capP : Value),
           fun x _ => x = (Value.int .i64 (k : Int) : Value),
           fun x _ => x = (Value.pointer (some ⟨gP, 0 + k * 1, none⟩) : Value),
           fun x _ => x = (Value.pointer (some ⟨d.gb, 0, none⟩) : Value),
           fun x _ => x = (Value.agg C.toArray : Value)]
          ⟨fun _ _ _ h _ => h, fun _ _ _ h _ => h, fun _ _ _ h _ => h, fun _ _ _ h _ => h, fun _ _ _ h _ => h, trivial⟩ []
          ⟨?_, ?_, ?_, ?_, ?_, trivial⟩ ?_
        · refine showA_op 0 (by intro _ _ _; kernel_rfl) rfl rfl (fun c vals w hC hD => ?_)
          clear hD
          refine makes1 (x := .tmp 3) (X := Value.slice (some ⟨gP, 0, none⟩) m capP) (by kernel_rfl : _ = (Value.slice (some ⟨gP, 0, none⟩) m capP : Value)) (fun ρ rc rf q3 => ?_)
          exact makes_move (.inl rfl) q3 ⟨Adds.refl _, rfl⟩
        · refine showA_op 1 (by intro _ _ _; kernel_rfl) rfl rfl (fun c vals w hC hD => ?_)
          clear hD
          refine makes1 (x := .tmp 7) (X := Value.int .i64 (k : Int)) (by kernel_rfl : _ = (Value.int .i64 (k : Int) : Value)) (fun ρ rc rf q7 => ?_)
          exact makes_move (.inl rfl) q7 ⟨Adds.refl _, rfl⟩
        · refine showA_op 2 (by intro _ _ _; kernel_rfl) rfl rfl (fun c vals w hC hD => ?_)
          have h0 : vals 0 = .slice (some ⟨gP, 0, none⟩) m capP := hD 0 rfl
          have h1 : vals 1 = .int .i64 (k : Int) := hD 1 rfl
          clear hD
          refine makes2 (x := .tmp 53) (X := Value.slice (some ⟨gP, 0, none⟩) m capP) (y := .tmp 54) (Y := Value.int .i64 (k : Int)) ((by kernel_rfl : _ = vals 0).trans h0) ((by kernel_rfl : _ = vals 1).trans h1) (fun ρ rc rf q53 q54 => ?_)
          clear h0 h1
          exact makes_index (us_of rfl) (el_of rfl) hkm rfl q53 q54 ⟨Adds.refl _, rfl⟩
        · refine showA_op 3 (by intro _ _ _; kernel_rfl) rfl rfl (fun c vals w hC hD => ?_)
          have h2 : vals 2 = .pointer (some ⟨gP, 0 + k * 1, none⟩) := hD 2 rfl
          clear hD
          refine makes1 (x := .tmp 55) (X := Value.pointer (some ⟨gP, 0 + k * 1, none⟩)) ((by kernel_rfl : _ = vals 2).trans h2) (fun ρ rc rf q55 => ?_)
          clear h2
          exact makes_load ((hM.adds hC).loads_one (.tail _ (.head _)) (on_of rfl) (by rw [Nat.zero_add, Nat.mul_one]; exact hPk)) rfl q55 ⟨Adds.refl _, rfl⟩
        · refine showA_op 4 (by intro _ _ _; kernel_rfl) rfl rfl (fun c vals w hC hD => ?_)
          clear hD
          refine makes1 (x := .tmp 5) (X := Value.pointer (some ⟨g5, 0, none⟩)) (by kernel_rfl : _ = (Value.pointer (some ⟨g5, 0, none⟩) : Value)) (fun ρ rc rf q5 => ?_)
          exact makes_load ((hM.adds hC).loads_all (.head _) (ag_of rfl) hCl) rfl q5 ⟨Adds.refl _, rfl⟩
        intro vals w' hC hΦ hne
        have h3 : vals 3 = .pointer (some ⟨d.gb, 0, none⟩) := hΦ 3 (by decide)
        have h4 : vals 4 = .agg C.toArray := hΦ 4 (by decide)
        clear hΦ hne
        simp only [List.getD_eq_getElem?_getD, List.getElem?_cons_zero, List.getElem?_cons_succ, Option.getD_some, List.drop_succ_cons, List.drop_zero]
        simp only [h3, h4]
        clear h3 h4
        try simp only [tuple_undef]
        replace hM := (hM.adds hC).drop
        clear hC
        rw [HOL (), HPL ()] at hM
        obtain ⟨R, hout, hback⟩ := Mem.bk_out (G := []) (w0 := w0) (w := w') (b := ⟨some gP, 55, ds.map Bk.p, capP * 1⟩) hd
        go_wp2_with fail
        refine (law16_step d hdOk (hout hM) C hCl kd h0 e he he2 vk vn key nonce hBk hBn hkl hnl hCk hCn).mono ?_
        clear hout hM
        rintro _ w5 ⟨rfl, d', hgb, hOk', hM'⟩
        have hM := hback d' _ hM'
        clear hback hM'
        have e1 : (ds.set k d').map Bk.p = ds.map Bk.p := set_same Bk.p hd (by unfold Bk.p; rw [hgb])
        rw [← e1] at hM
        go_wp2_with fail
        go_roundw
        case rel => exact ⟨j + 1, gP, capP, ds.set k d', by omega, by go_num, by rw [List.length_set, ← Hm ()], hcP, by rw [List.length_set, ← Hm ()]; omega, by rw [List.length_set, ← Hm ()]; omega, (fun x hx => by
          rcases List.mem_or_eq_of_mem_set hx with hx | rfl
          · exact hOk x hx
          · exact hOk'), hM⟩
        case measure => simp [intOf]; omega
        --]
    · have hje : j = n := by omega
      subst hje
      have hti : ¬ (j : Int) < (j : Int) := by omega
      clear hst
      go_wp2_with fail
      go_loopw [8] (fun i wr => ∃ (q : Nat), q ≤ m ∧ i = .int .i64 q ∧ Mem [] w0 wr (⟨some gP, 55, PL, capP * 1⟩ :: OL)) (fun i _ => m - (intOf i).toNat)
      case atStart => exact ⟨0, by omega, rfl, hM⟩
      case round =>
        clear hM
        obtain ⟨q, hq, rfl, hM⟩ := hrel
        by_cases hqm : q < m
        · --[
          have hqi : (q : Int) < (m : Int) := by omega
          obtain ⟨d, hd⟩ : ∃ d, ds[q]? = some d := ⟨_, List.getElem?_eq_getElem (by rw [← Hm ()]; exact hqm)⟩
          have hPk : PL[q]? = some (.pointer (some ⟨d.gb, 0, none⟩)) := by rw [HPL ()]; simp [hd, Bk.p]
          have hdm := List.mem_of_getElem? hd
          have hdOk := hOk d hdm
          have hbl : (⟨some d.gl, 122, [sl d.ob d.l.length d.cap], 1⟩ : Blk) ∈ OL := by rw [HOL ()]; exact bks_mem hdm (.head _)
          have hbo : (⟨d.ob, 64, evs d.l, d.cap * 33⟩ : Blk) ∈ OL := by rw [HOL ()]; exact bks_mem hdm (.tail _ (.head _))
          have hbb : (⟨some d.gb, 60, [.pointer (some ⟨d.gl, 0, none⟩), sl d.oa d.l.length d.capa], 2⟩ : Blk) ∈ OL := by rw [HOL ()]; exact bks_mem hdm (.tail _ (.tail _ (.head _)))
          have hba : (⟨d.oa, 64, evs d.l, d.capa * 33⟩ : Blk) ∈ OL := by rw [HOL ()]; exact bks_mem hdm (.tail _ (.tail _ (.tail _ (.head _))))
          obtain ⟨gl, ob, cap, gb, oa, capa, l⟩ := d
          simp only at hPk hbl hbo hbb hba
          have hg := hdOk.good
          have hl := hdOk.few
          simp only at hg hl
          clear hdOk hdm hd
          obtain ⟨T, hT⟩ : ∃ T, Chain.reg l = T := ⟨_, rfl⟩
          have hTl : Len T 32 := by rw [← hT]; exact Len.of (Chain.reg_len _)
          have hlog : ∀ w', Adds wr w' → _ := fun w' hw => log_Register w' gl ob l.length cap l ((hM.adds hw).rowN (.tail _ hbl) rfl) (evs_elems (hM.adds hw) (.tail _ hbo) hg) (Len.of rfl) (by omega) T hT
          have href : ∀ w', Adds wr w' → _ := fun w' hw => ref16_Register w' (oa.map fun g => ⟨g, 0, none⟩) capa l (evs_elems (hM.adds hw) (.tail _ hba) hg) (by omega) T hT
          have hev : ∀ w', Adds wr w' → _ := fun w' hw => log_Events w' gl ob l.length cap (evs l) ((hM.adds hw).rowN (.tail _ hbl) rfl) (evs_len hg) (evs_one l) (by omega) (evs_src2 (k := 32) (hM.adds hw) (.tail _ hbo) (evs_len hg))
          have hsm : ∀ (w' : World) (o9 : Option Nat) (N9 c9 : Nat), Adds wr w' → Mem [] wr w' [⟨o9, 64, evs l, N9⟩] → Calls Try.prog 39 #[sl o9 l.length c9, sl oa l.length capa] w' fun x w'' => x = .returned (.bool true) ∧ Below w'.heap.size w' w'' := fun w' o9 N9 c9 hw hm9 =>
            ref16_Same w' (o9.map fun g => ⟨g, 0, none⟩) c9 l (evs_elems hm9 (.head _) hg) (by omega) (oa.map fun g => ⟨g, 0, none⟩) capa l (evs_elems (hM.adds hw) (.tail _ hba) hg) true (by simp)
          clear hT hg hbl hbo hba hl
          obtain ⟨nl, hnl⟩ : ∃ nl, nl = l.length := ⟨_, rfl⟩
          obtain ⟨A, hA⟩ : ∃ A, A = evs l := ⟨_, rfl⟩
          rw [← hnl] at hbb href hev hsm
          rw [← hA] at hev hsm
          clear hnl hA
          go_wp2_with fail
          try simp only [Act.put, List.setIfInBounds_toArray, List.set_cons_succ, List.set_cons_zero]
          refine wp_region_tail 36 (by decide) (fun c vals => ⟨#[c 0, c 1, c 2, (Value.slice (some ⟨gP, 0, none⟩) m capP : Value), c 4, c 5, c 6, c 7, (Value.int .i64 (q : Int) : Value), c 9, c 10, c 11, c 12, c 13, c 14, c 15, c 16, c 17, c 18, c 19, c 20, c 21, c 22, c 23, c 24, c 25, c 26, c 27, c 28, c 29, c 30, c 31, c 32, c 33, c 34, c 35, c 36, c 37, c 38, c 39, c 40, c 41, c 42, c 43, c 44, c 45, c 46, c 47, c 48, c 49, c 50, c 51, c 52, c 53, c 54, c 55, c 56, c 57, c 58, c 59, c 60, c 61, c 62, c 63, c 64, c 65, vals 0, vals 1, vals 2, vals 3, vals 4, vals 5, vals 6, vals 7, vals 8, vals 9, vals 10, vals 11, vals 12, vals 13, vals 14, vals 15, vals 16, vals 17, vals 18, vals 19, vals 20, vals 21, vals 22, vals 23, vals 24, vals 25, vals 26, vals 27, vals 28, vals 29, vals 30, vals 31, vals 32, vals 33, vals 34, vals 35, c 102], []⟩) (fun t => [_, _, _, undef, _, _, _, _, undef, _, _, _, _, _, _, _, _, _, _, _, _, _, _, _, _, _, _, _, _, _, _, _, _, _, _, _, _, _, _, _, _, _, _, _, _, _, _, _, _, _, _, _, _, _, _, _, _, _, _, _, _, _, _, _, _, _, undef, undef, undef, undef, undef, undef, undef, undef, undef, undef, undef, undef, undef, undef, undef, undef, undef, undef, undef, undef, undef, undef, undef, undef, undef, undef, undef, undef, undef, undef, undef, undef, undef, undef, undef, undef, _].getD t undef) (fun i => [_, _, _, _, _, _, _, _, _, _, _, _, _, _, _, _, _, _, _, _, _, _, _, _, _, _, _, _, _, _, _, _, _, _, _, _].getD i undef) (by kernel_rfl)
            [[], [], [0, 1], [0, 1, 2], [0, 1, 2, 3], [0, 1, 2, 3, 4], [0, 1, 2, 3, 4, 5], [0, 1, 2, 3, 4, 5, 6], [], [], [8, 9], [8, 9, 10], [8, 9, 10, 11], [8, 9, 10, 11, 12], [8, 9, 10, 11, 12, 13], [0, 1, 2, 3, 4, 5, 6, 7, 8, 9, 10, 11, 12, 13, 14], [0, 1, 2, 3, 4, 5, 6, 7, 8, 9, 10, 11, 12, 13, 14, 15], [0, 1, 2, 3, 4, 5, 6, 7, 8, 9, 10, 11, 12, 13, 14, 15, 16], [0, 1, 2, 3, 4, 5, 6, 7, 8, 9, 10, 11, 12, 13, 14, 15, 16, 17], [0, 1, 2, 3, 4, 5, 6, 7, 8, 9, 10, 11, 12, 13, 14, 15, 16, 17], [0, 1, 2, 3, 4, 5, 6, 7, 8, 9, 10, 11, 12, 13, 14, 15, 16, 17, 18, 19], [0, 1, 2, 3, 4, 5, 6, 7, 8, 9, 10, 11, 12, 13, 14, 15, 16, 17, 18, 19, 20], [0, 1, 2, 3, 4, 5, 6, 7, 8, 9, 10, 11, 12, 13, 14, 15, 16, 17, 18, 19, 20, 21], [0, 1, 2, 3, 4, 5, 6, 7, 8, 9, 10, 11, 12, 13, 14, 15, 16, 17, 18, 19, 20, 21, 22], [0, 1, 2, 3, 4, 5, 6, 7, 8, 9, 10, 11, 12, 13, 14, 15, 16, 17, 18, 19, 20, 21, 22, 23], [0, 1, 2, 3, 4, 5, 6, 7, 8, 9, 10, 11, 12, 13, 14, 15, 16, 17, 18, 19, 20, 21, 22, 23, 24], [0, 1, 2, 3, 4, 5, 6, 7, 8, 9, 10, 11, 12, 13, 14, 15, 16, 17], [0, 1, 2, 3, 4, 5, 6, 7, 8, 9, 10, 11, 12, 13, 14, 15, 16, 17], [0, 1, 2, 3, 4, 5, 6, 7, 8, 9, 10, 11, 12, 13, 14, 15, 16, 17, 26, 27], [0, 1, 2, 3, 4, 5, 6, 7, 8, 9, 10, 11, 12, 13, 14, 15, 16, 17, 26, 27, 28], [0, 1, 2, 3, 4, 5, 6, 7, 8, 9, 10, 11, 12, 13, 14, 15, 16, 17, 26, 27, 28, 29], [0, 1, 2, 3, 4, 5, 6, 7, 8, 9, 10, 11, 12, 13, 14, 15, 16, 17, 26, 27, 28, 29, 30], [0, 1, 2, 3, 4, 5, 6, 7, 8, 9, 10, 11, 12, 13, 14, 15, 16, 17, 26, 27, 28, 29, 30, 31], [0, 1, 2, 3, 4, 5, 6, 7, 8, 9, 10, 11, 12, 13, 14, 15, 16, 17, 18, 19, 20, 21, 22, 23, 24, 25, 26, 27, 28, 29, 30, 31, 32], [0, 1, 2, 3, 4, 5, 6, 7, 8, 9, 10, 11, 12, 13, 14, 15, 16, 17, 18, 19, 20, 21, 22, 23, 24, 25, 26, 27, 28, 29, 30, 31, 32, 33], [0, 1, 2, 3, 4, 5, 6, 7, 8, 9, 10, 11, 12, 13, 14, 15, 16, 17, 18, 19, 20, 21, 22, 23, 24, 25, 26, 27, 28, 29, 30, 31, 32, 33, 34]] (by kernel_rfl) (by kernel_rfl) (fun _ => True) trivial
            [fun x _ => x = (Value.slice (some ⟨gP, 0, none⟩) m capP : Value),
             fun x _ => x = (Value.int .i64 (q : Int) : Value),
             fun x _ => x = (Value.pointer (some ⟨gP, 0 + q * 1, none⟩) : Value),
             fun x _ => x = (Value.pointer (some ⟨gb, 0, none⟩) : Value),
             fun x _ => x = (Value.pointer (some ⟨gb, 0, none⟩) : Value),
             fun x _ => x = (Value.pointer (some ⟨gb, 0, none⟩) : Value),
             fun x _ => x = (Value.pointer (some ⟨gl, 0, none⟩) : Value),
             fun x _ => x = (Value.agg (T.map B8).toArray : Value),
             fun x _ => x = (Value.slice (some ⟨gP, 0, none⟩) m capP : Value),
             fun x _ => x = (Value.int .i64 (q : Int) : Value),
             fun x _ => x = (Value.pointer (some ⟨gP, 0 + q * 1, none⟩) : Value),
             fun x _ => x = (Value.pointer (some ⟨gb, 0, none⟩) : Value),
             fun x _ => x = (Value.pointer (some ⟨gb, 0, none⟩) : Value),
             fun x _ => x = (Value.pointer (some ⟨gb, 1, none⟩) : Value),
             fun x _ => x = (sl oa nl capa : Value),
             fun x _ => x = (Value.agg (T.map B8).toArray : Value),
             fun x _ => x = (Value.bool false : Value),
             fun x _ => x = (Value.bool false : Value),
             fun x _ => x = (Value.slice (some ⟨gP, 0, none⟩) m capP : Value),
             fun x _ => x = (Value.int .i64 (q : Int) : Value),
             fun x _ => x = (Value.pointer (some ⟨gP, 0 + q * 1, none⟩) : Value),
             fun x _ => x = (Value.pointer (some ⟨gb, 0, none⟩) : Value),
             fun x _ => x = (Value.pointer (some ⟨gb, 0, none⟩) : Value),
             fun x _ => x = (Value.pointer (some ⟨gb, 0, none⟩) : Value),
             fun x _ => x = (Value.pointer (some ⟨gl, 0, none⟩) : Value),
             fun (xx : Value) (ww : World) => ∃ o9 N9, xx = sl o9 nl nl ∧ Mem [] wr ww [⟨o9, 64, A, N9⟩],
             fun x _ => x = (Value.slice (some ⟨gP, 0, none⟩) m capP : Value),
             fun x _ => x = (Value.int .i64 (q : Int) : Value),
             fun x _ => x = (Value.pointer (some ⟨gP, 0 + q * 1, none⟩) : Value),
             fun x _ => x = (Value.pointer (some ⟨gb, 0, none⟩) : Value),
             fun x _ => x = (Value.pointer (some ⟨gb, 0, none⟩) : Value),
             fun x _ => x = (Value.pointer (some ⟨gb, 1, none⟩) : Value),
             fun x _ => x = (sl oa nl capa : Value),
             fun x _ => x = (Value.bool true : Value),
             fun x _ => x = (Value.bool false : Value),
             fun x _ => x = (Value.bool false : Value)]
            ⟨fun _ _ _ h _ => h, fun _ _ _ h _ => h, fun _ _ _ h _ => h, fun _ _ _ h _ => h, fun _ _ _ h _ => h, fun _ _ _ h _ => h, fun _ _ _ h _ => h, fun _ _ _ h _ => h, fun _ _ _ h _ => h, fun _ _ _ h _ => h, fun _ _ _ h _ => h, fun _ _ _ h _ => h, fun _ _ _ h _ => h, fun _ _ _ h _ => h, fun _ _ _ h _ => h, fun _ _ _ h _ => h, fun _ _ _ h _ => h, fun _ _ _ h _ => h, fun _ _ _ h _ => h, fun _ _ _ h _ => h, fun _ _ _ h _ => h, fun _ _ _ h _ => h, fun _ _ _ h _ => h, fun _ _ _ h _ => h, fun _ _ _ h _ => h, fun _ _ _ h hb => (let ⟨o9, N9, h1, h2⟩ := h; ⟨o9, N9, h1, h2.adds hb⟩), fun _ _ _ h _ => h, fun _ _ _ h _ => h, fun _ _ _ h _ => h, fun _ _ _ h _ => h, fun _ _ _ h _ => h, fun _ _ _ h _ => h, fun _ _ _ h _ => h, fun _ _ _ h _ => h, fun _ _ _ h _ => h, fun _ _ _ h _ => h, trivial⟩ []
            ⟨?_, ?_, ?_, ?_, ?_, ?_, ?_, ?_, ?_, ?_, ?_, ?_, ?_, ?_, ?_, ?_, ?_, ?_, ?_, ?_, ?_, ?_, ?_, ?_, ?_, ?_, ?_, ?_, ?_, ?_, ?_, ?_, ?_, ?_, ?_, ?_, trivial⟩ ?_
          · refine showA_op 0 (by intro _ _ _; kernel_rfl) rfl rfl (fun c vals w hC hD => ?_)
            clear hD
            refine makes1 (x := .tmp 3) (X := Value.slice (some ⟨gP, 0, none⟩) m capP) (by kernel_rfl : _ = (Value.slice (some ⟨gP, 0, none⟩) m capP : Value)) (fun ρ rc rf q3 => ?_)
            exact makes_move (.inl rfl) q3 ⟨Adds.refl _, rfl⟩
          · refine showA_op 1 (by intro _ _ _; kernel_rfl) rfl rfl (fun c vals w hC hD => ?_)
            clear hD
            refine makes1 (x := .tmp 8) (X := Value.int .i64 (q : Int)) (by kernel_rfl : _ = (Value.int .i64 (q : Int) : Value)) (fun ρ rc rf q8 => ?_)
            exact makes_move (.inl rfl) q8 ⟨Adds.refl _, rfl⟩
          · refine showA_op 2 (by intro _ _ _; kernel_rfl) rfl rfl (fun c vals w hC hD => ?_)
            have h0 : vals 0 = .slice (some ⟨gP, 0, none⟩) m capP := hD 0 rfl
            have h1 : vals 1 = .int .i64 (q : Int) := hD 1 rfl
            clear hD
            refine makes2 (x := .tmp 66) (X := Value.slice (some ⟨gP, 0, none⟩) m capP) (y := .tmp 67) (Y := Value.int .i64 (q : Int)) ((by kernel_rfl : _ = vals 0).trans h0) ((by kernel_rfl : _ = vals 1).trans h1) (fun ρ rc rf q66 q67 => ?_)
            clear h0 h1
            exact makes_index (us_of rfl) (el_of rfl) hqm rfl q66 q67 ⟨Adds.refl _, rfl⟩
          · refine showA_op 3 (by intro _ _ _; kernel_rfl) rfl rfl (fun c vals w hC hD => ?_)
            have h2 : vals 2 = .pointer (some ⟨gP, 0 + q * 1, none⟩) := hD 2 rfl
            clear hD
            refine makes1 (x := .tmp 68) (X := Value.pointer (some ⟨gP, 0 + q * 1, none⟩)) ((by kernel_rfl : _ = vals 2).trans h2) (fun ρ rc rf q68 => ?_)
            clear h2
            exact makes_load ((hM.adds hC).loads_one (.head _) (on_of rfl) (by rw [Nat.zero_add, Nat.mul_one]; exact hPk)) rfl q68 ⟨Adds.refl _, rfl⟩
          · refine showA_op 4 (by intro _ _ _; kernel_rfl) rfl rfl (fun c vals w hC hD => ?_)
            have h3 : vals 3 = .pointer (some ⟨gb, 0, none⟩) := hD 3 rfl
            clear hD
            refine makes1 (x := .tmp 69) (X := Value.pointer (some ⟨gb, 0, none⟩)) ((by kernel_rfl : _ = vals 3).trans h3) (fun ρ rc rf q69 => ?_)
            clear h3
            refine makes_value (v := Value.pointer (some ⟨gb, 0, none⟩)) ?_ ⟨Adds.refl _, rfl⟩
            go_simp
            all_goals first | done | rfl | (rw [if_pos (by omega)]; refine congrArg (fun x => Result.ok (Next.value (Value.pointer (some ⟨_, x, none⟩))) _) ?_; omega) | (rw [wrapP_i64]; omega) | go_num | (simp; done) | (simp; omega) | (congr 1; first | rfl | (rw [wrapP_i64]; omega) | (congr 1; first | rfl | (simp; done) | (simp; omega) | (congr 2; omega) | go_num))
          · refine showA_op 5 (by intro _ _ _; kernel_rfl) rfl rfl (fun c vals w hC hD => ?_)
            have h4 : vals 4 = .pointer (some ⟨gb, 0, none⟩) := hD 4 rfl
            clear hD
            refine makes1 (x := .tmp 70) (X := Value.pointer (some ⟨gb, 0, none⟩)) ((by kernel_rfl : _ = vals 4).trans h4) (fun ρ rc rf q70 => ?_)
            clear h4
            refine makes_value (v := Value.pointer (some ⟨gb, 0, none⟩)) ?_ ⟨Adds.refl _, rfl⟩
            go_simp
            all_goals first | done | rfl | (rw [if_pos (by omega)]; refine congrArg (fun x => Result.ok (Next.value (Value.pointer (some ⟨_, x, none⟩))) _) ?_; omega) | (rw [wrapP_i64]; omega) | go_num | (simp; done) | (simp; omega) | (congr 1; first | rfl | (rw [wrapP_i64]; omega) | (congr 1; first | rfl | (simp; done) | (simp; omega) | (congr 2; omega) | go_num))
          · refine showA_op 6 (by intro _ _ _; kernel_rfl) rfl rfl (fun c vals w hC hD => ?_)
            have h5 : vals 5 = .pointer (some ⟨gb, 0, none⟩) := hD 5 rfl
            clear hD
            refine makes1 (x := .tmp 71) (X := Value.pointer (some ⟨gb, 0, none⟩)) ((by kernel_rfl : _ = vals 5).trans h5) (fun ρ rc rf q71 => ?_)
            clear h5
            exact makes_load ((hM.adds hC).loads_one (.tail _ hbb) (on_of rfl) rfl) rfl q71 ⟨Adds.refl _, rfl⟩
          · refine showA_op 7 (by intro _ _ _; kernel_rfl) rfl rfl (fun c vals w hC hD => ?_)
            have h6 : vals 6 = .pointer (some ⟨gl, 0, none⟩) := hD 6 rfl
            clear hD
            refine makes1 (x := .tmp 72) (X := Value.pointer (some ⟨gl, 0, none⟩)) ((by kernel_rfl : _ = vals 6).trans h6) (fun ρ rc rf q72 => ?_)
            clear h6
            refine makes_call (hlog _ hC) ?_ (by rintro e w' ⟨rfl, hb⟩; exact ⟨_, rfl, hb, rfl⟩)
            go_simp
          · refine showA_op 8 (by intro _ _ _; kernel_rfl) rfl rfl (fun c vals w hC hD => ?_)
            clear hD
            refine makes1 (x := .tmp 3) (X := Value.slice (some ⟨gP, 0, none⟩) m capP) (by kernel_rfl : _ = (Value.slice (some ⟨gP, 0, none⟩) m capP : Value)) (fun ρ rc rf q3 => ?_)
            exact makes_move (.inl rfl) q3 ⟨Adds.refl _, rfl⟩
          · refine showA_op 9 (by intro _ _ _; kernel_rfl) rfl rfl (fun c vals w hC hD => ?_)
            clear hD
            refine makes1 (x := .tmp 8) (X := Value.int .i64 (q : Int)) (by kernel_rfl : _ = (Value.int .i64 (q : Int) : Value)) (fun ρ rc rf q8 => ?_)
            exact makes_move (.inl rfl) q8 ⟨Adds.refl _, rfl⟩
          · refine showA_op 10 (by intro _ _ _; kernel_rfl) rfl rfl (fun c vals w hC hD => ?_)
            have h8 : vals 8 = .slice (some ⟨gP, 0, none⟩) m capP := hD 8 rfl
            have h9 : vals 9 = .int .i64 (q : Int) := hD 9 rfl
            clear hD
            refine makes2 (x := .tmp 74) (X := Value.slice (some ⟨gP, 0, none⟩) m capP) (y := .tmp 75) (Y := Value.int .i64 (q : Int)) ((by kernel_rfl : _ = vals 8).trans h8) ((by kernel_rfl : _ = vals 9).trans h9) (fun ρ rc rf q74 q75 => ?_)
            clear h8 h9
            exact makes_index (us_of rfl) (el_of rfl) hqm rfl q74 q75 ⟨Adds.refl _, rfl⟩
          · refine showA_op 11 (by intro _ _ _; kernel_rfl) rfl rfl (fun c vals w hC hD => ?_)
            have h10 : vals 10 = .pointer (some ⟨gP, 0 + q * 1, none⟩) := hD 10 rfl
            clear hD
            refine makes1 (x := .tmp 76) (X := Value.pointer (some ⟨gP, 0 + q * 1, none⟩)) ((by kernel_rfl : _ = vals 10).trans h10) (fun ρ rc rf q76 => ?_)
            clear h10
            exact makes_load ((hM.adds hC).loads_one (.head _) (on_of rfl) (by rw [Nat.zero_add, Nat.mul_one]; exact hPk)) rfl q76 ⟨Adds.refl _, rfl⟩
          · refine showA_op 12 (by intro _ _ _; kernel_rfl) rfl rfl (fun c vals w hC hD => ?_)
            have h11 : vals 11 = .pointer (some ⟨gb, 0, none⟩) := hD 11 rfl
            clear hD
            refine makes1 (x := .tmp 77) (X := Value.pointer (some ⟨gb, 0, none⟩)) ((by kernel_rfl : _ = vals 11).trans h11) (fun ρ rc rf q77 => ?_)
            clear h11
            refine makes_value (v := Value.pointer (some ⟨gb, 0, none⟩)) ?_ ⟨Adds.refl _, rfl⟩
            go_simp
            all_goals first | done | rfl | (rw [if_pos (by omega)]; refine congrArg (fun x => Result.ok (Next.value (Value.pointer (some ⟨_, x, none⟩))) _) ?_; omega) | (rw [wrapP_i64]; omega) | go_num | (simp; done) | (simp; omega) | (congr 1; first | rfl | (rw [wrapP_i64]; omega) | (congr 1; first | rfl | (simp; done) | (simp; omega) | (congr 2; omega) | go_num))
          · refine showA_op 13 (by intro _ _ _; kernel_rfl) rfl rfl (fun c vals w hC hD => ?_)
            have h12 : vals 12 = .pointer (some ⟨gb, 0, none⟩) := hD 12 rfl
            clear hD
            refine makes1 (x := .tmp 78) (X := Value.pointer (some ⟨gb, 0, none⟩)) ((by kernel_rfl : _ = vals 12).trans h12) (fun ρ rc rf q78 => ?_)
            clear h12
            refine makes_value (v := Value.pointer (some ⟨gb, 1, none⟩)) ?_ ⟨Adds.refl _, rfl⟩
            go_simp
            all_goals first | done | rfl | (rw [if_pos (by omega)]; refine congrArg (fun x => Result.ok (Next.value (Value.pointer (some ⟨_, x, none⟩))) _) ?_; omega) | (rw [wrapP_i64]; omega) | go_num | (simp; done) | (simp; omega) | (congr 1; first | rfl | (rw [wrapP_i64]; omega) | (congr 1; first | rfl | (simp; done) | (simp; omega) | (congr 2; omega) | go_num))
          · refine showA_op 14 (by intro _ _ _; kernel_rfl) rfl rfl (fun c vals w hC hD => ?_)
            have h13 : vals 13 = .pointer (some ⟨gb, 1, none⟩) := hD 13 rfl
            clear hD
            refine makes1 (x := .tmp 79) (X := Value.pointer (some ⟨gb, 1, none⟩)) ((by kernel_rfl : _ = vals 13).trans h13) (fun ρ rc rf q79 => ?_)
            clear h13
            exact makes_load ((hM.adds hC).loads_one (.tail _ hbb) (on_of rfl) rfl) rfl q79 ⟨Adds.refl _, rfl⟩
          · refine showA_op 15 (by intro _ _ _; kernel_rfl) rfl rfl (fun c vals w hC hD => ?_)
            have h14 : vals 14 = sl oa nl capa := hD 14 rfl
            clear hD
            refine makes1 (x := .tmp 80) (X := sl oa nl capa) ((by kernel_rfl : _ = vals 14).trans h14) (fun ρ rc rf q80 => ?_)
            clear h14
            refine makes_call (href _ hC) ?_ (by rintro e w' ⟨rfl, hb⟩; exact ⟨_, rfl, hb, rfl⟩)
            go_simp
          · refine showA_op 16 (by intro _ _ _; kernel_rfl) rfl rfl (fun c vals w hC hD => ?_)
            have h7 : vals 7 = .agg (T.map B8).toArray := hD 7 rfl
            have h15 : vals 15 = .agg (T.map B8).toArray := hD 15 rfl
            clear hD
            refine makes2 (x := .tmp 73) (X := Value.agg (T.map B8).toArray) (y := .tmp 81) (Y := Value.agg (T.map B8).toArray) ((by kernel_rfl : _ = vals 7).trans h7) ((by kernel_rfl : _ = vals 15).trans h15) (fun ρ rc rf q73 q81 => ?_)
            clear h7 h15
            exact makes_neq (hash_self _ hTl) rfl q73 q81 ⟨Adds.refl _, rfl⟩
          · refine showA_op 17 (by intro _ _ _; kernel_rfl) rfl rfl (fun c vals w hC hD => ?_)
            have h16 : vals 16 = .bool false := hD 16 rfl
            clear hD
            refine makes1 (x := .tmp 82) (X := Value.bool false) ((by kernel_rfl : _ = vals 16).trans h16) (fun ρ rc rf q82 => ?_)
            clear h16
            exact makes_move (.inl rfl) q82 ⟨Adds.refl _, rfl⟩
          · refine showA_run 18 (by intro _ _ _; kernel_rfl) (j := 17) (want := false) rfl rfl rfl (by intro _ _; kernel_rfl) rfl (fun c vals w hC hD => ⟨hD 17 rfl, ?_⟩)
            clear hD
            refine makes1 (x := .tmp 3) (X := Value.slice (some ⟨gP, 0, none⟩) m capP) (by kernel_rfl : _ = (Value.slice (some ⟨gP, 0, none⟩) m capP : Value)) (fun ρ rc rf q3 => ?_)
            exact makes_move (.inl rfl) q3 ⟨Adds.refl _, rfl⟩
          · refine showA_run 19 (by intro _ _ _; kernel_rfl) (j := 17) (want := false) rfl rfl rfl (by intro _ _; kernel_rfl) rfl (fun c vals w hC hD => ⟨hD 17 rfl, ?_⟩)
            clear hD
            refine makes1 (x := .tmp 8) (X := Value.int .i64 (q : Int)) (by kernel_rfl : _ = (Value.int .i64 (q : Int) : Value)) (fun ρ rc rf q8 => ?_)
            exact makes_move (.inl rfl) q8 ⟨Adds.refl _, rfl⟩
          · refine showA_run 20 (by intro _ _ _; kernel_rfl) (j := 17) (want := false) rfl rfl rfl (by intro _ _; kernel_rfl) rfl (fun c vals w hC hD => ⟨hD 17 rfl, ?_⟩)
            have h18 : vals 18 = .slice (some ⟨gP, 0, none⟩) m capP := hD 18 rfl
            have h19 : vals 19 = .int .i64 (q : Int) := hD 19 rfl
            clear hD
            refine makes2 (x := .tmp 84) (X := Value.slice (some ⟨gP, 0, none⟩) m capP) (y := .tmp 85) (Y := Value.int .i64 (q : Int)) ((by kernel_rfl : _ = vals 18).trans h18) ((by kernel_rfl : _ = vals 19).trans h19) (fun ρ rc rf q84 q85 => ?_)
            clear h18 h19
            exact makes_index (us_of rfl) (el_of rfl) hqm rfl q84 q85 ⟨Adds.refl _, rfl⟩
          · refine showA_run 21 (by intro _ _ _; kernel_rfl) (j := 17) (want := false) rfl rfl rfl (by intro _ _; kernel_rfl) rfl (fun c vals w hC hD => ⟨hD 17 rfl, ?_⟩)
            have h20 : vals 20 = .pointer (some ⟨gP, 0 + q * 1, none⟩) := hD 20 rfl
            clear hD
            refine makes1 (x := .tmp 86) (X := Value.pointer (some ⟨gP, 0 + q * 1, none⟩)) ((by kernel_rfl : _ = vals 20).trans h20) (fun ρ rc rf q86 => ?_)
            clear h20
            exact makes_load ((hM.adds hC).loads_one (.head _) (on_of rfl) (by rw [Nat.zero_add, Nat.mul_one]; exact hPk)) rfl q86 ⟨Adds.refl _, rfl⟩
          · refine showA_run 22 (by intro _ _ _; kernel_rfl) (j := 17) (want := false) rfl rfl rfl (by intro _ _; kernel_rfl) rfl (fun c vals w hC hD => ⟨hD 17 rfl, ?_⟩)
            have h21 : vals 21 = .pointer (some ⟨gb, 0, none⟩) := hD 21 rfl
            clear hD
            refine makes1 (x := .tmp 87) (X := Value.pointer (some ⟨gb, 0, none⟩)) ((by kernel_rfl : _ = vals 21).trans h21) (fun ρ rc rf q87 => ?_)
            clear h21
            refine makes_value (v := Value.pointer (some ⟨gb, 0, none⟩)) ?_ ⟨Adds.refl _, rfl⟩
            go_simp
            all_goals first | done | rfl | (rw [if_pos (by omega)]; refine congrArg (fun x => Result.ok (Next.value (Value.pointer (some ⟨_, x, none⟩))) _) ?_; omega) | (rw [wrapP_i64]; omega) | go_num | (simp; done) | (simp; omega) | (congr 1; first | rfl | (rw [wrapP_i64]; omega) | (congr 1; first | rfl | (simp; done) | (simp; omega) | (congr 2; omega) | go_num))
          · refine showA_run 23 (by intro _ _ _; kernel_rfl) (j := 17) (want := false) rfl rfl rfl (by intro _ _; kernel_rfl) rfl (fun c vals w hC hD => ⟨hD 17 rfl, ?_⟩)
            have h22 : vals 22 = .pointer (some ⟨gb, 0, none⟩) := hD 22 rfl
            clear hD
            refine makes1 (x := .tmp 88) (X := Value.pointer (some ⟨gb, 0, none⟩)) ((by kernel_rfl : _ = vals 22).trans h22) (fun ρ rc rf q88 => ?_)
            clear h22
            refine makes_value (v := Value.pointer (some ⟨gb, 0, none⟩)) ?_ ⟨Adds.refl _, rfl⟩
            go_simp
            all_goals first | done | rfl | (rw [if_pos (by omega)]; refine congrArg (fun x => Result.ok (Next.value (Value.pointer (some ⟨_, x, none⟩))) _) ?_; omega) | (rw [wrapP_i64]; omega) | go_num | (simp; done) | (simp; omega) | (congr 1; first | rfl | (rw [wrapP_i64]; omega) | (congr 1; first | rfl | (simp; done) | (simp; omega) | (congr 2; omega) | go_num))
          · refine showA_run 24 (by intro _ _ _; kernel_rfl) (j := 17) (want := false) rfl rfl rfl (by intro _ _; kernel_rfl) rfl (fun c vals w hC hD => ⟨hD 17 rfl, ?_⟩)
            have h23 : vals 23 = .pointer (some ⟨gb, 0, none⟩) := hD 23 rfl
            clear hD
            refine makes1 (x := .tmp 89) (X := Value.pointer (some ⟨gb, 0, none⟩)) ((by kernel_rfl : _ = vals 23).trans h23) (fun ρ rc rf q89 => ?_)
            clear h23
            exact makes_load ((hM.adds hC).loads_one (.tail _ hbb) (on_of rfl) rfl) rfl q89 ⟨Adds.refl _, rfl⟩
          · refine showA_run 25 (by intro _ _ _; kernel_rfl) (j := 17) (want := false) rfl rfl rfl (by intro _ _; kernel_rfl) rfl (fun c vals w hC hD => ⟨hD 17 rfl, ?_⟩)
            have h24 : vals 24 = .pointer (some ⟨gl, 0, none⟩) := hD 24 rfl
            clear hD
            refine makes1 (x := .tmp 90) (X := Value.pointer (some ⟨gl, 0, none⟩)) ((by kernel_rfl : _ = vals 24).trans h24) (fun ρ rc rf q90 => ?_)
            clear h24
            refine makes_call (hev _ hC) ?_ (by rintro e w' ⟨o9, N9, rfl, -, hm9⟩; exact ⟨_, rfl, hm9.done, o9, N9, rfl, ((Mem.start _).adds hC).join hm9 (by simp)⟩)
            go_simp
            all_goals first | done | rfl | exact lit8 _ (by decide)
          · refine showA_run 26 (by intro _ _ _; kernel_rfl) (j := 17) (want := false) rfl rfl rfl (by intro _ _; kernel_rfl) rfl (fun c vals w hC hD => ⟨hD 17 rfl, ?_⟩)
            clear hD
            refine makes1 (x := .tmp 3) (X := Value.slice (some ⟨gP, 0, none⟩) m capP) (by kernel_rfl : _ = (Value.slice (some ⟨gP, 0, none⟩) m capP : Value)) (fun ρ rc rf q3 => ?_)
            exact makes_move (.inl rfl) q3 ⟨Adds.refl _, rfl⟩
          · refine showA_run 27 (by intro _ _ _; kernel_rfl) (j := 17) (want := false) rfl rfl rfl (by intro _ _; kernel_rfl) rfl (fun c vals w hC hD => ⟨hD 17 rfl, ?_⟩)
            clear hD
            refine makes1 (x := .tmp 8) (X := Value.int .i64 (q : Int)) (by kernel_rfl : _ = (Value.int .i64 (q : Int) : Value)) (fun ρ rc rf q8 => ?_)
            exact makes_move (.inl rfl) q8 ⟨Adds.refl _, rfl⟩
          · refine showA_run 28 (by intro _ _ _; kernel_rfl) (j := 17) (want := false) rfl rfl rfl (by intro _ _; kernel_rfl) rfl (fun c vals w hC hD => ⟨hD 17 rfl, ?_⟩)
            have h26 : vals 26 = .slice (some ⟨gP, 0, none⟩) m capP := hD 26 rfl
            have h27 : vals 27 = .int .i64 (q : Int) := hD 27 rfl
            clear hD
            refine makes2 (x := .tmp 92) (X := Value.slice (some ⟨gP, 0, none⟩) m capP) (y := .tmp 93) (Y := Value.int .i64 (q : Int)) ((by kernel_rfl : _ = vals 26).trans h26) ((by kernel_rfl : _ = vals 27).trans h27) (fun ρ rc rf q92 q93 => ?_)
            clear h26 h27
            exact makes_index (us_of rfl) (el_of rfl) hqm rfl q92 q93 ⟨Adds.refl _, rfl⟩
          · refine showA_run 29 (by intro _ _ _; kernel_rfl) (j := 17) (want := false) rfl rfl rfl (by intro _ _; kernel_rfl) rfl (fun c vals w hC hD => ⟨hD 17 rfl, ?_⟩)
            have h28 : vals 28 = .pointer (some ⟨gP, 0 + q * 1, none⟩) := hD 28 rfl
            clear hD
            refine makes1 (x := .tmp 94) (X := Value.pointer (some ⟨gP, 0 + q * 1, none⟩)) ((by kernel_rfl : _ = vals 28).trans h28) (fun ρ rc rf q94 => ?_)
            clear h28
            exact makes_load ((hM.adds hC).loads_one (.head _) (on_of rfl) (by rw [Nat.zero_add, Nat.mul_one]; exact hPk)) rfl q94 ⟨Adds.refl _, rfl⟩
          · refine showA_run 30 (by intro _ _ _; kernel_rfl) (j := 17) (want := false) rfl rfl rfl (by intro _ _; kernel_rfl) rfl (fun c vals w hC hD => ⟨hD 17 rfl, ?_⟩)
            have h29 : vals 29 = .pointer (some ⟨gb, 0, none⟩) := hD 29 rfl
            clear hD
            refine makes1 (x := .tmp 95) (X := Value.pointer (some ⟨gb, 0, none⟩)) ((by kernel_rfl : _ = vals 29).trans h29) (fun ρ rc rf q95 => ?_)
            clear h29
            refine makes_value (v := Value.pointer (some ⟨gb, 0, none⟩)) ?_ ⟨Adds.refl _, rfl⟩
            go_simp
            all_goals first | done | rfl | (rw [if_pos (by omega)]; refine congrArg (fun x => Result.ok (Next.value (Value.pointer (some ⟨_, x, none⟩))) _) ?_; omega) | (rw [wrapP_i64]; omega) | go_num | (simp; done) | (simp; omega) | (congr 1; first | rfl | (rw [wrapP_i64]; omega) | (congr 1; first | rfl | (simp; done) | (simp; omega) | (congr 2; omega) | go_num))
          · refine showA_run 31 (by intro _ _ _; kernel_rfl) (j := 17) (want := false) rfl rfl rfl (by intro _ _; kernel_rfl) rfl (fun c vals w hC hD => ⟨hD 17 rfl, ?_⟩)
            have h30 : vals 30 = .pointer (some ⟨gb, 0, none⟩) := hD 30 rfl
            clear hD
            refine makes1 (x := .tmp 96) (X := Value.pointer (some ⟨gb, 0, none⟩)) ((by kernel_rfl : _ = vals 30).trans h30) (fun ρ rc rf q96 => ?_)
            clear h30
            refine makes_value (v := Value.pointer (some ⟨gb, 1, none⟩)) ?_ ⟨Adds.refl _, rfl⟩
            go_simp
            all_goals first | done | rfl | (rw [if_pos (by omega)]; refine congrArg (fun x => Result.ok (Next.value (Value.pointer (some ⟨_, x, none⟩))) _) ?_; omega) | (rw [wrapP_i64]; omega) | go_num | (simp; done) | (simp; omega) | (congr 1; first | rfl | (rw [wrapP_i64]; omega) | (congr 1; first | rfl | (simp; done) | (simp; omega) | (congr 2; omega) | go_num))
          · refine showA_run 32 (by intro _ _ _; kernel_rfl) (j := 17) (want := false) rfl rfl rfl (by intro _ _; kernel_rfl) rfl (fun c vals w hC hD => ⟨hD 17 rfl, ?_⟩)
            have h31 : vals 31 = .pointer (some ⟨gb, 1, none⟩) := hD 31 rfl
            clear hD
            refine makes1 (x := .tmp 97) (X := Value.pointer (some ⟨gb, 1, none⟩)) ((by kernel_rfl : _ = vals 31).trans h31) (fun ρ rc rf q97 => ?_)
            clear h31
            exact makes_load ((hM.adds hC).loads_one (.tail _ hbb) (on_of rfl) rfl) rfl q97 ⟨Adds.refl _, rfl⟩
          · refine showA_run 33 (by intro _ _ _; kernel_rfl) (j := 17) (want := false) rfl rfl rfl (by intro _ _; kernel_rfl) rfl (fun c vals w hC hD => ⟨hD 17 rfl, ?_⟩)
            have h25 : (fun (xx : Value) (ww : World) => ∃ o9 N9, xx = sl o9 nl nl ∧ Mem [] wr ww [⟨o9, 64, A, N9⟩]) (vals 25) w := hD 25 rfl
            have h32 : vals 32 = sl oa nl capa := hD 32 rfl
            clear hD
            refine makes2 (x := .tmp 91) (X := vals 25) (y := .tmp 98) (Y := sl oa nl capa) (by kernel_rfl : _ = vals 25) ((by kernel_rfl : _ = vals 32).trans h32) (fun ρ rc rf q91 q98 => ?_)
            clear h32
            (obtain ⟨o9, N9, e9, hm9⟩ := h25; rw [e9] at q91; refine makes_call (hsm _ o9 N9 nl hC hm9) ?_ (by rintro e w' ⟨rfl, hb⟩; exact ⟨_, rfl, hb, rfl⟩); go_simp)
          · refine showA_run 34 (by intro _ _ _; kernel_rfl) (j := 17) (want := false) rfl rfl rfl (by intro _ _; kernel_rfl) rfl (fun c vals w hC hD => ⟨hD 17 rfl, ?_⟩)
            have h33 : vals 33 = .bool true := hD 33 rfl
            clear hD
            refine makes1 (x := .tmp 99) (X := Value.bool true) ((by kernel_rfl : _ = vals 33).trans h33) (fun ρ rc rf q99 => ?_)
            clear h33
            refine makes_value (v := Value.bool false) ?_ ⟨Adds.refl _, rfl⟩
            go_simp
            all_goals first | done | rfl | (rw [if_pos (by omega)]; refine congrArg (fun x => Result.ok (Next.value (Value.pointer (some ⟨_, x, none⟩))) _) ?_; omega) | (rw [wrapP_i64]; omega) | go_num | (simp; done) | (simp; omega) | (congr 1; first | rfl | (rw [wrapP_i64]; omega) | (congr 1; first | rfl | (simp; done) | (simp; omega) | (congr 2; omega) | go_num))
          · refine showA_op 35 (by intro _ _ _; kernel_rfl) rfl rfl (fun c vals w hC hD => ?_)
            have h17 : vals 17 = .bool false := hD 17 rfl
            have h34 : vals 34 = .bool false := hD 34 rfl
            clear hD
            refine makes2 (x := .tmp 83) (X := Value.bool false) (y := .tmp 100) (Y := Value.bool false) ((by kernel_rfl : _ = vals 17).trans h17) ((by kernel_rfl : _ = vals 34).trans h34) (fun ρ rc rf q83 q100 => ?_)
            clear h17 h34
            refine makes_value (v := Value.bool false) ?_ ⟨Adds.refl _, rfl⟩
            go_simp
            all_goals first | done | rfl | (rw [if_pos (by omega)]; refine congrArg (fun x => Result.ok (Next.value (Value.pointer (some ⟨_, x, none⟩))) _) ?_; omega) | (rw [wrapP_i64]; omega) | go_num | (simp; done) | (simp; omega) | (congr 1; first | rfl | (rw [wrapP_i64]; omega) | (congr 1; first | rfl | (simp; done) | (simp; omega) | (congr 2; omega) | go_num))
          intro vals w' hC hΦ hne
          have h35 : vals 35 = .bool false := hΦ 35 (by decide)
          clear hΦ hne
          simp only [List.getD_eq_getElem?_getD, List.getElem?_cons_zero, List.getElem?_cons_succ, Option.getD_some, List.drop_succ_cons, List.drop_zero]
          simp only [h35]
          clear h35
          try simp only [tuple_undef]
          replace hM := hM.adds hC
          clear hC hlog href hev hsm
          go_wp2_with fail
          go_roundw
          case rel => exact ⟨q + 1, by omega, by go_num, hM⟩
          case measure => simp [intOf]; omega
          --]
        · have hqi : ¬ (q : Int) < (m : Int) := by omega
          go_wp2_with (first | (go_at_call 34; (with_reducible refine (law16_fixed _).mono ?_); rintro _ _ ⟨rfl, B1⟩; replace hM := hM.adds B1; clear B1))
          go_ret
          exact ⟨rfl, hM.done⟩
end Go.Proofs.Ytejmbkljnhnklaa
