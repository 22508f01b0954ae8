/-
  What the chain's functions compute, in plain Lean.
  The walks of the chain's Extend.
  The walks of the reference's both and Extend; of number.
  The walks of the two numbers.
  The walks of the two Measures.
  The walks of the reference's event and Measure.
  The walk of the reference's Register.
  An append onto a row that is full: the grown row is owned.
  The walk of the reference's message.
  The walks of the reference's Quote and Check.
  The walk of the reference's Check.
  The walk of the reference's Zero.
  The walks of the chain's New.
-/
import Derived.Test.YtejmbkljnhnklaaPe
import Derived.Test.YtejmbkljnhnklaaPf
import Derived.Test.YtejmbkljnhnklaaPg
namespace Go.PK
/-- an event: its digest and its number -/
abbrev Ev : Type := List UInt8 × Int
namespace Chain
/-- the k low bytes of a number, the lowest ahead -/
def num (n : UInt64) (k : Nat) : List UInt8 := (List.range k).map fun i => (shr64 n (8 * i)).toUInt8
theorem num_len (n : UInt64) (k : Nat) : (num n k).length = k := by simp [num]
theorem num_succ (n : UInt64) (k : Nat) : num n (k + 1) = num n k ++ [(shr64 n (8 * k)).toUInt8] := by
  simp [num, List.range_succ]
/-- what a register and a hash come to -/
def ext (r x : List UInt8) : List UInt8 := Sha.of (r ++ x)
theorem ext_len (r x : List UInt8) : (ext r x).length = 32 := Sha.of_len _
/-- an event's bytes -/
def bytes (e : Ev) : List UInt8 := e.1 ++ num (UInt64.ofInt e.2) 8
/-- an event's hash -/
def meas (e : Ev) : List UInt8 := Sha.of (bytes e)
theorem meas_len (e : Ev) : (meas e).length = 32 := Sha.of_len _
/-- what events come to, from a register on -/
def regFrom (r : List UInt8) (l : List Ev) : List UInt8 := l.foldl (fun r e => ext r (meas e)) r
/-- what events come to -/
def reg (l : List Ev) : List UInt8 := regFrom (List.replicate 32 0) l
theorem regFrom_len (l : List Ev) : ∀ r : List UInt8, r.length = 32 → (regFrom r l).length = 32 := by
  induction l with
  | nil => exact fun r h => h
  | cons e l ih => exact fun r _ => ih _ (ext_len _ _)
theorem reg_len (l : List Ev) : (reg l).length = 32 := regFrom_len l _ (by simp)
theorem reg_snoc (l : List Ev) (e : Ev) : reg (l ++ [e]) = ext (reg l) (meas e) := by
  simp [reg, regFrom, List.foldl_append]
/-- what a quote is the tag of -/
def message (nonce : List UInt8) (l : List Ev) : List UInt8 :=
  [112, 111, 114, 116, 99, 117, 108, 108, 105, 115, 32, 113, 117, 111, 116, 101] ++ [0] ++ num (UInt64.ofInt nonce.length) 4 ++ nonce ++ num (UInt64.ofInt l.length) 4 ++ reg l
/-- a quote -/
def quote (key nonce : List UInt8) (l : List Ev) : List UInt8 := Mac.tag key (message nonce l)
theorem quote_len (key nonce : List UInt8) (l : List Ev) : (quote key nonce l).length = 32 := Mac.tag_len _ _
end Chain
end Go.PK

namespace Go.Proofs.Ytejmbkljnhnklaa
open Go.RowKit Go.PK
set_option maxRecDepth 100000 in
set_option maxHeartbeats 4000000 in
theorem chain_Extend (w0 : World) (r x : List UInt8) (hr : Len r 32) (hx : Len x 32) (T : List UInt8) (hT : Chain.ext r x = T) :
    Calls Try.prog 43 #[.agg (r.map B8).toArray, .agg (x.map B8).toArray] w0 fun e w' => e = .returned (.agg (T.map B8).toArray) ∧ Below w0.heap.size w0 w' := by
  have hTl : Len T 32 := by rw [← hT]; exact Len.of (Chain.ext_len _ _)
  have HT : ∀ _ : Unit, Sha.of (r ++ x) = T := fun _ => hT
  clear hT
  have hM := Mem.start w0
  go_enter Try.func43, Try.ntmps43
  go_wp2_with (first | ((with_reducible refine gL_box (dst := some 2) hM ?_); refine ⟨_, r.map B8, 32, rfl, rfl, (hr.map _), ?_⟩; intro g2 _ hM2; clear hM; have hM := hM2; clear hM2) | ((with_reducible refine gL_box (dst := some 3) hM ?_); refine ⟨_, x.map B8, 32, rfl, rfl, (hx.map _), ?_⟩; intro g3 _ hM2; clear hM; have hM := hM2; clear hM2) | ((first | ((with_reducible refine gL_alloc (dst := some 4) hM ?_); refine ⟨_, _, (zr_of rfl), ?_⟩) | ((with_reducible refine gL_box (dst := some 4) hM ?_); refine ⟨_, _, _, rfl, rfl, (by first | assumption | exact Len.map (by assumption) _ | rfl | exact Len.map (by rfl) _ | exact Len.of (by simp; done)), ?_⟩)); intro g4 _ hM2; clear hM; have hM := hM2; clear hM2))
  refine (sha_New _).mono ?_
  rintro _ w1 ⟨gs, rfl, hM3⟩
  replace hM := hM.addNew hM3.done (hM3.holds _ (.head _)) (hM3.mem_new (.head _))
  clear hM3
  go_wp2_with (first | ((with_reducible refine gL_slice ?_); refine ⟨_, slice_arr_all (ua_of rfl) (by exact elOne rfl), ?_⟩))
  have hne := hM.nodup
  have hRw := hM.rowN (.head _) rfl
  have hBs : Bytes w1 (.slice (some ⟨g2, 0, none⟩) 32 32) r := hM.whole (ob := some g2) (.tail _ (.tail _ (.tail _ (.head _)))) hr (by decide)
  refine (sha_Write _ gs _ [] hRw DigAt.start _ r hBs (fun _ a n' cap' he => by cases he; simp at hne ⊢; omega) (by have := hr.eq; simp; omega)).mono ?_
  rintro _ w2 ⟨rfl, C2, hT, hR2, hC2⟩
  rw [List.nil_append] at hC2
  replace hM := hM.calls (.here _ _ _) hT hR2 hC2.len
  clear hT hR2 hRw hBs
  go_wp2_with (first | ((with_reducible refine gL_slice ?_); refine ⟨_, slice_arr_all (ua_of rfl) (by exact elOne rfl), ?_⟩))
  have hRw := hM.rowN (.head _) hC2.len
  have hBs : Bytes w2 (.slice (some ⟨g3, 0, none⟩) 32 32) x := hM.whole (ob := some g3) (.tail _ (.tail _ (.head _))) hx (by decide)
  refine (sha_Write _ gs _ r hRw hC2 _ x hBs (fun _ a n' cap' he => by cases he; simp at hne ⊢; omega) (by have := hr.eq; have := hx.eq; omega)).mono ?_
  rintro _ w3 ⟨rfl, C3, hT, hR3, hC3⟩
  replace hM := hM.calls (.here _ _ _) hT hR3 hC3.len
  clear hT hR3 hRw hBs hne
  go_wp2_with fail
  have hRw := hM.rowN (.head _) hC3.len
  refine (sha_Sum _ gs C3 _ hRw hC3 (by have := hr.eq; have := hx.eq; simp; omega)).mono ?_
  rintro _ w5 ⟨rfl, hB⟩
  replace hM := hM.adds hB
  clear hB hRw
  rw [HT ()]
  go_wp2_with (first | ((with_reducible refine gL_store hM ?_); refine ⟨_, _, _, rfl, rfl, hM.stores_all (by (repeat (first | exact .here _ _ _ | apply Has.there)); done) (ag_of rfl) (hTl.map _) (by rfl) B8_one, ?_⟩; intro _ hM2; clear hM; have hM := hM2; clear hM2))
  exact hM.ret_cell rfl rfl rfl (.tail _ (.head _)) (ag_of rfl) (hTl.map _) ⟨rfl, hM.done⟩
end Go.Proofs.Ytejmbkljnhnklaa

namespace Go.Proofs.Ytejmbkljnhnklaa
open Go.RowKit Go.PK
theorem src_len {w : World} {u : Value} {n m : Nat} {l : List Value} (h : Src w u n l) (e : n = m) : Src w u m l := e ▸ h
set_option maxRecDepth 100000 in
set_option maxHeartbeats 4000000 in
theorem ref16_both (w0 : World) (r x : List UInt8) (hr : Len r 32) (hx : Len x 32) :
    Calls Try.prog 76 #[.agg (r.map B8).toArray, .agg (x.map B8).toArray] w0 fun e w' => ∃ v, e = .returned v ∧ Bytes w' v (r ++ x) ∧ Below w0.heap.size w0 w' := by
  have hM := Mem.start w0
  go_enter Try.func76, Try.ntmps76
  go_wp2_with (first
    | ((with_reducible refine gL_box (dst := some 2) hM ?_); refine ⟨_, r.map B8, 32, rfl, rfl, (hr.map _), ?_⟩; intro g2 _ hM2; clear hM; have hM := hM2; clear hM2) | ((with_reducible refine gL_box (dst := some 3) hM ?_); refine ⟨_, x.map B8, 32, rfl, rfl, (hx.map _), ?_⟩; intro g3 _ hM2; clear hM; have hM := hM2; clear hM2) | ((with_reducible refine gL_slice ?_); refine ⟨_, slice_arr_all (ua_of rfl) (by exact elOne rfl), ?_⟩)
    | ((with_reducible refine gL_buildEmpty hM ?_); refine ⟨_, _, _, (us_of rfl), (el_of rfl), ?_⟩; intro g5 _ hM2; clear hM; have hM := hM2; clear hM2)
    | ((with_reducible refine gL_append_B (dst := some 8) hM ?_); (refine ⟨_, _, some g5, 0, 0, 5, [], r, 32, fun ob' cap' => [⟨ob', 5, ([] ++ r).map B8, cap'⟩, _, _], rfl, rfl, rfl, (us_of rfl), (el_of rfl), (src_len (Bytes.src (hM.whole (ob := some g2) (.tail _ (.tail _ (.head _))) hr (by decide))) hr.eq), fun _ _ => .here _ _ _, rfl, hr, by decide, by omega, ?_⟩); intro ob1 cap1 _ hM2 hd1 hd2; clear hM; have hM := hM2; clear hM2)
    | ((with_reducible refine gL_append_B (dst := some 11) hM ?_); (refine ⟨_, _, ob1, 32, cap1, 5, [] ++ r, x, 32, fun ob' cap' => [⟨ob', 5, ([] ++ r ++ x).map B8, cap'⟩, _, _], rfl, rfl, rfl, (us_of rfl), (el_of rfl), (src_len (Bytes.src (hM.whole (ob := some g3) (.tail _ (.head _)) hx (by decide))) hx.eq), fun _ _ => .here _ _ _, hr, hx, hd2, by omega, ?_⟩); intro ob3 cap3 _ hM2 hd3 hd4; clear hM; have hM := hM2; clear hM2))

  go_ret
  have hlx : Len ([] ++ r ++ x) 64 := Len.of (by have := hr.eq; have := hx.eq; simp; omega)
  obtain ⟨g7, hg7⟩ := hM.some_of (.head _) (hlx.map B8) (by omega)
  subst hg7
  exact ⟨_, rfl, hM.whole (ob := some g7) (.head _) hlx hd4, hM.done⟩
set_option maxRecDepth 100000 in
set_option maxHeartbeats 4000000 in
theorem ref16_Extend (w0 : World) (r x : List UInt8) (hr : Len r 32) (hx : Len x 32) (T : List UInt8) (hT : Chain.ext r x = T) :
    Calls Try.prog 44 #[.agg (r.map B8).toArray, .agg (x.map B8).toArray] w0 fun e w' => e = .returned (.agg (T.map B8).toArray) ∧ Below w0.heap.size w0 w' := by
  have hTl : Len T 32 := by rw [← hT]; exact Len.of (Chain.ext_len _ _)
  have HT : ∀ _ : Unit, Sha.of (r ++ x) = T := fun _ => hT
  clear hT
  have hlx : (r ++ x).length ≤ 140737488355000 := by have := hr.eq; have := hx.eq; simp; omega
  have hM := Mem.start w0
  go_enter Try.func44, Try.ntmps44
  go_wp2_with (first
    | ((with_reducible refine gL_box (dst := some 2) hM ?_); refine ⟨_, r.map B8, 32, rfl, rfl, (hr.map _), ?_⟩; intro g2 _ hM2; clear hM; have hM := hM2; clear hM2)
    | ((with_reducible refine gL_box (dst := some 3) hM ?_); refine ⟨_, x.map B8, 32, rfl, rfl, (hx.map _), ?_⟩; intro g3 _ hM2; clear hM; have hM := hM2; clear hM2)
    | ((first | ((with_reducible refine gL_alloc (dst := some 4) hM ?_); refine ⟨_, _, (zr_of rfl), ?_⟩) | ((with_reducible refine gL_box (dst := some 4) hM ?_); refine ⟨_, _, _, rfl, rfl, (by first | assumption | exact Len.map (by assumption) _ | rfl | exact Len.map (by rfl) _ | exact Len.of (by simp; done)), ?_⟩)); intro g4 _ hM2; clear hM; have hM := hM2; clear hM2)
    | ((with_reducible refine gL_load (dst := some 6) ?_); refine ⟨_, _, rfl, hM.loads_all (.tail _ (.tail _ (.head _))) (ag_of rfl) (hr.map _), ?_⟩)
    | ((with_reducible refine gL_load (dst := some 7) ?_); refine ⟨_, _, rfl, hM.loads_all (.tail _ (.head _)) (ag_of rfl) (hx.map _), ?_⟩)
    | (go_at_call 76; (with_reducible refine (ref16_both _ r x hr hx).mono ?_); rintro _ _ ⟨vb, rfl, hvb, B1⟩; replace hM := hM.adds B1; clear B1)
    | (go_at_call 19; (with_reducible refine (ref02_Of _ vb (r ++ x) hvb hlx).mono ?_); rintro _ _ ⟨rfl, B1⟩; replace hM := hM.adds B1; clear B1; rw [HT ()])
    | ((with_reducible refine gL_store hM ?_); refine ⟨_, _, _, rfl, rfl, hM.stores_all (by (repeat (first | exact .here _ _ _ | apply Has.there)); done) (ag_of rfl) (hTl.map _) (by rfl) B8_one, ?_⟩; intro _ hM2; clear hM; have hM := hM2; clear hM2))
  exact hM.ret_cell rfl rfl rfl (by (repeat (first | exact .head _ | apply List.Mem.tail)); done) (ag_of rfl) (hTl.map _) ⟨rfl, hM.done⟩
end Go.Proofs.Ytejmbkljnhnklaa

namespace Go.Proofs.Ytejmbkljnhnklaa
open Go.RowKit Go.PK
theorem shr64_8 (n : UInt64) (k : Nat) (t : TypeId) : binOp .shr t (W64 n) (.int .i64 (8 * (k : Int))) = pure (W64 (shr64 n (8 * k))) := by exact_mod_cast bin_shr_W64_nat t n .i64 (8 * k)
set_option maxRecDepth 100000 in
set_option maxHeartbeats 4000000 in
theorem ref16_number {w0 w : World} {L : List Blk} (ob : Option Nat) (l : List UInt8) (m cap : Nat) (hl : Len l m) (hmc : m ≤ cap) (hcap : cap ≤ maxLen) (hM : Mem [] w0 w (⟨ob, 5, l.map B8, cap⟩ :: L)) (n : UInt64) (k : Nat) (hk8 : k ≤ 8) (hm : m ≤ 140737488355000) :
    Calls Try.prog 92 #[sl ob m cap, W64 n, .int .i64 k] w fun e w' => ∃ ob' cap', e = .returned (sl ob' (m + k) cap') ∧ m + k ≤ cap' ∧ cap' ≤ maxLen ∧ Mem [] w0 w' (⟨ob', 5, (l ++ Chain.num n k).map B8, cap'⟩ :: L) := by
  go_enter Try.func92, Try.ntmps92
  go_wp2_with fail
  go_loopw [0, 7] (fun p i wr => ∃ (j : Nat) (ob' : Option Nat) (cap' : Nat), j ≤ k ∧ i = .int .i64 j ∧ p = sl ob' (m + j) cap' ∧ m + j ≤ cap' ∧ cap' ≤ maxLen ∧ Mem [] w0 wr (⟨ob', 5, (l ++ Chain.num n j).map B8, cap'⟩ :: L)) (fun _ i _ => k - (intOf i).toNat)
  case atStart => exact ⟨0, ob, cap, by omega, rfl, rfl, hmc, hcap, by rw [show l ++ Chain.num n 0 = l from List.append_nil l]; exact hM⟩
  case round =>
    clear hM hmc hcap
    obtain ⟨j, ob', cap', hj, rfl, rfl, hmc, hcap, hM⟩ := hrel
    have hl3 : Len (l ++ Chain.num n j) (m + j) := Len.of (by rw [List.length_append, Chain.num_len, hl.eq])
    have hX1 : ∀ _ : Unit, l ++ Chain.num n j ++ [(shr64 n (8 * j)).toUInt8] = l ++ Chain.num n (j + 1) := fun _ => by rw [Chain.num_succ, List.append_assoc]
    have hsh := shr64_8 n j
    obtain ⟨A, hA⟩ : ∃ A, A = l ++ Chain.num n j := ⟨_, rfl⟩
    rw [← hA] at hM hl3 hX1
    have HA : ∀ _ : Unit, A = l ++ Chain.num n j := fun _ => hA
    clear hA
    by_cases hlt : j < k
    · have hti : (j : Int) < (k : Int) := by omega
      go_wp2_with (first
        | ((with_reducible refine gL_append_B hM ?_); refine ⟨_, _, ob', m + j, cap', 5, A, [(shr64 n (8 * j)).toUInt8], 1, fun ob' cap' => _ :: ⟨ob', 5, (A ++ [(shr64 n (8 * j)).toUInt8]).map B8, cap'⟩ :: L, rfl, rfl, rfl, (us_of rfl), (el_of rfl), hM.src (.head _), fun _ _ => .there _ (.here _ _ _), hl3, rfl, hcap, by omega, ?_⟩; intro ob1 cap1 _ hM2 hd1 hd2; clear hM; have hM := hM2; clear hM2) | go_skip | ((first | (with_reducible refine gL_load ?_) | ((with_reducible refine gG_load ?_ ?_); (exact wanted_of rfl rfl rfl rfl rfl))); refine ⟨_, _, rfl, (by (first | (assumption) | (exact hM.loads_B8 (by (repeat (first | exact .head _ | apply List.Mem.tail)); done) (on_of rfl) (by first | omega | (simp only [Len] at *; omega) | (simp; omega))) | (exact hM.loads_all (by (repeat (first | exact .head _ | apply List.Mem.tail)); done) (ag_of rfl) (by first | assumption | exact Len.map (by assumption) _ | rfl | exact Len.map (by rfl) _ | exact Len.of (by simp; done))) | (exact hM.loads_one (by (repeat (first | exact .head _ | apply List.Mem.tail)); done) (on_of rfl) rfl) | (exact hM.loads_W32 (by (repeat (first | exact .head _ | apply List.Mem.tail)); done) (on_of rfl) (by first | omega | (simp only [Len] at *; omega) | (simp; omega))) | (exact loads_cell (by assumption) (on_of rfl)))), ?_⟩) | ((with_reducible refine gL_store hM ?_); refine ⟨_, _, _, rfl, rfl, (by (first | (exact hM.stores_B8 (by first | exact (rfl : B8 _ = B8 _) | exact lit8 _ (by decide)) (by (repeat (first | exact .here _ _ _ | apply Has.there)); done) (on_of rfl) (by first | omega | (simp only [Len] at *; omega) | (simp; omega))) | (exact hM.stores_all (by (repeat (first | exact .here _ _ _ | apply Has.there)); done) (ag_of rfl) (by first | assumption | exact Len.map (by assumption) _ | rfl | exact Len.map (by rfl) _ | exact Len.of (by simp; done)) (by first | assumption | exact Len.map (by assumption) _ | rfl | exact Len.map (by rfl) _ | exact Len.of (by simp; done)) (by first | exact B8_one | exact W32_one | exact one_of_all rfl)) | (exact hM.stores_W32 rfl (by (repeat (first | exact .here _ _ _ | apply Has.there)); done) (on_of rfl) (by first | omega | (simp only [Len] at *; omega) | (simp; omega))) | (exact hM.stores_one (by (repeat (first | exact .here _ _ _ | apply Has.there)); done) (on_of rfl) (by first | omega | (simp only [Len] at *; omega) | (simp; omega)) rfl rfl))), ?_⟩; intro _ hM2; clear hM; have hM := hM2; clear hM2) | ((with_reducible refine gL_alloc hM ?_); refine ⟨_, _, (zr_of rfl), ?_⟩; intro _ _ hM2; clear hM; have hM := hM2; clear hM2) | ((with_reducible refine gL_box hM ?_); refine ⟨_, _, _, rfl, rfl, (by first | assumption | exact Len.map (by assumption) _ | rfl | exact Len.map (by rfl) _ | exact Len.of (by simp; done)), ?_⟩; intro _ _ hM2; clear hM; have hM := hM2; clear hM2) | ((with_reducible refine gL_build0 ?_); refine ⟨_, _, _, _, _, _, (zr_of rfl), (ua_of rfl), (ag_of rfl), (el_of rfl), ?_⟩) | ((with_reducible refine gL_buildBytes hM ?_); refine ⟨_, _, (us_of rfl), (el_of rfl), (by decide), (by decide), rfl, (by (repeat (first | exact EvB.nil | apply EvB.cons rfl (by first | exact (rfl : B8 _ = B8 _) | exact lit8 _ (by decide)))); done), ?_⟩; intro _ _ hM2; clear hM; have hM := hM2; clear hM2) | ((with_reducible refine gL_append_B hM ?_); refine ⟨_, _, _, _, _, _, _, _, _, _, rfl, rfl, (by first | exact (rfl : Value.slice (some ⟨_, 0, none⟩) _ _ = sl (some _) _ _) | exact (rfl : Value.slice none _ _ = sl none _ _) | rfl), (us_of rfl), (el_of rfl), (by first | exact hM.src (by (repeat (first | exact .head _ | apply List.Mem.tail)); done) | exact (hM.bytes0 (by assumption)).src), (fun _ _ => by (repeat (first | exact .here _ _ _ | apply Swap.there)); done), (by first | assumption | exact Len.map (by assumption) _ | rfl | exact Len.map (by rfl) _ | exact Len.of (by simp; done)), (by first | assumption | exact Len.map (by assumption) _ | rfl | exact Len.map (by rfl) _ | exact Len.of (by simp; done)), (by first | assumption | (simp [maxLen]; done) | omega | (simp [maxLen]; omega)), (by first | omega | (simp only [Len] at *; omega) | (simp; omega)), ?_⟩; intro _ _ _ hM2 _ _; clear hM; have hM := hM2; clear hM2) | ((first | (with_reducible refine gL_field ?_) | ((with_reducible refine gG_field ?_ ?_); (exact wanted_of rfl rfl rfl rfl rfl))); refine ⟨_, _, rfl, (by (first | (exact field_one (fb_of rfl) rfl) | (exact field_agg (fa_of rfl) rfl))), ?_⟩))
      have hM1 := hM.drop
      rw [hX1 ()] at hM1
      go_roundw
      case rel => exact ⟨j + 1, ob1, cap1, by omega, by go_num, rfl, by omega, hd2, hM1⟩
      case measure => simp [intOf]; omega
    · have hje : j = k := by omega
      subst hje
      go_wp2_with fail
      go_ret
      rw [HA ()] at hM
      exact ⟨ob', cap', rfl, hmc, hcap, hM⟩
theorem num_set (n : UInt64) (k j : Nat) (hj : j < k) : (Chain.num n j ++ List.replicate (k - j) 0).set j (shr64 n (8 * j)).toUInt8 = Chain.num n (j + 1) ++ List.replicate (k - (j + 1)) 0 := by
  rw [List.set_append_right _ _ (by rw [Chain.num_len]; exact Nat.le_refl _), Chain.num_len, Nat.sub_self, show k - j = (k - (j + 1)) + 1 from by omega, List.replicate_succ, List.set_cons_zero, Chain.num_succ, List.append_assoc]
  rfl
set_option maxRecDepth 100000 in
set_option maxHeartbeats 4000000 in
theorem chain_number (w : World) (n : UInt64) (k : Nat) (hk8 : k ≤ 8) :
    Calls Try.prog 77 #[W64 n, .int .i64 k] w fun e w' => ∃ g, e = .returned (.slice (some ⟨g, 0, none⟩) k k) ∧ Mem [] w w' [⟨some g, 5, (Chain.num n k).map B8, k⟩] := by
  have hM := Mem.start w
  go_enter Try.func77, Try.ntmps77
  go_wp2_with (first
    | (at_make; (refine wpList_make_one rfl (.tmp 7) (.tmp 7) 22 rfl 5 (B8 0) 1 Try.underlying22 (by rfl) rfl k k rfl rfl (Nat.le_refl _) (by omega) (by omega) ?_); replace hM := hM.alloc (List.replicate k (B8 0)) 5))
  obtain ⟨w1, hw1⟩ : ∃ w1, w1 = w.alloc (.cells (List.replicate k (B8 0)).toArray 5) := ⟨_, rfl⟩
  rw [show w.alloc (.cells (Array.replicate k (B8 0)) 5) = w1 from by rw [hw1, List.toArray_replicate]]
  rw [← hw1] at hM
  clear hw1
  obtain ⟨g, hg⟩ : ∃ g, g = w.heap.size := ⟨_, rfl⟩
  rw [← hg] at hM ⊢
  clear hg
  rw [List.length_replicate, show List.replicate k (B8 0) = (Chain.num n 0 ++ List.replicate (k - 0) 0).map B8 from by rw [show Chain.num n 0 = [] from rfl, List.nil_append, List.map_replicate]; rfl] at hM
  go_loopw [6, 11] (fun _ i wr => ∃ (j : Nat), j ≤ k ∧ i = .int .i64 j ∧ Mem [] w wr [⟨some g, 5, (Chain.num n j ++ List.replicate (k - j) 0).map B8, k⟩]) (fun _ i _ => k - (intOf i).toNat)
  case atStart => exact ⟨0, by omega, rfl, hM⟩
  case round =>
    clear hM
    obtain ⟨j, hj, rfl, hM⟩ := hrel
    have hl3 : Len (Chain.num n j ++ List.replicate (k - j) 0) k := Len.of (by rw [List.length_append, Chain.num_len, List.length_replicate]; omega)
    have hX1 : j < k → (Chain.num n j ++ List.replicate (k - j) 0).set j (shr64 n (8 * j)).toUInt8 = Chain.num n (j + 1) ++ List.replicate (k - (j + 1)) 0 := num_set n k j
    have HE : j = k → Chain.num n j ++ List.replicate (k - j) 0 = Chain.num n k := fun h => by rw [h, Nat.sub_self]; exact List.append_nil _
    have hsh := shr64_8 n j
    generalize Chain.num n j ++ List.replicate (k - j) 0 = A at *
    by_cases hlt : j < k
    · have hti : (j : Int) < (k : Int) := by omega
      have hX2 := hX1 hlt
      clear hX1 HE
      go_wp2_with (first | go_skip | ((first | (with_reducible refine gL_load ?_) | ((with_reducible refine gG_load ?_ ?_); (exact wanted_of rfl rfl rfl rfl rfl))); refine ⟨_, _, rfl, (by (first | (assumption) | (exact hM.loads_B8 (by (repeat (first | exact .head _ | apply List.Mem.tail)); done) (on_of rfl) (by first | omega | (simp only [Len] at *; omega) | (simp; omega))) | (exact hM.loads_all (by (repeat (first | exact .head _ | apply List.Mem.tail)); done) (ag_of rfl) (by first | assumption | exact Len.map (by assumption) _ | rfl | exact Len.map (by rfl) _ | exact Len.of (by simp; done))) | (exact hM.loads_one (by (repeat (first | exact .head _ | apply List.Mem.tail)); done) (on_of rfl) rfl) | (exact hM.loads_W32 (by (repeat (first | exact .head _ | apply List.Mem.tail)); done) (on_of rfl) (by first | omega | (simp only [Len] at *; omega) | (simp; omega))) | (exact loads_cell (by assumption) (on_of rfl)))), ?_⟩) | ((with_reducible refine gL_store hM ?_); refine ⟨_, _, _, rfl, rfl, (by (first | (exact hM.stores_B8 (by first | exact (rfl : B8 _ = B8 _) | exact lit8 _ (by decide)) (by (repeat (first | exact .here _ _ _ | apply Has.there)); done) (on_of rfl) (by first | omega | (simp only [Len] at *; omega) | (simp; omega))) | (exact hM.stores_all (by (repeat (first | exact .here _ _ _ | apply Has.there)); done) (ag_of rfl) (by first | assumption | exact Len.map (by assumption) _ | rfl | exact Len.map (by rfl) _ | exact Len.of (by simp; done)) (by first | assumption | exact Len.map (by assumption) _ | rfl | exact Len.map (by rfl) _ | exact Len.of (by simp; done)) (by first | exact B8_one | exact W32_one | exact one_of_all rfl)) | (exact hM.stores_W32 rfl (by (repeat (first | exact .here _ _ _ | apply Has.there)); done) (on_of rfl) (by first | omega | (simp only [Len] at *; omega) | (simp; omega))) | (exact hM.stores_one (by (repeat (first | exact .here _ _ _ | apply Has.there)); done) (on_of rfl) (by first | omega | (simp only [Len] at *; omega) | (simp; omega)) rfl rfl))), ?_⟩; intro _ hM2; clear hM; have hM := hM2; clear hM2) | ((with_reducible refine gL_alloc hM ?_); refine ⟨_, _, (zr_of rfl), ?_⟩; intro _ _ hM2; clear hM; have hM := hM2; clear hM2) | ((with_reducible refine gL_box hM ?_); refine ⟨_, _, _, rfl, rfl, (by first | assumption | exact Len.map (by assumption) _ | rfl | exact Len.map (by rfl) _ | exact Len.of (by simp; done)), ?_⟩; intro _ _ hM2; clear hM; have hM := hM2; clear hM2) | ((with_reducible refine gL_build0 ?_); refine ⟨_, _, _, _, _, _, (zr_of rfl), (ua_of rfl), (ag_of rfl), (el_of rfl), ?_⟩) | ((with_reducible refine gL_buildBytes hM ?_); refine ⟨_, _, (us_of rfl), (el_of rfl), (by decide), (by decide), rfl, (by (repeat (first | exact EvB.nil | apply EvB.cons rfl (by first | exact (rfl : B8 _ = B8 _) | exact lit8 _ (by decide)))); done), ?_⟩; intro _ _ hM2; clear hM; have hM := hM2; clear hM2) | ((with_reducible refine gL_append_B hM ?_); refine ⟨_, _, _, _, _, _, _, _, _, _, rfl, rfl, (by first | exact (rfl : Value.slice (some ⟨_, 0, none⟩) _ _ = sl (some _) _ _) | exact (rfl : Value.slice none _ _ = sl none _ _) | rfl), (us_of rfl), (el_of rfl), (by first | exact hM.src (by (repeat (first | exact .head _ | apply List.Mem.tail)); done) | exact (hM.bytes0 (by assumption)).src), (fun _ _ => by (repeat (first | exact .here _ _ _ | apply Swap.there)); done), (by first | assumption | exact Len.map (by assumption) _ | rfl | exact Len.map (by rfl) _ | exact Len.of (by simp; done)), (by first | assumption | exact Len.map (by assumption) _ | rfl | exact Len.map (by rfl) _ | exact Len.of (by simp; done)), (by first | assumption | (simp [maxLen]; done) | omega | (simp [maxLen]; omega)), (by first | omega | (simp only [Len] at *; omega) | (simp; omega)), ?_⟩; intro _ _ _ hM2 _ _; clear hM; have hM := hM2; clear hM2) | ((first | (with_reducible refine gL_field ?_) | ((with_reducible refine gG_field ?_ ?_); (exact wanted_of rfl rfl rfl rfl rfl))); refine ⟨_, _, rfl, (by (first | (exact field_one (fb_of rfl) rfl) | (exact field_agg (fa_of rfl) rfl))), ?_⟩))
      go_roundw
      case rel => exact ⟨j + 1, by omega, by go_num, by rw [← hX2]; simpa using hM⟩
      case measure => simp [intOf]; omega
    · have hje : j = k := by omega
      have hX2 := HE hje
      clear hX1 HE
      subst hje
      go_wp2_with fail
      go_ret
      rw [hX2] at hM
      exact ⟨g, rfl, hM⟩
end Go.Proofs.Ytejmbkljnhnklaa

namespace Go.Proofs.Ytejmbkljnhnklaa
open Go.RowKit Go.PK
/-- an event's cells -/
def evC (e : Ev) : List Value := e.1.map B8 ++ [.int .i64 e.2]
theorem evC_len {e : Ev} (h : Len e.1 32) : Len (evC e) 33 := Len.of (by rw [evC, List.length_append, List.length_map, h.eq]; rfl)
theorem evC_dig {w : World} {g : Nat} {t : TypeId} {e : Ev} (h : Len e.1 32) (hR : Row w g t (evC e)) : Bytes w (.slice (some ⟨g, 0, none⟩) 32 32) e.1 := by
  refine ⟨some ⟨g, 0, none⟩, 32, by rw [h.eq], by rw [h.eq]; exact Nat.le_refl _, by decide, (fun h => by cases h), fun j hj => ⟨g, 0, rfl, hR.lt, ?_⟩⟩
  rw [hR.cell?, evC, Nat.zero_add, List.getElem?_append_left (by simpa using hj)]
  exact get_map 0 hj
theorem evC_num {w : World} {g : Nat} {t : TypeId} {e : Ev} (h : Len e.1 32) (hR : Row w g t (evC e)) : Loads Try.prog w 62 ⟨g, 32, none⟩ (.int .i64 e.2) :=
  loads_cell (by rw [hR.cell?, evC, List.getElem?_append_right (by rw [List.length_map, h.eq]; exact Nat.le_refl _), List.length_map, h.eq]; rfl) (on_of rfl)
set_option maxRecDepth 100000 in
set_option maxHeartbeats 4000000 in
theorem chain_Measure (w0 : World) (e : Ev) (he : Len e.1 32) (T : List UInt8) (hT : Chain.meas e = T) :
    Calls Try.prog 45 #[.agg (evC e).toArray] w0 fun e w' => e = .returned (.agg (T.map B8).toArray) ∧ Below w0.heap.size w0 w' := by
  have hTl : Len T 32 := by rw [← hT]; exact Len.of (Chain.meas_len _)
  have HT : ∀ _ : Unit, Sha.of (e.1 ++ Chain.num (UInt64.ofInt e.2) 8) = T := fun _ => hT
  have hcl := evC_len he
  have hdig : ∀ w g t, Row w g t (evC e) → _ := fun w g t hR => evC_dig he hR
  have hnum : ∀ w g t, Row w g t (evC e) → _ := fun w g t hR => evC_num he hR
  clear hT
  have hnb : ∀ w, _ := fun w => chain_number w (UInt64.ofInt e.2) 8 (by decide)
  obtain ⟨N, hNn⟩ : ∃ N, Chain.num (UInt64.ofInt e.2) 8 = N := ⟨_, rfl⟩
  have hN : Len N 8 := by rw [← hNn]; exact Len.of (Chain.num_len _ _)
  rw [hNn] at hnb HT
  clear hNn
  generalize evC e = C at *
  generalize e.1 = d at *
  generalize e.2 = z at *
  have hM := Mem.start w0
  go_enter Try.func45, Try.ntmps45
  go_wp2_with (first
    | ((with_reducible refine gL_box (dst := some 1) hM ?_); refine ⟨_, C, 33, rfl, rfl, hcl, ?_⟩; intro g1 _ hM2; clear hM; have hM := hM2; clear hM2)
    | ((first | ((with_reducible refine gL_alloc (dst := some 2) hM ?_); refine ⟨_, _, (zr_of rfl), ?_⟩) | ((with_reducible refine gL_box (dst := some 2) hM ?_); refine ⟨_, _, _, rfl, rfl, (by first | assumption | exact Len.map (by assumption) _ | rfl | exact Len.map (by rfl) _ | exact Len.of (by simp; done)), ?_⟩)); intro g2 _ hM2; clear hM; have hM := hM2; clear hM2))
  refine (sha_New _).mono ?_
  rintro _ w1 ⟨gs, rfl, hM3⟩
  replace hM := hM.addNew hM3.done (hM3.holds _ (.head _)) (hM3.mem_new (.head _))
  clear hM3
  have hne := hM.nodup
  go_wp2_with (first | ((with_reducible refine gL_slice ?_); refine ⟨_, slice_arr_all (ua_of rfl) (by exact elOne rfl), ?_⟩))
  have hRw := hM.rowN (.head _) rfl
  have hBs := hdig _ _ _ (hM.rowN (.tail _ (.tail _ (.head _))) hcl)
  refine (sha_Write _ gs _ [] hRw DigAt.start _ d hBs (fun _ a n' cap' he => by cases he; simp at hne ⊢; omega) (by have := he.eq; simp; omega)).mono ?_
  rintro _ w2 ⟨rfl, C2, hT, hR2, hC2⟩
  rw [List.nil_append] at hC2
  replace hM := hM.calls (.here _ _ _) hT hR2 hC2.len
  clear hT hR2 hRw hBs
  have hld := hnum _ _ _ (hM.rowN (.tail _ (.tail _ (.head _))) hcl)
  go_wp2_with (first | ((with_reducible refine gL_load ?_); refine ⟨_, _, rfl, hld, ?_⟩))
  refine (hnb _).mono ?_
  rintro _ w3 ⟨gn, rfl, hM3⟩
  replace hM := hM.addNew hM3.done (hM3.holds _ (.head _)) (hM3.mem_new (.head _))
  clear hM3 hnb
  have hne := hM.nodup
  go_wp2_with fail
  have hRw := hM.rowN (.tail _ (.head _)) hC2.len
  have hBs : Bytes w3 (.slice (some ⟨gn, 0, none⟩) 8 8) N := hM.whole (ob := some gn) (.head _) hN (by decide)
  refine (sha_Write _ gs _ d hRw hC2 _ N hBs (fun _ a n' cap' he => by cases he; simp at hne ⊢; omega) (by have := he.eq; have := hN.eq; omega)).mono ?_
  rintro _ w4 ⟨rfl, C3, hT, hR3, hC3⟩
  replace hM := hM.calls (.there _ (.here _ _ _)) hT hR3 hC3.len
  clear hT hR3 hRw hBs hne
  go_wp2_with fail
  have hRw := hM.rowN (.tail _ (.head _)) hC3.len
  refine (sha_Sum _ gs C3 _ hRw hC3 (by have := he.eq; have := hN.eq; simp; omega)).mono ?_
  rintro _ w5 ⟨rfl, hB⟩
  replace hM := hM.adds hB
  clear hB hRw
  rw [HT ()]
  go_wp2_with (first | ((with_reducible refine gL_store hM ?_); refine ⟨_, _, _, rfl, rfl, hM.stores_all (by (repeat (first | exact .here _ _ _ | apply Has.there)); done) (ag_of rfl) (hTl.map _) (by rfl) B8_one, ?_⟩; intro _ hM2; clear hM; have hM := hM2; clear hM2))
  exact hM.ret_cell rfl rfl rfl (by (repeat (first | exact .head _ | apply List.Mem.tail)); done) (ag_of rfl) (hTl.map _) ⟨rfl, hM.done⟩
end Go.Proofs.Ytejmbkljnhnklaa

namespace Go.Proofs.Ytejmbkljnhnklaa
open Go.RowKit Go.PK
set_option maxRecDepth 100000 in
set_option maxHeartbeats 4000000 in
theorem ref16_event (w0 : World) (e : Ev) (he : Len e.1 32) :
    Calls Try.prog 78 #[.agg (evC e).toArray] w0 fun x w' => ∃ v, x = .returned v ∧ Bytes w' v (Chain.bytes e) ∧ Below w0.heap.size w0 w' := by
  have hcl := evC_len he
  have hdig : ∀ w g t, Row w g t (evC e) → _ := fun w g t hR => evC_dig he hR
  have hnum : ∀ w g t, Row w g t (evC e) → _ := fun w g t hR => evC_num he hR
  have hB : ∀ _ : Unit, Chain.bytes e = [] ++ e.1 ++ Chain.num (UInt64.ofInt e.2) 8 := fun _ => rfl
  have hBl : Len ([] ++ e.1 ++ Chain.num (UInt64.ofInt e.2) 8) 40 := Len.of (by have := he.eq; rw [List.length_append, Chain.num_len, List.nil_append]; omega)
  generalize evC e = C at *
  rw [hB ()]
  clear hB
  generalize e.1 = d at *
  generalize e.2 = z at *
  have hM := Mem.start w0
  go_enter Try.func78, Try.ntmps78
  go_wp2_with (first
    | ((with_reducible refine gL_box (dst := some 1) hM ?_); refine ⟨_, C, 33, rfl, rfl, hcl, ?_⟩; intro g1 _ hM2; clear hM; have hM := hM2; clear hM2)
    | ((with_reducible refine gL_slice ?_); refine ⟨_, slice_arr_all (ua_of rfl) (by exact elOne rfl), ?_⟩)
    | ((with_reducible refine gL_buildEmpty hM ?_); refine ⟨_, _, _, (us_of rfl), (el_of rfl), ?_⟩; intro g5 _ hM2; clear hM; have hM := hM2; clear hM2)
    | ((with_reducible refine gL_append_B (dst := some 7) hM ?_); (refine ⟨_, _, some g5, 0, 0, 5, [], d, 32, fun ob' cap' => [⟨ob', 5, ([] ++ d).map B8, cap'⟩, _], rfl, rfl, rfl, (us_of rfl), (el_of rfl), (src_len (Bytes.src (hdig _ _ _ (hM.rowN (.tail _ (.head _)) hcl))) he.eq), fun _ _ => .here _ _ _, rfl, he, by decide, by omega, ?_⟩); intro ob1 cap1 _ hM2 hd1 hd2; clear hM; have hM := hM2; clear hM2)
    | ((with_reducible refine gL_load ?_); refine ⟨_, _, rfl, hnum _ _ _ (hM.rowN (.tail _ (.head _)) hcl), ?_⟩))
  refine (ref16_number ob1 ([] ++ d) 32 cap1 he hd1 hd2 hM (UInt64.ofInt z) 8 (by decide) (by decide)).mono ?_
  rintro _ w3 ⟨ob2, cap2, rfl, hd3, hd4, hM2⟩
  clear hM
  have hM := hM2
  clear hM2
  obtain ⟨g7, hg7⟩ := hM.some_of (.head _) (hBl.map B8) (by omega)
  subst hg7
  go_wp2_with fail
  go_ret
  exact ⟨_, rfl, hM.whole (ob := some g7) (.head _) hBl hd4, hM.done⟩
set_option maxRecDepth 100000 in
set_option maxHeartbeats 4000000 in
theorem ref16_Measure (w0 : World) (e : Ev) (he : Len e.1 32) (T : List UInt8) (hT : Chain.meas e = T) :
    Calls Try.prog 46 #[.agg (evC e).toArray] w0 fun x w' => x = .returned (.agg (T.map B8).toArray) ∧ Below w0.heap.size w0 w' := by
  have hTl : Len T 32 := by rw [← hT]; exact Len.of (Chain.meas_len _)
  have HT : ∀ _ : Unit, Sha.of (Chain.bytes e) = T := fun _ => hT
  have hbl : (Chain.bytes e).length ≤ 140737488355000 := by have := he.eq; rw [Chain.bytes, List.length_append, Chain.num_len]; omega
  clear hT
  have hcl := evC_len he
  have hev : ∀ w, _ := fun w => ref16_event w e he
  generalize evC e = C at *
  generalize Chain.bytes e = B at *
  have hM := Mem.start w0
  go_enter Try.func46, Try.ntmps46
  go_wp2_with (first
    | ((with_reducible refine gL_box (dst := some 1) hM ?_); refine ⟨_, C, 33, rfl, rfl, hcl, ?_⟩; intro g1 _ hM2; clear hM; have hM := hM2; clear hM2)
    | ((first | ((with_reducible refine gL_alloc (dst := some 2) hM ?_); refine ⟨_, _, (zr_of rfl), ?_⟩) | ((with_reducible refine gL_box (dst := some 2) hM ?_); refine ⟨_, _, _, rfl, rfl, (by first | assumption | exact Len.map (by assumption) _ | rfl | exact Len.map (by rfl) _ | exact Len.of (by simp; done)), ?_⟩)); intro g2 _ hM2; clear hM; have hM := hM2; clear hM2)
    | ((with_reducible refine gL_load (dst := some 4) ?_); refine ⟨_, _, rfl, hM.loads_all (.tail _ (.head _)) (ag_of rfl) hcl, ?_⟩)
    | (go_at_call 78; (with_reducible refine (hev _).mono ?_); rintro _ _ ⟨vb, rfl, hvb, B1⟩; replace hM := hM.adds B1; clear B1)
    | (go_at_call 19; (with_reducible refine (ref02_Of _ vb B hvb hbl).mono ?_); rintro _ _ ⟨rfl, B1⟩; replace hM := hM.adds B1; clear B1; rw [HT ()])
    | ((with_reducible refine gL_store hM ?_); refine ⟨_, _, _, rfl, rfl, hM.stores_all (by (repeat (first | exact .here _ _ _ | apply Has.there)); done) (ag_of rfl) (hTl.map _) (by rfl) B8_one, ?_⟩; intro _ hM2; clear hM; have hM := hM2; clear hM2))
  exact hM.ret_cell rfl rfl rfl (by (repeat (first | exact .head _ | apply List.Mem.tail)); done) (ag_of rfl) (hTl.map _) ⟨rfl, hM.done⟩
end Go.Proofs.Ytejmbkljnhnklaa

namespace Go.PK
open Go.RowKit
abbrev rEv : Rd Ev := rPair (rArr 32) rInt
namespace Chain
/-- a register of the first events -/
def regK (l : List Ev) (k : Nat) : List UInt8 := reg (l.take k)
theorem regK_len (l : List Ev) (k : Nat) : (regK l k).length = 32 := reg_len _
theorem regK_succ (l : List Ev) (k : Nat) (e : Ev) (h : l[k]? = some e) : regK l (k + 1) = ext (regK l k) (meas e) := by
  rw [regK, List.take_add_one, h, Option.toList_some, reg_snoc]
  rfl
end Chain
end Go.PK
namespace Go.Proofs.Ytejmbkljnhnklaa
open Go.RowKit Go.PK
theorem ev_K {w : World} {cs : List Value} {e : Ev} (h : rEv.K w cs e) : cs = evC e ∧ Len e.1 32 := by
  obtain ⟨c1, c2, rfl, ⟨rfl, h2⟩, h3⟩ := h
  obtain rfl : c2 = [.int .i64 e.2] := h3
  exact ⟨rfl, Len.of h2⟩
theorem ev_at {w : World} {ao : Option Addr} {l : List Ev} (h : Elems rEv w ao l) {k : Nat} (hk : k < l.length) :
    ∃ b off e, ao = some ⟨b, off, none⟩ ∧ l[k]? = some e ∧ Len e.1 32 ∧ Loads Try.prog w 64 ⟨b, off + k * 33, none⟩ (.agg (evC e).toArray) := by
  obtain ⟨b, off, g1, g2, cells, g3, g4⟩ := h k _ (List.getElem?_eq_getElem hk)
  obtain ⟨rfl, hl⟩ := ev_K g3
  refine ⟨b, off, _, g1, List.getElem?_eq_getElem hk, hl, loads_agg (n := 33) (ag_of rfl) (evC_len hl) fun j v hv => ?_⟩
  have hj : j < 33 := by
    have := (List.getElem?_eq_some_iff.1 hv).1
    rwa [(evC_len hl).eq] at this
  rw [Addr.add_lit, Nat.add_assoc]
  exact (g4 j hj).trans hv
set_option maxRecDepth 100000 in
set_option maxHeartbeats 4000000 in
theorem ref16_Register (w0 : World) (ao : Option Addr) (cap : Nat) (l : List Ev) (hE : Elems rEv w0 ao l) (hlen : l.length ≤ 140737488355000) (T : List UInt8) (hT : Chain.reg l = T) :
    Calls Try.prog 38 #[.slice ao l.length cap] w0 fun x w' => x = .returned (.agg (T.map B8).toArray) ∧ Below w0.heap.size w0 w' := by
  have hTl : Len T 32 := by rw [← hT]; exact Len.of (Chain.reg_len _)
  have HT : ∀ _ : Unit, Chain.regK l l.length = T := fun _ => by rw [← hT, Chain.regK, List.take_length]
  clear hT
  obtain ⟨n, hn⟩ : ∃ n, n = l.length := ⟨_, rfl⟩
  have hat : ∀ w, Adds w0 w → ∀ k, k < n → _ := fun w hw k hk => ev_at (hE.adds hw) (k := k) (by rw [← hn]; exact hk)
  rw [← hn] at HT hlen ⊢
  clear hn
  have hM := Mem.start w0
  go_enter Try.func38, Try.ntmps38
  go_wp2_with (first | ((first | ((with_reducible refine gL_alloc (dst := some 2) hM ?_); refine ⟨_, _, (zr_of rfl), ?_⟩) | ((with_reducible refine gL_box (dst := some 2) hM ?_); refine ⟨_, _, _, rfl, rfl, (by first | assumption | exact Len.map (by assumption) _ | rfl | exact Len.map (by rfl) _ | exact Len.of (by simp; done)), ?_⟩)); intro g2 _ hM2; clear hM; have hM := hM2; clear hM2) | ((first | ((with_reducible refine gL_alloc (dst := some 3) hM ?_); refine ⟨_, _, (zr_of rfl), ?_⟩) | ((with_reducible refine gL_box (dst := some 3) hM ?_); refine ⟨_, _, _, rfl, rfl, (by first | assumption | exact Len.map (by assumption) _ | rfl | exact Len.map (by rfl) _ | exact Len.of (by simp; done)), ?_⟩)); intro g3 _ hM2; clear hM; have hM := hM2; clear hM2) | go_skip | ((first | (with_reducible refine gL_load ?_) | ((with_reducible refine gG_load ?_ ?_); (exact wanted_of rfl rfl rfl rfl rfl))); refine ⟨_, _, rfl, (by (first | (assumption) | (exact hM.loads_B8 (by (repeat (first | exact .head _ | apply List.Mem.tail)); done) (on_of rfl) (by first | omega | (simp only [Len] at *; omega) | (simp; omega))) | (exact hM.loads_all (by (repeat (first | exact .head _ | apply List.Mem.tail)); done) (ag_of rfl) (by first | assumption | exact Len.map (by assumption) _ | rfl | exact Len.map (by rfl) _ | exact Len.of (by simp; done))) | (exact hM.loads_one (by (repeat (first | exact .head _ | apply List.Mem.tail)); done) (on_of rfl) rfl) | (exact hM.loads_W32 (by (repeat (first | exact .head _ | apply List.Mem.tail)); done) (on_of rfl) (by first | omega | (simp only [Len] at *; omega) | (simp; omega))) | (exact loads_cell (by assumption) (on_of rfl)))), ?_⟩) | ((with_reducible refine gL_store hM ?_); refine ⟨_, _, _, rfl, rfl, (by (first | (exact hM.stores_B8 (by first | exact (rfl : B8 _ = B8 _) | exact lit8 _ (by decide)) (by (repeat (first | exact .here _ _ _ | apply Has.there)); done) (on_of rfl) (by first | omega | (simp only [Len] at *; omega) | (simp; omega))) | (exact hM.stores_all (by (repeat (first | exact .here _ _ _ | apply Has.there)); done) (ag_of rfl) (by first | assumption | exact Len.map (by assumption) _ | rfl | exact Len.map (by rfl) _ | exact Len.of (by simp; done)) (by first | assumption | exact Len.map (by assumption) _ | rfl | exact Len.map (by rfl) _ | exact Len.of (by simp; done)) (by first | exact B8_one | exact W32_one | exact one_of_all rfl)) | (exact hM.stores_W32 rfl (by (repeat (first | exact .here _ _ _ | apply Has.there)); done) (on_of rfl) (by first | omega | (simp only [Len] at *; omega) | (simp; omega))) | (exact hM.stores_one (by (repeat (first | exact .here _ _ _ | apply Has.there)); done) (on_of rfl) (by first | omega | (simp only [Len] at *; omega) | (simp; omega)) rfl rfl))), ?_⟩; intro _ hM2; clear hM; have hM := hM2; clear hM2) | ((with_reducible refine gL_alloc hM ?_); refine ⟨_, _, (zr_of rfl), ?_⟩; intro _ _ hM2; clear hM; have hM := hM2; clear hM2) | ((with_reducible refine gL_box hM ?_); refine ⟨_, _, _, rfl, rfl, (by first | assumption | exact Len.map (by assumption) _ | rfl | exact Len.map (by rfl) _ | exact Len.of (by simp; done)), ?_⟩; intro _ _ hM2; clear hM; have hM := hM2; clear hM2) | ((with_reducible refine gL_build0 ?_); refine ⟨_, _, _, _, _, _, (zr_of rfl), (ua_of rfl), (ag_of rfl), (el_of rfl), ?_⟩) | ((with_reducible refine gL_buildBytes hM ?_); refine ⟨_, _, (us_of rfl), (el_of rfl), (by decide), (by decide), rfl, (by (repeat (first | exact EvB.nil | apply EvB.cons rfl (by first | exact (rfl : B8 _ = B8 _) | exact lit8 _ (by decide)))); done), ?_⟩; intro _ _ hM2; clear hM; have hM := hM2; clear hM2) | ((with_reducible refine gL_append_B hM ?_); refine ⟨_, _, _, _, _, _, _, _, _, _, rfl, rfl, (by first | exact (rfl : Value.slice (some ⟨_, 0, none⟩) _ _ = sl (some _) _ _) | exact (rfl : Value.slice none _ _ = sl none _ _) | rfl), (us_of rfl), (el_of rfl), (by first | exact hM.src (by (repeat (first | exact .head _ | apply List.Mem.tail)); done) | exact (hM.bytes0 (by assumption)).src), (fun _ _ => by (repeat (first | exact .here _ _ _ | apply Swap.there)); done), (by first | assumption | exact Len.map (by assumption) _ | rfl | exact Len.map (by rfl) _ | exact Len.of (by simp; done)), (by first | assumption | exact Len.map (by assumption) _ | rfl | exact Len.map (by rfl) _ | exact Len.of (by simp; done)), (by first | assumption | (simp [maxLen]; done) | omega | (simp [maxLen]; omega)), (by first | omega | (simp only [Len] at *; omega) | (simp; omega)), ?_⟩; intro _ _ _ hM2 _ _; clear hM; have hM := hM2; clear hM2) | ((first | (with_reducible refine gL_field ?_) | ((with_reducible refine gG_field ?_ ?_); (exact wanted_of rfl rfl rfl rfl rfl))); refine ⟨_, _, rfl, (by (first | (exact field_one (fb_of rfl) rfl) | (exact field_agg (fa_of rfl) rfl))), ?_⟩))
  have hz : List.replicate 32 (0 : UInt8) = Chain.regK l 0 := rfl
  rw [hz] at hM
  go_loopw [4] (fun i wr => ∃ (j : Nat), j ≤ n ∧ i = .int .i64 j ∧ Mem [] w0 wr [⟨some g3, 24, (Chain.regK l j).map B8, 32⟩, ⟨some g2, 24, (List.replicate 32 (0 : UInt8)).map B8, 32⟩]) (fun i _ => n - (intOf i).toNat)
  case atStart => exact ⟨0, by omega, rfl, hM⟩
  case round =>
    clear hM
    obtain ⟨j, hj, rfl, hM⟩ := hrel
    have hl3 : Len (Chain.regK l j) 32 := Len.of (Chain.regK_len _ _)
    have hX1 : ∀ e, l[j]? = some e → Chain.ext (Chain.regK l j) (Chain.meas e) = Chain.regK l (j + 1) := fun e he => (Chain.regK_succ l j e he).symm
    have HE : j = n → Chain.regK l j = T := fun h => by rw [h]; exact HT ()
    have hl4 : Len (Chain.regK l (j + 1)) 32 := Len.of (Chain.regK_len _ _)
    generalize hA : Chain.regK l j = A at *
    clear hA
    by_cases hlt : j < n
    · have hti : (j : Int) < (n : Int) := by omega
      obtain ⟨b, off, e, rfl, hje, hel, hld⟩ := hat _ hM.done j hlt
      have hX2 := hX1 e hje
      clear hX1 HE hat hje
      obtain ⟨M, hMM⟩ : ∃ M, Chain.meas e = M := ⟨_, rfl⟩
      have hMl : Len M 32 := by rw [← hMM]; exact Len.of (Chain.meas_len _)
      have hme : ∀ w, _ := fun w => ref16_Measure w e hel M hMM
      rw [hMM] at hX2
      clear hMM
      have hext : ∀ w, _ := fun w => ref16_Extend w A M hl3 hMl _ hX2
      clear hX2
      obtain ⟨A2, hA2⟩ : ∃ A2, A2 = Chain.regK l (j + 1) := ⟨_, rfl⟩
      rw [← hA2] at hext hl4
      have HA2 : ∀ _ : Unit, A2 = Chain.regK l (j + 1) := fun _ => hA2
      clear hA2
      generalize evC e = C at *
      go_wp2_with (first
        | ((with_reducible refine gL_load (dst := some 16) ?_); refine ⟨_, _, rfl, hld, ?_⟩)
        | (go_at_call 46; (with_reducible refine (hme _).mono ?_); rintro _ _ ⟨rfl, B1⟩; replace hM := hM.adds B1; clear B1)
        | ((first | ((with_reducible refine gL_alloc (dst := some 5) hM ?_); refine ⟨_, _, (zr_of rfl), ?_⟩) | ((with_reducible refine gL_box (dst := some 5) hM ?_); refine ⟨_, _, _, rfl, rfl, (by first | assumption | exact Len.map (by assumption) _ | rfl | exact Len.map (by rfl) _ | exact Len.of (by simp; done)), ?_⟩)); intro g5 _ hM2; clear hM; have hM := hM2; clear hM2)
        | ((with_reducible refine gL_store hM ?_); refine ⟨_, _, _, rfl, rfl, hM.stores_all (by (repeat (first | exact .here _ _ _ | apply Has.there)); done) (ag_of rfl) (hMl.map _) (by rfl) B8_one, ?_⟩; intro _ hM2; clear hM; have hM := hM2; clear hM2)
        | ((with_reducible refine gL_load (dst := some 18) ?_); refine ⟨_, _, rfl, hM.loads_all (.tail _ (.head _)) (ag_of rfl) (hl3.map _), ?_⟩)
        | ((with_reducible refine gL_load (dst := some 19) ?_); refine ⟨_, _, rfl, hM.loads_all (.head _) (ag_of rfl) (hMl.map _), ?_⟩)
        | (go_at_call 44; (with_reducible refine (hext _).mono ?_); rintro _ _ ⟨rfl, B1⟩; replace hM := hM.adds B1; clear B1)
        | ((with_reducible refine gL_store hM ?_); refine ⟨_, _, _, rfl, rfl, hM.stores_all (.there _ (.here _ _ _)) (ag_of rfl) (hl4.map _) (hl3.map _) B8_one, ?_⟩; intro _ hM2; clear hM; have hM := hM2; clear hM2))
      have hM1 := hM.drop
      rw [HA2 ()] at hM1
      go_roundw
      case rel => exact ⟨j + 1, by omega, by go_num, hM1⟩
      case measure => simp [intOf]; omega
    · have hje : j = n := by omega
      have hX2 := HE hje
      clear hX1 HE hat
      go_wp2_with (first
        | ((with_reducible refine gL_load (dst := some 21) ?_); refine ⟨_, _, rfl, hM.loads_all (.head _) (ag_of rfl) (hl3.map _), ?_⟩)
        | ((with_reducible refine gL_store hM ?_); refine ⟨_, _, _, rfl, rfl, hM.stores_all (by (repeat (first | exact .here _ _ _ | apply Has.there)); done) (ag_of rfl) (hl3.map _) (by rfl) B8_one, ?_⟩; intro _ hM2; clear hM; have hM := hM2; clear hM2))
      rw [← hX2]
      exact hM.ret_cell rfl rfl rfl (by (repeat (first | exact .head _ | apply List.Mem.tail)); done) (ag_of rfl) (hl3.map _) ⟨rfl, hM.done⟩
end Go.Proofs.Ytejmbkljnhnklaa

namespace Go.PK
open Go.RowKit
theorem wpList_append_full {P : Program} {w0 w : World} {G : List Nat} {L : List Blk} (hM : Mem G w0 w L) {ops : Array Oper} {rest : List Oper} {o : Oper} {a : Act} {Q : Exit → Act → World → Prop} (hg : o.guard = none) (s x : Operand) (t : TypeId)
    (hop : o.op = Op.call { callee := Callee.builtin Builtin.append, args := #[s, x], argTypes := #[t, t] }) {e : TypeId} (ht : P.underlying t = some (.slice e)) (hel : El P e 1 1)
    {b n m c : Nat} {ad : Addr} {l l2 : List UInt8} (hs : a.eval s = .slice (some ⟨b, 0, none⟩) n n) (hl : Len l n) (hl2 : Len l2 m) (hx : a.eval x = .slice (some ad) m c)
    (hB : ∀ j v, (l.map B8)[j]? = some v → w.cell? ⟨b, 0 + j, none⟩ = some v) (hB2 : ∀ j v, (l2.map B8)[j]? = some v → w.cell? (ad.add j) = some v) (hm : 0 < m) (hlen : n + m ≤ 140737488355328)
    (h : ∀ g cap' w', Mem G w0 w' (⟨some g, e, (l ++ l2).map B8, cap'⟩ :: L) → n + m ≤ cap' → cap' ≤ maxLen → wpList P ops Q rest (a.put o.dst (.slice (some ⟨g, 0, none⟩) (n + m) cap')) w') : wpList P ops Q (o :: rest) a w := by
  obtain ⟨z, hinfo, hzs, hsz⟩ := hel
  obtain ⟨i, hi, hz, hsize, hby⟩ := info_parts hinfo
  have hone : ∀ u ∈ l2.map B8, u.oneCell' = true := by
    intro u hu
    obtain ⟨c, _, rfl⟩ := List.mem_map.1 hu
    rfl
  refine wpList_append_arg w hg s x t hop e i z 1 1 ht hi hz hsize hby hzs (by decide) b 0 n n (l.map B8) hs (by rw [List.length_map, hl.eq, Nat.mul_one]) hB ad m c (l2.map B8) hx (by rw [List.length_map, hl2.eq, Nat.mul_one]) hB2 hone
    (fun hr j hj => by omega) (by simp only [maxLen]; omega) (by omega) (fun hr => by omega) (fun hr v' w' r1 r2 => ?_)
  have hA : Adds w w' := ⟨r2.os, r2.tape, r2.output, r2.size, fun k hk => r2.block k (by omega) (by simp)⟩
  rcases r1.2 with ⟨rfl, h0⟩ | ⟨g, cap', cur, rfl, hbg, hcell, hc1, hc2, hc3, hc4⟩
  · omega
  · rw [← List.map_append] at hc4
    refine h g cap' w' (hM.addNew hA ⟨cur.toList.drop ((n + m) * 1), ?_, ?_⟩ hbg) hc1 hc2
    · rw [hcell, ← hc4, List.take_append_drop]
    · simp only [List.length_map, List.length_append, hl.eq, hl2.eq, List.length_drop, Array.length_toList, hc3]
      omega
end Go.PK

namespace Go.PK
open Go.RowKit
theorem marked_old {w : World} {C B : Array Value} {e f : TypeId} {lo hi : Nat} {l : List UInt8} (hC : C = (l.map B8).toArray) (j : Nat) (v : Value) (hv : (l.map B8)[j]? = some v) : ((w.alloc (.cells C e (lo, hi))).alloc (.cells B f)).cell? ⟨w.heap.size, 0 + j, none⟩ = some v := by
  subst hC
  rw [World.cell?_alloc_past _ _ _ (by simp), Nat.zero_add, World.cell?_alloc_mark, List.getElem?_toArray, hv]
theorem marked_new {w : World} {B : Array Value} {O : Obj} {f : TypeId} {l : List UInt8} (hB : B = (l.map B8).toArray) (j : Nat) (v : Value) (hv : (l.map B8)[j]? = some v) : ((w.alloc O).alloc (.cells B f)).cell? ((⟨w.heap.size + 1, 0, none⟩ : Addr).add j) = some v := by
  subst hB
  rw [Addr.add_lit, Nat.zero_add, World.cell?_alloc_at _ _ _ _ (by simp), List.getElem?_toArray, hv]
theorem marked_adds {w : World} (O O2 : Obj) : Adds w ((w.alloc O).alloc O2) := ((Below.refl _ _).alloc (Nat.le_refl _) _).alloc (by simp) _
end Go.PK
namespace Go.Proofs.Ytejmbkljnhnklaa
open Go.RowKit Go.PK
set_option maxRecDepth 100000 in
set_option maxHeartbeats 4000000 in
theorem ref16_message (w0 : World) (v1 : Value) (nonce : List UInt8) (hv1 : Bytes w0 v1 nonce) (h1 : nonce.length ≤ 140737488351232) (ao : Option Addr) (cap : Nat) (l : List Ev) (hE : Elems rEv w0 ao l) (hlen : l.length ≤ 140737488355000) (R : List UInt8) (hR : Chain.reg l = R) :
    Calls Try.prog 79 #[v1, .slice ao l.length cap] w0 fun x w' => ∃ v, x = .returned v ∧ Bytes w' v (Chain.message nonce l) ∧ Below w0.heap.size w0 w' := by
  have hRl : Len R 32 := by rw [← hR]; exact Len.of (Chain.reg_len _)
  have hreg : ∀ w, Adds w0 w → _ := fun w hw => ref16_Register w ao cap l (hE.adds hw) hlen R hR
  have HM : ∀ _ : Unit, Chain.message nonce l = [112, 111, 114, 116, 99, 117, 108, 108, 105, 115, 32, 113, 117, 111, 116, 101] ++ [0] ++ Chain.num (UInt64.ofInt nonce.length) 4 ++ nonce ++ Chain.num (UInt64.ofInt l.length) 4 ++ R := fun _ => by rw [Chain.message, hR]
  clear hR
  obtain ⟨ao1, cap1, rfl, e1, e2, -⟩ := id hv1
  have hbm := fun (w : World) (b : Nat) (hb : b = w.heap.size) (C : Array Value) (n c : Nat) => run_bytesMark (P := Try.prog) Try.underlying22 Try.underlying5 w hb C n c
  have hM := Mem.start w0
  go_enter Try.func79, Try.ntmps79
  go_wp2_with (first
    | (at_builtin; refine wpList_append_full (hM.adds (marked_adds _ _)) rfl (.tmp 8) (.tmp 9) 22 rfl (e := 5) Try.underlying22 (el_of rfl) (l := [112, 111, 114, 116, 99, 117, 108, 108, 105, 115, 32, 113, 117, 111, 116, 101]) (l2 := [0]) (m := 1) (n := 16) rfl rfl rfl rfl (marked_old rfl) (marked_new rfl) (by decide) (by decide) ?_; intro g7 cap7 w7 hM2 hd1 hd2; clear hM hbm; have hM := hM2; clear hM2) | fail)
  have hl0 : Len ([112, 111, 114, 116, 99, 117, 108, 108, 105, 115, 32, 113, 117, 111, 116, 101] ++ [0] : List UInt8) 17 := rfl
  generalize ([112, 111, 114, 116, 99, 117, 108, 108, 105, 115, 32, 113, 117, 111, 116, 101] ++ [0] : List UInt8) = A0 at *
  refine (ref16_number (some g7) A0 17 cap7 hl0 hd1 hd2 hM (UInt64.ofInt nonce.length) 4 (by decide) (by decide)).mono ?_
  rintro _ w8 ⟨ob8, cap8, rfl, hd3, hd4, hM2⟩
  clear hM
  have hM := hM2
  clear hM2 hd1 hd2
  have hl1 : Len (A0 ++ Chain.num (UInt64.ofInt nonce.length) 4) (17 + 4) := Len.of (by rw [List.length_append, Chain.num_len, hl0.eq])
  generalize A0 ++ Chain.num (UInt64.ofInt nonce.length) 4 = A1 at *
  have hll : Len nonce nonce.length := Len.of rfl
  go_wp2_with (first
    | ((with_reducible refine gL_append_B (dst := some 18) hM ?_); (refine ⟨_, _, ob8, 17 + 4, cap8, 5, A1, nonce, nonce.length, fun ob' cap' => [⟨ob', 5, (A1 ++ nonce).map B8, cap'⟩], rfl, rfl, rfl, (us_of rfl), (el_of rfl), (hM.bytes0 hv1).src, fun _ _ => .here _ _ _, hl1, hll, hd4, by omega, ?_⟩); intro ob9 cap9 _ hM2 hd1 hd2; clear hM; have hM := hM2; clear hM2) | fail)
  have hl2 : Len (A1 ++ nonce) (17 + 4 + nonce.length) := Len.of (by rw [List.length_append, hl1.eq])
  generalize A1 ++ nonce = A2 at *
  refine (ref16_number ob9 A2 _ cap9 hl2 hd1 hd2 hM (UInt64.ofInt l.length) 4 (by decide) (by omega)).mono ?_
  rintro _ w9 ⟨ob10, cap10, rfl, hd5, hd6, hM2⟩
  clear hM
  have hM := hM2
  clear hM2
  have hl3 : Len (A2 ++ Chain.num (UInt64.ofInt l.length) 4) (17 + 4 + nonce.length + 4) := Len.of (by rw [List.length_append, Chain.num_len, hl2.eq])
  generalize A2 ++ Chain.num (UInt64.ofInt l.length) 4 = A3 at *
  go_wp2_with fail
  refine (hreg _ hM.done).mono ?_
  rintro _ w10 ⟨rfl, B1⟩
  replace hM := hM.adds B1
  clear B1
  go_wp2_with (first
    | ((first | ((with_reducible refine gL_alloc (dst := some 6) hM ?_); refine ⟨_, _, (zr_of rfl), ?_⟩) | ((with_reducible refine gL_box (dst := some 6) hM ?_); refine ⟨_, _, _, rfl, rfl, (by first | assumption | exact Len.map (by assumption) _ | rfl | exact Len.map (by rfl) _ | exact Len.of (by simp; done)), ?_⟩)); intro g6 _ hM2; clear hM; have hM := hM2; clear hM2)
    | ((with_reducible refine gL_store hM ?_); refine ⟨_, _, _, rfl, rfl, hM.stores_all (.here _ _ _) (ag_of rfl) (hRl.map _) (by rfl) B8_one, ?_⟩; intro _ hM2; clear hM; have hM := hM2; clear hM2)
    | ((with_reducible refine gL_slice ?_); refine ⟨_, slice_arr_all (ua_of rfl) (by exact elOne rfl), ?_⟩)
    | ((with_reducible refine gL_append_B (dst := some 28) hM ?_); (refine ⟨_, _, ob10, 17 + 4 + nonce.length + 4, cap10, 5, A3, R, 32, fun ob' cap' => [_, ⟨ob', 5, (A3 ++ R).map B8, cap'⟩], rfl, rfl, rfl, (us_of rfl), (el_of rfl), (src_len (Bytes.src (hM.whole (ob := some g6) (.head _) hRl (by decide))) hRl.eq), fun _ _ => .there _ (.here _ _ _), hl3, hRl, hd6, by omega, ?_⟩); intro ob11 cap11 _ hM2 hd7 hd8; clear hM; have hM := hM2; clear hM2))
  go_ret
  rw [HM ()]
  have hl4 : Len (A3 ++ R) (17 + 4 + nonce.length + 4 + 32) := Len.of (by rw [List.length_append, hl3.eq, hRl.eq])
  obtain ⟨g12, hg12⟩ := hM.some_of (.tail _ (.head _)) (hl4.map B8) (by omega)
  subst hg12
  exact ⟨_, rfl, hM.whole (ob := some g12) (.tail _ (.head _)) hl4 hd8, hM.done⟩
end Go.Proofs.Ytejmbkljnhnklaa

namespace Go.Proofs.Ytejmbkljnhnklaa
open Go.RowKit Go.PK
theorem message_len (nonce : List UInt8) (l : List Ev) : (Chain.message nonce l).length = nonce.length + 57 := by
  simp only [Chain.message, List.length_append, Chain.num_len, Chain.reg_len, List.length_cons, List.length_nil]
  omega
set_option maxRecDepth 100000 in
set_option maxHeartbeats 4000000 in
theorem ref16_Quote (w0 : World) (vk : Value) (key : List UInt8) (hvk : Bytes w0 vk key) (hk : key.length ≤ 140737488351232) (v1 : Value) (nonce : List UInt8) (hv1 : Bytes w0 v1 nonce) (h1 : nonce.length ≤ 140737488351232) (ao : Option Addr) (cap : Nat) (l : List Ev) (hE : Elems rEv w0 ao l) (hlen : l.length ≤ 140737488355000)
    (T : List UInt8) (hT : Chain.quote key nonce l = T) :
    Calls Try.prog 71 #[vk, v1, .slice ao l.length cap] w0 fun x w' => x = .returned (.agg (T.map B8).toArray) ∧ Below w0.heap.size w0 w' := by
  have hTl : Len T 32 := by rw [← hT]; exact Len.of (Chain.quote_len _ _ _)
  have hmsg : ∀ w, Adds w0 w → _ := fun w hw => ref16_message w v1 nonce (hv1.below hw (Nat.le_refl _)) h1 ao cap l (hE.adds hw) hlen _ rfl
  have hof : ∀ w v, Bytes w vk key → Bytes w v (Chain.message nonce l) → _ := fun w v h h' => ref03_Of w vk v key (Chain.message nonce l) h h' (by omega) (by rw [message_len]; omega) T hT
  clear hT
  generalize Chain.message nonce l = m at *
  have hM := Mem.start w0
  go_enter Try.func71, Try.ntmps71
  go_wp2_with (first
    | ((first | ((with_reducible refine gL_alloc (dst := some 6) hM ?_); refine ⟨_, _, (zr_of rfl), ?_⟩) | ((with_reducible refine gL_box (dst := some 6) hM ?_); refine ⟨_, _, _, rfl, rfl, (by first | assumption | exact Len.map (by assumption) _ | rfl | exact Len.map (by rfl) _ | exact Len.of (by simp; done)), ?_⟩)); intro g6 _ hM2; clear hM; have hM := hM2; clear hM2)
    | (go_at_call 79; (with_reducible refine (hmsg _ hM.done).mono ?_); rintro _ _ ⟨vb, rfl, hvb, B1⟩; replace hM := hM.adds B1; clear B1)
    | (go_at_call 30; (have hx := hof _ vb (hM.bytes0 hvk) hvb); (with_reducible refine hx.mono ?_); clear hx; rintro _ _ ⟨rfl, B1⟩; replace hM := hM.adds B1; clear B1)
    | ((with_reducible refine gL_store hM ?_); refine ⟨_, _, _, rfl, rfl, hM.stores_all (by (repeat (first | exact .here _ _ _ | apply Has.there)); done) (ag_of rfl) (hTl.map _) (by rfl) B8_one, ?_⟩; intro _ hM2; clear hM; have hM := hM2; clear hM2))
  exact hM.ret_cell rfl rfl rfl (by (repeat (first | exact .head _ | apply List.Mem.tail)); done) (ag_of rfl) (hTl.map _) ⟨rfl, hM.done⟩
end Go.Proofs.Ytejmbkljnhnklaa

namespace Go.PK.Chain
/-- what Check tells -/
def check (key nonce : List UInt8) (l : List Ev) (q : List UInt8) : Int := if l.length > 1024 then 3 else if quote key nonce l == q then 0 else 19
end Go.PK.Chain
namespace Go.Proofs.Ytejmbkljnhnklaa
open Go.RowKit Go.PK
end Go.Proofs.Ytejmbkljnhnklaa

namespace Go.PK.Chain
/-- is the zero hash met? -/
def zero (l : List Ev) : Bool := (List.range l.length).any fun k => regK l (k + 1) == List.replicate 32 0
end Go.PK.Chain
namespace Go.Proofs.Ytejmbkljnhnklaa
open Go.RowKit Go.PK
end Go.Proofs.Ytejmbkljnhnklaa

namespace Go.Proofs.Ytejmbkljnhnklaa
open Go.RowKit Go.PK
set_option maxRecDepth 100000 in
set_option maxHeartbeats 4000000 in
theorem chain_New (w : World) : Calls Try.prog 35 #[] w fun e w' => ∃ g, e = .returned (.pointer (some ⟨g, 0, none⟩)) ∧ Mem [] w w' [⟨some g, 122, [.slice none 0 0], 1⟩] := by
  have hM := Mem.start w
  go_enter Try.func35, Try.ntmps35
  go_wp2_with (first | go_skip | ((first | (with_reducible refine gL_load ?_) | ((with_reducible refine gG_load ?_ ?_); (exact wanted_of rfl rfl rfl rfl rfl))); refine ⟨_, _, rfl, (by (first | (assumption) | (exact hM.loads_B8 (by (repeat (first | exact .head _ | apply List.Mem.tail)); done) (on_of rfl) (by first | omega | (simp only [Len] at *; omega) | (simp; omega))) | (exact hM.loads_all (by (repeat (first | exact .head _ | apply List.Mem.tail)); done) (ag_of rfl) (by first | assumption | exact Len.map (by assumption) _ | rfl | exact Len.map (by rfl) _ | exact Len.of (by simp; done))) | (exact hM.loads_one (by (repeat (first | exact .head _ | apply List.Mem.tail)); done) (on_of rfl) rfl) | (exact hM.loads_W32 (by (repeat (first | exact .head _ | apply List.Mem.tail)); done) (on_of rfl) (by first | omega | (simp only [Len] at *; omega) | (simp; omega))) | (exact loads_cell (by assumption) (on_of rfl)))), ?_⟩) | ((with_reducible refine gL_store hM ?_); refine ⟨_, _, _, rfl, rfl, (by (first | (exact hM.stores_B8 (by first | exact (rfl : B8 _ = B8 _) | exact lit8 _ (by decide)) (by (repeat (first | exact .here _ _ _ | apply Has.there)); done) (on_of rfl) (by first | omega | (simp only [Len] at *; omega) | (simp; omega))) | (exact hM.stores_all (by (repeat (first | exact .here _ _ _ | apply Has.there)); done) (ag_of rfl) (by first | assumption | exact Len.map (by assumption) _ | rfl | exact Len.map (by rfl) _ | exact Len.of (by simp; done)) (by first | assumption | exact Len.map (by assumption) _ | rfl | exact Len.map (by rfl) _ | exact Len.of (by simp; done)) (by first | exact B8_one | exact W32_one | exact one_of_all rfl)) | (exact hM.stores_W32 rfl (by (repeat (first | exact .here _ _ _ | apply Has.there)); done) (on_of rfl) (by first | omega | (simp only [Len] at *; omega) | (simp; omega))) | (exact hM.stores_one (by (repeat (first | exact .here _ _ _ | apply Has.there)); done) (on_of rfl) (by first | omega | (simp only [Len] at *; omega) | (simp; omega)) rfl rfl))), ?_⟩; intro _ hM2; clear hM; have hM := hM2; clear hM2) | ((with_reducible refine gL_alloc hM ?_); refine ⟨_, _, (zr_of rfl), ?_⟩; intro _ _ hM2; clear hM; have hM := hM2; clear hM2) | ((with_reducible refine gL_box hM ?_); refine ⟨_, _, _, rfl, rfl, (by first | assumption | exact Len.map (by assumption) _ | rfl | exact Len.map (by rfl) _ | exact Len.of (by simp; done)), ?_⟩; intro _ _ hM2; clear hM; have hM := hM2; clear hM2) | ((with_reducible refine gL_build0 ?_); refine ⟨_, _, _, _, _, _, (zr_of rfl), (ua_of rfl), (ag_of rfl), (el_of rfl), ?_⟩) | ((with_reducible refine gL_buildBytes hM ?_); refine ⟨_, _, (us_of rfl), (el_of rfl), (by decide), (by decide), rfl, (by (repeat (first | exact EvB.nil | apply EvB.cons rfl (by first | exact (rfl : B8 _ = B8 _) | exact lit8 _ (by decide)))); done), ?_⟩; intro _ _ hM2; clear hM; have hM := hM2; clear hM2) | ((with_reducible refine gL_append_B hM ?_); refine ⟨_, _, _, _, _, _, _, _, _, _, rfl, rfl, (by first | exact (rfl : Value.slice (some ⟨_, 0, none⟩) _ _ = sl (some _) _ _) | exact (rfl : Value.slice none _ _ = sl none _ _) | rfl), (us_of rfl), (el_of rfl), (by first | exact hM.src (by (repeat (first | exact .head _ | apply List.Mem.tail)); done) | exact (hM.bytes0 (by assumption)).src), (fun _ _ => by (repeat (first | exact .here _ _ _ | apply Swap.there)); done), (by first | assumption | exact Len.map (by assumption) _ | rfl | exact Len.map (by rfl) _ | exact Len.of (by simp; done)), (by first | assumption | exact Len.map (by assumption) _ | rfl | exact Len.map (by rfl) _ | exact Len.of (by simp; done)), (by first | assumption | (simp [maxLen]; done) | omega | (simp [maxLen]; omega)), (by first | omega | (simp only [Len] at *; omega) | (simp; omega)), ?_⟩; intro _ _ _ hM2 _ _; clear hM; have hM := hM2; clear hM2) | ((first | (with_reducible refine gL_field ?_) | ((with_reducible refine gG_field ?_ ?_); (exact wanted_of rfl rfl rfl rfl rfl))); refine ⟨_, _, rfl, (by (first | (exact field_one (fb_of rfl) rfl) | (exact field_agg (fa_of rfl) rfl))), ?_⟩))
  go_ret
  exact ⟨_, rfl, hM⟩
end Go.Proofs.Ytejmbkljnhnklaa
