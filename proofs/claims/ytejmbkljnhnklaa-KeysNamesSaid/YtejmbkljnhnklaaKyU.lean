/-
  The walk of a ring's Numbers.
-/
import Derived.Test.YtejmbkljnhnklaaKyN
import Derived.Test.YtejmbkljnhnklaaKyL
namespace Go.Proofs.Ytejmbkljnhnklaa
open Go.RowKit Go.PK Go.Maps Go.Sort Go.Shelf
theorem kD_has {S : List Sec} (hS : (S.map (·.1)).Nodup) (k : Int) : Maps.has (kD S) (.int .i64 k) = true ↔ k ∈ S.map (·.1) := by
  rw [← kLook_some]
  cases h : kLook S k with
  | none =>
    have := has_false_of_atKey (D := kD S) (k := .int .i64 k) fun z => by rw [kD_at hS, h]
    rw [this]
    simp
  | some x =>
    have := has_true_of_atKey (D := kD S) (k := .int .i64 k) (y := .held x.2.1) fun z => by rw [kD_at hS, h]
    rw [this]
    simp
/-- a ring's numbers, rising -/
def kNums (S : List Sec) : List Int := (S.map (·.1)).mergeSort leI
theorem kNums_perm {w : World} {gr gm : Nat} {S : List Sec} (hR : Ring w gr gm S) : (S.map (·.1)).Perm (intKeys (kD S)) :=
  CollectedI.perm (left := fun _ => false) ⟨hR.nd, fun x => by rw [kD_has hR.nd]; simp⟩ hR.own (int_keyed Try.underlying3) Try.underlying3 (fun _ => rfl)
theorem kD_size {w : World} {gr gm : Nat} {S : List Sec} (hR : Ring w gr gm S) : Maps.size (kD S) ≤ 64 := by
  have h := (kNums_perm hR).length_eq
  obtain ⟨es, he⟩ := kD_map S
  rw [he] at h ⊢
  have h2 : (intKeys (.map es : DataW Value)).length = es.length := List.length_map _
  rw [h2, List.length_map] at h
  show es.length ≤ 64
  have := hR.few
  omega

/-- slices.Sort's two contracts at this dump, at the fence that asks nothing -/
theorem sortsA (m : Nat) : AnyZI.SortsIn Try.prog sortedA_ren Fence.wide m :=
  ⟨fun blk off cap ss W hH hblk hsz => callsIn_wide.2 (AnyM.slices_Sort_int sortA blk off cap ss W hH hblk hsz),
   fun p cap W => callsIn_wide.2 (AnyM.slices_Sort_int_none sortA p cap W)⟩

set_option maxRecDepth 100000 in
set_option maxHeartbeats 4000000 in
theorem ring_Numbers (w : World) (gr gm : Nat) (S : List Sec) (hR : Ring w gr gm S) :
    Calls Try.prog 60 #[.pointer (some ⟨gr, 0, none⟩)] w fun e w' => ∃ (v : Value) (ss : List Int), e = .returned v ∧ ss.Perm (intKeys (kD S)) ∧
      w'.ownsRow w.heap.size 3 1 v ss.length ((ss.mergeSort (fun x y => decide (x ≤ y))).map encZ) ∧ Below w.heap.size w w' := by
  have hown := hR.own
  have hsz := kD_size hR
  have hc : w.cell? ⟨gr, 0, none⟩ = some (.map (some gm)) := hR.row.cell rfl
  refine (callsIn_wide (n := 6)).1 ?_
  have hbl := hown.lt
  have hseq : SeqGives Fence.wide 2 Try.prog 96 #[.pointer (some ⟨w.heap.size, 0, none⟩)] encZ (fun ss => ss.Perm (intKeys (kD S))) (Maps.size (kD S)) (w.alloc (.cells #[.map (some gm)] 132)) :=
    AnyZI.keys_gives (ρ := keysA_ren) { keysA with } Fence.wide _ trivial rfl (by omega) w.heap.size gm 64 (kD S) _ (by simp) (by simp) (by
      obtain ⟨es, clock, hb, Ft, hs, hD⟩ := hown
      exact ⟨es, clock, (Below.heap_alloc _ _ gm hbl).trans hb, Ft, hs, hD⟩)
  have cK : ∀ mb W, CallsIn Fence.wide 5 Try.prog 87 #[.map mb] W fun e w' => e = .returned (.func (.func 96) #[] #[.pointer (some ⟨W.heap.size, 0, none⟩)]) ∧ w' = W.alloc (.cells #[.map mb] 132) := fun mb W => AnyZI.keys_in keysA Fence.wide 5 trivial rfl mb W
  have cS := AnyZI.sorted_in sortedA Fence.wide 5 trivial trivial trivial trivial rfl (by omega) (sortsA _) (enters_of Try.func95 (by kernel_rfl) rfl) 96 #[.pointer (some ⟨w.heap.size, 0, none⟩)] trivial (enters_of Try.func96 (by kernel_rfl) rfl) _ _ (by simp only [maxLen]; omega) (by omega) _ hseq
  change CallsIn _ _ Try.prog 86 _ _ _ at cS
  have hfK : Fence.wide.fn 87 := trivial
  have hfS : Fence.wide.fn 86 := trivial
  refine callsIn_of_wp Try.func60 rfl trivial ?_ rfl
  simp only [Try.ntmps60, List.size_toArray, List.length_cons, List.length_nil, Nat.reduceAdd, Nat.reduceSub, Array.replicate_succ, Array.replicate_zero, List.push_toArray, List.append_toArray, List.nil_append, List.cons_append]
  gi_wp2_with (first
    | (gi_at_call 87; refine (cK _ _).mono ?_; rintro e w' ⟨rfl, rfl⟩)
    | (gi_at_call 86; refine cS.mono ?_; rintro e w' ⟨v, ss, rfl, hS, hrow, hnil, hb⟩))
  go_ret
  exact ⟨v, ss, rfl, hS, ownsRow_base_a hrow (by simp), ((Below.refl _ w).alloc (Nat.le_refl _) _).trans (hb.mono (by simp))⟩
end Go.Proofs.Ytejmbkljnhnklaa
