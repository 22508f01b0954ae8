/-
  ChainTells: for every input the law answers true; what was handed in reads as before. No condition beside the form's own.
-/
import Derived.Test.YtejmbkljnhnklaaPm
import Derived.Test.YtejmbkljnhnklaaRows

import Derived.ChangeOld
import Derived.Below
namespace Go.Proofs.Ytejmbkljnhnklaa.chainTells
open Go.ChangeShapes Go.WideShapes Go.ChangeAt Go.RowKit Go.PK

theorem own : ownKnob Try.prog.godebug = none := by kernel_rfl
theorem laidOut : laidOutB Try.prog = true := by kernel_rfl

set_option maxRecDepth 100000 in
theorem contract (H : Type) (enc : TypeId × Value → H) (W : World) (base : Nat) (args : Array Value) (ds gs : List (DataW H)) (before : List MemPlace)
    (hval : ∀ (j : Nat) t v, Try.f12.params[j]? = some t → args[j]? = some v → Value.okWide Try.prog W .any base t v)
    (hW : DataW.Whole enc Try.prog Try.f12.params.toList Rows.chainTellsSpec.vars false W args.toList ds gs before)
    (hsz : (DataW.weightsEach Try.prog Try.f12.params.toList ds).all (· ≤ reachBytes) = true) :
    Calls Try.prog 12 args W fun e W' => ∃ v, e = .returned v ∧ Rows.chainTellsSpec.post enc Try.prog Try.f12 false true false false W args v W' := by
  have hW' := hW
  obtain ⟨p, q, hA0, hV, rfl, hfz, hnd⟩ := hW
  have hA : DataW.TrodAll enc Try.prog W 0 (fun _ => true) true Try.f12.params.toList args.toList ds p := hA0
  rw [Try.params12] at hA hval hsz
  obtain ⟨v0, vs0, d0, ds0, p0, q0, hargs, rfl, rfl, h0, r0⟩ := trodAll_cons hA
  obtain ⟨v1, vs1, d1, ds1, p1, q1, rfl, rfl, rfl, h1, r1⟩ := trodAll_cons r0
  obtain ⟨v2, vs2, d2, ds2, p2, q2, rfl, rfl, rfl, h2, r2⟩ := trodAll_cons r1
  obtain ⟨rfl, rfl, rfl⟩ := trodAll_nil r2
  obtain rfl : args = #[v0, v1, v2] := by cases args; simp_all
  obtain ⟨rfl, rfl⟩ := trodVars_none hV
  have k0 := h0
  have lt0 : ∀ x ∈ p0, x.block < W.heap.size := by obtain ⟨m, hm⟩ := k0; exact DataW.trod_lt m _ _ _ hm
  have wt0 := weights_of hsz (j := 0) rfl rfl
  obtain ⟨cs0, l0, rfl, K0, o0⟩ := open_agg (opens_struct4 Try.underlying73 (opens_slice Try.underlying22 (opens_byte Try.underlying5) (by kernel_rfl) (by decide) (of_decide_eq_true (by kernel_rfl))) (opens_slice Try.underlying22 (opens_byte Try.underlying5) (by kernel_rfl) (by decide) (of_decide_eq_true (by kernel_rfl))) (opens_slice Try.underlying58 (opens_struct2 Try.underlying64 (opens_arr (t := 24) (n := 32) Try.underlying24 Try.underlying5 (by kernel_rfl) (by kernel_rfl)) (opens_int Try.underlying62) (by kernel_rfl) (by kernel_rfl) rfl rfl (by kernel_rfl)) (by kernel_rfl) (by decide) (of_decide_eq_true (by kernel_rfl))) (opens_arr (t := 24) (n := 32) Try.underlying24 Try.underlying5 (by kernel_rfl) (by kernel_rfl)) (by kernel_rfl) (by kernel_rfl) (by kernel_rfl) (by kernel_rfl) rfl rfl rfl rfl (by kernel_rfl)) Try.underlying73 rfl (hval 0 73 v0 rfl rfl) h0 wt0
  have k1 := h1
  have lt1 : ∀ x ∈ p1, x.block < W.heap.size := by obtain ⟨m, hm⟩ := k1; exact DataW.trod_lt m _ _ _ hm
  have wt1 := weights_of hsz (j := 1) rfl rfl
  obtain ⟨l1, b1, s1⟩ := open_bytes Try.underlying22 Try.underlying5 (by kernel_rfl) (hval 1 22 v1 rfl rfl) h1
  have z1 : l1.length ≤ 140737488351232 := Nat.le_trans s1 (len_of_weights Try.underlying22 (by kernel_rfl) wt1)
  have k2 := h2
  have lt2 : ∀ x ∈ p2, x.block < W.heap.size := by obtain ⟨m, hm⟩ := k2; exact DataW.trod_lt m _ _ _ hm
  have wt2 := weights_of hsz (j := 2) rfl rfl
  obtain ⟨ao2, ln2, cp2, rfl⟩ := okWide_slice Try.underlying58 (hval 2 58 v2 rfl rfl)
  obtain ⟨l2, b2, z2⟩ := open_cell (opens_slice Try.underlying58 (opens_struct2 Try.underlying64 (opens_arr (t := 24) (n := 32) Try.underlying24 Try.underlying5 (by kernel_rfl) (by kernel_rfl)) (opens_int Try.underlying62) (by kernel_rfl) (by kernel_rfl) rfl rfl (by kernel_rfl)) (by kernel_rfl) (by decide) (of_decide_eq_true (by kernel_rfl))) h2 wt2 rfl
  clear hA0
  have hwalk := ChainTells_walk W cs0 l0 K0 o0 v1 l1 b1 z1 _ l2 b2 z2
  refine hwalk.mono fun e W' ⟨he, bel⟩ => ?_
  subst he
  exact ⟨_, rfl, _, _, _, [], _, [], hW', trodAll_mk1 (shut_bool Try.underlying4 _), (trodAll_cons_mk (Below.trod laidOut (by kernel_rfl) (of_decide_eq_true (by kernel_rfl)) k0 bel lt0) (trodAll_cons_mk (Below.trod laidOut (by kernel_rfl) (of_decide_eq_true (by kernel_rfl)) k1 bel lt1) (trodAll_cons_mk (Below.trod laidOut (by kernel_rfl) (of_decide_eq_true (by kernel_rfl)) k2 bel lt2) trodAll_mk0))), rfl, bel.frame _, fun h => by cases h⟩

set_option maxRecDepth 100000 in
theorem lifted (os : Os) (started : os.Started) (H : Type) (enc : TypeId × Value → H) :
    ReturnsInHanded {} Try.checked os 12 .any (Rows.chainTellsSpec.pre6 enc Try.prog Try.f12 Rows.chainTellsRow.domain false) (Rows.chainTellsSpec.post enc Try.prog Try.f12 false true false false) := by
  refine returnsInHanded_of_change_sized (C := Try.checked) own started (by kernel_rfl) Try.func12
    (ChangeSpec.witness6 (enc := enc) (C := Try.checked) false ⟨#[], #[.agg (([.slice none 0 0, .slice none 0 0, .slice none 0 0] : List Value) ++ (List.replicate 32 (0 : UInt8)).map B8).toArray, .slice none 0 0, .slice none 0 0], []⟩ 8 (by kernel_rfl) (by kernel_rfl) (by kernel_rfl) (by kernel_rfl)) ?_
  intro W base args ds gs before hval hW _ hsz _
  have hgs : gs = [] := by
    obtain ⟨p, q, _, hV, _⟩ := hW
    exact (trodVars_none hV).1
  subst hgs
  have hsz' : (DataW.weightsEach Try.prog Try.f12.params.toList ds).all (· ≤ reachBytes) = true := by
    rw [← List.append_nil Try.f12.params.toList, ← List.append_nil ds]
    exact hsz
  exact contract H enc W base args ds [] before hval hW hsz'

theorem holds : Rows.ChainTellsSaid :=
  OpenClaim.holds_of_wide 12 Try.f12 rfl rfl rfl rfl rfl rfl rfl ⟨rfl, rfl, rfl, rfl, rfl⟩ rfl rfl rfl rfl rfl (by kernel_rfl) Try.func12 (by kernel_rfl)
    (of_decide_eq_true (by kernel_rfl)) (by unfold Func.isWrapper; first | (rw [if_pos (by decide +kernel)]; kernel_rfl) | (rw [if_neg (by decide +kernel)]; exact ⟨rfl, rfl⟩))
    (fun os started H enc _ => lifted os started H enc)
#print axioms holds
end Go.Proofs.Ytejmbkljnhnklaa.chainTells
