/-
  ChainDoes: for every input the law answers true; what was handed in reads as before. No condition beside the form's own.
-/
import Derived.Test.YtejmbkljnhnklaaPn
import Derived.Test.YtejmbkljnhnklaaRows

import Derived.ChangeOld
import Derived.Below
namespace Go.Proofs.Ytejmbkljnhnklaa.chainDoes
open Go.ChangeShapes Go.WideShapes Go.ChangeAt Go.RowKit Go.PK

theorem own : ownKnob Try.prog.godebug = none := by kernel_rfl
theorem laidOut : laidOutB Try.prog = true := by kernel_rfl

set_option maxRecDepth 100000 in
theorem contract (H : Type) (enc : TypeId × Value → H) (W : World) (base : Nat) (args : Array Value) (ds gs : List (DataW H)) (before : List MemPlace)
    (hval : ∀ (j : Nat) t v, Try.f10.params[j]? = some t → args[j]? = some v → Value.okWide Try.prog W .any base t v)
    (hW : DataW.Whole enc Try.prog Try.f10.params.toList Rows.chainDoesSpec.vars false W args.toList ds gs before)
    (hsz : (DataW.weightsEach Try.prog Try.f10.params.toList ds).all (· ≤ reachBytes) = true) :
    Calls Try.prog 10 args W fun e W' => ∃ v, e = .returned v ∧ Rows.chainDoesSpec.post enc Try.prog Try.f10 false true false false W args v W' := by
  have hW' := hW
  obtain ⟨p, q, hA0, hV, rfl, hfz, hnd⟩ := hW
  have hA : DataW.TrodAll enc Try.prog W 0 (fun _ => true) true Try.f10.params.toList args.toList ds p := hA0
  rw [Try.params10] at hA hval hsz
  obtain ⟨v0, vs0, d0, ds0, p0, q0, hargs, rfl, rfl, h0, r0⟩ := trodAll_cons hA
  obtain ⟨rfl, rfl, rfl⟩ := trodAll_nil r0
  obtain rfl : args = #[v0] := by cases args; simp_all
  obtain ⟨rfl, rfl⟩ := trodVars_none hV
  have k0 := h0
  have lt0 : ∀ x ∈ p0, x.block < W.heap.size := by obtain ⟨m, hm⟩ := k0; exact DataW.trod_lt m _ _ _ hm
  have wt0 := weights_of hsz (j := 0) rfl rfl
  obtain ⟨ao0, ln0, cp0, rfl⟩ := okWide_slice Try.underlying54 (hval 0 54 v0 rfl rfl)
  obtain ⟨l0, b0, z0⟩ := open_cell (opens_sliceB 8 Try.underlying54 (opens_struct5 Try.underlying66 (opens_int Try.underlying3) (opens_int Try.underlying3) (opens_struct2 Try.underlying64 (opens_arr (t := 24) (n := 32) Try.underlying24 Try.underlying5 (by kernel_rfl) (by kernel_rfl)) (opens_int Try.underlying62) (by kernel_rfl) (by kernel_rfl) rfl rfl (by kernel_rfl)) (opens_slice Try.underlying22 (opens_byte Try.underlying5) (by kernel_rfl) (by decide) (of_decide_eq_true (by kernel_rfl))) (opens_slice Try.underlying22 (opens_byte Try.underlying5) (by kernel_rfl) (by decide) (of_decide_eq_true (by kernel_rfl))) (by kernel_rfl) (by kernel_rfl) (by kernel_rfl) (by kernel_rfl) (by kernel_rfl) rfl rfl rfl rfl rfl (by kernel_rfl)) (by kernel_rfl) (by decide) (of_decide_eq_true (by kernel_rfl)) (of_decide_eq_true (by kernel_rfl))) h0 wt0 rfl
  clear hA0
  have hwalk := ChainDoes_walk W _ l0 b0 z0
  refine hwalk.mono fun e W' ⟨he, bel⟩ => ?_
  subst he
  exact ⟨_, rfl, _, _, _, [], _, [], hW', trodAll_mk1 (shut_bool Try.underlying4 _), (trodAll_cons_mk (Below.trod laidOut (by kernel_rfl) (of_decide_eq_true (by kernel_rfl)) k0 bel lt0) trodAll_mk0), rfl, bel.frame _, fun h => by cases h⟩

set_option maxRecDepth 100000 in
theorem lifted (os : Os) (started : os.Started) (H : Type) (enc : TypeId × Value → H) :
    ReturnsInHanded {} Try.checked os 10 .any (Rows.chainDoesSpec.pre6 enc Try.prog Try.f10 Rows.chainDoesRow.domain false) (Rows.chainDoesSpec.post enc Try.prog Try.f10 false true false false) := by
  refine returnsInHanded_of_change_sized (C := Try.checked) own started (by kernel_rfl) Try.func10
    (ChangeSpec.witness6 (enc := enc) (C := Try.checked) false ⟨#[], #[.slice none 0 0], []⟩ 8 (by kernel_rfl) (by kernel_rfl) (by kernel_rfl) (by kernel_rfl)) ?_
  intro W base args ds gs before hval hW _ hsz _
  have hgs : gs = [] := by
    obtain ⟨p, q, _, hV, _⟩ := hW
    exact (trodVars_none hV).1
  subst hgs
  have hsz' : (DataW.weightsEach Try.prog Try.f10.params.toList ds).all (· ≤ reachBytes) = true := by
    rw [← List.append_nil Try.f10.params.toList, ← List.append_nil ds]
    exact hsz
  exact contract H enc W base args ds [] before hval hW hsz'

theorem holds : Rows.ChainDoesSaid :=
  OpenClaim.holds_of_wide 10 Try.f10 rfl rfl rfl rfl rfl rfl rfl ⟨rfl, rfl, rfl, rfl, rfl⟩ rfl rfl rfl rfl rfl (by kernel_rfl) Try.func10 (by kernel_rfl)
    (of_decide_eq_true (by kernel_rfl)) (by unfold Func.isWrapper; first | (rw [if_pos (by decide +kernel)]; kernel_rfl) | (rw [if_neg (by decide +kernel)]; exact ⟨rfl, rfl⟩))
    (fun os started H enc _ => lifted os started H enc)
#print axioms holds
end Go.Proofs.Ytejmbkljnhnklaa.chainDoes
