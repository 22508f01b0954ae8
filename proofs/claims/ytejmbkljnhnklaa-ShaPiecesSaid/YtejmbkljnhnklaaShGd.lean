/-
  What holds of the objects of ShaPieces' script, step by step.
-/
import Derived.Test.YtejmbkljnhnklaaSc
import Derived.Test.YtejmbkljnhnklaaShaL
import Derived.Test.YtejmbkljnhnklaaScX
namespace Go.Proofs.Ytejmbkljnhnklaa
open Go.RowKit Go.PK

abbrev DigB : Sd → Blk := Sd.obj 118 137
/-- what holds of the objects ahead of the j-th step -/
structure ShGood (l : List Step) (j : Nat) (ds : List Sd) (ps : List PR) : Prop where
  pos : 0 < ds.length
  most : ds.length ≤ j + 1
  nil : PR.nil ∈ ps
  dig : ∀ d ∈ ds, DigAt d.C d.r.m
  mem : ∀ d ∈ ds, d.r ∈ ps
  short : ∀ d ∈ ds, d.r.m.length ≤ pre l j
  cap : ∀ d ∈ ds, d.r.cap ≤ maxLen
abbrev shL (gP gA capP capA : Nat) (ds : List Sd) (ps : List PR) : List Blk :=
  ⟨some gP, 29, ds.map Sd.p, capP * 1⟩ :: ⟨some gA, 22, ds.map Sd.v, capA * 1⟩ :: (ds.map DigB ++ ps.map (PR.blk 5))
theorem ShGood.start {l : List Step} {g : Nat} {C : List Value} (h : DigAt C []) : ShGood l 0 [⟨g, C, PR.nil⟩] [PR.nil] :=
  ⟨by simp, by simp, by simp, by intro d hd; simp at hd; subst hd; exact h, by simp, by simp [PR.nil], by simp [PR.nil]⟩
theorem ShGood.keep {l : List Step} {j : Nat} {ds : List Sd} {ps : List PR} (h : ShGood l j ds ps) (hj : pre l j ≤ pre l (j + 1)) : ShGood l (j + 1) ds ps :=
  ⟨h.pos, by have := h.most; omega, h.nil, h.dig, h.mem, fun d hd => by have := h.short d hd; omega, h.cap⟩
theorem ShGood.new {l : List Step} {j : Nat} {ds : List Sd} {ps : List PR} (h : ShGood l j ds ps) (hj : pre l j ≤ pre l (j + 1)) {g : Nat} {C : List Value} {r : PR} (hC : DigAt C r.m) (hr : r ∈ ps) (hs : r.m.length ≤ pre l j) (hc : r.cap ≤ maxLen) : ShGood l (j + 1) (ds ++ [⟨g, C, r⟩]) ps := by
  have k := h.keep hj
  refine ⟨by simp, by rw [List.length_append]; have := h.most; simp; omega, h.nil, ?_, ?_, ?_, ?_⟩ <;> intro d hd <;> rw [List.mem_append, List.mem_singleton] at hd
  · rcases hd with hd | rfl
    · exact h.dig d hd
    · exact hC
  · rcases hd with hd | rfl
    · exact h.mem d hd
    · exact hr
  · rcases hd with hd | rfl
    · exact k.short d hd
    · exact Nat.le_trans hs hj
  · rcases hd with hd | rfl
    · exact h.cap d hd
    · exact hc
theorem ShGood.wrote {l : List Step} {j : Nat} {ds : List Sd} {ps : List PR} (h : ShGood l j ds ps) {B : List UInt8} (hj : pre l (j + 1) = pre l j + (B.length + 1)) {k : Nat} {d : Sd} (hk : ds[k]? = some d) {C : List Value} {r : PR} (hr : r.m = d.r.m ++ B) (hC : DigAt C (d.r.m ++ B)) (hc : r.cap ≤ maxLen) :
    ShGood l (j + 1) (ds.set k ⟨d.g, C, r⟩) (ps ++ [r]) := by
  have kk := h.keep (by omega)
  have hd0 := List.mem_of_getElem? hk
  have hin : ∀ x ∈ ds.set k ⟨d.g, C, r⟩, x ∈ ds ∨ x = ⟨d.g, C, r⟩ := fun x hx => List.mem_or_eq_of_mem_set hx
  refine ⟨by rw [List.length_set]; exact h.pos, by rw [List.length_set]; exact kk.most, List.mem_append_left _ h.nil, ?_, ?_, ?_, ?_⟩ <;> intro x hx <;> rcases hin x hx with hx | rfl
  · exact h.dig x hx
  · rw [← hr] at hC; exact hC
  · exact List.mem_append_left _ (h.mem x hx)
  · exact List.mem_append_right _ (by simp)
  · exact kk.short x hx
  · show r.m.length ≤ _
    rw [hr, List.length_append]
    have := h.short d hd0
    omega
  · exact h.cap x hx
  · exact hc
theorem perm4 {α : Type} (a b c d : α) : [a, b, c, d].Perm [c, b, d, a] := ((List.perm_append_singleton a [b, c, d]).symm).trans (.swap _ _ _)
theorem sub_int {a b : Nat} (h : b ≤ a) : (a : Int) - (b : Int) = ((a - b : Nat) : Int) := by omega
end Go.Proofs.Ytejmbkljnhnklaa
