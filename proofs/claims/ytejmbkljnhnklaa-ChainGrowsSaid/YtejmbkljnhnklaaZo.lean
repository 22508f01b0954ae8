/-
  The walk of ChainTells.
-/
import Derived.Test.YtejmbkljnhnklaaZk
namespace Go.PK
open Go.RowKit
theorem Mem.addMem {G : List Nat} {w0 w w' : World} {L L' : List Blk} (h : Mem G w0 w L) (k : Mem [] w w' L') : Mem G w0 w' (L' ++ L) := by
  have h2 := h.adds k.done
  refine ⟨h2.touch, fun b hb => ?_, fun b hb g hg => ?_, ?_⟩
  · rcases List.mem_append.1 hb with hb | hb
    · exact k.holds b hb
    · exact h2.holds b hb
  · rcases List.mem_append.1 hb with hb | hb
    · exact .inr (Nat.le_trans h.touch.size ((k.own b hb g hg).resolve_left (by simp)))
    · exact h.own b hb g hg
  · rw [List.filterMap_append, List.nodup_append]
    refine ⟨k.nodup, h.nodup, fun a ha b hb hab => ?_⟩
    subst hab
    obtain ⟨x, hx, hxe⟩ := mem_ids.1 ha
    obtain ⟨y, hy, hye⟩ := mem_ids.1 hb
    have h3 := (k.own x hx a hxe).resolve_left (by simp)
    have h4 := (h.holds y hy).lt hye
    omega
section
variable {P : Program}
end
theorem Elems.take {α : Type} {r : Rd α} {w : World} {ao : Option Addr} {l : List α} (h : Elems r w ao l) (k : Nat) : Elems r w ao (l.take k) := fun j a hj => by
  rw [List.getElem?_take] at hj
  split at hj
  · exact h j a hj
  · cases hj
end Go.PK
namespace Go.Proofs.Ytejmbkljnhnklaa
open Go.RowKit Go.PK
end Go.Proofs.Ytejmbkljnhnklaa
