/-
  What a script's walk wants beside Sc: what a call made beside what is owned; a slice of one element; bytes as a string.
-/
import Derived.Test.YtejmbkljnhnklaaSc
import Derived.Test.YtejmbkljnhnklaaBld
import Derived.Test.YtejmbkljnhnklaaT
import Derived.Test.YtejmbkljnhnklaaIx
namespace Go.PK
open Go.RowKit
/-- what a call made, beside what is owned -/
theorem Mem.addMem {G : List Nat} {w0 w w' : World} {L L' : List Blk} (h : Mem G w0 w L) (k : Mem [] w w' L') : Mem G w0 w' (L' ++ L) := by
  have h2 := h.adds k.done
  refine ⟨h2.touch, fun b hb => ?_, fun b hb g hg => ?_, ?_⟩
  · rcases List.mem_append.1 hb with hb | hb
    · exact k.holds b hb
    · exact h2.holds b hb
  · rcases List.mem_append.1 hb with hb | hb
    · exact .inr (Nat.le_trans h.touch.size ((k.own b hb g hg).resolve_left (by simp)))
    · exact h.own b hb g hg
  · rw [List.filterMap_append, List.nodup_append]
    refine ⟨k.nodup, h.nodup, fun a ha b hb hab => ?_⟩
    subst hab
    obtain ⟨x, hx, hxe⟩ := mem_ids.1 ha
    obtain ⟨y, hy, hye⟩ := mem_ids.1 hb
    have h3 := (k.own x hx a hxe).resolve_left (by simp)
    have h4 := (h.holds y hy).lt hye
    omega
theorem Mem.join {G : List Nat} {w0 w w' : World} {L L' : List Blk} (h : Mem [] w0 w L) (k : Mem G w w' L') (hG : ∀ g ∈ G, w0.heap.size ≤ g) : Mem [] w0 w' L' :=
  ⟨h.touch.step k.touch fun g hg => .inr (hG g hg), k.holds, fun b hb g hg => .inr (by
    rcases k.own b hb g hg with h1 | h1
    · exact hG g h1
    · exact Nat.le_trans h.touch.size h1), k.nodup⟩
section
variable {P : Program} {Q : Exit → Act → World → Prop} {ops : Array Oper} {rest : List Oper} {a : Act} {w : World} {G : List Nat} {w0 : World} {L : List Blk} {dst : Option Tmp} {type : TypeId} {pos : String} {after : Array Edge}
theorem gL_buildSlice1 (hM : Mem G w0 w L) {t : TypeId} {x : Operand} (h : ∃ e C size bytes V, P.underlying t = some (.slice e) ∧ El P e size bytes ∧ 1 * size ≤ 16777216 ∧ a.eval x = V ∧ V.cells = C.toArray ∧ Len C size ∧
    ∀ g w', Mem G w0 w' (⟨some g, e, C, size⟩ :: L) → wpList P ops Q rest (a.put dst (.slice (some ⟨g, 0, none⟩) 1 1)) w') :
    wpList P ops Q (Oper.mk dst (.buildSlice t 1 #[(0, x)]) type pos after none :: rest) a w := by
  obtain ⟨e, C, size, bytes, V, hu, hel, hs, hx, hC, hl, h⟩ := h
  refine wpList_plain rfl fun K hk => hM.wp_buildSlice (parts := [(0, x)]) (C := C) rfl hu hel hs (by decide) rfl ?_ ?_ (by rw [Nat.one_mul]) (fun g w' hm => hk _ _ (h g w' hm))
  · simp [hx, hC]
  · intro v hv
    simp [hx] at hv
    subst hv
    rw [hC]
    exact List.size_toArray.trans hl.eq
end
end Go.PK
namespace Go.Proofs.Ytejmbkljnhnklaa
open Go.RowKit Go.PK
theorem str_of {w : World} {v : Value} {l : List UInt8} (h : Bytes w v l) : (convert 22 9 v).run Try.prog w = .ok (.string ⟨l.toArray⟩) w :=
  run_str 22 9 5 Try.underlying22 Try.underlying5 Try.underlying9 h
end Go.Proofs.Ytejmbkljnhnklaa
