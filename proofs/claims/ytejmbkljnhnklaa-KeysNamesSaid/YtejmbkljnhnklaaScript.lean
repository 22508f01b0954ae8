/-
  Laws for scripts: objects by their numbers, rows of bytes that are kept: what is owned, brought forward and put back.
-/
import Derived.Test.YtejmbkljnhnklaaOwnW
import Derived.Test.YtejmbkljnhnklaaR
namespace Go.PK
open Go.RowKit

section
variable {P : Program} {G : List Nat} {w0 w : World} {L : List Blk}

theorem Mem.perm {L' : List Blk} (hM : Mem G w0 w L) (h : L.Perm L') : Mem G w0 w L' :=
  ⟨hM.touch, fun b hb => hM.holds b (h.mem_iff.2 hb), fun b hb => hM.own b (h.mem_iff.2 hb), (h.filterMap _).nodup_iff.1 hM.nodup⟩
theorem Mem.mem_new {g : Nat} {t : TypeId} {C : List Value} {N : Nat} (hM : Mem [] w0 w L) (hb : ⟨some g, t, C, N⟩ ∈ L) : w0.heap.size ≤ g := by
  rcases hM.own _ hb g rfl with h | h
  · cases h
  · exact h
/-- a call wrote one block -/
theorem Mem.calls (hM : Mem G w0 w L) {L' : List Blk} {g : Nat} {t : TypeId} {C C' : List Value} {N : Nat} (hb : Has L ⟨some g, t, C, N⟩ ⟨some g, t, C', N⟩ L') {w' : World} (hT : Touch [g] w w') (hR : Row w' g t C') (hN : Len C' N) : Mem G w0 w' L' :=
  hM.wrote hb hT ⟨[], by rw [List.append_nil]; exact hR, by rw [hN.eq]; rfl⟩
/-- a block that was there before, taken in later -/
theorem Mem.takeIn (hM : Mem G w0 w L) {g : Nat} {t : TypeId} {C : List Value} {N : Nat} (hR : Row w g t C) (hN : Len C N) (hg : g ∈ G) (hn : ∀ b ∈ L, b.id ≠ some g) : Mem G w0 w (⟨some g, t, C, N⟩ :: L) :=
  ⟨hM.touch, fun b hb => by
    simp at hb
    rcases hb with rfl | hb
    · exact ⟨[], by rw [List.append_nil]; exact hR, by rw [hN.eq]; rfl⟩
    · exact hM.holds b hb, fun b hb => by
    simp at hb
    rcases hb with rfl | hb
    · intro g' hg'; cases hg'; exact .inl hg
    · exact hM.own b hb, by
    simp only [List.filterMap_cons, List.nodup_cons]
    exact ⟨fun hm => by obtain ⟨b, hb, he⟩ := mem_ids.1 hm; exact hn b hb he, hM.nodup⟩⟩
theorem Mem.mono {H : List Nat} (hM : Mem G w0 w L) (h : ∀ g ∈ G, g ∈ H) : Mem H w0 w L :=
  ⟨hM.touch.mono h, hM.holds, fun b hb g hg => (hM.own b hb g hg).imp (h g) id, hM.nodup⟩

theorem perm_put {α : Type} : ∀ {l : List α} {k : Nat} (_ : k < l.length) (x : α), (l.set k x).Perm (x :: l.eraseIdx k)
  | [], _, h, _ => by simp at h
  | a :: l, 0, _, x => by simp
  | a :: l, k + 1, h, x => by
    rw [List.set_cons_succ, List.eraseIdx_cons_succ]
    exact ((perm_put (l := l) (k := k) (by simpa using h) x).cons a).trans (.swap x a _)
theorem perm_pick {α : Type} {l : List α} {k : Nat} (h : k < l.length) : l.Perm (l[k] :: l.eraseIdx k) := by
  have := perm_put h l[k]
  rwa [List.set_getElem_self] at this

/-- a row of bytes that is kept: its block, its bytes, its room -/
structure Kept where
  ob : Option Nat
  l : List UInt8
  cap : Nat
abbrev Kept.blk (t : TypeId) (r : Kept) : Blk := ⟨r.ob, t, r.l.map B8, r.cap⟩
abbrev Kept.val (r : Kept) : Value := sl r.ob r.l.length r.cap
abbrev Kept.none : Kept := ⟨.none, [], 0⟩
end
end Go.PK
