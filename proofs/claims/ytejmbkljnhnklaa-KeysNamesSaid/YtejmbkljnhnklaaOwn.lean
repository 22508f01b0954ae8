/-
  What a call owns, told in one place: 'Mem G w0 w L': between w0 and w only the blocks of G and new ones were touched; the entries of L are owned, unlike, and hold what is said. Rules of the walk that keep it.
-/
import Derived.Deep.AppendLies
import Derived.Great.FillDense
import Derived.Test.YtejmbkljnhnklaaE
namespace Go.PK
open Go.RowKit

/-- what may have changed between w0 and w: blocks of G, and what lies behind w0's memory -/
structure Touch (G : List Nat) (w0 w : World) : Prop where
  os : w.os = w0.os
  tape : w.tape = w0.tape
  output : w.output = w0.output
  size : w0.heap.size ≤ w.heap.size
  block : ∀ k, k < w0.heap.size → k ∉ G → w.heap[k]? = w0.heap[k]?

theorem Touch.refl (G : List Nat) (w : World) : Touch G w w := ⟨rfl, rfl, rfl, Nat.le_refl _, fun _ _ _ => rfl⟩
theorem Touch.below {w0 w : World} (h : Touch [] w0 w) : Below w0.heap.size w0 w := ⟨h.os, h.tape, h.output, h.size, fun k hk => h.block k hk (by simp)⟩
theorem Touch.of_below {w0 w : World} (h : Below w0.heap.size w0 w) : Touch [] w0 w := ⟨h.os, h.tape, h.output, h.size, fun k hk _ => h.block k hk⟩
/-- then touched: old blocks of G, or what is new -/
theorem Touch.step {G H : List Nat} {w0 w w' : World} (h : Touch G w0 w) (k : Touch H w w') (hH : ∀ g ∈ H, g ∈ G ∨ w0.heap.size ≤ g) : Touch G w0 w' :=
  ⟨k.os.trans h.os, k.tape.trans h.tape, k.output.trans h.output, Nat.le_trans h.size k.size, fun i hi hg =>
    (k.block i (Nat.lt_of_lt_of_le hi h.size) (fun hm => by rcases hH i hm with h1 | h1; exact hg h1; omega)).trans (h.block i hi hg)⟩
theorem Touch.mono {G H : List Nat} {w0 w : World} (h : Touch G w0 w) (hGH : ∀ g ∈ G, g ∈ H) : Touch H w0 w :=
  ⟨h.os, h.tape, h.output, h.size, fun k hk hg => h.block k hk fun hm => hg (hGH k hm)⟩
theorem Touch.drew {G : List Nat} {w0 w : World} (h : Touch G w0 w) : Touch G w0 w.drew := ⟨h.os, h.tape, h.output, h.size, h.block⟩

/-- a length, as a fact that is no rewrite rule -/
def Len {α : Type} (l : List α) (n : Nat) : Prop := l.length = n
theorem Len.of {α : Type} {l : List α} {n : Nat} (h : l.length = n) : Len l n := h
theorem Len.eq {α : Type} {l : List α} {n : Nat} (h : Len l n) : l.length = n := h
theorem Len.map {α β : Type} {l : List α} {n : Nat} (h : Len l n) (f : α → β) : Len (l.map f) n := by unfold Len; rw [List.length_map]; exact h
theorem Len.rep {α : Type} (n : Nat) (x : α) : Len (List.replicate n x) n := List.length_replicate
theorem Len.set {α : Type} {l : List α} {n : Nat} (h : Len l n) (i : Nat) (x : α) : Len (l.set i x) n := by unfold Len; rw [List.length_set]; exact h

/-- a block that is owned: its number (none: the nil slice), its type, the cells that are known (the first ones), how many cells it has -/
structure Blk where
  id : Option Nat
  ty : TypeId
  cells : List Value
  size : Nat

def Blk.holds (b : Blk) (w : World) : Prop :=
  match b.id with
  | none => b.cells = [] ∧ b.size = 0
  | some g => ∃ J, w.heap[g]? = some (.cells (b.cells ++ J).toArray b.ty) ∧ b.cells.length + J.length = b.size

theorem Blk.holds_some {g ty : Nat} {C : List Value} {N : Nat} {w : World} : (Blk.mk (some g) ty C N).holds w ↔ ∃ J, w.heap[g]? = some (.cells (C ++ J).toArray ty) ∧ C.length + J.length = N := Iff.rfl

structure Mem (G : List Nat) (w0 w : World) (L : List Blk) : Prop where
  touch : Touch G w0 w
  holds : ∀ b ∈ L, b.holds w
  own : ∀ b ∈ L, ∀ g, b.id = some g → g ∈ G ∨ w0.heap.size ≤ g
  nodup : (L.filterMap (·.id)).Nodup

theorem Mem.start (w : World) : Mem [] w w [] := ⟨Touch.refl _ _, by simp, by simp, by simp⟩
theorem Blk.holds.lt {b : Blk} {w : World} {g : Nat} (h : b.holds w) (hg : b.id = some g) : g < w.heap.size := by
  unfold Blk.holds at h
  rw [hg] at h
  obtain ⟨J, hJ, -⟩ := h
  exact (Array.getElem?_eq_some_iff.1 hJ).1
theorem Blk.holds.of_block {b : Blk} {w w' : World} (h : b.holds w) (he : ∀ g, b.id = some g → w'.heap[g]? = w.heap[g]?) : b.holds w' := by
  unfold Blk.holds at *
  cases hb : b.id with
  | none => simpa [hb] using h
  | some g =>
    rw [hb] at h
    simp only at h ⊢
    rw [he g hb]
    exact h

theorem mem_ids {L : List Blk} {g : Nat} : g ∈ L.filterMap (·.id) ↔ ∃ b ∈ L, b.id = some g := by simp [List.mem_filterMap]

/-- 'L is L' but for one entry -/
inductive Has : List Blk → Blk → Blk → List Blk → Prop
  | here (b b' : Blk) (L : List Blk) : Has (b :: L) b b' (b' :: L)
  | there {L L' : List Blk} {b b' : Blk} (x : Blk) (h : Has L b b' L') : Has (x :: L) b b' (x :: L')

theorem Has.mem {L L' : List Blk} {b b' : Blk} (h : Has L b b' L') : b ∈ L := by
  induction h with
  | here => simp
  | there _ _ ih => simp [ih]
theorem Has.mem' {L L' : List Blk} {b b' : Blk} (h : Has L b b' L') : ∀ x ∈ L', x = b' ∨ x ∈ L := by
  induction h with
  | here b b' L => intro x hx; simp at hx; rcases hx with h | h; exact .inl h; exact .inr (by simp [h])
  | there y _ ih => intro x hx; simp at hx; rcases hx with h | h; exact .inr (by simp [h]); rcases ih x h with h | h; exact .inl h; exact .inr (by simp [h])
theorem Has.ids {L L' : List Blk} {b b' : Blk} (h : Has L b b' L') (he : b'.id = b.id) : L'.filterMap (·.id) = L.filterMap (·.id) := by
  induction h with
  | here b b' L => simp [List.filterMap_cons, he]
  | there y _ ih => simp [List.filterMap_cons, ih he]
/-- entries other than the one at hand lie elsewhere -/
theorem Has.other {L L' : List Blk} {b b' : Blk} (h : Has L b b' L') {g : Nat} (hb : b.id = some g) (hn : (L.filterMap (·.id)).Nodup) : ∀ x ∈ L', x = b' ∨ (x ∈ L ∧ x.id ≠ some g) := by
  induction h with
  | here b b' L =>
    intro x hx
    simp at hx
    rcases hx with h | h
    · exact .inl h
    · refine .inr ⟨by simp [h], fun he => ?_⟩
      simp only [List.filterMap_cons, hb, List.nodup_cons] at hn
      exact hn.1 (mem_ids.2 ⟨x, h, he⟩)
  | there y hh ih =>
    intro x hx
    simp at hx
    rcases hx with h | h
    · subst h
      refine .inr ⟨by simp, fun he => ?_⟩
      simp only [List.filterMap_cons, he, List.nodup_cons] at hn
      exact hn.1 (mem_ids.2 ⟨_, hh.mem, hb⟩)
    · rcases ih hb (by
        simp only [List.filterMap_cons] at hn
        split at hn
        · exact hn
        · exact (List.nodup_cons.1 hn).2) x h with h | ⟨h1, h2⟩
      · exact .inl h
      · exact .inr ⟨by simp [h1], h2⟩

section
variable {G : List Nat} {w0 w : World} {L : List Blk}

theorem Mem.drew (h : Mem G w0 w L) : Mem G w0 w.drew L := ⟨h.touch.drew, h.holds, h.own, h.nodup⟩
theorem Mem.adds (h : Mem G w0 w L) {w' : World} (ha : Adds w w') : Mem G w0 w' L :=
  ⟨h.touch.step (Touch.of_below ha) (by simp), fun b hb => (h.holds b hb).of_block fun g hg => ha.block g ((h.holds b hb).lt hg), h.own, h.nodup⟩
theorem Mem.drop {b : Blk} (h : Mem G w0 w (b :: L)) : Mem G w0 w L :=
  ⟨h.touch, fun x hx => h.holds x (by simp [hx]), fun x hx => h.own x (by simp [hx]), by
    have := h.nodup
    simp only [List.filterMap_cons] at this
    split at this
    · exact this
    · exact (List.nodup_cons.1 this).2⟩
theorem Mem.drop2 {a b : Blk} (h : Mem G w0 w (a :: b :: L)) : Mem G w0 w (a :: L) := by
  refine ⟨h.touch, fun x hx => h.holds x (by simp at hx; rcases hx with h | h <;> simp [h]), fun x hx => h.own x (by simp at hx; rcases hx with h | h <;> simp [h]), ?_⟩
  have := h.nodup
  refine List.Nodup.sublist ?_ this
  simp only [List.filterMap_cons]
  cases a.id <;> cases b.id <;> simp
theorem Mem.forget (h : Mem G w0 w L) : Mem G w0 w [] := ⟨h.touch, by simp, by simp, by simp⟩
theorem Mem.done (h : Mem [] w0 w L) : Below w0.heap.size w0 w := h.touch.below
/-- a block that was there, and is in G -/
theorem Mem.take (h : Mem G w0 w0 L) {g : Nat} {t : TypeId} {C : List Value} (hR : Row w0 g t C) (hg : g ∈ G) (hn : ∀ b ∈ L, b.id ≠ some g) : Mem G w0 w0 (⟨some g, t, C, C.length⟩ :: L) :=
  ⟨h.touch, fun b hb => by
    simp at hb
    rcases hb with rfl | hb
    · exact ⟨[], by rw [List.append_nil]; exact hR, by simp⟩
    · exact h.holds b hb, fun b hb => by
    simp at hb
    rcases hb with rfl | hb
    · intro g' hg'; cases hg'; exact .inl hg
    · exact h.own b hb, by
    simp only [List.filterMap_cons, List.nodup_cons]
    exact ⟨fun hm => by obtain ⟨b, hb, he⟩ := mem_ids.1 hm; exact hn b hb he, h.nodup⟩⟩

theorem Mem.alloc (h : Mem G w0 w L) (C : List Value) (t : TypeId) : Mem G w0 (w.alloc (.cells C.toArray t)) (⟨some w.heap.size, t, C, C.length⟩ :: L) := by
  have ht : Touch [] w (w.alloc (.cells C.toArray t)) := Touch.of_below ((Below.refl _ _).alloc (Nat.le_refl _) _)
  refine ⟨h.touch.step ht (by simp), fun b hb => ?_, fun b hb => ?_, ?_⟩
  · simp at hb
    rcases hb with rfl | hb
    · exact ⟨[], by rw [List.append_nil]; exact Row.new w t C, by simp⟩
    · exact (h.holds b hb).of_block fun g hg => ht.block g ((h.holds b hb).lt hg) (by simp)
  · simp at hb
    rcases hb with rfl | hb
    · intro g' hg'; cases hg'; exact .inr h.touch.size
    · exact h.own b hb
  · simp only [List.filterMap_cons, List.nodup_cons]
    refine ⟨fun hm => ?_, h.nodup⟩
    obtain ⟨b, hb, he⟩ := mem_ids.1 hm
    exact Nat.lt_irrefl _ ((h.holds b hb).lt he)

/-- the block of an entry was written, and nothing else -/
theorem Mem.wrote (h : Mem G w0 w L) {L' : List Blk} {g : Nat} {t : TypeId} {C C' : List Value} {N : Nat} (hb : Has L ⟨some g, t, C, N⟩ ⟨some g, t, C', N⟩ L') {w' : World} (ht : Touch [g] w w')
    (hr : (Blk.mk (some g) t C' N).holds w') : Mem G w0 w' L' := by
  refine ⟨h.touch.step ht ?_, fun b hb' => ?_, fun b hb' => ?_, ?_⟩
  · intro k hk
    simp at hk
    subst hk
    exact h.own _ hb.mem _ rfl
  · rcases hb.other rfl h.nodup b hb' with rfl | ⟨h1, h2⟩
    · exact hr
    · exact (h.holds b h1).of_block fun k hk => ht.block k ((h.holds b h1).lt hk) (fun hm => by simp at hm; subst hm; exact h2 hk)
  · rcases hb.mem' b hb' with rfl | h1
    · intro g' hg'
      cases hg'
      exact h.own _ hb.mem _ rfl
    · exact h.own b h1
  · rw [hb.ids rfl]
    exact h.nodup

theorem touch_setRow {w : World} {g : Nat} (cs : Array Value) : Touch [g] w (w.setRow g cs) :=
  ⟨rfl, rfl, rfl, by simp, fun k _ hk => setRow_other w g k cs (fun he => hk (by simp [he]))⟩

theorem Mem.setRow (h : Mem G w0 w L) {L' : List Blk} {g : Nat} {t : TypeId} {C C' J : List Value} {N : Nat} (hb : Has L ⟨some g, t, C, N⟩ ⟨some g, t, C', N⟩ L') (hJ : w.heap[g]? = some (.cells (C ++ J).toArray t))
    (J' : List Value) (hN : C'.length + J'.length = N) : Mem G w0 (w.setRow g (C' ++ J').toArray) L' :=
  h.wrote hb (touch_setRow _) ⟨J', setRow_heap w g _ _ t _ hJ, hN⟩

/-- what was there is as it was -/
theorem Mem.bytes (h : Mem G w0 w L) {v : Value} {l : List UInt8} (hv : Bytes w0 v l) (hg : ∀ b off n cap, v = .slice (some ⟨b, off, none⟩) n cap → b ∉ G) : Bytes w v l := by
  obtain ⟨ao, cap, rfl, h1, h2, h3, h4⟩ := hv
  refine ⟨ao, cap, rfl, h1, h2, h3, fun j hj => ?_⟩
  obtain ⟨b, off, rfl, g2, g3⟩ := h4 j hj
  refine ⟨b, off, rfl, Nat.lt_of_lt_of_le g2 h.touch.size, ?_⟩
  rw [World.cell?_of_block (w := w0) (h.touch.block b g2 (hg b off _ _ rfl))]
  exact g3
theorem Mem.bytes0 (h : Mem [] w0 w L) {v : Value} {l : List UInt8} (hv : Bytes w0 v l) : Bytes w v l := h.bytes hv (by simp)
theorem Mem.row (h : Mem G w0 w L) {g : Nat} {t : TypeId} {C : List Value} (hR : Row w0 g t C) (hg : g ∉ G) : Row w g t C := (h.touch.block g hR.lt hg).trans hR

theorem Has.same {L : List Blk} {b : Blk} (h : b ∈ L) : Has L b b L := by
  induction L with
  | nil => cases h
  | cons x L ih =>
    rcases List.mem_cons.1 h with rfl | h
    · exact .here _ _ _
    · exact .there _ (ih h)

/-- the entry's cells -/
theorem Mem.cell (h : Mem G w0 w L) {g : Nat} {t : TypeId} {C : List Value} {N : Nat} (hb : ⟨some g, t, C, N⟩ ∈ L) {j : Nat} {v : Value} (hv : C[j]? = some v) : w.cell? ⟨g, j, none⟩ = some v := by
  obtain ⟨J, hJ, -⟩ := h.holds _ hb
  rw [Row.cell? (L := C ++ J) hJ, List.getElem?_append_left (List.getElem?_eq_some_iff.1 hv).1]
  exact hv
theorem Mem.free (h : Mem G w0 w L) {g : Nat} {t : TypeId} {C : List Value} {N : Nat} (hb : ⟨some g, t, C, N⟩ ∈ L) (j : Nat) : w.frozen? ⟨g, j, none⟩ = false := by
  obtain ⟨J, hJ, -⟩ := h.holds _ hb
  exact frozen_of_row w g j _ _ hJ
/-- a part of an entry's bytes, as a slice -/
theorem Mem.part (h : Mem G w0 w L) {g : Nat} {t : TypeId} {l : List UInt8} {X : List Value} {N : Nat} (hb : ⟨some g, t, l.map B8 ++ X, N⟩ ∈ L) {off n cap : Nat} (h1 : off + n ≤ l.length) (h2 : n ≤ cap) (h3 : cap ≤ 9223372036854775807) :
    Bytes w (.slice (some ⟨g, off, none⟩) n cap) ((l.drop off).take n) := by
  have hl : ((l.drop off).take n).length = n := by simp; omega
  refine ⟨some ⟨g, off, none⟩, cap, by rw [hl], by omega, h3, (fun h => by cases h), fun j hj => ?_⟩
  rw [hl] at hj
  refine ⟨g, off, rfl, (h.holds _ hb).lt rfl, ?_⟩
  refine h.cell hb ?_
  rw [List.getElem?_append_left (by simp; omega), List.getElem?_map, List.getD_eq_getElem?_getD, List.getElem?_take, if_pos hj, List.getElem?_drop, List.getElem?_eq_getElem (show off + j < l.length by omega)]
  rfl
theorem Mem.part' (h : Mem G w0 w L) {g : Nat} {t : TypeId} {l : List UInt8} {N : Nat} (hb : ⟨some g, t, l.map B8, N⟩ ∈ L) {off n cap : Nat} (h1 : off + n ≤ l.length) (h2 : n ≤ cap) (h3 : cap ≤ 9223372036854775807) :
    Bytes w (.slice (some ⟨g, off, none⟩) n cap) ((l.drop off).take n) := h.part (X := []) (by rw [List.append_nil]; exact hb) h1 h2 h3
/-- a slice of bytes that is owned, whole -/
theorem Mem.whole (h : Mem G w0 w L) {ob : Option Nat} {t : TypeId} {l : List UInt8} {N n : Nat} (hb : ⟨ob, t, l.map B8, N⟩ ∈ L) (hn : Len l n) (h3 : N ≤ 9223372036854775807) :
    Bytes w (.slice (ob.map fun g => ⟨g, 0, none⟩) n N) l := by
  have hn' : l.length = n := hn
  cases ob with
  | none =>
    have := h.holds _ hb
    obtain ⟨h1, h2⟩ := this
    have hl : l = [] := by simpa using h1
    have h2' : N = 0 := h2
    subst hl
    subst h2'
    have : n = 0 := by simpa using hn'.symm
    subst this
    exact Bytes.nil w
  | some g =>
    obtain ⟨J, hJ, hN⟩ := h.holds _ hb
    have hN' : l.length + J.length = N := by simpa using hN
    have := h.part' hb (off := 0) (n := n) (cap := N) (by omega) (by omega) h3
    rwa [List.drop_zero, List.take_of_length_le (by omega)] at this
end
end Go.PK
