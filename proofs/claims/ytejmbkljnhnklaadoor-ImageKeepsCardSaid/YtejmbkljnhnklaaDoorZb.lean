/-
  What a call owns, told in one place: 'Mem G w0 w L': between w0 and w only the blocks of G and new ones were touched; the entries of L are owned, unlike, and hold what is said. Rules of the walk that keep it.
  Steps of the walk over what a call owns ('Mem'): new blocks, loads, stores, copies, appends.
  Of the program's types of data: the zero value's cells, the size.
  A region that draws its order, whose first operations only add memory and whose last ones each follow all that stand ahead of them: the first ones by what each leaves, whatever the order; then the last ones, one behind the other.
  A drawn region's operations, each by what it makes of its operands; the frame is not looked at.
  Laws for scripts: objects by their numbers, rows of bytes that are kept: what is owned, brought forward and put back.
  Steps of the walk: a value put together of parts; numbers of kind uint64.
  Steps of the walk: copy of bytes into what is owned.
  A drawn region's operations: slices, comparisons of values of several cells.
  SHA-256 as plain functions on words and bytes; nothing of the program.
  Rows of bytes that are filled one behind the other; plain.
  The walks of the small functions of sha, and of its reference.
-/
import Derived.Deep.AppendLies
import Derived.Great.FillDense
import Derived.Test.YtejmbkljnhnklaaDoorZa
import Derived.Test.YtejmbkljnhnklaaDoorProg
namespace Go.PK
open Go.RowKit
structure Touch (G : List Nat) (w0 w : World) : Prop where
  os : w.os = w0.os
  tape : w.tape = w0.tape
  output : w.output = w0.output
  size : w0.heap.size ≤ w.heap.size
  block : ∀ k, k < w0.heap.size → k ∉ G → w.heap[k]? = w0.heap[k]?
theorem Touch.refl (G : List Nat) (w : World) : Touch G w w := ⟨rfl, rfl, rfl, Nat.le_refl _, fun _ _ _ => rfl⟩
theorem Touch.below {w0 w : World} (h : Touch [] w0 w) : Below w0.heap.size w0 w := ⟨h.os, h.tape, h.output, h.size, fun k hk => h.block k hk (by simp)⟩
theorem Touch.of_below {w0 w : World} (h : Below w0.heap.size w0 w) : Touch [] w0 w := ⟨h.os, h.tape, h.output, h.size, fun k hk _ => h.block k hk⟩
theorem Touch.step {G H : List Nat} {w0 w w' : World} (h : Touch G w0 w) (k : Touch H w w') (hH : ∀ g ∈ H, g ∈ G ∨ w0.heap.size ≤ g) : Touch G w0 w' :=
  ⟨k.os.trans h.os, k.tape.trans h.tape, k.output.trans h.output, Nat.le_trans h.size k.size, fun i hi hg =>
    (k.block i (Nat.lt_of_lt_of_le hi h.size) (fun hm => by rcases hH i hm with h1 | h1; exact hg h1; omega)).trans (h.block i hi hg)⟩
theorem Touch.mono {G H : List Nat} {w0 w : World} (h : Touch G w0 w) (hGH : ∀ g ∈ G, g ∈ H) : Touch H w0 w :=
  ⟨h.os, h.tape, h.output, h.size, fun k hk hg => h.block k hk fun hm => hg (hGH k hm)⟩
theorem Touch.drew {G : List Nat} {w0 w : World} (h : Touch G w0 w) : Touch G w0 w.drew := ⟨h.os, h.tape, h.output, h.size, h.block⟩
def Len {α : Type} (l : List α) (n : Nat) : Prop := l.length = n
theorem Len.of {α : Type} {l : List α} {n : Nat} (h : l.length = n) : Len l n := h
theorem Len.eq {α : Type} {l : List α} {n : Nat} (h : Len l n) : l.length = n := h
theorem Len.map {α β : Type} {l : List α} {n : Nat} (h : Len l n) (f : α → β) : Len (l.map f) n := by unfold Len; rw [List.length_map]; exact h
theorem Len.rep {α : Type} (n : Nat) (x : α) : Len (List.replicate n x) n := List.length_replicate
theorem Len.set {α : Type} {l : List α} {n : Nat} (h : Len l n) (i : Nat) (x : α) : Len (l.set i x) n := by unfold Len; rw [List.length_set]; exact h
structure Blk where
  id : Option Nat
  ty : TypeId
  cells : List Value
  size : Nat
def Blk.holds (b : Blk) (w : World) : Prop :=
  match b.id with
  | none => b.cells = [] ∧ b.size = 0
  | some g => ∃ J, w.heap[g]? = some (.cells (b.cells ++ J).toArray b.ty) ∧ b.cells.length + J.length = b.size
structure Mem (G : List Nat) (w0 w : World) (L : List Blk) : Prop where
  touch : Touch G w0 w
  holds : ∀ b ∈ L, b.holds w
  own : ∀ b ∈ L, ∀ g, b.id = some g → g ∈ G ∨ w0.heap.size ≤ g
  nodup : (L.filterMap (·.id)).Nodup
theorem Mem.start (w : World) : Mem [] w w [] := ⟨Touch.refl _ _, by simp, by simp, by simp⟩
theorem Blk.holds.lt {b : Blk} {w : World} {g : Nat} (h : b.holds w) (hg : b.id = some g) : g < w.heap.size := by
  unfold Blk.holds at h
  rw [hg] at h
  obtain ⟨J, hJ, -⟩ := h
  exact (Array.getElem?_eq_some_iff.1 hJ).1
theorem Blk.holds.of_block {b : Blk} {w w' : World} (h : b.holds w) (he : ∀ g, b.id = some g → w'.heap[g]? = w.heap[g]?) : b.holds w' := by
  unfold Blk.holds at *
  cases hb : b.id with
  | none => simpa [hb] using h
  | some g =>
    rw [hb] at h
    simp only at h ⊢
    rw [he g hb]
    exact h
theorem mem_ids {L : List Blk} {g : Nat} : g ∈ L.filterMap (·.id) ↔ ∃ b ∈ L, b.id = some g := by simp [List.mem_filterMap]
inductive Has : List Blk → Blk → Blk → List Blk → Prop
  | here (b b' : Blk) (L : List Blk) : Has (b :: L) b b' (b' :: L)
  | there {L L' : List Blk} {b b' : Blk} (x : Blk) (h : Has L b b' L') : Has (x :: L) b b' (x :: L')
theorem Has.mem {L L' : List Blk} {b b' : Blk} (h : Has L b b' L') : b ∈ L := by
  induction h with
  | here => simp
  | there _ _ ih => simp [ih]
theorem Has.mem' {L L' : List Blk} {b b' : Blk} (h : Has L b b' L') : ∀ x ∈ L', x = b' ∨ x ∈ L := by
  induction h with
  | here b b' L => intro x hx; simp at hx; rcases hx with h | h; exact .inl h; exact .inr (by simp [h])
  | there y _ ih => intro x hx; simp at hx; rcases hx with h | h; exact .inr (by simp [h]); rcases ih x h with h | h; exact .inl h; exact .inr (by simp [h])
theorem Has.ids {L L' : List Blk} {b b' : Blk} (h : Has L b b' L') (he : b'.id = b.id) : L'.filterMap (·.id) = L.filterMap (·.id) := by
  induction h with
  | here b b' L => simp [List.filterMap_cons, he]
  | there y _ ih => simp [List.filterMap_cons, ih he]
theorem Has.other {L L' : List Blk} {b b' : Blk} (h : Has L b b' L') {g : Nat} (hb : b.id = some g) (hn : (L.filterMap (·.id)).Nodup) : ∀ x ∈ L', x = b' ∨ (x ∈ L ∧ x.id ≠ some g) := by
  induction h with
  | here b b' L =>
    intro x hx
    simp at hx
    rcases hx with h | h
    · exact .inl h
    · refine .inr ⟨by simp [h], fun he => ?_⟩
      simp only [List.filterMap_cons, hb, List.nodup_cons] at hn
      exact hn.1 (mem_ids.2 ⟨x, h, he⟩)
  | there y hh ih =>
    intro x hx
    simp at hx
    rcases hx with h | h
    · subst h
      refine .inr ⟨by simp, fun he => ?_⟩
      simp only [List.filterMap_cons, he, List.nodup_cons] at hn
      exact hn.1 (mem_ids.2 ⟨_, hh.mem, hb⟩)
    · rcases ih hb (by
        simp only [List.filterMap_cons] at hn
        split at hn
        · exact hn
        · exact (List.nodup_cons.1 hn).2) x h with h | ⟨h1, h2⟩
      · exact .inl h
      · exact .inr ⟨by simp [h1], h2⟩
section
variable {G : List Nat} {w0 w : World} {L : List Blk}
theorem Mem.drew (h : Mem G w0 w L) : Mem G w0 w.drew L := ⟨h.touch.drew, h.holds, h.own, h.nodup⟩
theorem Mem.adds (h : Mem G w0 w L) {w' : World} (ha : Adds w w') : Mem G w0 w' L :=
  ⟨h.touch.step (Touch.of_below ha) (by simp), fun b hb => (h.holds b hb).of_block fun g hg => ha.block g ((h.holds b hb).lt hg), h.own, h.nodup⟩
theorem Mem.drop {b : Blk} (h : Mem G w0 w (b :: L)) : Mem G w0 w L :=
  ⟨h.touch, fun x hx => h.holds x (by simp [hx]), fun x hx => h.own x (by simp [hx]), by
    have := h.nodup
    simp only [List.filterMap_cons] at this
    split at this
    · exact this
    · exact (List.nodup_cons.1 this).2⟩
theorem Mem.drop2 {a b : Blk} (h : Mem G w0 w (a :: b :: L)) : Mem G w0 w (a :: L) := by
  refine ⟨h.touch, fun x hx => h.holds x (by simp at hx; rcases hx with h | h <;> simp [h]), fun x hx => h.own x (by simp at hx; rcases hx with h | h <;> simp [h]), ?_⟩
  have := h.nodup
  refine List.Nodup.sublist ?_ this
  simp only [List.filterMap_cons]
  cases a.id <;> cases b.id <;> simp
theorem Mem.done (h : Mem [] w0 w L) : Below w0.heap.size w0 w := h.touch.below
theorem Mem.take (h : Mem G w0 w0 L) {g : Nat} {t : TypeId} {C : List Value} (hR : Row w0 g t C) (hg : g ∈ G) (hn : ∀ b ∈ L, b.id ≠ some g) : Mem G w0 w0 (⟨some g, t, C, C.length⟩ :: L) :=
  ⟨h.touch, fun b hb => by
    simp at hb
    rcases hb with rfl | hb
    · exact ⟨[], by rw [List.append_nil]; exact hR, by simp⟩
    · exact h.holds b hb, fun b hb => by
    simp at hb
    rcases hb with rfl | hb
    · intro g' hg'; cases hg'; exact .inl hg
    · exact h.own b hb, by
    simp only [List.filterMap_cons, List.nodup_cons]
    exact ⟨fun hm => by obtain ⟨b, hb, he⟩ := mem_ids.1 hm; exact hn b hb he, h.nodup⟩⟩
theorem Mem.alloc (h : Mem G w0 w L) (C : List Value) (t : TypeId) : Mem G w0 (w.alloc (.cells C.toArray t)) (⟨some w.heap.size, t, C, C.length⟩ :: L) := by
  have ht : Touch [] w (w.alloc (.cells C.toArray t)) := Touch.of_below ((Below.refl _ _).alloc (Nat.le_refl _) _)
  refine ⟨h.touch.step ht (by simp), fun b hb => ?_, fun b hb => ?_, ?_⟩
  · simp at hb
    rcases hb with rfl | hb
    · exact ⟨[], by rw [List.append_nil]; exact Row.new w t C, by simp⟩
    · exact (h.holds b hb).of_block fun g hg => ht.block g ((h.holds b hb).lt hg) (by simp)
  · simp at hb
    rcases hb with rfl | hb
    · intro g' hg'; cases hg'; exact .inr h.touch.size
    · exact h.own b hb
  · simp only [List.filterMap_cons, List.nodup_cons]
    refine ⟨fun hm => ?_, h.nodup⟩
    obtain ⟨b, hb, he⟩ := mem_ids.1 hm
    exact Nat.lt_irrefl _ ((h.holds b hb).lt he)
theorem Mem.wrote (h : Mem G w0 w L) {L' : List Blk} {g : Nat} {t : TypeId} {C C' : List Value} {N : Nat} (hb : Has L ⟨some g, t, C, N⟩ ⟨some g, t, C', N⟩ L') {w' : World} (ht : Touch [g] w w')
    (hr : (Blk.mk (some g) t C' N).holds w') : Mem G w0 w' L' := by
  refine ⟨h.touch.step ht ?_, fun b hb' => ?_, fun b hb' => ?_, ?_⟩
  · intro k hk
    simp at hk
    subst hk
    exact h.own _ hb.mem _ rfl
  · rcases hb.other rfl h.nodup b hb' with rfl | ⟨h1, h2⟩
    · exact hr
    · exact (h.holds b h1).of_block fun k hk => ht.block k ((h.holds b h1).lt hk) (fun hm => by simp at hm; subst hm; exact h2 hk)
  · rcases hb.mem' b hb' with rfl | h1
    · intro g' hg'
      cases hg'
      exact h.own _ hb.mem _ rfl
    · exact h.own b h1
  · rw [hb.ids rfl]
    exact h.nodup
theorem touch_setRow {w : World} {g : Nat} (cs : Array Value) : Touch [g] w (w.setRow g cs) :=
  ⟨rfl, rfl, rfl, by simp, fun k _ hk => setRow_other w g k cs (fun he => hk (by simp [he]))⟩
theorem Mem.setRow (h : Mem G w0 w L) {L' : List Blk} {g : Nat} {t : TypeId} {C C' J : List Value} {N : Nat} (hb : Has L ⟨some g, t, C, N⟩ ⟨some g, t, C', N⟩ L') (hJ : w.heap[g]? = some (.cells (C ++ J).toArray t))
    (J' : List Value) (hN : C'.length + J'.length = N) : Mem G w0 (w.setRow g (C' ++ J').toArray) L' :=
  h.wrote hb (touch_setRow _) ⟨J', setRow_heap w g _ _ t _ hJ, hN⟩
theorem Mem.bytes (h : Mem G w0 w L) {v : Value} {l : List UInt8} (hv : Bytes w0 v l) (hg : ∀ b off n cap, v = .slice (some ⟨b, off, none⟩) n cap → b ∉ G) : Bytes w v l := by
  obtain ⟨ao, cap, rfl, h1, h2, h3, h4⟩ := hv
  refine ⟨ao, cap, rfl, h1, h2, h3, fun j hj => ?_⟩
  obtain ⟨b, off, rfl, g2, g3⟩ := h4 j hj
  refine ⟨b, off, rfl, Nat.lt_of_lt_of_le g2 h.touch.size, ?_⟩
  rw [World.cell?_of_block (w := w0) (h.touch.block b g2 (hg b off _ _ rfl))]
  exact g3
theorem Mem.bytes0 (h : Mem [] w0 w L) {v : Value} {l : List UInt8} (hv : Bytes w0 v l) : Bytes w v l := h.bytes hv (by simp)
theorem Mem.row (h : Mem G w0 w L) {g : Nat} {t : TypeId} {C : List Value} (hR : Row w0 g t C) (hg : g ∉ G) : Row w g t C := (h.touch.block g hR.lt hg).trans hR
theorem Has.same {L : List Blk} {b : Blk} (h : b ∈ L) : Has L b b L := by
  induction L with
  | nil => cases h
  | cons x L ih =>
    rcases List.mem_cons.1 h with rfl | h
    · exact .here _ _ _
    · exact .there _ (ih h)
theorem Mem.cell (h : Mem G w0 w L) {g : Nat} {t : TypeId} {C : List Value} {N : Nat} (hb : ⟨some g, t, C, N⟩ ∈ L) {j : Nat} {v : Value} (hv : C[j]? = some v) : w.cell? ⟨g, j, none⟩ = some v := by
  obtain ⟨J, hJ, -⟩ := h.holds _ hb
  rw [Row.cell? (L := C ++ J) hJ, List.getElem?_append_left (List.getElem?_eq_some_iff.1 hv).1]
  exact hv
theorem Mem.free (h : Mem G w0 w L) {g : Nat} {t : TypeId} {C : List Value} {N : Nat} (hb : ⟨some g, t, C, N⟩ ∈ L) (j : Nat) : w.frozen? ⟨g, j, none⟩ = false := by
  obtain ⟨J, hJ, -⟩ := h.holds _ hb
  exact frozen_of_row w g j _ _ hJ
theorem Mem.part (h : Mem G w0 w L) {g : Nat} {t : TypeId} {l : List UInt8} {X : List Value} {N : Nat} (hb : ⟨some g, t, l.map B8 ++ X, N⟩ ∈ L) {off n cap : Nat} (h1 : off + n ≤ l.length) (h2 : n ≤ cap) (h3 : cap ≤ 9223372036854775807) :
    Bytes w (.slice (some ⟨g, off, none⟩) n cap) ((l.drop off).take n) := by
  have hl : ((l.drop off).take n).length = n := by simp; omega
  refine ⟨some ⟨g, off, none⟩, cap, by rw [hl], by omega, h3, (fun h => by cases h), fun j hj => ?_⟩
  rw [hl] at hj
  refine ⟨g, off, rfl, (h.holds _ hb).lt rfl, ?_⟩
  refine h.cell hb ?_
  rw [List.getElem?_append_left (by simp; omega), List.getElem?_map, List.getD_eq_getElem?_getD, List.getElem?_take, if_pos hj, List.getElem?_drop, List.getElem?_eq_getElem (show off + j < l.length by omega)]
  rfl
theorem Mem.part' (h : Mem G w0 w L) {g : Nat} {t : TypeId} {l : List UInt8} {N : Nat} (hb : ⟨some g, t, l.map B8, N⟩ ∈ L) {off n cap : Nat} (h1 : off + n ≤ l.length) (h2 : n ≤ cap) (h3 : cap ≤ 9223372036854775807) :
    Bytes w (.slice (some ⟨g, off, none⟩) n cap) ((l.drop off).take n) := h.part (X := []) (by rw [List.append_nil]; exact hb) h1 h2 h3
theorem Mem.whole (h : Mem G w0 w L) {ob : Option Nat} {t : TypeId} {l : List UInt8} {N n : Nat} (hb : ⟨ob, t, l.map B8, N⟩ ∈ L) (hn : Len l n) (h3 : N ≤ 9223372036854775807) :
    Bytes w (.slice (ob.map fun g => ⟨g, 0, none⟩) n N) l := by
  have hn' : l.length = n := hn
  cases ob with
  | none =>
    have := h.holds _ hb
    obtain ⟨h1, h2⟩ := this
    have hl : l = [] := by simpa using h1
    have h2' : N = 0 := h2
    subst hl
    subst h2'
    have : n = 0 := by simpa using hn'.symm
    subst this
    exact Bytes.nil w
  | some g =>
    obtain ⟨J, hJ, hN⟩ := h.holds _ hb
    have hN' : l.length + J.length = N := by simpa using hN
    have := h.part' hb (off := 0) (n := n) (cap := N) (by omega) (by omega) h3
    rwa [List.drop_zero, List.take_of_length_le (by omega)] at this
end
end Go.PK
namespace Go.PK
open Go.RowKit
def gb (l : List UInt8) (i : Nat) : UInt8 := l.getD i 0
def gw (l : List UInt32) (i : Nat) : UInt32 := l.getD i 0
def aggB (P : Program) (ty : TypeId) (n : Nat) : Bool :=
  match P.underlying ty, P.info? ty with
  | some d, some i => isAggDesc d && i.size == n
  | _, _ => false
def oneB (P : Program) (ty : TypeId) : Bool :=
  match P.underlying ty, P.info? ty with
  | some d, some i => !isAggDesc d && i.size == 1
  | _, _ => false
section
variable {P : Program}
theorem aggB_parts {ty : TypeId} {n : Nat} (h : aggB P ty n = true) : ∃ d, P.underlying ty = some d ∧ isAggDesc d = true ∧ (P.info? ty).map (·.size) = some n := by
  unfold aggB at h
  split at h
  · rename_i d i hd hi
    simp at h
    exact ⟨d, hd, h.1, by simp [hi, h.2]⟩
  · cases h
theorem oneB_parts {ty : TypeId} (h : oneB P ty = true) : ∃ d, P.underlying ty = some d ∧ isAggDesc d = false ∧ (P.info? ty).map (·.size) = some 1 := by
  unfold oneB at h
  split at h
  · rename_i d i hd hi
    simp at h
    exact ⟨d, hd, h.1, by simp [hi, h.2]⟩
  · cases h
theorem run_load_one {ty : TypeId} {w : World} {a : Addr} {v : Value} (ht : oneB P ty = true) (hv : w.cell? a = some v) : (loadVar ty a).run P w = .ok v w := by
  obtain ⟨d, hu, hd, -⟩ := oneB_parts ht
  have hagg := run_isAgg (P := P) hu w
  rw [hd] at hagg
  simp [loadVar, Sem.run_bind, hagg, load, Sem.run, hv]
variable {G : List Nat} {w0 w : World} {L : List Blk}
theorem Mem.run_load (h : Mem G w0 w L) {ty g off n : Nat} {t : TypeId} {C : List Value} {N : Nat} (hb : ⟨some g, t, C, N⟩ ∈ L) (ht : aggB P ty n = true) (hn : off + n ≤ C.length) :
    (loadVar ty ⟨g, off, none⟩).run P w = .ok (.agg ((C.drop off).take n).toArray) w := by
  obtain ⟨J, hJ, -⟩ := h.holds _ hb
  obtain ⟨d, hu, hd, hs⟩ := aggB_parts ht
  have := run_loadVar_part (P := P) (L := C ++ J) hJ (o := off) (n := n) (by simp; omega) hu hd hs
  rw [this, List.drop_append_of_le_length (by omega), List.take_append_of_le_length (by simp; omega)]
theorem Mem.run_store (h : Mem G w0 w L) {ty g off : Nat} {t : TypeId} {C C1 : List Value} {N : Nat} {L' : List Blk} (hb : Has L ⟨some g, t, C, N⟩ ⟨some g, t, C.take off ++ C1 ++ C.drop (off + C1.length), N⟩ L') (ht : (P.info? ty).map (·.size) = some C1.length)
    (hn : off + C1.length ≤ C.length) (h1 : ∀ v ∈ C1, v.oneCell' = true) :
    ∃ w', (storeVar ty ⟨g, off, none⟩ (.agg C1.toArray)).run P w = .ok () w' ∧ Mem G w0 w' L' := by
  obtain ⟨J, hJ, hN⟩ := h.holds _ hb.mem
  have := run_storeVar_part (P := P) (L := C ++ J) (C := C1) hJ (o := off) (ty := ty) (by simp; omega) ht h1
  refine ⟨_, this, ?_⟩
  have he : List.take off (C ++ J) ++ C1 ++ List.drop (off + C1.length) (C ++ J) = (C.take off ++ C1 ++ C.drop (off + C1.length)) ++ J := by
    rw [List.take_append_of_le_length (by omega), List.drop_append_of_le_length (by omega)]
    simp
  rw [he]
  exact h.setRow hb hJ J (by simp at hN ⊢; omega)
theorem Mem.run_store_one (h : Mem G w0 w L) {ty g off : Nat} {t : TypeId} {C : List Value} {v : Value} {N : Nat} {L' : List Blk} (hb : Has L ⟨some g, t, C, N⟩ ⟨some g, t, C.set off v, N⟩ L') (ht : (P.info? ty).map (·.size) = some 1)
    (hn : off < C.length) (h1 : v.oneCell' = true) (h2 : v.cells = #[v]) :
    ∃ w', (storeVar ty ⟨g, off, none⟩ v).run P w = .ok () w' ∧ Mem G w0 w' L' := by
  obtain ⟨J, hJ, hN⟩ := h.holds _ hb.mem
  have := run_storeCells_at (P := P) g off t [v] 0 (C ++ J).toArray w hJ (by simp; omega) (by simpa using h1)
  refine ⟨_, ?_, h.setRow hb hJ J (by simp at hN ⊢; omega)⟩
  rw [storeVar]
  cases hq : P.info? ty with
  | none => simp [hq] at ht
  | some i =>
    have hs : i.size = 1 := by simpa [hq] using ht
    have he : (C ++ J).take off ++ [v] ++ (C ++ J).drop (off + 1) = C.set off v ++ J := by
      rw [List.take_append_of_le_length (by omega), List.drop_append_of_le_length (by omega), List.set_eq_take_append_cons_drop, if_pos hn]
      simp
    simp only [Nat.add_zero, List.length_singleton] at this
    rw [he] at this
    simpa [Sem.run_bind, sizeOf, typeInfo, hq, hs, h2] using this
theorem run_alloc_of {ty : TypeId} {z : Value} {C : List Value} (hz : (P.info? ty).map (·.zero) = some (some z)) (hC : z.cells = C.toArray) (w : World) :
    (Instr.alloc ty true (.tuple #[])).run P w = .ok (.pointer (some ⟨w.heap.size, 0, none⟩)) (w.alloc (.cells C.toArray ty)) := by
  cases hq : P.info? ty with
  | none => simp [hq] at hz
  | some i =>
    have hz' : i.zero = some z := by simpa [hq] using hz
    simp [Instr.alloc, zeroValue, typeInfo, hq, hz', newVar, newRow, hC]
theorem run_box_of {ty : TypeId} {v : Value} {C : List Value} (hC : v.cells = C.toArray) (w : World) :
    (Instr.box ty v).run P w = .ok (.pointer (some ⟨w.heap.size, 0, none⟩)) (w.alloc (.cells C.toArray ty)) := by
  simp [Instr.box, newVar, newRow, hC]
theorem Mem.setCell (h : Mem G w0 w L) {g off : Nat} {t : TypeId} {C : List Value} {v : Value} {N : Nat} {L' : List Blk} (hb : Has L ⟨some g, t, C, N⟩ ⟨some g, t, C.set off v, N⟩ L') (hn : off < C.length) : Mem G w0 (w.setCell ⟨g, off, none⟩ v) L' := by
  obtain ⟨J, hJ, hN⟩ := h.holds _ hb.mem
  refine h.wrote hb ⟨rfl, rfl, rfl, by simp, fun k _ hk => heap_setCell_other w ⟨g, off, none⟩ k v (fun he => hk (by simp [he]))⟩ ⟨J, ?_, ?_⟩
  · have := heap_setCell_same w g off _ _ v hJ
    rw [this, List.setIfInBounds_toArray, List.set_append_left _ _ hn]
  · simp only [List.length_set]
    exact hN
theorem Mem.setB8 (h : Mem G w0 w L) {g off : Nat} {t : TypeId} {l : List UInt8} {x : UInt8} {N : Nat} {L' : List Blk} (hb : Has L ⟨some g, t, l.map B8, N⟩ ⟨some g, t, (l.set off x).map B8, N⟩ L') (hn : off < l.length) : Mem G w0 (w.setCell ⟨g, off, none⟩ (B8 x)) L' :=
  h.setCell (C := l.map B8) (by rw [List.map_set] at hb; exact hb) (by simpa using hn)
variable {ops : Array Oper} {rest : List Oper} {a : Act} {Q : Exit → Act → World → Prop} {K : Act → World → Prop} {o : Oper}
theorem one_of_all {C : List Value} (h : C.all (·.oneCell') = true) : ∀ v ∈ C, v.oneCell' = true := fun v hv => List.all_eq_true.1 h v hv
def Zr (P : Program) (ty : TypeId) (C : List Value) (n : Nat) : Prop := ∃ z, (P.info? ty).map (·.zero) = some (some z) ∧ z.cells = C.toArray ∧ C.length = n
def El (P : Program) (e : TypeId) (size bytes : Nat) : Prop := ∃ z, (P.info? e).map (fun i => (i.zero, i.size, i.bytes)) = some (some z, size, bytes) ∧ z.cells.size = size ∧ 0 < size
/-! at one operation -/
theorem Mem.wp_alloc (hM : Mem G w0 w L) {ty : TypeId} {C : List Value} {n : Nat} (ho : o.op = .alloc ty) (hz : Zr P ty C n)
    (h : ∀ g w', Mem G w0 w' (⟨some g, ty, C, n⟩ :: L) → Touch [] w w' → K (a.put o.dst (.pointer (some ⟨g, 0, none⟩))) w') : o.wp P a w K Q := by
  unfold Oper.wp execOp
  obtain ⟨z, hz, hC, rfl⟩ := hz
  simp only [ho, Sem.run_bind, Sem.run_pure, Result.andThen_ok, run_alloc_of hz hC]
  exact h _ _ (hM.alloc C ty) (Touch.of_below ((Below.refl _ _).alloc (Nat.le_refl _) _))
theorem Mem.wp_box (hM : Mem G w0 w L) {ty : TypeId} {x : Operand} {v : Value} {C : List Value} {n : Nat} (ho : o.op = .box ty x) (hx : a.eval x = v) (hC : v.cells = C.toArray) (hn : Len C n)
    (h : ∀ g w', Mem G w0 w' (⟨some g, ty, C, n⟩ :: L) → Touch [] w w' → K (a.put o.dst (.pointer (some ⟨g, 0, none⟩))) w') : o.wp P a w K Q := by
  unfold Oper.wp execOp
  simp only [ho, hx, Sem.run_bind, Sem.run_pure, Result.andThen_ok, run_box_of hC]
  obtain rfl := hn.eq
  exact h _ _ (hM.alloc C ty) (Touch.of_below ((Below.refl _ _).alloc (Nat.le_refl _) _))
theorem Has.map_set {α : Type} {f : α → Value} {L L' : List Blk} {g : Option Nat} {t : TypeId} {l : List α} {off : Nat} {x : α} {N : Nat} (h : Has L ⟨g, t, l.map f, N⟩ ⟨g, t, (l.set off x).map f, N⟩ L') : Has L ⟨g, t, l.map f, N⟩ ⟨g, t, (l.map f).set off (f x), N⟩ L' := by
  rw [List.map_set] at h
  exact h
theorem get_map {α : Type} {f : α → Value} {l : List α} {j : Nat} (d : α) (hj : j < l.length) : (l.map f)[j]? = some (f (l.getD j d)) := by
  rw [List.getElem?_map, List.getElem?_eq_getElem hj, List.getD_eq_getElem?_getD, List.getElem?_eq_getElem hj]
  rfl
theorem wp_build0 {ty : TypeId} {C : List Value} {n m : Nat} {e : TypeId} (ho : o.op = .build ty #[]) (hz : Zr P ty C n) (hu : P.underlying ty = some (.array m e)) (hg : aggB P ty n = true) {es eb : Nat} (he : El P e es eb)
    (h : K (a.put o.dst (.agg C.toArray)) w) : o.wp P a w K Q := by
  obtain ⟨z, hz1, hz2, rfl⟩ := hz
  obtain ⟨z', he1, -, -⟩ := he
  cases hq : P.info? ty with
  | none => simp [hq] at hz1
  | some i =>
    have hz' : i.zero = some z := by simpa [hq] using hz1
    cases hr : P.info? e with
    | none => simp [hr] at he1
    | some j =>
      have hrun : (Instr.build ty #[]).run P w = .ok (.agg C.toArray) w := by
        simp [Instr.build, Instr.fill, zeroValue, typeInfo, sizeOf, Sem.run_bind, run_underlying hu, hq, hz', hr, hz2]
      unfold Oper.wp execOp
      simp only [ho, List.map_toArray, List.map_nil, Sem.run_bind, Sem.run_pure, Result.andThen_ok, hrun]
      exact h
theorem Mem.wp_copy (hM : Mem G w0 w L) {s x : Operand} {dT sT elem : TypeId} (ho : o.op = .call { callee := .builtin .copy, args := #[s, x], argTypes := #[dT, sT] })
    (hu : P.underlying dT = some (.slice elem)) (he : (P.info? elem).map (·.size) = some 1)
    {g off dLen dCap : Nat} (hs : a.eval s = .slice (some ⟨g, off, none⟩) dLen dCap) {t : TypeId} {C : List Value} {N : Nat} {L' : List Blk}
    {ad : Addr} {sLen sCap : Nat} (hx : a.eval x = .slice (some ad) sLen sCap) (cs : List Value) (hn : cs.length = Nat.min sLen dLen) (hsrc : ∀ j v, cs[j]? = some v → w.cell? (ad.add j) = some v)
    (hb : Has L ⟨some g, t, C, N⟩ ⟨some g, t, C.take off ++ cs ++ C.drop (off + cs.length), N⟩ L') (hfit : off + cs.length ≤ C.length) (h1 : ∀ v ∈ cs, v.oneCell' = true)
    (h : ∀ w', Mem G w0 w' L' → K (a.put o.dst (.int .i64 (cs.length : Int))) w') : o.wp P a w K Q := by
  obtain ⟨J, hJ, hN⟩ := hM.holds _ hb.mem
  refine Go.PK.wp_copy_row (L := C ++ J) s x dT sT elem ho hu he g off dLen dCap hs hJ ad sLen sCap hx cs hn hsrc (by simp; omega) h1 ?_
  have he : List.take off (C ++ J) ++ cs ++ List.drop (off + cs.length) (C ++ J) = (C.take off ++ cs ++ C.drop (off + cs.length)) ++ J := by
    rw [List.take_append_of_le_length (by omega), List.drop_append_of_le_length (by omega)]
    simp
  rw [he]
  exact h _ (hM.setRow hb hJ J (by simp at hN ⊢; omega))
inductive Swap : List Blk → Blk → Blk → List Blk → Prop
  | here (b b' : Blk) (L : List Blk) : Swap (b :: L) b b' (b' :: L)
  | there {L L' : List Blk} {b b' : Blk} (x : Blk) (h : Swap L b b' L') : Swap (x :: L) b b' (x :: L')
theorem Swap.mem {L L' : List Blk} {b b' : Blk} (h : Swap L b b' L') : b ∈ L := by
  induction h with
  | here => simp
  | there _ _ ih => simp [ih]
theorem Swap.mem' {L L' : List Blk} {b b' : Blk} (h : Swap L b b' L') : ∀ x ∈ L', x = b' ∨ x ∈ L := by
  induction h with
  | here b b' L => intro x hx; simp at hx; rcases hx with h | h; exact .inl h; exact .inr (by simp [h])
  | there y _ ih => intro x hx; simp at hx; rcases hx with h | h; exact .inr (by simp [h]); rcases ih x h with h | h; exact .inl h; exact .inr (by simp [h])
theorem Swap.other {L L' : List Blk} {b b' : Blk} (h : Swap L b b' L') (hn : (L.filterMap (·.id)).Nodup) : ∀ x ∈ L', x = b' ∨ (x ∈ L ∧ ∀ g, b.id = some g → x.id ≠ some g) := by
  induction h with
  | here b b' L =>
    intro x hx
    simp at hx
    rcases hx with h | h
    · exact .inl h
    · refine .inr ⟨by simp [h], fun g hb he => ?_⟩
      simp only [List.filterMap_cons, hb, List.nodup_cons] at hn
      exact hn.1 (mem_ids.2 ⟨x, h, he⟩)
  | there y hh ih =>
    intro x hx
    simp at hx
    rcases hx with h | h
    · subst h
      refine .inr ⟨by simp, fun g hb he => ?_⟩
      simp only [List.filterMap_cons, he, List.nodup_cons] at hn
      exact hn.1 (mem_ids.2 ⟨_, hh.mem, hb⟩)
    · rcases ih (by
        simp only [List.filterMap_cons] at hn
        split at hn
        · exact hn
        · exact (List.nodup_cons.1 hn).2) x h with h | ⟨h1, h2⟩
      · exact .inl h
      · exact .inr ⟨by simp [h1], h2⟩
theorem Swap.nodup {L L' : List Blk} {b b' : Blk} (h : Swap L b b' L') (hn : (L.filterMap (·.id)).Nodup) (hb : ∀ g, b'.id = some g → b.id = some g ∨ ∀ x ∈ L, x.id ≠ some g) : (L'.filterMap (·.id)).Nodup := by
  induction h with
  | here b b' L =>
    have hL : (L.filterMap (·.id)).Nodup := by
      simp only [List.filterMap_cons] at hn
      split at hn
      · exact hn
      · exact (List.nodup_cons.1 hn).2
    simp only [List.filterMap_cons]
    cases he : b'.id with
    | none => exact hL
    | some g =>
      refine List.nodup_cons.2 ⟨fun hm => ?_, hL⟩
      obtain ⟨x, hx, hxe⟩ := mem_ids.1 hm
      rcases hb g he with h1 | h1
      · simp only [List.filterMap_cons, h1, List.nodup_cons] at hn
        exact hn.1 hm
      · exact h1 x (by simp [hx]) hxe
  | @there L L' b b' y hh ih =>
    have hL : (L.filterMap (·.id)).Nodup := by
      simp only [List.filterMap_cons] at hn
      split at hn
      · exact hn
      · exact (List.nodup_cons.1 hn).2
    have ih' := ih hL (fun g hg => (hb g hg).imp id fun h x hx => h x (by simp [hx]))
    simp only [List.filterMap_cons]
    cases he : y.id with
    | none => exact ih'
    | some k =>
      refine List.nodup_cons.2 ⟨fun hm => ?_, ih'⟩
      obtain ⟨x, hx, hxe⟩ := mem_ids.1 hm
      rcases hh.mem' x hx with rfl | h1
      · rcases hb k hxe with h2 | h2
        · simp only [List.filterMap_cons, he, List.nodup_cons] at hn
          exact hn.1 (mem_ids.2 ⟨_, hh.mem, h2⟩)
        · exact h2 y (by simp) he
      · simp only [List.filterMap_cons, he, List.nodup_cons] at hn
        exact hn.1 (mem_ids.2 ⟨x, h1, hxe⟩)
abbrev sl (ob : Option Nat) (n cap : Nat) : Value := .slice (ob.map fun g => ⟨g, 0, none⟩) n cap
@[go_sem high] theorem sl_some (g n cap : Nat) : sl (some g) n cap = .slice (some ⟨g, 0, none⟩) n cap := rfl
theorem Mem.owns (hM : Mem G w0 w L) {ob : Option Nat} {e : TypeId} {C : List Value} {N n cap size : Nat} (hb : ⟨ob, e, C, N⟩ ∈ L) (hN : N = cap * size) (hC : C.length = n * size) (hsz : 0 < size) (hcap : cap ≤ maxLen) (base : Nat) (hbase : ∀ g, ob = some g → base ≤ g) :
    w.ownsRow base e size (sl ob n cap) n C := by
  refine ⟨hC, ?_⟩
  have hh := hM.holds _ hb
  cases ob with
  | none =>
    obtain ⟨h1, h2⟩ := hh
    simp only at h1 h2
    subst h1
    have hn : n = 0 := by
      rcases Nat.mul_eq_zero.1 (show n * size = 0 by simpa using hC.symm) with h | h <;> omega
    have hc : cap = 0 := by
      rw [hN] at h2
      rcases Nat.mul_eq_zero.1 h2 with h | h <;> omega
    subst hn
    subst hc
    exact .inl ⟨rfl, rfl⟩
  | some g =>
    obtain ⟨J, hJ, hJN⟩ := hh
    simp only at hJN
    refine .inr ⟨g, cap, (C ++ J).toArray, rfl, hbase g rfl, hJ, ?_, hcap, by simp; omega, ?_⟩
    · have : n * size ≤ cap * size := by omega
      exact Nat.le_of_mul_le_mul_right this hsz
    · rw [← hC]
      simp
def Src (w : World) (u : Value) (m : Nat) (news : List Value) : Prop :=
  (∃ ad c, u = .slice (some ad) m c ∧ (∀ j u, news[j]? = some u → w.cell? (ad.add j) = some u)) ∨ (u = .slice none 0 0 ∧ m = 0 ∧ news = [])
theorem Bytes.src {w : World} {u : Value} {l : List UInt8} (h : Bytes w u l) : Src w u l.length (l.map B8) := by
  obtain ⟨ao, cap, rfl, e1, e2, e3, e4⟩ := h
  cases ao with
  | none =>
    have hc := e3 rfl
    have hl : l = [] := List.eq_nil_of_length_eq_zero (by omega)
    subst hl
    subst hc
    exact .inr ⟨rfl, rfl, rfl⟩
  | some ad =>
    refine .inl ⟨ad, cap, rfl, fun j u hu => ?_⟩
    have hj : j < l.length := by simpa using (List.getElem?_eq_some_iff.1 hu).1
    obtain ⟨b, off, he, -, g3⟩ := e4 j hj
    cases he
    rw [Addr.add_lit, g3, ← hu, get_map 0 hj]
theorem Mem.wp_append (hM : Mem G w0 w L) {s x : Operand} {t : TypeId} {ob : Option Nat} {e : TypeId} {C : List Value} {N n cap size bytes : Nat} {L' : Option Nat → Nat → List Blk} (ho : o.op = .call { callee := .builtin .append, args := #[s, x], argTypes := #[t, t] })
    (hs : a.eval s = sl ob n cap) (ht : P.underlying t = some (.slice e)) (hel : El P e size bytes)
    {news : List Value} (hb : ∀ ob' cap', Swap L ⟨ob, e, C, N⟩ ⟨ob', e, C ++ news, cap' * size⟩ (L' ob' cap')) (hN : N = cap * size) (hC : C.length = n * size) (hcap : cap ≤ maxLen)
    {u : Value} {m : Nat} (hx : a.eval x = u) (hsrc : Src w u m news) (hl : news.length = m * size) (h1 : ∀ u ∈ news, u.oneCell' = true)
    (h63 : n + m ≤ maxLen) (hbytes : (n + m) * bytes ≤ 140737488355328)
    (h : ∀ ob' cap' w', Mem G w0 w' (L' ob' cap') → n + m ≤ cap' → cap' ≤ maxLen → K (a.put o.dst (sl ob' (n + m) cap')) w') :
    o.wp P a w K Q := by
  obtain ⟨z, hinfo, hzs, hsz⟩ := hel
  obtain ⟨i, hi, hz, hsize, hby⟩ := info_parts hinfo
  have hmem := (hb none 0).mem
  obtain ⟨base, hb1, hb2⟩ : ∃ base, base ≤ w.heap.size ∧ ∀ g, ob = some g → base ≤ g ∧ g = base := by
    cases ob with
    | none => exact ⟨w.heap.size, Nat.le_refl _, by simp⟩
    | some g => exact ⟨g, Nat.le_of_lt ((hM.holds _ hmem).lt rfl), fun g' hg' => by cases hg'; exact ⟨Nat.le_refl _, rfl⟩⟩
  have hown := hM.owns hmem hN hC hsz hcap base (fun g hg => (hb2 g hg).1)
  have hrow : ∀ k, (sl ob n cap).ownBlock = some k → ob = some k := by
    intro k hk
    cases ob with
    | none => simp [sl, Value.ownBlock] at hk
    | some g => simpa [sl, Value.ownBlock] using hk
  have fin : ∀ (ob' : Option Nat) (cap' : Nat) (w' : World), w.grownBy w' (sl ob n cap).ownBlock → (Blk.mk ob' e (C ++ news) (cap' * size)).holds w' → (∀ g, ob' = some g → ob = some g ∨ g = w.heap.size) → Mem G w0 w' (L' ob' cap') := by
    intro ob' cap' w' hg hh hlies
    have hsw := hb ob' cap'
    refine ⟨hM.touch.step (H := (ob.toList)) ⟨hg.os, hg.tape, hg.output, hg.size, fun k hk hno => hg.block k hk fun he => hno (by rw [hrow k he.symm]; simp)⟩ ?_, fun b hb' => ?_, fun b hb' => ?_, ?_⟩
    · intro k hk
      have hk' : ob = some k := by cases ob <;> simp_all
      exact hM.own _ hmem k hk'
    · rcases hsw.other hM.nodup b hb' with rfl | ⟨h1, h2⟩
      · exact hh
      · refine (hM.holds b h1).of_block fun k hk => hg.block k ((hM.holds b h1).lt hk) fun he => ?_
        exact h2 k (hrow k he.symm) hk
    · rcases hsw.mem' b hb' with rfl | h1
      · intro g hg'
        rcases hlies g hg' with h1 | h1
        · exact hM.own _ hmem g h1
        · exact .inr (by rw [h1]; exact hM.touch.size)
      · exact hM.own b h1
    · refine hsw.nodup hM.nodup fun g hg' => ?_
      rcases hlies g hg' with h1 | h1
      · exact .inl h1
      · exact .inr fun y hy he => by have := (hM.holds y hy).lt he; omega
  have hrun : ∃ v' w', (Builtin.append_ #[t, t] o.type #[sl ob n cap, u]).run P w = .ok v' w' ∧ w'.ownsRow base e size v' (n + m) (C ++ news) ∧ w.grownBy w' (sl ob n cap).ownBlock ∧ (v'.ownBlock = (sl ob n cap).ownBlock ∨ v'.ownBlock = some w.heap.size) := by
    rcases hsrc with ⟨ad, c, rfl, hnews⟩ | ⟨rfl, rfl, rfl⟩
    · obtain ⟨v', w', r1, r2, r3, -, r4⟩ := run_append_own_at (P := P) w base t o.type e i z size bytes ht hi hz hsize hby hzs hsz (sl ob n cap) n C hown ad m c news hl hnews h1 h63 hbytes hb1
      exact ⟨v', w', r1, r2, r3, r4⟩
    · refine ⟨_, w, run_append_owned_none (P := P) w base t o.type e i size ht hi (sl ob n cap) n C hown, by simpa using hown, World.grownBy.refl _ _, .inl rfl⟩
  obtain ⟨v', w', hr, hown2, hg, hlies⟩ := hrun
  unfold Oper.wp execOp
  simp only [ho, resolve, invoke, builtin, Sem.run_bind, Sem.run_pure, Result.andThen_ok, List.map_toArray, List.map_cons, List.map_nil, hs, hx, hr]
  rcases hown2.2 with ⟨rfl, h0⟩ | ⟨g, cap', cur, rfl, hbg, hcell, hc1, hc2, hc3, hc4⟩
  · have hCn : C ++ news = [] := List.eq_nil_of_length_eq_zero (by rw [hown2.1, h0, Nat.zero_mul])
    have := h none 0 w' (fin none 0 w' hg ⟨hCn, by simp⟩ (by simp)) (by omega) (by simp [maxLen])
    rw [h0] at this
    exact this
  · refine h (some g) cap' w' (fin (some g) cap' w' hg ⟨cur.toList.drop ((n + m) * size), ?_, ?_⟩ ?_) hc1 hc2
    · rw [hcell, ← hc4, List.take_append_drop]
    · simp only [List.length_append, hC, hl, List.length_drop, Array.length_toList, hc3]
      have : (n + m) * size ≤ cap' * size := Nat.mul_le_mul_right _ hc1
      rw [Nat.add_mul] at this ⊢
      omega
    · intro k hk
      cases hk
      rcases hlies with h1 | h1
      · left
        exact hrow g (by rw [← h1]; rfl)
      · right
        simpa [Value.ownBlock] using h1
/-! where no rule fits, the walk stops and shows the operation -/
def Stop (p : Prop) : Prop := p
theorem Stop.mk {p : Prop} (h : Stop p) : p := h
def isAppend : Op → Bool
  | .call { callee := .builtin .append, .. } => true
  | _ => false
def isBuildSlice : Op → Bool
  | .buildSlice .. => true
  | _ => false
def isLoad : Op → Bool
  | .load .. => true
  | _ => false
def isStore : Op → Bool
  | .store .. => true
  | _ => false
def isNew : Op → Bool
  | .alloc _ | .box .. => true
  | _ => false
def isBuild0 : Op → Bool
  | .build _ ps => ps.isEmpty
  | _ => false
variable {ops : Array Oper} {rest : List Oper}
theorem Mem.some_of (hM : Mem G w0 w L) {ob : Option Nat} {e : TypeId} {C : List Value} {N n : Nat} (hb : ⟨ob, e, C, N⟩ ∈ L) (hn : Len C n) (h0 : 0 < n) : ∃ g, ob = some g := by
  have hh := hM.holds _ hb
  cases ob with
  | none =>
    have h1 : C = [] := hh.1
    rw [h1] at hn
    have : 0 = n := hn
    omega
  | some g => exact ⟨g, rfl⟩
theorem Mem.addNil (hM : Mem G w0 w L) (e : TypeId) : Mem G w0 w (⟨none, e, [], 0⟩ :: L) :=
  ⟨hM.touch, fun b hb => by
    simp at hb
    rcases hb with rfl | hb
    · exact ⟨rfl, rfl⟩
    · exact hM.holds b hb, fun b hb => by
    simp at hb
    rcases hb with rfl | hb
    · intro g hg; cases hg
    · exact hM.own b hb, by simpa [List.filterMap_cons] using hM.nodup⟩
theorem zipIdx_of : ∀ (l : List (Nat × Value)) (k : Nat), l.map (·.1) = List.range' k l.length → l = ((l.map (·.2)).zipIdx k).map fun x => (x.2, x.1)
  | [], _, _ => rfl
  | (i, v) :: l, k, h => by
    rw [List.map_cons, List.length_cons, List.range'_succ] at h
    obtain ⟨h1, h2⟩ := List.cons.inj h
    have h1' : i = k := h1
    subst h1'
    rw [List.map_cons, List.zipIdx_cons, List.map_cons]
    exact congrArg _ (zipIdx_of l (i + 1) h2)
theorem Mem.wp_buildSlice (hM : Mem G w0 w L) {t e : TypeId} {len : Nat} {parts : List (Nat × Operand)} {size bytes : Nat} {C : List Value} (ho : o.op = .buildSlice t len parts.toArray) (hu : P.underlying t = some (.slice e)) (hel : El P e size bytes)
    (hsmall : len * size ≤ 16777216) (hpos : 0 < len) (hpl : parts.map (·.1) = List.range' 0 len) (hC : (parts.map fun p => (a.eval p.2)).flatMap (fun v => v.cells.toList) = C) (hall : ∀ v ∈ (parts.map fun p => (a.eval p.2)), v.cells.size = size) {N : Nat} (hN : N = len * size)
    (h : ∀ g w', Mem G w0 w' (⟨some g, e, C, N⟩ :: L) → K (a.put o.dst (.slice (some ⟨g, 0, none⟩) len len)) w') : o.wp P a w K Q := by
  obtain ⟨z, hinfo, hzs, hsz⟩ := hel
  obtain ⟨i, hi, hz0, hsize, hby⟩ := info_parts hinfo
  subst hC
  have hlen : parts.length = len := by simpa using congrArg List.length hpl
  have hp : ¬ len * i.size = 0 := by
    rw [hsize]
    exact Nat.ne_of_gt (Nat.mul_pos hpos hsz)
  have hf := Great.fill_whole hsz (parts.map fun p => (a.eval p.2)) ((Array.range (len * size)).map (z.cells[· % z.cells.size]!)) hall (by simp [hlen])
  have hz := zipIdx_of (parts.map fun p => (p.1, a.eval p.2)) 0 (by simpa [Function.comp_def, hlen] using hpl)
  have hm : (parts.map fun p => (p.1, a.eval p.2)).map (·.2) = parts.map fun p => (a.eval p.2) := by simp [Function.comp_def]
  rw [hm] at hz
  rw [← hz] at hf
  have hrun : (Instr.buildSlice t len ((parts.map fun p => (p.1, a.eval p.2)).toArray)).run P w = .ok (.slice (some ⟨w.heap.size, 0, none⟩) len len) (w.alloc (.cells ((parts.map fun p => (a.eval p.2)).flatMap (fun v => v.cells.toList)).toArray e)) := by
    have hs : ¬ len * i.size > 2 ^ 24 := by rw [hsize]; omega
    rw [← hsize] at hf
    simp [Instr.buildSlice, run_underlying hu, sizeOf, typeInfo, zeroValue, hi, hz0, hs, hp, newRow]
    rw [hf]
    rfl
  unfold Oper.wp execOp
  simp only [ho, List.map_toArray, Sem.run_bind, Sem.run_pure, Result.andThen_ok, hrun]
  have hCl : ((parts.map fun p => (a.eval p.2)).flatMap (fun v => v.cells.toList)).length = N := by
    have : ∀ vs : List Value, (∀ v ∈ vs, v.cells.size = size) → (vs.flatMap (fun v => v.cells.toList)).length = vs.length * size := by
      intro vs
      induction vs with
      | nil => simp
      | cons v vs ih =>
        intro h
        rw [List.flatMap_cons, List.length_append, ih (fun u hu => h u (by simp [hu])), List.length_cons, Nat.add_mul, Array.length_toList, h v (by simp)]
        omega
    rw [this _ hall, List.length_map, hlen, hN]
  rw [← hCl] at h
  exact h _ _ (hM.alloc _ e)
inductive EvB (a : Act) : List (Nat × Operand) → List UInt8 → Prop
  | nil : EvB a [] []
  | cons {i : Nat} {x : Operand} {v : Value} {b : UInt8} {ps : List (Nat × Operand)} {bs : List UInt8} (h : a.eval x = v) (hv : v = B8 b) (t : EvB a ps bs) : EvB a ((i, x) :: ps) (b :: bs)
theorem EvB.eq {a : Act} {ps : List (Nat × Operand)} {bs : List UInt8} (h : EvB a ps bs) : (ps.map fun p => a.eval p.2) = bs.map B8 := by
  induction h with
  | nil => rfl
  | cons h hv _ ih => rw [List.map_cons, List.map_cons, ih, h, hv]
theorem Mem.wp_buildBytes (hM : Mem G w0 w L) {t e : TypeId} {len : Nat} {parts : List (Nat × Operand)} {bs : List UInt8} (ho : o.op = .buildSlice t len parts.toArray) (hu : P.underlying t = some (.slice e)) (hel : El P e 1 1)
    (hsmall : len * 1 ≤ 16777216) (hpos : 0 < len) (hpl : parts.map (·.1) = List.range' 0 len) (hbs : EvB a parts bs) {N : Nat} (hN : N = len)
    (h : ∀ g w', Mem G w0 w' (⟨some g, e, bs.map B8, N⟩ :: L) → K (a.put o.dst (.slice (some ⟨g, 0, none⟩) len len)) w') : o.wp P a w K Q := by
  refine hM.wp_buildSlice ho hu hel hsmall hpos hpl (C := bs.map B8) ?_ ?_ (by omega) h
  · rw [hbs.eq]
    clear hbs h hpl ho
    induction bs with
    | nil => rfl
    | cons b bs ih => rw [List.map_cons, List.flatMap_cons, ih]; rfl
  · rw [hbs.eq]
    intro v hv
    obtain ⟨b, _, rfl⟩ := List.mem_map.1 hv
    rfl
theorem Mem.src (hM : Mem G w0 w L) {g : Nat} {e : TypeId} {C : List Value} {N m cap : Nat} (hb : ⟨some g, e, C, N⟩ ∈ L) : Src w (.slice (some ⟨g, 0, none⟩) m cap) m C :=
  .inl ⟨_, _, rfl, fun j u hu => by rw [Addr.add_lit, Nat.zero_add]; exact hM.cell hb hu⟩
theorem Mem.wp_append_B (hM : Mem G w0 w L) {s x : Operand} {t : TypeId} {ob : Option Nat} {e : TypeId} {l l2 : List UInt8} {n cap m : Nat} {u v : Value} {L' : Option Nat → Nat → List Blk}
    (ho : o.op = .call { callee := .builtin .append, args := #[s, x], argTypes := #[t, t] })
    (hs : a.eval s = v) (hv : v = sl ob n cap) (ht : P.underlying t = some (.slice e)) (hel : El P e 1 1)
    (hx : a.eval x = u) (hsrc : Src w u m (l2.map B8)) (hb : ∀ ob' cap', Swap L ⟨ob, e, l.map B8, cap⟩ ⟨ob', e, (l ++ l2).map B8, cap'⟩ (L' ob' cap')) (hn : Len l n) (hm : Len l2 m) (hcap : cap ≤ maxLen)
    (hlen : n + m ≤ 140737488355328)
    (h : ∀ ob' cap' w', Mem G w0 w' (L' ob' cap') → n + m ≤ cap' → cap' ≤ maxLen → K (a.put o.dst (sl ob' (n + m) cap')) w') : o.wp P a w K Q := by
  refine hM.wp_append (size := 1) (bytes := 1) (C := l.map B8) (news := l2.map B8) (N := cap) ho (hs.trans hv) ht hel ?_ (by omega) (by rw [List.length_map, hn.eq]; omega) hcap hx hsrc (by rw [List.length_map, hm.eq]; omega) ?_ (by simp only [maxLen]; omega) (by omega) h
  · intro ob' cap'
    rw [Nat.mul_one, ← List.map_append]
    exact hb ob' cap'
  · intro u hu
    obtain ⟨c, _, rfl⟩ := List.mem_map.1 hu
    rfl
/-! '==' and '!=' of values of several cells -/
def isEqOp : Op → Bool
  | .binOp .eql .. => true
  | .binOp .neq .. => true
  | _ => false
theorem wp_eq_of {ty yt : TypeId} {x y : Operand} {A B : Array Value} {b : Bool} (ho : o.op = .binOp .eql ty x y yt) (hx : a.eval x = .agg A) (hy : a.eval y = .agg B)
    (hE : P.eqGuardType P.depth ty = false ∧ ∀ w, (Op.equalIn 10000 ty (.agg A) (.agg B)).run P w = .ok b w) (hK : K (a.put o.dst (.bool b)) w) : o.wp P a w K Q :=
  wp_eql_agg ty yt x y ho A B hx hy hE.1 b (hE.2 w) hK
theorem wp_ne_of {ty yt : TypeId} {x y : Operand} {A B : Array Value} {b : Bool} (ho : o.op = .binOp .neq ty x y yt) (hx : a.eval x = .agg A) (hy : a.eval y = .agg B)
    (hE : P.eqGuardType P.depth ty = false ∧ ∀ w, (Op.equalIn 10000 ty (.agg A) (.agg B)).run P w = .ok b w) (hK : K (a.put o.dst (.bool (!b))) w) : o.wp P a w K Q :=
  wp_neq_agg ty yt x y ho A B hx hy hE.1 b (hE.2 w) hK
/-! the rules as the walk tries them: the operation by its form alone, the frame looked up once -/
def Loads (P : Program) (w : World) (ty : TypeId) (ad : Addr) (v : Value) : Prop := (loadVar ty ad).run P w = .ok v w
theorem Mem.loads_all (hM : Mem G w0 w L) {ty g : Nat} {t : TypeId} {C : List Value} {N : Nat} (hb : ⟨some g, t, C, N⟩ ∈ L) (ht : aggB P ty N = true) (hn : Len C N) : Loads P w ty ⟨g, 0, none⟩ (.agg C.toArray) := by
  have := hM.run_load (off := 0) hb ht (by have := hn.eq; omega)
  rwa [List.drop_zero, List.take_of_length_le (by have := hn.eq; omega)] at this
theorem Mem.loads_part (hM : Mem G w0 w L) {ty g off n : Nat} {t : TypeId} {C : List Value} {N : Nat} (hb : ⟨some g, t, C, N⟩ ∈ L) (ht : aggB P ty n = true) (hn : off + n ≤ C.length) : Loads P w ty ⟨g, off, none⟩ (.agg ((C.drop off).take n).toArray) :=
  hM.run_load hb ht hn
theorem Mem.loads_one (hM : Mem G w0 w L) {ty g off : Nat} {t : TypeId} {C : List Value} {N : Nat} {v : Value} (hb : ⟨some g, t, C, N⟩ ∈ L) (ht : oneB P ty = true) (hv : C[off]? = some v) : Loads P w ty ⟨g, off, none⟩ v :=
  run_load_one ht (hM.cell hb hv)
theorem Mem.loads_B8 (hM : Mem G w0 w L) {ty g off : Nat} {t : TypeId} {l : List UInt8} {N : Nat} (hb : ⟨some g, t, l.map B8, N⟩ ∈ L) (ht : oneB P ty = true) (hj : off < l.length) : Loads P w ty ⟨g, off, none⟩ (B8 (gb l off)) :=
  hM.loads_one hb ht (get_map 0 hj)
theorem Mem.loads_W32 (hM : Mem G w0 w L) {ty g off : Nat} {t : TypeId} {l : List UInt32} {N : Nat} (hb : ⟨some g, t, l.map W32, N⟩ ∈ L) (ht : oneB P ty = true) (hj : off < l.length) : Loads P w ty ⟨g, off, none⟩ (W32 (gw l off)) :=
  hM.loads_one hb ht (get_map 0 hj)
theorem loads_agg {w : World} {ty : TypeId} {ad : Addr} {C : List Value} {n : Nat} (ht : aggB P ty n = true) (hn : Len C n) (hc : ∀ j v, C[j]? = some v → w.cell? (ad.add j) = some v) : Loads P w ty ad (.agg C.toArray) := by
  obtain ⟨d, hu, hd, hs⟩ := aggB_parts ht
  have hl := run_loadCells_list (P := P) w ad C hc
  rw [hn.eq] at hl
  have hagg := run_isAgg (P := P) hu w
  rw [hd] at hagg
  unfold Loads
  cases hq : P.info? ty with
  | none => simp [hq] at hs
  | some i =>
    have hsz : i.size = n := by simpa [hq] using hs
    simp [loadVar, Sem.run_bind, hagg, sizeOf, typeInfo, hq, hsz, hl]
theorem loads_cell {w : World} {ty : TypeId} {ad : Addr} {v : Value} (hv : w.cell? ad = some v) (ht : oneB P ty = true) : Loads P w ty ad v := run_load_one ht hv
variable {dst : Option Tmp} {type : TypeId} {pos : String} {after : Array Edge} {j : Nat} {want : Bool}
theorem wp_load_of {w : World} {ty : TypeId} {x : Operand} {ad : Addr} {v : Value} (ho : o.op = .load ty x) (hx : a.eval x = .pointer (some ad)) (h : Loads P w ty ad v) (hK : K (a.put o.dst v) w) : o.wp P a w K Q := by
  unfold Oper.wp execOp
  unfold Loads at h
  simp only [ho, hx, Instr.loadAt, Instr.sureAddr, Sem.run_bind, Sem.run_pure, Result.andThen_ok, h]
  exact hK
theorem wpL_load {w : World} {ty : TypeId} {x : Operand} {ad : Addr} {v : Value} (hx : a.eval x = .pointer (some ad)) (h : Loads P w ty ad v) (hK : wpList P ops Q rest (a.put dst v) w) :
    wpList P ops Q (Oper.mk dst (.load ty x) type pos after none :: rest) a w := wpList_plain rfl fun _ hk => wp_load_of rfl hx h (hk _ _ hK)
theorem wpG_load {w : World} {ty : TypeId} {x : Operand} {ad : Addr} {v : Value} (hw : Region.wanted (Oper.mk dst (.load ty x) type pos after (some (j, want))) (yielded ops a.tmps) = true) (hx : a.eval x = .pointer (some ad)) (h : Loads P w ty ad v) (hK : wpList P ops Q rest (a.put dst v) w) :
    wpList P ops Q (Oper.mk dst (.load ty x) type pos after (some (j, want)) :: rest) a w := wpList_wanted hw (wp_load_of rfl hx h hK)
def Stores (P : Program) (G : List Nat) (w0 w : World) (ty : TypeId) (ad : Addr) (v : Value) (L' : List Blk) : Prop := ∃ w', (storeVar ty ad v).run P w = .ok () w' ∧ Mem G w0 w' L'
theorem Mem.stores (hM : Mem G w0 w L) {ty g off : Nat} {t : TypeId} {C C1 : List Value} {N n : Nat} {L' : List Blk} (hb : Has L ⟨some g, t, C, N⟩ ⟨some g, t, C.take off ++ C1 ++ C.drop (off + n), N⟩ L') (ht : aggB P ty n = true) (hn1 : Len C1 n)
    (hn : off + n ≤ C.length) (h1 : ∀ v ∈ C1, v.oneCell' = true) : Stores P G w0 w ty ⟨g, off, none⟩ (.agg C1.toArray) L' := by
  obtain ⟨d, -, -, hs⟩ := aggB_parts ht
  obtain rfl := hn1.eq
  exact hM.run_store hb hs hn h1
theorem Mem.stores_all (hM : Mem G w0 w L) {ty g : Nat} {t : TypeId} {C C1 : List Value} {N : Nat} {L' : List Blk} (hb : Has L ⟨some g, t, C, N⟩ ⟨some g, t, C1, N⟩ L') (ht : aggB P ty N = true) (hn1 : Len C1 N) (hn : Len C N) (h1 : ∀ v ∈ C1, v.oneCell' = true) : Stores P G w0 w ty ⟨g, 0, none⟩ (.agg C1.toArray) L' := by
  refine hM.stores (t := t) (C := C) (off := 0) (N := N) (n := N) ?_ ht hn1 (by have := hn.eq; omega) h1
  rw [List.take_zero, List.nil_append, List.drop_of_length_le (by have := hn.eq; omega), List.append_nil]
  exact hb
theorem Mem.stores_one (hM : Mem G w0 w L) {ty g off : Nat} {t : TypeId} {C : List Value} {v : Value} {N : Nat} {L' : List Blk} (hb : Has L ⟨some g, t, C, N⟩ ⟨some g, t, C.set off v, N⟩ L') (ht : oneB P ty = true) (hn : off < C.length) (h1 : v.oneCell' = true) (h2 : v.cells = #[v]) :
    Stores P G w0 w ty ⟨g, off, none⟩ v L' := by
  obtain ⟨d, -, -, hs⟩ := oneB_parts ht
  exact hM.run_store_one hb hs hn h1 h2
theorem Mem.stores_B8 (hM : Mem G w0 w L) {ty g off : Nat} {t : TypeId} {l : List UInt8} {c : UInt8} {v : Value} {N : Nat} {L' : List Blk} (hv : v = B8 c) (hb : Has L ⟨some g, t, l.map B8, N⟩ ⟨some g, t, (l.set off c).map B8, N⟩ L') (ht : oneB P ty = true) (hn : off < l.length) :
    Stores P G w0 w ty ⟨g, off, none⟩ v L' := by
  subst hv
  exact hM.stores_one hb.map_set ht (by simpa using hn) rfl rfl
theorem Mem.stores_W32 (hM : Mem G w0 w L) {ty g off : Nat} {t : TypeId} {l : List UInt32} {c : UInt32} {v : Value} {N : Nat} {L' : List Blk} (hv : v = W32 c) (hb : Has L ⟨some g, t, l.map W32, N⟩ ⟨some g, t, (l.set off c).map W32, N⟩ L') (ht : oneB P ty = true) (hn : off < l.length) :
    Stores P G w0 w ty ⟨g, off, none⟩ v L' := by
  subst hv
  exact hM.stores_one hb.map_set ht (by simpa using hn) rfl rfl
theorem wp_store_of {w : World} {ty : TypeId} {x y : Operand} {ad : Addr} {v : Value} {L' : List Blk} (ho : o.op = .store ty x y) (hx : a.eval x = .pointer (some ad)) (hy : a.eval y = v) (h : Stores P G w0 w ty ad v L') (hK : ∀ w', Mem G w0 w' L' → K (a.put o.dst undef) w') : o.wp P a w K Q := by
  obtain ⟨w', hr, hM'⟩ := h
  unfold Oper.wp execOp
  simp only [ho, hx, hy, Instr.storeAt, Instr.sureAddr, Sem.run_bind, Sem.run_pure, Result.andThen_ok, hr]
  exact hK _ hM'
theorem wpL_store {w : World} {ty : TypeId} {x y : Operand} {ad : Addr} {v : Value} {L' : List Blk} (hx : a.eval x = .pointer (some ad)) (hy : a.eval y = v) (h : Stores P G w0 w ty ad v L') (hK : ∀ w', Mem G w0 w' L' → wpList P ops Q rest (a.put dst undef) w') :
    wpList P ops Q (Oper.mk dst (.store ty x y) type pos after none :: rest) a w := wpList_plain rfl fun _ hk => wp_store_of rfl hx hy h fun w' hm => hk _ _ (hK w' hm)
theorem wpL_alloc (hM : Mem G w0 w L) {ty : TypeId} {C : List Value} {n : Nat} (hz : Zr P ty C n) (hK : ∀ g w', Mem G w0 w' (⟨some g, ty, C, n⟩ :: L) → wpList P ops Q rest (a.put dst (.pointer (some ⟨g, 0, none⟩))) w') :
    wpList P ops Q (Oper.mk dst (.alloc ty) type pos after none :: rest) a w := wpList_plain rfl fun _ hk => hM.wp_alloc rfl hz fun g w' hm _ => hk _ _ (hK g w' hm)
theorem wpL_box (hM : Mem G w0 w L) {ty : TypeId} {x : Operand} {v : Value} {C : List Value} {n : Nat} (hx : a.eval x = v) (hC : v.cells = C.toArray) (hn : Len C n) (hK : ∀ g w', Mem G w0 w' (⟨some g, ty, C, n⟩ :: L) → wpList P ops Q rest (a.put dst (.pointer (some ⟨g, 0, none⟩))) w') :
    wpList P ops Q (Oper.mk dst (.box ty x) type pos after none :: rest) a w := wpList_plain rfl fun _ hk => hM.wp_box rfl hx hC hn fun g w' hm _ => hk _ _ (hK g w' hm)
theorem wpL_build0 {w : World} {ty : TypeId} {C : List Value} {n m : Nat} {e : TypeId} (hz : Zr P ty C n) (hu : P.underlying ty = some (.array m e)) (hg : aggB P ty n = true) {es eb : Nat} (he : El P e es eb) (hK : wpList P ops Q rest (a.put dst (.agg C.toArray)) w) :
    wpList P ops Q (Oper.mk dst (.build ty #[]) type pos after none :: rest) a w := wpList_plain rfl fun _ hk => wp_build0 rfl hz hu hg he (hk _ _ hK)
theorem wpL_buildBytes (hM : Mem G w0 w L) {t e : TypeId} {len : Nat} {parts : List (Nat × Operand)} {bs : List UInt8} (hu : P.underlying t = some (.slice e)) (hel : El P e 1 1)
    (hsmall : len * 1 ≤ 16777216) (hpos : 0 < len) (hpl : parts.map (·.1) = List.range' 0 len) (hbs : EvB a parts bs)
    (hK : ∀ g w', Mem G w0 w' (⟨some g, e, bs.map B8, len⟩ :: L) → wpList P ops Q rest (a.put dst (.slice (some ⟨g, 0, none⟩) len len)) w') :
    wpList P ops Q (Oper.mk dst (.buildSlice t len parts.toArray) type pos after none :: rest) a w := wpList_plain rfl fun _ hk => hM.wp_buildBytes rfl hu hel hsmall hpos hpl hbs rfl fun g w' hm => hk _ _ (hK g w' hm)
theorem wpL_append_B (hM : Mem G w0 w L) {s x : Operand} {t : TypeId} {ob : Option Nat} {e : TypeId} {l l2 : List UInt8} {n cap m : Nat} {u v : Value} {L' : Option Nat → Nat → List Blk}
    (hs : a.eval s = v) (hx : a.eval x = u) (hv : v = sl ob n cap) (ht : P.underlying t = some (.slice e)) (hel : El P e 1 1)
    (hsrc : Src w u m (l2.map B8)) (hb : ∀ ob' cap', Swap L ⟨ob, e, l.map B8, cap⟩ ⟨ob', e, (l ++ l2).map B8, cap'⟩ (L' ob' cap')) (hn : Len l n) (hm : Len l2 m) (hcap : cap ≤ maxLen)
    (hlen : n + m ≤ 140737488355328)
    (hK : ∀ ob' cap' w', Mem G w0 w' (L' ob' cap') → n + m ≤ cap' → cap' ≤ maxLen → wpList P ops Q rest (a.put dst (sl ob' (n + m) cap')) w') :
    wpList P ops Q (Oper.mk dst (.call { callee := .builtin .append, args := #[s, x], argTypes := #[t, t] }) type pos after none :: rest) a w :=
  wpList_plain rfl fun _ hk => hM.wp_append_B rfl hs hv ht hel hx hsrc hb hn hm hcap hlen fun ob' cap' w' h1 h2 h3 => hk _ _ (hK ob' cap' w' h1 h2 h3)
def EqTo (P : Program) (ty : TypeId) (A B : Array Value) (b : Bool) : Prop := P.eqGuardType P.depth ty = false ∧ ∀ w, (Op.equalIn 10000 ty (.agg A) (.agg B)).run P w = .ok b w
theorem wpL_eql {w : World} {ty yt : TypeId} {x y : Operand} {A B : Array Value} {b : Bool} (hx : a.eval x = .agg A) (hy : a.eval y = .agg B) (hE : EqTo P ty A B b) (hK : wpList P ops Q rest (a.put dst (.bool b)) w) :
    wpList P ops Q (Oper.mk dst (.binOp .eql ty x y yt) type pos after none :: rest) a w := wpList_plain rfl fun _ hk => wp_eq_of rfl hx hy hE (hk _ _ hK)
theorem wpL_neq {w : World} {ty yt : TypeId} {x y : Operand} {A B : Array Value} {b : Bool} (hx : a.eval x = .agg A) (hy : a.eval y = .agg B) (hE : EqTo P ty A B b) (hK : wpList P ops Q rest (a.put dst (.bool (!b))) w) :
    wpList P ops Q (Oper.mk dst (.binOp .neq ty x y yt) type pos after none :: rest) a w := wpList_plain rfl fun _ hk => wp_ne_of rfl hx hy hE (hk _ _ hK)
theorem wpG_eql {w : World} {ty yt : TypeId} {x y : Operand} {A B : Array Value} {b : Bool} (hw : Region.wanted (Oper.mk dst (.binOp .eql ty x y yt) type pos after (some (j, want))) (yielded ops a.tmps) = true) (hx : a.eval x = .agg A) (hy : a.eval y = .agg B) (hE : EqTo P ty A B b) (hK : wpList P ops Q rest (a.put dst (.bool b)) w) :
    wpList P ops Q (Oper.mk dst (.binOp .eql ty x y yt) type pos after (some (j, want)) :: rest) a w := wpList_wanted hw (wp_eq_of rfl hx hy hE hK)
theorem wpG_neq {w : World} {ty yt : TypeId} {x y : Operand} {A B : Array Value} {b : Bool} (hw : Region.wanted (Oper.mk dst (.binOp .neq ty x y yt) type pos after (some (j, want))) (yielded ops a.tmps) = true) (hx : a.eval x = .agg A) (hy : a.eval y = .agg B) (hE : EqTo P ty A B b) (hK : wpList P ops Q rest (a.put dst (.bool (!b))) w) :
    wpList P ops Q (Oper.mk dst (.binOp .neq ty x y yt) type pos after (some (j, want)) :: rest) a w := wpList_wanted hw (wp_ne_of rfl hx hy hE hK)
def fieldB (P : Program) (ty : TypeId) (f off : Nat) : Bool :=
  match P.underlying ty with
  | some (.struct fs) => match fs[f]? with
    | some fl => fl.offset == off && oneB P fl.type
    | none => false
  | _ => false
def fieldA (P : Program) (ty : TypeId) (f off n : Nat) : Bool :=
  match P.underlying ty with
  | some (.struct fs) => match fs[f]? with
    | some fl => fl.offset == off && aggB P fl.type n
    | none => false
  | _ => false
theorem run_fieldB {ty f off : Nat} {C : List Value} {v : Value} (h : fieldB P ty f off = true) (hv : C[off]? = some v) (w : World) : (Instr.field ty (.agg C.toArray) f).run P w = .ok v w := by
  unfold fieldB at h
  split at h
  · rename_i fs hu
    split at h
    · rename_i fl hf
      simp at h
      obtain ⟨h1, h2⟩ := h
      obtain ⟨d, hd, hd2, -⟩ := oneB_parts h2
      have hagg := run_isAgg (P := P) hd w
      rw [hd2] at hagg
      have hv' : C.toArray[fl.offset]? = some v := by rw [h1, List.getElem?_toArray]; exact hv
      simp [Instr.field, Sem.run_bind, run_underlying hu, hf, part, hagg, asAgg, hv, h1]
    · cases h
  · cases h
theorem run_fieldA {ty f off n : Nat} {C : List Value} (h : fieldA P ty f off n = true) (w : World) : (Instr.field ty (.agg C.toArray) f).run P w = .ok (.agg ((C.drop off).take n).toArray) w := by
  unfold fieldA at h
  split at h
  · rename_i fs hu
    split at h
    · rename_i fl hf
      simp at h
      obtain ⟨h1, h2⟩ := h
      obtain ⟨d, hd, hd2, hs⟩ := aggB_parts h2
      have hagg := run_isAgg (P := P) hd w
      rw [hd2] at hagg
      cases hq : P.info? fl.type with
      | none => simp [hq] at hs
      | some i =>
        have hsz : i.size = n := by simpa [hq] using hs
        have he : C.toArray.extract off (off + n) = ((C.drop off).take n).toArray := by
          rw [List.extract_toArray]
          simp [List.extract_eq_take_drop]
        simp [Instr.field, Sem.run_bind, run_underlying hu, hf, part, hagg, asAgg, sizeOf, typeInfo, hq, hsz, h1]
    · cases h
  · cases h
def Field (P : Program) (ty : TypeId) (V : Value) (f : Nat) (v : Value) : Prop := ∀ w, (Instr.field ty V f).run P w = .ok v w
theorem field_one {ty f off : Nat} {C : List Value} {v : Value} (h : fieldB P ty f off = true) (hv : C[off]? = some v) : Field P ty (.agg C.toArray) f v := run_fieldB h hv
theorem field_agg {ty f off n : Nat} {C C1 : List Value} (h : fieldA P ty f off n = true) (hC : (C.drop off).take n = C1) : Field P ty (.agg C.toArray) f (.agg C1.toArray) := by subst hC; exact run_fieldA h
theorem wp_field_of {w : World} {ty f : Nat} {x : Operand} {V v : Value} (ho : o.op = .field ty x f) (hx : a.eval x = V) (h : Field P ty V f v) (hK : K (a.put o.dst v) w) : o.wp P a w K Q := by
  unfold Oper.wp execOp
  simp only [ho, hx, Sem.run_bind, Sem.run_pure, Result.andThen_ok, h w]
  exact hK
theorem wpL_field {w : World} {ty f : Nat} {x : Operand} {V v : Value} (hx : a.eval x = V) (h : Field P ty V f v) (hK : wpList P ops Q rest (a.put dst v) w) :
    wpList P ops Q (Oper.mk dst (.field ty x f) type pos after none :: rest) a w := wpList_plain rfl fun _ hk => wp_field_of rfl hx h (hk _ _ hK)
theorem wpG_field {w : World} {ty f : Nat} {x : Operand} {V v : Value} (hw : Region.wanted (Oper.mk dst (.field ty x f) type pos after (some (j, want))) (yielded ops a.tmps) = true) (hx : a.eval x = V) (h : Field P ty V f v) (hK : wpList P ops Q rest (a.put dst v) w) :
    wpList P ops Q (Oper.mk dst (.field ty x f) type pos after (some (j, want)) :: rest) a w := wpList_wanted hw (wp_field_of rfl hx h hK)
/-! the same, with what is to be found behind one '∃' -/
theorem gL_load {w : World} {ty : TypeId} {x : Operand} (h : ∃ ad v, a.eval x = .pointer (some ad) ∧ Loads P w ty ad v ∧ wpList P ops Q rest (a.put dst v) w) : wpList P ops Q (Oper.mk dst (.load ty x) type pos after none :: rest) a w :=
  let ⟨_, _, h1, h2, h3⟩ := h; wpL_load h1 h2 h3
theorem gG_load {w : World} {ty : TypeId} {x : Operand} (hw : Region.wanted (Oper.mk dst (.load ty x) type pos after (some (j, want))) (yielded ops a.tmps) = true) (h : ∃ ad v, a.eval x = .pointer (some ad) ∧ Loads P w ty ad v ∧ wpList P ops Q rest (a.put dst v) w) :
    wpList P ops Q (Oper.mk dst (.load ty x) type pos after (some (j, want)) :: rest) a w := let ⟨_, _, h1, h2, h3⟩ := h; wpG_load hw h1 h2 h3
theorem gL_store (_hM : Mem G w0 w L) {ty : TypeId} {x y : Operand} (h : ∃ ad v L', a.eval x = .pointer (some ad) ∧ a.eval y = v ∧ Stores P G w0 w ty ad v L' ∧ ∀ w', Mem G w0 w' L' → wpList P ops Q rest (a.put dst undef) w') :
    wpList P ops Q (Oper.mk dst (.store ty x y) type pos after none :: rest) a w := let ⟨_, _, _, h1, h2, h3, h4⟩ := h; wpL_store h1 h2 h3 h4
theorem gL_alloc (hM : Mem G w0 w L) {ty : TypeId} (h : ∃ C n, Zr P ty C n ∧ ∀ g w', Mem G w0 w' (⟨some g, ty, C, n⟩ :: L) → wpList P ops Q rest (a.put dst (.pointer (some ⟨g, 0, none⟩))) w') :
    wpList P ops Q (Oper.mk dst (.alloc ty) type pos after none :: rest) a w := let ⟨_, _, h1, h2⟩ := h; wpL_alloc hM h1 h2
theorem gL_box (hM : Mem G w0 w L) {ty : TypeId} {x : Operand} (h : ∃ v C n, a.eval x = v ∧ v.cells = C.toArray ∧ Len C n ∧ ∀ g w', Mem G w0 w' (⟨some g, ty, C, n⟩ :: L) → wpList P ops Q rest (a.put dst (.pointer (some ⟨g, 0, none⟩))) w') :
    wpList P ops Q (Oper.mk dst (.box ty x) type pos after none :: rest) a w := let ⟨_, _, _, h1, h2, h3, h4⟩ := h; wpL_box hM h1 h2 h3 h4
theorem gL_build0 {w : World} {ty : TypeId} (h : ∃ C n m e es eb, Zr P ty C n ∧ P.underlying ty = some (.array m e) ∧ aggB P ty n = true ∧ El P e es eb ∧ wpList P ops Q rest (a.put dst (.agg C.toArray)) w) :
    wpList P ops Q (Oper.mk dst (.build ty #[]) type pos after none :: rest) a w := let ⟨_, _, _, _, _, _, h1, h2, h3, h4, h5⟩ := h; wpL_build0 h1 h2 h3 h4 h5
theorem gL_buildBytes (hM : Mem G w0 w L) {t : TypeId} {len : Nat} {parts : List (Nat × Operand)} (h : ∃ e bs, P.underlying t = some (.slice e) ∧ El P e 1 1 ∧ len * 1 ≤ 16777216 ∧ 0 < len ∧ parts.map (·.1) = List.range' 0 len ∧ EvB a parts bs ∧
    ∀ g w', Mem G w0 w' (⟨some g, e, bs.map B8, len⟩ :: L) → wpList P ops Q rest (a.put dst (.slice (some ⟨g, 0, none⟩) len len)) w') :
    wpList P ops Q (Oper.mk dst (.buildSlice t len parts.toArray) type pos after none :: rest) a w := let ⟨_, _, h1, h2, h3, h4, h5, h6, h7⟩ := h; wpL_buildBytes hM h1 h2 h3 h4 h5 h6 h7
theorem gL_append_B (hM : Mem G w0 w L) {s x : Operand} {t : TypeId} (h : ∃ (v u : Value) (ob : Option Nat) (n cap : Nat) (e : TypeId) (l l2 : List UInt8) (m : Nat) (L' : Option Nat → Nat → List Blk), a.eval s = v ∧ a.eval x = u ∧ v = sl ob n cap ∧ P.underlying t = some (.slice e) ∧ El P e 1 1 ∧ Src w u m (l2.map B8) ∧
    (∀ ob' cap', Swap L ⟨ob, e, l.map B8, cap⟩ ⟨ob', e, (l ++ l2).map B8, cap'⟩ (L' ob' cap')) ∧ Len l n ∧ Len l2 m ∧ cap ≤ maxLen ∧ n + m ≤ 140737488355328 ∧
    ∀ ob' cap' w', Mem G w0 w' (L' ob' cap') → n + m ≤ cap' → cap' ≤ maxLen → wpList P ops Q rest (a.put dst (sl ob' (n + m) cap')) w') :
    wpList P ops Q (Oper.mk dst (.call { callee := .builtin .append, args := #[s, x], argTypes := #[t, t] }) type pos after none :: rest) a w :=
  let ⟨_, _, _, _, _, _, _, _, _, _, h1, h2, h3, h4, h5, h6, h7, h8, h9, h10, h11, h12⟩ := h; wpL_append_B hM h1 h2 h3 h4 h5 h6 h7 h8 h9 h10 h11 h12
theorem gL_field {w : World} {ty f : Nat} {x : Operand} (h : ∃ V v, a.eval x = V ∧ Field P ty V f v ∧ wpList P ops Q rest (a.put dst v) w) : wpList P ops Q (Oper.mk dst (.field ty x f) type pos after none :: rest) a w :=
  let ⟨_, _, h1, h2, h3⟩ := h; wpL_field h1 h2 h3
theorem gG_field {w : World} {ty f : Nat} {x : Operand} (hw : Region.wanted (Oper.mk dst (.field ty x f) type pos after (some (j, want))) (yielded ops a.tmps) = true) (h : ∃ V v, a.eval x = V ∧ Field P ty V f v ∧ wpList P ops Q rest (a.put dst v) w) :
    wpList P ops Q (Oper.mk dst (.field ty x f) type pos after (some (j, want)) :: rest) a w := let ⟨_, _, h1, h2, h3⟩ := h; wpG_field hw h1 h2 h3
theorem gL_eql {w : World} {ty yt : TypeId} {x y : Operand} (h : ∃ A B b, a.eval x = .agg A ∧ a.eval y = .agg B ∧ EqTo P ty A B b ∧ wpList P ops Q rest (a.put dst (.bool b)) w) :
    wpList P ops Q (Oper.mk dst (.binOp .eql ty x y yt) type pos after none :: rest) a w := let ⟨_, _, _, h1, h2, h3, h4⟩ := h; wpL_eql h1 h2 h3 h4
theorem gL_neq {w : World} {ty yt : TypeId} {x y : Operand} (h : ∃ A B b, a.eval x = .agg A ∧ a.eval y = .agg B ∧ EqTo P ty A B b ∧ wpList P ops Q rest (a.put dst (.bool (!b))) w) :
    wpList P ops Q (Oper.mk dst (.binOp .neq ty x y yt) type pos after none :: rest) a w := let ⟨_, _, _, h1, h2, h3, h4⟩ := h; wpL_neq h1 h2 h3 h4
theorem gG_eql {w : World} {ty yt : TypeId} {x y : Operand} (hw : Region.wanted (Oper.mk dst (.binOp .eql ty x y yt) type pos after (some (j, want))) (yielded ops a.tmps) = true) (h : ∃ A B b, a.eval x = .agg A ∧ a.eval y = .agg B ∧ EqTo P ty A B b ∧ wpList P ops Q rest (a.put dst (.bool b)) w) :
    wpList P ops Q (Oper.mk dst (.binOp .eql ty x y yt) type pos after (some (j, want)) :: rest) a w := let ⟨_, _, _, h1, h2, h3, h4⟩ := h; wpG_eql hw h1 h2 h3 h4
theorem gG_neq {w : World} {ty yt : TypeId} {x y : Operand} (hw : Region.wanted (Oper.mk dst (.binOp .neq ty x y yt) type pos after (some (j, want))) (yielded ops a.tmps) = true) (h : ∃ A B b, a.eval x = .agg A ∧ a.eval y = .agg B ∧ EqTo P ty A B b ∧ wpList P ops Q rest (a.put dst (.bool (!b))) w) :
    wpList P ops Q (Oper.mk dst (.binOp .neq ty x y yt) type pos after (some (j, want)) :: rest) a w := let ⟨_, _, _, h1, h2, h3, h4⟩ := h; wpG_neq hw h1 h2 h3 h4
/-! results that lie in a block -/
variable {R : Ending → World → Prop} {fn : Func}
theorem Mem.rowN (hM : Mem G w0 w L) {g : Nat} {t : TypeId} {C : List Value} {N : Nat} (hb : ⟨some g, t, C, N⟩ ∈ L) (hn : Len C N) : Row w g t C := by
  obtain ⟨J, hJ, h⟩ := hM.holds _ hb
  have hJ0 : J = [] := List.eq_nil_of_length_eq_zero (by have := hn.eq; simp only at h; omega)
  subst hJ0
  rw [List.append_nil] at hJ
  exact hJ
theorem Mem.ret_cell (hM : Mem G w0 w L) {p : Tmp} {ty : TypeId} (hres : fn.results = #[.cell p ty]) {g : Nat} {t : TypeId} {C : List Value} {N : Nat}
    (hp : a.tmps.getD p undef = .pointer (some ⟨g, 0, none⟩)) (hd : a.defers = []) (hb : ⟨some g, t, C, N⟩ ∈ L) (ht : aggB P ty N = true) (hn : Len C N)
    (h : R (.returned (.agg C.toArray)) w) : bodyPost P fn R .ret a w := by
  obtain ⟨d, hu, hdd, hs⟩ := aggB_parts ht
  exact bodyPost_cell hres hp hd (hM.rowN hb hn) hn.eq.symm hu hdd hs h
theorem Mem.ret_cell_tmp (hM : Mem G w0 w L) {p q : Tmp} {ty : TypeId} (hres : fn.results = #[.cell p ty, .tmp q]) {g : Nat} {t : TypeId} {C : List Value} {N : Nat} {v : Value}
    (hp : a.tmps.getD p undef = .pointer (some ⟨g, 0, none⟩)) (hq : a.tmps.getD q undef = v) (hd : a.defers = []) (hb : ⟨some g, t, C, N⟩ ∈ L) (ht : aggB P ty N = true) (hn : Len C N)
    (h : R (.returned (.tuple #[.agg C.toArray, v])) w) : bodyPost P fn R .ret a w := by
  obtain ⟨d, hu, hdd, hs⟩ := aggB_parts ht
  exact bodyPost_cell_tmp hres hp hq hd (hM.rowN hb hn) hn.eq.symm hu hdd hs h
end
end Go.PK
namespace Go.Proofs.YtejmbkljnhnklaaDoor
open Go.RowKit Go.PK
theorem zr_2 : Zr Tryd.prog 2 (([.int .i64 0] : List Value)) 1 := ⟨.int .i64 0, by kernel_rfl, by kernel_rfl, by kernel_rfl⟩
theorem on_2 : oneB Tryd.prog 2 = true := by kernel_rfl
theorem el_2 : El Tryd.prog 2 1 8 := ⟨.int .i64 0, by kernel_rfl, by kernel_rfl, by decide⟩
theorem zr_3 : Zr Tryd.prog 3 (([.int .i64 0] : List Value)) 1 := ⟨.int .i64 0, by kernel_rfl, by kernel_rfl, by kernel_rfl⟩
theorem on_3 : oneB Tryd.prog 3 = true := by kernel_rfl
theorem el_3 : El Tryd.prog 3 1 8 := ⟨.int .i64 0, by kernel_rfl, by kernel_rfl, by decide⟩
theorem zr_4 : Zr Tryd.prog 4 (([.bool false] : List Value)) 1 := ⟨.bool false, by kernel_rfl, by kernel_rfl, by kernel_rfl⟩
theorem on_4 : oneB Tryd.prog 4 = true := by kernel_rfl
theorem el_4 : El Tryd.prog 4 1 1 := ⟨.bool false, by kernel_rfl, by kernel_rfl, by decide⟩
theorem zr_5 : Zr Tryd.prog 5 (([B8 0] : List Value)) 1 := ⟨B8 0, by kernel_rfl, by kernel_rfl, by kernel_rfl⟩
theorem on_5 : oneB Tryd.prog 5 = true := by kernel_rfl
theorem el_5 : El Tryd.prog 5 1 1 := ⟨B8 0, by kernel_rfl, by kernel_rfl, by decide⟩
theorem zr_9 : Zr Tryd.prog 9 (([.string ⟨#[]⟩] : List Value)) 1 := ⟨.string ⟨#[]⟩, by kernel_rfl, by kernel_rfl, by kernel_rfl⟩
theorem on_9 : oneB Tryd.prog 9 = true := by kernel_rfl
theorem el_9 : El Tryd.prog 9 1 16 := ⟨.string ⟨#[]⟩, by kernel_rfl, by kernel_rfl, by decide⟩
theorem zr_12 : Zr Tryd.prog 12 (([W64 0] : List Value)) 1 := ⟨W64 0, by kernel_rfl, by kernel_rfl, by kernel_rfl⟩
theorem on_12 : oneB Tryd.prog 12 = true := by kernel_rfl
theorem el_12 : El Tryd.prog 12 1 8 := ⟨W64 0, by kernel_rfl, by kernel_rfl, by decide⟩
theorem zr_13 : Zr Tryd.prog 13 (([.string ⟨#[]⟩, W64 0] : List Value)) 2 := ⟨.agg (([.string ⟨#[]⟩, W64 0] : List Value)).toArray, by kernel_rfl, by kernel_rfl, by kernel_rfl⟩
theorem ag_13 : aggB Tryd.prog 13 2 = true := by kernel_rfl
theorem el_13 : El Tryd.prog 13 2 24 := ⟨.agg (([.string ⟨#[]⟩, W64 0] : List Value)).toArray, by kernel_rfl, by kernel_rfl, by decide⟩
theorem zr_19 : Zr Tryd.prog 19 (([.pointer none] : List Value)) 1 := ⟨.agg (([.pointer none] : List Value)).toArray, by kernel_rfl, by kernel_rfl, by kernel_rfl⟩
theorem ag_19 : aggB Tryd.prog 19 1 = true := by kernel_rfl
theorem el_19 : El Tryd.prog 19 1 8 := ⟨.agg (([.pointer none] : List Value)).toArray, by kernel_rfl, by kernel_rfl, by decide⟩
theorem zr_20 : Zr Tryd.prog 20 (([.nilIface] : List Value)) 1 := ⟨.nilIface, by kernel_rfl, by kernel_rfl, by kernel_rfl⟩
theorem on_20 : oneB Tryd.prog 20 = true := by kernel_rfl
theorem el_20 : El Tryd.prog 20 1 16 := ⟨.nilIface, by kernel_rfl, by kernel_rfl, by decide⟩
theorem zr_21 : Zr Tryd.prog 21 (([.int .i32 0] : List Value)) 1 := ⟨.int .i32 0, by kernel_rfl, by kernel_rfl, by kernel_rfl⟩
theorem on_21 : oneB Tryd.prog 21 = true := by kernel_rfl
theorem el_21 : El Tryd.prog 21 1 4 := ⟨.int .i32 0, by kernel_rfl, by kernel_rfl, by decide⟩
theorem zr_23 : Zr Tryd.prog 23 (([.slice none 0 0] : List Value)) 1 := ⟨.slice none 0 0, by kernel_rfl, by kernel_rfl, by kernel_rfl⟩
theorem on_23 : oneB Tryd.prog 23 = true := by kernel_rfl
theorem el_23 : El Tryd.prog 23 1 24 := ⟨.slice none 0 0, by kernel_rfl, by kernel_rfl, by decide⟩
theorem zr_24 : Zr Tryd.prog 24 ((List.replicate 32 (0 : UInt8)).map B8) 32 := ⟨.agg ((List.replicate 32 (0 : UInt8)).map B8).toArray, by kernel_rfl, by kernel_rfl, by kernel_rfl⟩
theorem ag_24 : aggB Tryd.prog 24 32 = true := by kernel_rfl
theorem el_24 : El Tryd.prog 24 32 32 := ⟨.agg ((List.replicate 32 (0 : UInt8)).map B8).toArray, by kernel_rfl, by kernel_rfl, by decide⟩
theorem zr_25 : Zr Tryd.prog 25 ((List.replicate 32 (0 : UInt8)).map B8) 32 := ⟨.agg ((List.replicate 32 (0 : UInt8)).map B8).toArray, by kernel_rfl, by kernel_rfl, by kernel_rfl⟩
theorem ag_25 : aggB Tryd.prog 25 32 = true := by kernel_rfl
theorem el_25 : El Tryd.prog 25 32 32 := ⟨.agg ((List.replicate 32 (0 : UInt8)).map B8).toArray, by kernel_rfl, by kernel_rfl, by decide⟩
theorem zr_26 : Zr Tryd.prog 26 (([.int .i64 0, .int .i64 0, .int .i64 0, .slice none 0 0] : List Value) ++ (List.replicate 32 (0 : UInt8)).map B8) 36 := ⟨.agg (([.int .i64 0, .int .i64 0, .int .i64 0, .slice none 0 0] : List Value) ++ (List.replicate 32 (0 : UInt8)).map B8).toArray, by kernel_rfl, by kernel_rfl, by kernel_rfl⟩
theorem ag_26 : aggB Tryd.prog 26 36 = true := by kernel_rfl
theorem el_26 : El Tryd.prog 26 36 80 := ⟨.agg (([.int .i64 0, .int .i64 0, .int .i64 0, .slice none 0 0] : List Value) ++ (List.replicate 32 (0 : UInt8)).map B8).toArray, by kernel_rfl, by kernel_rfl, by decide⟩
theorem zr_27 : Zr Tryd.prog 27 (([.int .i64 0, .int .i64 0, .int .i64 0, .slice none 0 0] : List Value) ++ (List.replicate 32 (0 : UInt8)).map B8) 36 := ⟨.agg (([.int .i64 0, .int .i64 0, .int .i64 0, .slice none 0 0] : List Value) ++ (List.replicate 32 (0 : UInt8)).map B8).toArray, by kernel_rfl, by kernel_rfl, by kernel_rfl⟩
theorem ag_27 : aggB Tryd.prog 27 36 = true := by kernel_rfl
theorem el_27 : El Tryd.prog 27 36 80 := ⟨.agg (([.int .i64 0, .int .i64 0, .int .i64 0, .slice none 0 0] : List Value) ++ (List.replicate 32 (0 : UInt8)).map B8).toArray, by kernel_rfl, by kernel_rfl, by decide⟩
theorem zr_28 : Zr Tryd.prog 28 (([.int .i64 0] : List Value)) 1 := ⟨.int .i64 0, by kernel_rfl, by kernel_rfl, by kernel_rfl⟩
theorem on_28 : oneB Tryd.prog 28 = true := by kernel_rfl
theorem el_28 : El Tryd.prog 28 1 8 := ⟨.int .i64 0, by kernel_rfl, by kernel_rfl, by decide⟩
theorem zr_32 : Zr Tryd.prog 32 (([.slice none 0 0] : List Value)) 1 := ⟨.slice none 0 0, by kernel_rfl, by kernel_rfl, by kernel_rfl⟩
theorem on_32 : oneB Tryd.prog 32 = true := by kernel_rfl
theorem el_32 : El Tryd.prog 32 1 24 := ⟨.slice none 0 0, by kernel_rfl, by kernel_rfl, by decide⟩
theorem zr_34 : Zr Tryd.prog 34 (([.nilIface] : List Value)) 1 := ⟨.nilIface, by kernel_rfl, by kernel_rfl, by kernel_rfl⟩
theorem on_34 : oneB Tryd.prog 34 = true := by kernel_rfl
theorem el_34 : El Tryd.prog 34 1 16 := ⟨.nilIface, by kernel_rfl, by kernel_rfl, by decide⟩
theorem zr_35 : Zr Tryd.prog 35 (([.nilIface] : List Value)) 1 := ⟨.nilIface, by kernel_rfl, by kernel_rfl, by kernel_rfl⟩
theorem on_35 : oneB Tryd.prog 35 = true := by kernel_rfl
theorem el_35 : El Tryd.prog 35 1 16 := ⟨.nilIface, by kernel_rfl, by kernel_rfl, by decide⟩
theorem zr_38 : Zr Tryd.prog 38 (([.int .i64 0, .int .i64 0] : List Value)) 2 := ⟨.agg (([.int .i64 0, .int .i64 0] : List Value)).toArray, by kernel_rfl, by kernel_rfl, by kernel_rfl⟩
theorem ag_38 : aggB Tryd.prog 38 2 = true := by kernel_rfl
theorem el_38 : El Tryd.prog 38 2 16 := ⟨.agg (([.int .i64 0, .int .i64 0] : List Value)).toArray, by kernel_rfl, by kernel_rfl, by decide⟩
theorem zr_39 : Zr Tryd.prog 39 (([.int .i64 0, .int .i64 0] : List Value)) 2 := ⟨.agg (([.int .i64 0, .int .i64 0] : List Value)).toArray, by kernel_rfl, by kernel_rfl, by kernel_rfl⟩
theorem ag_39 : aggB Tryd.prog 39 2 = true := by kernel_rfl
theorem el_39 : El Tryd.prog 39 2 16 := ⟨.agg (([.int .i64 0, .int .i64 0] : List Value)).toArray, by kernel_rfl, by kernel_rfl, by decide⟩
theorem zr_52 : Zr Tryd.prog 52 (([.pointer none] : List Value)) 1 := ⟨.pointer none, by kernel_rfl, by kernel_rfl, by kernel_rfl⟩
theorem on_52 : oneB Tryd.prog 52 = true := by kernel_rfl
theorem el_52 : El Tryd.prog 52 1 8 := ⟨.pointer none, by kernel_rfl, by kernel_rfl, by decide⟩
theorem zr_53 : Zr Tryd.prog 53 (([.int .i64 0, .int .i64 0] : List Value)) 2 := ⟨.agg (([.int .i64 0, .int .i64 0] : List Value)).toArray, by kernel_rfl, by kernel_rfl, by kernel_rfl⟩
theorem ag_53 : aggB Tryd.prog 53 2 = true := by kernel_rfl
theorem el_53 : El Tryd.prog 53 2 16 := ⟨.agg (([.int .i64 0, .int .i64 0] : List Value)).toArray, by kernel_rfl, by kernel_rfl, by decide⟩
theorem zr_57 : Zr Tryd.prog 57 (([.pointer none] : List Value)) 1 := ⟨.pointer none, by kernel_rfl, by kernel_rfl, by kernel_rfl⟩
theorem on_57 : oneB Tryd.prog 57 = true := by kernel_rfl
theorem el_57 : El Tryd.prog 57 1 8 := ⟨.pointer none, by kernel_rfl, by kernel_rfl, by decide⟩
theorem zr_58 : Zr Tryd.prog 58 (([.pointer none] : List Value)) 1 := ⟨.pointer none, by kernel_rfl, by kernel_rfl, by kernel_rfl⟩
theorem on_58 : oneB Tryd.prog 58 = true := by kernel_rfl
theorem el_58 : El Tryd.prog 58 1 8 := ⟨.pointer none, by kernel_rfl, by kernel_rfl, by decide⟩
theorem zr_59 : Zr Tryd.prog 59 (([.pointer none] : List Value)) 1 := ⟨.pointer none, by kernel_rfl, by kernel_rfl, by kernel_rfl⟩
theorem on_59 : oneB Tryd.prog 59 = true := by kernel_rfl
theorem el_59 : El Tryd.prog 59 1 8 := ⟨.pointer none, by kernel_rfl, by kernel_rfl, by decide⟩
theorem zr_62 : Zr Tryd.prog 62 (([.pointer none] : List Value)) 1 := ⟨.pointer none, by kernel_rfl, by kernel_rfl, by kernel_rfl⟩
theorem on_62 : oneB Tryd.prog 62 = true := by kernel_rfl
theorem el_62 : El Tryd.prog 62 1 8 := ⟨.pointer none, by kernel_rfl, by kernel_rfl, by decide⟩
theorem zr_63 : Zr Tryd.prog 63 ((List.replicate 64 (0 : UInt8)).map B8) 64 := ⟨.agg ((List.replicate 64 (0 : UInt8)).map B8).toArray, by kernel_rfl, by kernel_rfl, by kernel_rfl⟩
theorem ag_63 : aggB Tryd.prog 63 64 = true := by kernel_rfl
theorem el_63 : El Tryd.prog 63 64 64 := ⟨.agg ((List.replicate 64 (0 : UInt8)).map B8).toArray, by kernel_rfl, by kernel_rfl, by decide⟩
theorem zr_64 : Zr Tryd.prog 64 (([.pointer none] : List Value) ++ (List.replicate 64 (0 : UInt8)).map B8) 65 := ⟨.agg (([.pointer none] : List Value) ++ (List.replicate 64 (0 : UInt8)).map B8).toArray, by kernel_rfl, by kernel_rfl, by kernel_rfl⟩
theorem ag_64 : aggB Tryd.prog 64 65 = true := by kernel_rfl
theorem el_64 : El Tryd.prog 64 65 72 := ⟨.agg (([.pointer none] : List Value) ++ (List.replicate 64 (0 : UInt8)).map B8).toArray, by kernel_rfl, by kernel_rfl, by decide⟩
theorem zr_65 : Zr Tryd.prog 65 (([.pointer none] : List Value) ++ (List.replicate 64 (0 : UInt8)).map B8) 65 := ⟨.agg (([.pointer none] : List Value) ++ (List.replicate 64 (0 : UInt8)).map B8).toArray, by kernel_rfl, by kernel_rfl, by kernel_rfl⟩
theorem ag_65 : aggB Tryd.prog 65 65 = true := by kernel_rfl
theorem el_65 : El Tryd.prog 65 65 72 := ⟨.agg (([.pointer none] : List Value) ++ (List.replicate 64 (0 : UInt8)).map B8).toArray, by kernel_rfl, by kernel_rfl, by decide⟩
theorem zr_69 : Zr Tryd.prog 69 (([W64 0] : List Value)) 1 := ⟨W64 0, by kernel_rfl, by kernel_rfl, by kernel_rfl⟩
theorem on_69 : oneB Tryd.prog 69 = true := by kernel_rfl
theorem el_69 : El Tryd.prog 69 1 8 := ⟨W64 0, by kernel_rfl, by kernel_rfl, by decide⟩
theorem zr_70 : Zr Tryd.prog 70 (([.pointer none] : List Value)) 1 := ⟨.pointer none, by kernel_rfl, by kernel_rfl, by kernel_rfl⟩
theorem on_70 : oneB Tryd.prog 70 = true := by kernel_rfl
theorem el_70 : El Tryd.prog 70 1 8 := ⟨.pointer none, by kernel_rfl, by kernel_rfl, by decide⟩
theorem zr_71 : Zr Tryd.prog 71 (([W64 0] : List Value)) 1 := ⟨W64 0, by kernel_rfl, by kernel_rfl, by kernel_rfl⟩
theorem on_71 : oneB Tryd.prog 71 = true := by kernel_rfl
theorem el_71 : El Tryd.prog 71 1 8 := ⟨W64 0, by kernel_rfl, by kernel_rfl, by decide⟩
theorem zr_73 : Zr Tryd.prog 73 (([.pointer none, .pointer none, W64 0] : List Value)) 3 := ⟨.agg (([.pointer none, .pointer none, W64 0] : List Value)).toArray, by kernel_rfl, by kernel_rfl, by kernel_rfl⟩
theorem ag_73 : aggB Tryd.prog 73 3 = true := by kernel_rfl
theorem el_73 : El Tryd.prog 73 3 24 := ⟨.agg (([.pointer none, .pointer none, W64 0] : List Value)).toArray, by kernel_rfl, by kernel_rfl, by decide⟩
theorem zr_76 : Zr Tryd.prog 76 (([.nilIface] : List Value)) 1 := ⟨.nilIface, by kernel_rfl, by kernel_rfl, by kernel_rfl⟩
theorem on_76 : oneB Tryd.prog 76 = true := by kernel_rfl
theorem el_76 : El Tryd.prog 76 1 16 := ⟨.nilIface, by kernel_rfl, by kernel_rfl, by decide⟩
theorem zr_83 : Zr Tryd.prog 83 (([W64 0] : List Value)) 1 := ⟨W64 0, by kernel_rfl, by kernel_rfl, by kernel_rfl⟩
theorem on_83 : oneB Tryd.prog 83 = true := by kernel_rfl
theorem el_83 : El Tryd.prog 83 1 8 := ⟨W64 0, by kernel_rfl, by kernel_rfl, by decide⟩
theorem zr_84 : Zr Tryd.prog 84 (([W32 0] : List Value)) 1 := ⟨W32 0, by kernel_rfl, by kernel_rfl, by kernel_rfl⟩
theorem on_84 : oneB Tryd.prog 84 = true := by kernel_rfl
theorem el_84 : El Tryd.prog 84 1 4 := ⟨W32 0, by kernel_rfl, by kernel_rfl, by decide⟩
theorem zr_85 : Zr Tryd.prog 85 ((List.replicate 8 (0 : UInt32)).map W32) 8 := ⟨.agg ((List.replicate 8 (0 : UInt32)).map W32).toArray, by kernel_rfl, by kernel_rfl, by kernel_rfl⟩
theorem ag_85 : aggB Tryd.prog 85 8 = true := by kernel_rfl
theorem el_85 : El Tryd.prog 85 8 32 := ⟨.agg ((List.replicate 8 (0 : UInt32)).map W32).toArray, by kernel_rfl, by kernel_rfl, by decide⟩
theorem zr_86 : Zr Tryd.prog 86 ((List.replicate 64 (0 : UInt32)).map W32) 64 := ⟨.agg ((List.replicate 64 (0 : UInt32)).map W32).toArray, by kernel_rfl, by kernel_rfl, by kernel_rfl⟩
theorem ag_86 : aggB Tryd.prog 86 64 = true := by kernel_rfl
theorem el_86 : El Tryd.prog 86 64 256 := ⟨.agg ((List.replicate 64 (0 : UInt32)).map W32).toArray, by kernel_rfl, by kernel_rfl, by decide⟩
theorem zr_87 : Zr Tryd.prog 87 ((List.replicate 8 (0 : UInt32)).map W32 ++ (List.replicate 64 (0 : UInt8)).map B8 ++ ([W64 0] : List Value) ++ (List.replicate 64 (0 : UInt32)).map W32) 137 := ⟨.agg ((List.replicate 8 (0 : UInt32)).map W32 ++ (List.replicate 64 (0 : UInt8)).map B8 ++ ([W64 0] : List Value) ++ (List.replicate 64 (0 : UInt32)).map W32).toArray, by kernel_rfl, by kernel_rfl, by kernel_rfl⟩
theorem ag_87 : aggB Tryd.prog 87 137 = true := by kernel_rfl
theorem el_87 : El Tryd.prog 87 137 360 := ⟨.agg ((List.replicate 8 (0 : UInt32)).map W32 ++ (List.replicate 64 (0 : UInt8)).map B8 ++ ([W64 0] : List Value) ++ (List.replicate 64 (0 : UInt32)).map W32).toArray, by kernel_rfl, by kernel_rfl, by decide⟩
theorem zr_88 : Zr Tryd.prog 88 ((List.replicate 8 (0 : UInt32)).map W32 ++ (List.replicate 64 (0 : UInt8)).map B8 ++ ([W64 0] : List Value) ++ (List.replicate 64 (0 : UInt32)).map W32) 137 := ⟨.agg ((List.replicate 8 (0 : UInt32)).map W32 ++ (List.replicate 64 (0 : UInt8)).map B8 ++ ([W64 0] : List Value) ++ (List.replicate 64 (0 : UInt32)).map W32).toArray, by kernel_rfl, by kernel_rfl, by kernel_rfl⟩
theorem ag_88 : aggB Tryd.prog 88 137 = true := by kernel_rfl
theorem el_88 : El Tryd.prog 88 137 360 := ⟨.agg ((List.replicate 8 (0 : UInt32)).map W32 ++ (List.replicate 64 (0 : UInt8)).map B8 ++ ([W64 0] : List Value) ++ (List.replicate 64 (0 : UInt32)).map W32).toArray, by kernel_rfl, by kernel_rfl, by decide⟩
theorem zr_93 : Zr Tryd.prog 93 (([.pointer none] : List Value)) 1 := ⟨.agg (([.pointer none] : List Value)).toArray, by kernel_rfl, by kernel_rfl, by kernel_rfl⟩
theorem ag_93 : aggB Tryd.prog 93 1 = true := by kernel_rfl
theorem el_93 : El Tryd.prog 93 1 8 := ⟨.agg (([.pointer none] : List Value)).toArray, by kernel_rfl, by kernel_rfl, by decide⟩
theorem zr_94 : Zr Tryd.prog 94 (([.pointer none] : List Value)) 1 := ⟨.pointer none, by kernel_rfl, by kernel_rfl, by kernel_rfl⟩
theorem on_94 : oneB Tryd.prog 94 = true := by kernel_rfl
theorem el_94 : El Tryd.prog 94 1 8 := ⟨.pointer none, by kernel_rfl, by kernel_rfl, by decide⟩
theorem zr_98 : Zr Tryd.prog 98 (([.nilIface] : List Value)) 1 := ⟨.nilIface, by kernel_rfl, by kernel_rfl, by kernel_rfl⟩
theorem on_98 : oneB Tryd.prog 98 = true := by kernel_rfl
theorem el_98 : El Tryd.prog 98 1 16 := ⟨.nilIface, by kernel_rfl, by kernel_rfl, by decide⟩
theorem zr_101 : Zr Tryd.prog 101 (([.nilIface] : List Value)) 1 := ⟨.nilIface, by kernel_rfl, by kernel_rfl, by kernel_rfl⟩
theorem on_101 : oneB Tryd.prog 101 = true := by kernel_rfl
theorem el_101 : El Tryd.prog 101 1 16 := ⟨.nilIface, by kernel_rfl, by kernel_rfl, by decide⟩
theorem zr_103 : Zr Tryd.prog 103 (([.nilIface] : List Value)) 1 := ⟨.nilIface, by kernel_rfl, by kernel_rfl, by kernel_rfl⟩
theorem on_103 : oneB Tryd.prog 103 = true := by kernel_rfl
theorem el_103 : El Tryd.prog 103 1 16 := ⟨.nilIface, by kernel_rfl, by kernel_rfl, by decide⟩
theorem zr_104 : Zr Tryd.prog 104 (([.slice none 0 0] : List Value)) 1 := ⟨.slice none 0 0, by kernel_rfl, by kernel_rfl, by kernel_rfl⟩
theorem on_104 : oneB Tryd.prog 104 = true := by kernel_rfl
theorem el_104 : El Tryd.prog 104 1 24 := ⟨.slice none 0 0, by kernel_rfl, by kernel_rfl, by decide⟩
theorem zr_107 : Zr Tryd.prog 107 ((List.replicate 73 (0 : UInt8)).map B8) 73 := ⟨.agg ((List.replicate 73 (0 : UInt8)).map B8).toArray, by kernel_rfl, by kernel_rfl, by kernel_rfl⟩
theorem ag_107 : aggB Tryd.prog 107 73 = true := by kernel_rfl
theorem el_107 : El Tryd.prog 107 73 73 := ⟨.agg ((List.replicate 73 (0 : UInt8)).map B8).toArray, by kernel_rfl, by kernel_rfl, by decide⟩
theorem zr_119 : Zr Tryd.prog 119 (([.pointer none] : List Value)) 1 := ⟨.pointer none, by kernel_rfl, by kernel_rfl, by kernel_rfl⟩
theorem on_119 : oneB Tryd.prog 119 = true := by kernel_rfl
theorem el_119 : El Tryd.prog 119 1 8 := ⟨.pointer none, by kernel_rfl, by kernel_rfl, by decide⟩
theorem zr_127 : Zr Tryd.prog 127 (([.string ⟨#[]⟩, B8 0] : List Value)) 2 := ⟨.agg (([.string ⟨#[]⟩, B8 0] : List Value)).toArray, by kernel_rfl, by kernel_rfl, by kernel_rfl⟩
theorem ag_127 : aggB Tryd.prog 127 2 = true := by kernel_rfl
theorem el_127 : El Tryd.prog 127 2 24 := ⟨.agg (([.string ⟨#[]⟩, B8 0] : List Value)).toArray, by kernel_rfl, by kernel_rfl, by decide⟩
theorem zr_130 : Zr Tryd.prog 130 (([.int .u16 0] : List Value)) 1 := ⟨.int .u16 0, by kernel_rfl, by kernel_rfl, by kernel_rfl⟩
theorem on_130 : oneB Tryd.prog 130 = true := by kernel_rfl
theorem el_130 : El Tryd.prog 130 1 2 := ⟨.int .u16 0, by kernel_rfl, by kernel_rfl, by decide⟩
theorem zr_137 : Zr Tryd.prog 137 (([.pointer none] : List Value)) 1 := ⟨.pointer none, by kernel_rfl, by kernel_rfl, by kernel_rfl⟩
theorem on_137 : oneB Tryd.prog 137 = true := by kernel_rfl
theorem el_137 : El Tryd.prog 137 1 8 := ⟨.pointer none, by kernel_rfl, by kernel_rfl, by decide⟩
theorem fd_13_0 : fieldB Tryd.prog 13 0 0 = true := by kernel_rfl
theorem fd_13_1 : fieldB Tryd.prog 13 1 1 = true := by kernel_rfl
theorem fd_26_0 : fieldB Tryd.prog 26 0 0 = true := by kernel_rfl
theorem fd_26_1 : fieldB Tryd.prog 26 1 1 = true := by kernel_rfl
theorem fd_26_2 : fieldB Tryd.prog 26 2 2 = true := by kernel_rfl
theorem fd_26_3 : fieldB Tryd.prog 26 3 3 = true := by kernel_rfl
theorem fd_26_4 : fieldA Tryd.prog 26 4 4 32 = true := by kernel_rfl
theorem fd_27_0 : fieldB Tryd.prog 27 0 0 = true := by kernel_rfl
theorem fd_27_1 : fieldB Tryd.prog 27 1 1 = true := by kernel_rfl
theorem fd_27_2 : fieldB Tryd.prog 27 2 2 = true := by kernel_rfl
theorem fd_27_3 : fieldB Tryd.prog 27 3 3 = true := by kernel_rfl
theorem fd_27_4 : fieldA Tryd.prog 27 4 4 32 = true := by kernel_rfl
theorem fd_38_0 : fieldB Tryd.prog 38 0 0 = true := by kernel_rfl
theorem fd_38_1 : fieldB Tryd.prog 38 1 1 = true := by kernel_rfl
theorem fd_39_0 : fieldB Tryd.prog 39 0 0 = true := by kernel_rfl
theorem fd_39_1 : fieldB Tryd.prog 39 1 1 = true := by kernel_rfl
theorem fd_53_0 : fieldB Tryd.prog 53 0 0 = true := by kernel_rfl
theorem fd_53_1 : fieldB Tryd.prog 53 1 1 = true := by kernel_rfl
theorem fd_64_0 : fieldB Tryd.prog 64 0 0 = true := by kernel_rfl
theorem fd_64_1 : fieldA Tryd.prog 64 1 1 64 = true := by kernel_rfl
theorem fd_65_0 : fieldB Tryd.prog 65 0 0 = true := by kernel_rfl
theorem fd_65_1 : fieldA Tryd.prog 65 1 1 64 = true := by kernel_rfl
theorem fd_73_1 : fieldB Tryd.prog 73 1 1 = true := by kernel_rfl
theorem fd_73_2 : fieldB Tryd.prog 73 2 2 = true := by kernel_rfl
theorem fd_87_0 : fieldA Tryd.prog 87 0 0 8 = true := by kernel_rfl
theorem fd_87_1 : fieldA Tryd.prog 87 1 8 64 = true := by kernel_rfl
theorem fd_87_2 : fieldB Tryd.prog 87 2 72 = true := by kernel_rfl
theorem fd_87_3 : fieldA Tryd.prog 87 3 73 64 = true := by kernel_rfl
theorem fd_88_0 : fieldA Tryd.prog 88 0 0 8 = true := by kernel_rfl
theorem fd_88_1 : fieldA Tryd.prog 88 1 8 64 = true := by kernel_rfl
theorem fd_88_2 : fieldB Tryd.prog 88 2 72 = true := by kernel_rfl
theorem fd_88_3 : fieldA Tryd.prog 88 3 73 64 = true := by kernel_rfl
theorem fd_127_0 : fieldB Tryd.prog 127 0 0 = true := by kernel_rfl
def zrTab : Nat → Option (List Value × Nat)
  | 2 => some (([.int .i64 0] : List Value), 1)
  | 3 => some (([.int .i64 0] : List Value), 1)
  | 4 => some (([.bool false] : List Value), 1)
  | 5 => some (([B8 0] : List Value), 1)
  | 9 => some (([.string ⟨#[]⟩] : List Value), 1)
  | 12 => some (([W64 0] : List Value), 1)
  | 13 => some (([.string ⟨#[]⟩, W64 0] : List Value), 2)
  | 19 => some (([.pointer none] : List Value), 1)
  | 20 => some (([.nilIface] : List Value), 1)
  | 21 => some (([.int .i32 0] : List Value), 1)
  | 23 => some (([.slice none 0 0] : List Value), 1)
  | 24 => some ((List.replicate 32 (0 : UInt8)).map B8, 32)
  | 25 => some ((List.replicate 32 (0 : UInt8)).map B8, 32)
  | 26 => some (([.int .i64 0, .int .i64 0, .int .i64 0, .slice none 0 0] : List Value) ++ (List.replicate 32 (0 : UInt8)).map B8, 36)
  | 27 => some (([.int .i64 0, .int .i64 0, .int .i64 0, .slice none 0 0] : List Value) ++ (List.replicate 32 (0 : UInt8)).map B8, 36)
  | 28 => some (([.int .i64 0] : List Value), 1)
  | 32 => some (([.slice none 0 0] : List Value), 1)
  | 34 => some (([.nilIface] : List Value), 1)
  | 35 => some (([.nilIface] : List Value), 1)
  | 38 => some (([.int .i64 0, .int .i64 0] : List Value), 2)
  | 39 => some (([.int .i64 0, .int .i64 0] : List Value), 2)
  | 52 => some (([.pointer none] : List Value), 1)
  | 53 => some (([.int .i64 0, .int .i64 0] : List Value), 2)
  | 57 => some (([.pointer none] : List Value), 1)
  | 58 => some (([.pointer none] : List Value), 1)
  | 59 => some (([.pointer none] : List Value), 1)
  | 62 => some (([.pointer none] : List Value), 1)
  | 63 => some ((List.replicate 64 (0 : UInt8)).map B8, 64)
  | 64 => some (([.pointer none] : List Value) ++ (List.replicate 64 (0 : UInt8)).map B8, 65)
  | 65 => some (([.pointer none] : List Value) ++ (List.replicate 64 (0 : UInt8)).map B8, 65)
  | 69 => some (([W64 0] : List Value), 1)
  | 70 => some (([.pointer none] : List Value), 1)
  | 71 => some (([W64 0] : List Value), 1)
  | 73 => some (([.pointer none, .pointer none, W64 0] : List Value), 3)
  | 76 => some (([.nilIface] : List Value), 1)
  | 83 => some (([W64 0] : List Value), 1)
  | 84 => some (([W32 0] : List Value), 1)
  | 85 => some ((List.replicate 8 (0 : UInt32)).map W32, 8)
  | 86 => some ((List.replicate 64 (0 : UInt32)).map W32, 64)
  | 87 => some ((List.replicate 8 (0 : UInt32)).map W32 ++ (List.replicate 64 (0 : UInt8)).map B8 ++ ([W64 0] : List Value) ++ (List.replicate 64 (0 : UInt32)).map W32, 137)
  | 88 => some ((List.replicate 8 (0 : UInt32)).map W32 ++ (List.replicate 64 (0 : UInt8)).map B8 ++ ([W64 0] : List Value) ++ (List.replicate 64 (0 : UInt32)).map W32, 137)
  | 93 => some (([.pointer none] : List Value), 1)
  | 94 => some (([.pointer none] : List Value), 1)
  | 98 => some (([.nilIface] : List Value), 1)
  | 101 => some (([.nilIface] : List Value), 1)
  | 103 => some (([.nilIface] : List Value), 1)
  | 104 => some (([.slice none 0 0] : List Value), 1)
  | 107 => some ((List.replicate 73 (0 : UInt8)).map B8, 73)
  | 119 => some (([.pointer none] : List Value), 1)
  | 127 => some (([.string ⟨#[]⟩, B8 0] : List Value), 2)
  | 130 => some (([.int .u16 0] : List Value), 1)
  | 137 => some (([.pointer none] : List Value), 1)
  | _ => none
theorem zr_of {ty n : Nat} {C : List Value} (h : zrTab ty = some (C, n)) : Zr Tryd.prog ty C n := by
  unfold zrTab at h
  split at h
  · cases h; exact zr_2
  · cases h; exact zr_3
  · cases h; exact zr_4
  · cases h; exact zr_5
  · cases h; exact zr_9
  · cases h; exact zr_12
  · cases h; exact zr_13
  · cases h; exact zr_19
  · cases h; exact zr_20
  · cases h; exact zr_21
  · cases h; exact zr_23
  · cases h; exact zr_24
  · cases h; exact zr_25
  · cases h; exact zr_26
  · cases h; exact zr_27
  · cases h; exact zr_28
  · cases h; exact zr_32
  · cases h; exact zr_34
  · cases h; exact zr_35
  · cases h; exact zr_38
  · cases h; exact zr_39
  · cases h; exact zr_52
  · cases h; exact zr_53
  · cases h; exact zr_57
  · cases h; exact zr_58
  · cases h; exact zr_59
  · cases h; exact zr_62
  · cases h; exact zr_63
  · cases h; exact zr_64
  · cases h; exact zr_65
  · cases h; exact zr_69
  · cases h; exact zr_70
  · cases h; exact zr_71
  · cases h; exact zr_73
  · cases h; exact zr_76
  · cases h; exact zr_83
  · cases h; exact zr_84
  · cases h; exact zr_85
  · cases h; exact zr_86
  · cases h; exact zr_87
  · cases h; exact zr_88
  · cases h; exact zr_93
  · cases h; exact zr_94
  · cases h; exact zr_98
  · cases h; exact zr_101
  · cases h; exact zr_103
  · cases h; exact zr_104
  · cases h; exact zr_107
  · cases h; exact zr_119
  · cases h; exact zr_127
  · cases h; exact zr_130
  · cases h; exact zr_137
  · cases h
def agTab : Nat → Option Nat
  | 13 => some 2
  | 19 => some 1
  | 24 => some 32
  | 25 => some 32
  | 26 => some 36
  | 27 => some 36
  | 38 => some 2
  | 39 => some 2
  | 53 => some 2
  | 63 => some 64
  | 64 => some 65
  | 65 => some 65
  | 73 => some 3
  | 85 => some 8
  | 86 => some 64
  | 87 => some 137
  | 88 => some 137
  | 93 => some 1
  | 107 => some 73
  | 127 => some 2
  | _ => none
theorem ag_of {ty n : Nat} (h : agTab ty = some n) : aggB Tryd.prog ty n = true := by
  unfold agTab at h
  split at h
  · cases h; exact ag_13
  · cases h; exact ag_19
  · cases h; exact ag_24
  · cases h; exact ag_25
  · cases h; exact ag_26
  · cases h; exact ag_27
  · cases h; exact ag_38
  · cases h; exact ag_39
  · cases h; exact ag_53
  · cases h; exact ag_63
  · cases h; exact ag_64
  · cases h; exact ag_65
  · cases h; exact ag_73
  · cases h; exact ag_85
  · cases h; exact ag_86
  · cases h; exact ag_87
  · cases h; exact ag_88
  · cases h; exact ag_93
  · cases h; exact ag_107
  · cases h; exact ag_127
  · cases h
def onTab : Nat → Option Unit
  | 2 => some ()
  | 3 => some ()
  | 4 => some ()
  | 5 => some ()
  | 9 => some ()
  | 12 => some ()
  | 20 => some ()
  | 21 => some ()
  | 23 => some ()
  | 28 => some ()
  | 32 => some ()
  | 34 => some ()
  | 35 => some ()
  | 52 => some ()
  | 57 => some ()
  | 58 => some ()
  | 59 => some ()
  | 62 => some ()
  | 69 => some ()
  | 70 => some ()
  | 71 => some ()
  | 76 => some ()
  | 83 => some ()
  | 84 => some ()
  | 94 => some ()
  | 98 => some ()
  | 101 => some ()
  | 103 => some ()
  | 104 => some ()
  | 119 => some ()
  | 130 => some ()
  | 137 => some ()
  | _ => none
theorem on_of {ty : Nat} (h : onTab ty = some ()) : oneB Tryd.prog ty = true := by
  unfold onTab at h
  split at h
  · exact on_2
  · exact on_3
  · exact on_4
  · exact on_5
  · exact on_9
  · exact on_12
  · exact on_20
  · exact on_21
  · exact on_23
  · exact on_28
  · exact on_32
  · exact on_34
  · exact on_35
  · exact on_52
  · exact on_57
  · exact on_58
  · exact on_59
  · exact on_62
  · exact on_69
  · exact on_70
  · exact on_71
  · exact on_76
  · exact on_83
  · exact on_84
  · exact on_94
  · exact on_98
  · exact on_101
  · exact on_103
  · exact on_104
  · exact on_119
  · exact on_130
  · exact on_137
  · cases h
def elTab : Nat → Option (Nat × Nat)
  | 2 => some (1, 8)
  | 3 => some (1, 8)
  | 4 => some (1, 1)
  | 5 => some (1, 1)
  | 9 => some (1, 16)
  | 12 => some (1, 8)
  | 13 => some (2, 24)
  | 19 => some (1, 8)
  | 20 => some (1, 16)
  | 21 => some (1, 4)
  | 23 => some (1, 24)
  | 24 => some (32, 32)
  | 25 => some (32, 32)
  | 26 => some (36, 80)
  | 27 => some (36, 80)
  | 28 => some (1, 8)
  | 32 => some (1, 24)
  | 34 => some (1, 16)
  | 35 => some (1, 16)
  | 38 => some (2, 16)
  | 39 => some (2, 16)
  | 52 => some (1, 8)
  | 53 => some (2, 16)
  | 57 => some (1, 8)
  | 58 => some (1, 8)
  | 59 => some (1, 8)
  | 62 => some (1, 8)
  | 63 => some (64, 64)
  | 64 => some (65, 72)
  | 65 => some (65, 72)
  | 69 => some (1, 8)
  | 70 => some (1, 8)
  | 71 => some (1, 8)
  | 73 => some (3, 24)
  | 76 => some (1, 16)
  | 83 => some (1, 8)
  | 84 => some (1, 4)
  | 85 => some (8, 32)
  | 86 => some (64, 256)
  | 87 => some (137, 360)
  | 88 => some (137, 360)
  | 93 => some (1, 8)
  | 94 => some (1, 8)
  | 98 => some (1, 16)
  | 101 => some (1, 16)
  | 103 => some (1, 16)
  | 104 => some (1, 24)
  | 107 => some (73, 73)
  | 119 => some (1, 8)
  | 127 => some (2, 24)
  | 130 => some (1, 2)
  | 137 => some (1, 8)
  | _ => none
theorem el_of {ty n b : Nat} (h : elTab ty = some (n, b)) : El Tryd.prog ty n b := by
  unfold elTab at h
  split at h
  · cases h; exact el_2
  · cases h; exact el_3
  · cases h; exact el_4
  · cases h; exact el_5
  · cases h; exact el_9
  · cases h; exact el_12
  · cases h; exact el_13
  · cases h; exact el_19
  · cases h; exact el_20
  · cases h; exact el_21
  · cases h; exact el_23
  · cases h; exact el_24
  · cases h; exact el_25
  · cases h; exact el_26
  · cases h; exact el_27
  · cases h; exact el_28
  · cases h; exact el_32
  · cases h; exact el_34
  · cases h; exact el_35
  · cases h; exact el_38
  · cases h; exact el_39
  · cases h; exact el_52
  · cases h; exact el_53
  · cases h; exact el_57
  · cases h; exact el_58
  · cases h; exact el_59
  · cases h; exact el_62
  · cases h; exact el_63
  · cases h; exact el_64
  · cases h; exact el_65
  · cases h; exact el_69
  · cases h; exact el_70
  · cases h; exact el_71
  · cases h; exact el_73
  · cases h; exact el_76
  · cases h; exact el_83
  · cases h; exact el_84
  · cases h; exact el_85
  · cases h; exact el_86
  · cases h; exact el_87
  · cases h; exact el_88
  · cases h; exact el_93
  · cases h; exact el_94
  · cases h; exact el_98
  · cases h; exact el_101
  · cases h; exact el_103
  · cases h; exact el_104
  · cases h; exact el_107
  · cases h; exact el_119
  · cases h; exact el_127
  · cases h; exact el_130
  · cases h; exact el_137
  · cases h
def fbTab : Nat → Nat → Option Nat
  | 13, 0 => some 0
  | 13, 1 => some 1
  | 26, 0 => some 0
  | 26, 1 => some 1
  | 26, 2 => some 2
  | 26, 3 => some 3
  | 27, 0 => some 0
  | 27, 1 => some 1
  | 27, 2 => some 2
  | 27, 3 => some 3
  | 38, 0 => some 0
  | 38, 1 => some 1
  | 39, 0 => some 0
  | 39, 1 => some 1
  | 53, 0 => some 0
  | 53, 1 => some 1
  | 64, 0 => some 0
  | 65, 0 => some 0
  | 73, 1 => some 1
  | 73, 2 => some 2
  | 87, 2 => some 72
  | 88, 2 => some 72
  | 127, 0 => some 0
  | _, _ => none
theorem fb_of {ty f off : Nat} (h : fbTab ty f = some off) : fieldB Tryd.prog ty f off = true := by
  unfold fbTab at h
  split at h
  · cases h; exact fd_13_0
  · cases h; exact fd_13_1
  · cases h; exact fd_26_0
  · cases h; exact fd_26_1
  · cases h; exact fd_26_2
  · cases h; exact fd_26_3
  · cases h; exact fd_27_0
  · cases h; exact fd_27_1
  · cases h; exact fd_27_2
  · cases h; exact fd_27_3
  · cases h; exact fd_38_0
  · cases h; exact fd_38_1
  · cases h; exact fd_39_0
  · cases h; exact fd_39_1
  · cases h; exact fd_53_0
  · cases h; exact fd_53_1
  · cases h; exact fd_64_0
  · cases h; exact fd_65_0
  · cases h; exact fd_73_1
  · cases h; exact fd_73_2
  · cases h; exact fd_87_2
  · cases h; exact fd_88_2
  · cases h; exact fd_127_0
  · cases h
def faTab : Nat → Nat → Option (Nat × Nat)
  | 26, 4 => some (4, 32)
  | 27, 4 => some (4, 32)
  | 64, 1 => some (1, 64)
  | 65, 1 => some (1, 64)
  | 87, 0 => some (0, 8)
  | 87, 1 => some (8, 64)
  | 87, 3 => some (73, 64)
  | 88, 0 => some (0, 8)
  | 88, 1 => some (8, 64)
  | 88, 3 => some (73, 64)
  | _, _ => none
theorem fa_of {ty f off n : Nat} (h : faTab ty f = some (off, n)) : fieldA Tryd.prog ty f off n = true := by
  unfold faTab at h
  split at h
  · cases h; exact fd_26_4
  · cases h; exact fd_27_4
  · cases h; exact fd_64_1
  · cases h; exact fd_65_1
  · cases h; exact fd_87_0
  · cases h; exact fd_87_1
  · cases h; exact fd_87_3
  · cases h; exact fd_88_0
  · cases h; exact fd_88_1
  · cases h; exact fd_88_3
  · cases h
def usTab : Nat → Option Nat
  | 23 => some 5
  | 32 => some 23
  | 104 => some 35
  | _ => none
theorem us_of {ty e : Nat} (h : usTab ty = some e) : Tryd.prog.underlying ty = some (.slice e) := by
  unfold usTab at h
  split at h
  · cases h; kernel_rfl
  · cases h; kernel_rfl
  · cases h; kernel_rfl
  · cases h
def uaTab : Nat → Option (Nat × Nat)
  | 24 => some (32, 5)
  | 25 => some (32, 5)
  | 63 => some (64, 5)
  | 85 => some (8, 84)
  | 86 => some (64, 84)
  | 107 => some (73, 5)
  | _ => none
theorem ua_of {ty n e : Nat} (h : uaTab ty = some (n, e)) : Tryd.prog.underlying ty = some (.array n e) := by
  unfold uaTab at h
  split at h
  · cases h; kernel_rfl
  · cases h; kernel_rfl
  · cases h; kernel_rfl
  · cases h; kernel_rfl
  · cases h; kernel_rfl
  · cases h; kernel_rfl
  · cases h
end Go.Proofs.YtejmbkljnhnklaaDoor
namespace Go.PK
open Go.RowKit
def tailOk (m : Nat) (ops : List Oper) (D : List (List Nat)) : Bool := (List.range ops.length).all fun i => i < m || (List.range i).all fun j => (D.getD i []).contains j
def PtrAt (v : Value) (w : World) : Prop := ∃ g, v = .pointer (some ⟨g, 0, none⟩) ∧ g < w.heap.size
def ShowsA (P : Program) (ops : Array Oper) (Q : Exit → Act → World → Prop) (fr : (Nat → Value) → (Nat → Value) → Act) (X : (Nat → Value) → Prop) (C : World → Prop) (Φs : List (Value → World → Prop)) (D : List (List Nat)) (As : List Nat) :
    Nat → List Oper → Prop
  | _, [] => True
  | k, o :: rest =>
    ((∀ c vals v, (fr c vals).put o.dst v = fr c (upd vals k v)) ∧
     ∀ c, X c → ∀ vals w, C w → (∀ j, (D.getD k []).contains j = true → Φs.getD j (fun _ _ => True) (vals j) w) →
      ∀ K : Act → World → Prop, (∀ v w', Adds w w' → Φs.getD k (fun _ _ => True) v w' → (As.contains k = true → v = .pointer (some ⟨w.heap.size, 0, none⟩) ∧ w.heap.size < w'.heap.size) → K (fr c (upd vals k v)) w') →
       if Region.wanted o (yielded ops (fr c vals).tmps) = true then o.wp P (fr c vals) w K Q else K ((fr c vals).put o.dst undef) w) ∧
    ShowsA P ops Q fr X C Φs D As (k + 1) rest
theorem ShowsA.get {P : Program} {Q : Exit → Act → World → Prop} {ops : Array Oper} {fr : (Nat → Value) → (Nat → Value) → Act} {X : (Nat → Value) → Prop} {C : World → Prop} {Φs : List (Value → World → Prop)} {D : List (List Nat)} {As : List Nat} :
    ∀ (l : List Oper) (k : Nat), ShowsA P ops Q fr X C Φs D As k l → ∀ i o, l[i]? = some o →
    ((∀ c vals v, (fr c vals).put o.dst v = fr c (upd vals (k + i) v)) ∧
     ∀ c, X c → ∀ vals w, C w → (∀ j, (D.getD (k + i) []).contains j = true → Φs.getD j (fun _ _ => True) (vals j) w) →
      ∀ K : Act → World → Prop, (∀ v w', Adds w w' → Φs.getD (k + i) (fun _ _ => True) v w' → (As.contains (k + i) = true → v = .pointer (some ⟨w.heap.size, 0, none⟩) ∧ w.heap.size < w'.heap.size) → K (fr c (upd vals (k + i) v)) w') →
       if Region.wanted o (yielded ops (fr c vals).tmps) = true then o.wp P (fr c vals) w K Q else K ((fr c vals).put o.dst undef) w) := by
  intro l
  induction l with
  | nil => intro k _ i o h; simp at h
  | cons x l ih =>
    intro k h i o hi
    obtain ⟨h1, h2⟩ := h
    cases i with
    | zero =>
      simp at hi
      subst hi
      exact h1
    | succ i =>
      have := ih (k + 1) h2 i o (by simpa using hi)
      rwa [show k + 1 + i = k + (i + 1) from by omega] at this
section
variable {P : Program} {Q : Exit → Act → World → Prop}
def ThenInv (P : Program) (Q : Exit → Act → World → Prop) (l : List Oper) (m : Nat) (fr : (Nat → Value) → (Nat → Value) → Act) (c : Nat → Value) (C : World → Prop) (Φs : List (Value → World → Prop)) (D : List (List Nat)) (As : List Nat) (listed : Array Bool) (a : Act) (w' : World) : Prop :=
  listed.size = l.length ∧ (∀ i o, listed[i]? = some true → l[i]? = some o → (∀ k ∈ bound o, listed[k]? = some true) ∧ ∀ j, (D.getD i []).contains j = true → listed[j]? = some true) ∧
  ((C w' ∧ (∀ i, m ≤ i → listed[i]? ≠ some true) ∧ ∃ vals, a = fr c vals ∧ (∀ i, listed[i]? = some true → Φs.getD i (fun _ _ => True) (vals i) w') ∧ (∀ i, As.contains i = true → listed[i]? = some true → PtrAt (vals i) w') ∧
    ∀ i j, i ≠ j → As.contains i = true → As.contains j = true → listed[i]? = some true → listed[j]? = some true → vals i ≠ vals j) ∨
   (∃ j, m < j ∧ (∀ i, i < j → listed[i]? = some true) ∧ (∀ i, j ≤ i → listed[i]? ≠ some true) ∧ wpList P l.toArray Q (l.drop j) a w'))
theorem wp_region_then {id : Nat} {l1 l2 : List Oper} (fr : (Nat → Value) → (Nat → Value) → Act) (c vals0 : Nat → Value) {w : World} (hm : P.follows .mixedOrders = true)
    (D : List (List Nat)) (hD : aheadOk (l1 ++ l2) D = true) (hT : tailOk l1.length (l1 ++ l2) D = true) (X : (Nat → Value) → Prop) (hX : X c)
    (Φs : List (Value → World → Prop)) (hΦ : StableAll Φs)
    (As : List Nat) (hshow : ShowsA P (l1 ++ l2).toArray Q fr X (Adds w) Φs D As 0 l1)
    (hfin : ∀ vals w', Adds w w' → (∀ i, i < l1.length → Φs.getD i (fun _ _ => True) (vals i) w') → (∀ i j, i ≠ j → i < l1.length → j < l1.length → As.contains i = true → As.contains j = true → vals i ≠ vals j) → wpList P (l1 ++ l2).toArray Q l2 (fr c vals) w') : (Code.region id (l1 ++ l2).toArray true).wp P Q (fr c vals0) w := by
  refine wp_region_any hm ?_
  have hdrew : ({ w with drawn := w.drawn + 1 } : World) = w.drew := rfl
  rw [hdrew]
  obtain ⟨l, hl⟩ : ∃ l, l = l1 ++ l2 := ⟨_, rfl⟩
  obtain ⟨m, hmm⟩ : ∃ m, m = l1.length := ⟨_, rfl⟩
  have hl1 : ∀ i, i < m → l[i]? = l1[i]? := fun i hi => by rw [hl, List.getElem?_append_left (by omega)]
  have hdrop : l.drop m = l2 := by rw [hl, hmm]; simp
  rw [← hl] at hD hT hshow hfin ⊢
  rw [← hmm] at hT hfin
  rw [← hdrop] at hfin
  have hle : m ≤ l.length := by rw [hl, hmm]; simp
  have hacyc : ∀ i o, l[i]? = some o → (∀ k ∈ bound o, k < i) ∧ ∀ j, (D.getD i []).contains j = true → j ∈ bound o ∨ ∃ k ∈ bound o, (D.getD k []).contains j = true := by
    intro i o ho
    unfold aheadOk at hD
    rw [List.all_eq_true] at hD
    have := hD (o, i) (by rw [List.mem_iff_getElem?]; exact ⟨i, by simp [ho]⟩)
    simp only [Bool.and_eq_true, List.all_eq_true] at this
    obtain ⟨h1, h2⟩ := this
    refine ⟨fun k hk => by simpa using h1 k hk, fun j hj => ?_⟩
    have := h2 j (by simpa using hj)
    rw [Bool.or_eq_true] at this
    rcases this with h | h
    · exact .inl (by simpa using h)
    · rw [List.any_eq_true] at h
      obtain ⟨k, hk, hj'⟩ := h
      exact .inr ⟨k, hk, hj'⟩
  have htail : ∀ i, m ≤ i → i < l.length → ∀ j, j < i → (D.getD i []).contains j = true := by
    intro i h1 h2 j hj
    unfold tailOk at hT
    rw [List.all_eq_true] at hT
    have := hT i (List.mem_range.2 h2)
    rw [Bool.or_eq_true] at this
    rcases this with h | h
    · have : i < m := by simpa using h
      omega
    · rw [List.all_eq_true] at h
      exact h j (List.mem_range.2 hj)
  refine wpAny_inv (I := ThenInv P Q l m fr c (Adds w) Φs D As) ?_ ?_ _ _ _ _ ?_ ?_
  · rintro listed a w' ⟨hs, hcl, hor⟩ hr
    have hall : ∀ i, i < l.length → listed[i]? = some true := by
      intro i
      induction i using Nat.strongRecOn with
      | ind i ih =>
        intro hi
        have hil : i < listed.size := by omega
        cases hb : listed[i] with
        | true => simp [hil, hb]
        | false =>
          exfalso
          have ho : l[i]? = some l[i] := List.getElem?_eq_getElem hi
          have hmem : i ∈ Region.ready .any l.toArray listed := by
            unfold Region.ready
            rw [List.mem_filter]
            refine ⟨by simp [hi], ?_⟩
            rw [Bool.and_eq_true]
            refine ⟨by simp [Array.getD, hil, hb], ?_⟩
            have : l.toArray[i]? = some l[i] := by simp
            rw [this]
            simp only [Option.map_some, Option.getD_some]
            rw [Array.all_eq_true']
            intro e he
            cases hbd : Region.binds .any e with
            | false => rfl
            | true =>
              have hk : e.on ∈ bound l[i] := by
                unfold bound
                rw [List.mem_map]
                exact ⟨e, List.mem_filter.2 ⟨Array.mem_toList_iff.2 he, hbd⟩, rfl⟩
              have hlt := (hacyc i l[i] ho).1 e.on hk
              have hle := ih e.on hlt (by omega)
              have hlt' : e.on < listed.size := by omega
              simp only [Array.getD, hlt', dite_true, Bool.not_true, Bool.false_or]
              rw [Array.getElem?_eq_getElem hlt'] at hle
              exact Option.some.inj hle
          rw [hr] at hmem
          cases hmem
    rcases hor with ⟨hC, hno, vals, rfl, hv, hp, hne⟩ | ⟨j, hj, hyes, hno, hwp⟩
    · have hml : m = l.length := by
        rcases Nat.lt_or_ge m l.length with h | h
        · exact absurd (hall m h) (hno m (Nat.le_refl _))
        · omega
      have := hfin vals w' hC (fun i hi => hv i (hall i (by omega))) (fun i j hij hi hj ai aj => hne i j hij ai aj (hall i (by omega)) (hall j (by omega)))
      rw [List.drop_of_length_le (by omega)] at this
      exact this
    · have hjl : l.length ≤ j := by
        rcases Nat.lt_or_ge j l.length with h | h
        · exact absurd (hall j h) (hno j (Nat.le_refl _))
        · exact h
      rw [List.drop_of_length_le hjl] at hwp
      exact hwp
  · rintro listed a w' i ⟨hs, hcl, hor⟩ hi
    obtain ⟨hun, o, ho, hbd⟩ := Go.PK.mem_ready hi
    have ho' : l[i]? = some o := by simpa using ho
    have hil : i < l.length := (List.getElem?_eq_some_iff.1 ho').1
    have hbd' : ∀ k ∈ bound o, listed[k]? = some true := by
      intro k hk
      unfold bound at hk
      rw [List.mem_map] at hk
      obtain ⟨e, he, rfl⟩ := hk
      rw [List.mem_filter] at he
      have := hbd e he.1 he.2
      by_cases hlt : e.on < listed.size
      · simp [Array.getD, hlt] at this
        simp [hlt, this]
      · simp [Array.getD, hlt] at this
    have hDl : ∀ j, (D.getD i []).contains j = true → listed[j]? = some true := by
      intro j hj
      rcases (hacyc i o ho').2 j hj with h | ⟨k, hk, hj'⟩
      · exact hbd' j h
      · have hkl := hbd' k hk
        have hklt : k < l.length := by have := (hacyc i o ho').1 k hk; omega
        exact (hcl k l[k] hkl (List.getElem?_eq_getElem hklt)).2 j hj'
    have hi' : listed[i]? = some false := by
      have hlt : i < listed.size := by omega
      simp [Array.getD, hlt] at hun
      simp [hlt, hun]
    have hmono : ∀ j : Nat, listed[j]? = some true → (listed.setIfInBounds i true)[j]? = some true := by
      intro j hj
      rw [Array.getElem?_setIfInBounds]
      split
      · rename_i h
        subst h
        rw [if_pos (by omega)]
      · exact hj
    have hcl' : ∀ j o', (listed.setIfInBounds i true)[j]? = some true → l[j]? = some o' → (∀ k ∈ bound o', (listed.setIfInBounds i true)[k]? = some true) ∧ ∀ k, (D.getD j []).contains k = true → (listed.setIfInBounds i true)[k]? = some true := by
      intro j o' hj ho''
      by_cases hji : j = i
      · subst hji
        rw [ho'] at ho''
        cases ho''
        exact ⟨fun k hk => hmono k (hbd' k hk), fun j' hj' => hmono j' (hDl j' hj')⟩
      · rw [Array.getElem?_setIfInBounds_ne (Ne.symm hji)] at hj
        obtain ⟨g1, g2⟩ := hcl j o' hj ho''
        exact ⟨fun k hk => hmono k (g1 k hk), fun j' hj' => hmono j' (g2 j' hj')⟩
    -- an operation of the tail, out of what 'wpList' says
    have run : ∀ j, m ≤ j → i = j → (∀ k, k < j → listed[k]? = some true) → (∀ k, j ≤ k → listed[k]? ≠ some true) → wpList P l.toArray Q (l.drop j) a w' → wpOp P l.toArray Q i (ThenInv P Q l m fr c (Adds w) Φs D As (listed.setIfInBounds i true)) a w' := by
      intro j hj hij hyes hno hwp
      subst hij
      rw [List.drop_eq_getElem_cons hil] at hwp
      have hoi : l[i] = o := by rw [List.getElem?_eq_getElem hil] at ho'; exact Option.some.inj ho'
      rw [hoi] at hwp
      have hnext : ∀ a2 w2, wpList P l.toArray Q (l.drop (i + 1)) a2 w2 → ThenInv P Q l m fr c (Adds w) Φs D As (listed.setIfInBounds i true) a2 w2 := by
        intro a2 w2 h2
        refine ⟨by simpa using hs, hcl', .inr ⟨i + 1, by omega, fun k hk => ?_, fun k hk hk' => ?_, h2⟩⟩
        · by_cases hki : k = i
          · subst hki
            rw [Array.getElem?_setIfInBounds, if_pos rfl, if_pos (by omega)]
          · exact hmono k (hyes k (by omega))
        rw [Array.getElem?_setIfInBounds_ne (by omega)] at hk'
        exact hno k (by omega) hk'
      unfold wpOp
      rw [ho]
      show if Region.wanted o (yielded l.toArray a.tmps) = true then _ else _
      unfold wpList at hwp
      split
      · rename_i hw
        rw [if_pos hw] at hwp
        exact hwp.imp (Oper.wp_mono hnext) fun h => h
      · rename_i hw
        rw [if_neg hw] at hwp
        exact hnext _ _ hwp
    rcases hor with ⟨hC, hno, vals, rfl, hv, hp, hne⟩ | ⟨j, hj, hyes, hno, hwp⟩
    · by_cases him : i < m
      · have hsh := ShowsA.get _ 0 hshow i o (by rw [← hl1 i him]; exact ho')
        rw [Nat.zero_add] at hsh
        obtain ⟨hput, hsh⟩ := hsh
        have hrun := hsh c hX vals w' hC (fun j hj => hv j (hDl j hj)) (ThenInv P Q l m fr c (Adds w) Φs D As (listed.setIfInBounds i true)) (fun v w'' hR hΦi hnew => by
          have back : ∀ j, j ≠ i → (listed.setIfInBounds i true)[j]? = some true → listed[j]? = some true := fun j hj h => by
            rwa [Array.getElem?_setIfInBounds_ne (Ne.symm hj)] at h
          refine ⟨by simpa using hs, hcl', .inl ⟨hC.trans hR, fun k hk hk' => ?_, upd vals i v, rfl, fun j hj => ?_, fun j aj hj => ?_, fun j k hjk aj ak hj hk => ?_⟩⟩
          · rw [Array.getElem?_setIfInBounds_ne (by omega)] at hk'
            exact hno k hk hk'
          · unfold upd
            by_cases hji : j = i
            · subst hji
              rw [if_pos rfl]
              exact hΦi
            · rw [if_neg hji]
              rw [Array.getElem?_setIfInBounds_ne (Ne.symm hji)] at hj
              exact hΦ.get _ _ _ _ _ (hv j hj) hR
          · unfold upd
            by_cases hji : j = i
            · subst hji
              rw [if_pos rfl]
              obtain ⟨h1, h2⟩ := hnew aj
              exact ⟨_, h1, h2⟩
            · rw [if_neg hji]
              obtain ⟨g, h1, h2⟩ := hp j aj (back j hji hj)
              exact ⟨g, h1, Nat.lt_of_lt_of_le h2 hR.size⟩
          · unfold upd
            by_cases hji : j = i
            · subst hji
              rw [if_pos rfl, if_neg (Ne.symm hjk)]
              obtain ⟨h1, h2⟩ := hnew aj
              obtain ⟨g, h3, h4⟩ := hp k ak (back k (Ne.symm hjk) hk)
              rw [h1, h3]
              intro h
              simp at h
              all_goals omega
            · by_cases hki : k = i
              · subst hki
                rw [if_neg hji, if_pos rfl]
                obtain ⟨h1, h2⟩ := hnew ak
                obtain ⟨g, h3, h4⟩ := hp j aj (back j hji hj)
                rw [h1, h3]
                intro h
                simp at h
                all_goals omega
              · rw [if_neg hji, if_neg hki]
                exact hne j k hjk aj ak (back j hji hj) (back k hki hk))
        unfold wpOp
        rw [ho]
        show if Region.wanted o (yielded l.toArray (fr c vals).tmps) = true then _ else _
        split
        · rename_i hw
          rw [if_pos hw] at hrun
          exact .inl hrun
        · rename_i hw
          rw [if_neg hw] at hrun
          exact hrun
      · have heq : i = m := by
          rcases Nat.lt_or_ge m i with h | h
          · exact absurd (hDl m (htail i (by omega) hil m h)) (hno m (Nat.le_refl _))
          · omega
        have hall1 : ∀ k, k < m → listed[k]? = some true := fun k hk => hDl k (htail i (by omega) hil k (by omega))
        exact run m (Nat.le_refl _) heq hall1 hno (hfin vals w' hC (fun k hk => hv k (hall1 k hk)) fun i j hij hi hj ai aj => hne i j hij ai aj (hall1 i hi) (hall1 j hj))
    · have heq : i = j := by
        have h1 : j ≤ i := by
          rcases Nat.lt_or_ge i j with h | h
          · exfalso
            -- what is ahead of j has run
            have := hyes i h
            rw [hi'] at this
            cases this
          · exact h
        rcases Nat.lt_or_ge j i with h | h
        · exact absurd (hDl j (htail i (by omega) hil j h)) (hno j (Nat.le_refl _))
        · omega
      exact run j (by omega) heq hyes hno hwp
  · show unlisted (Array.replicate l.toArray.size false) ≤ l.toArray.size
    unfold unlisted
    have := List.countP_le_length (p := (! ·)) (l := (Array.replicate l.toArray.size false).toList)
    simpa using this
  · have hnone : ∀ i : Nat, (Array.replicate l.toArray.size false)[i]? ≠ some true := by
      intro i hi
      rw [Array.getElem?_replicate] at hi
      split at hi <;> cases hi
    exact ⟨by simp, fun i o hi => absurd hi (hnone i), .inl ⟨(Adds.refl w).drew, fun i _ => hnone i, vals0, rfl, fun i hi => absurd hi (hnone i), fun i _ hi => absurd hi (hnone i), fun i j _ _ _ hi => absurd hi (hnone i)⟩⟩
theorem wp_region_tail {id : Nat} {l : List Oper} (m : Nat) (hml : m ≤ l.length) (fr : (Nat → Value) → (Nat → Value) → Act) (c vals0 : Nat → Value) {w : World} (hm : P.follows .mixedOrders = true)
    (D : List (List Nat)) (hD : aheadOk l D = true) (hT : tailOk m l D = true) (X : (Nat → Value) → Prop) (hX : X c)
    (Φs : List (Value → World → Prop)) (hΦ : StableAll Φs) (As : List Nat)
    (hshow : ShowsA P l.toArray Q fr X (Adds w) Φs D As 0 (l.take m))
    (hfin : ∀ vals w', Adds w w' → (∀ i, i < m → Φs.getD i (fun _ _ => True) (vals i) w') → (∀ i j, i ≠ j → i < m → j < m → As.contains i = true → As.contains j = true → vals i ≠ vals j) → wpList P l.toArray Q (l.drop m) (fr c vals) w') :
    (Code.region id l.toArray true).wp P Q (fr c vals0) w := by
  have hlen : (l.take m).length = m := by simp; omega
  have := wp_region_then (P := P) (Q := Q) (id := id) (l1 := l.take m) (l2 := l.drop m) fr c vals0 (w := w) hm D (by rw [List.take_append_drop]; exact hD) (by rw [List.take_append_drop, hlen]; exact hT) X hX Φs hΦ As
    (by rw [List.take_append_drop]; exact hshow) (by rw [List.take_append_drop, hlen]; exact hfin)
  rwa [List.take_append_drop] at this
theorem Mem.addNew {G : List Nat} {w0 w w' : World} {L : List Blk} (hM : Mem G w0 w L) (ha : Adds w w') {g : Nat} {t : TypeId} {C : List Value} {N : Nat} (hh : (Blk.mk (some g) t C N).holds w') (hg : w.heap.size ≤ g) : Mem G w0 w' (⟨some g, t, C, N⟩ :: L) := by
  have h := hM.adds ha
  refine ⟨h.touch, fun b hb => ?_, fun b hb => ?_, ?_⟩
  · simp at hb
    rcases hb with rfl | hb
    · exact hh
    · exact h.holds b hb
  · simp at hb
    rcases hb with rfl | hb
    · intro g' hg'
      cases hg'
      exact .inr (Nat.le_trans hM.touch.size hg)
    · exact h.own b hb
  · simp only [List.filterMap_cons, List.nodup_cons]
    refine ⟨fun hm => ?_, h.nodup⟩
    obtain ⟨b, hb, he⟩ := mem_ids.1 hm
    have := (hM.holds b hb).lt he
    omega
theorem Mem.addNew2 {G : List Nat} {w0 w w' : World} {L : List Blk} (hM : Mem G w0 w L) (ha : Adds w w') {g1 g2 : Nat} {t1 t2 : TypeId} {C1 C2 : List Value} {N1 N2 : Nat} (h1 : (Blk.mk (some g1) t1 C1 N1).holds w') (h2 : (Blk.mk (some g2) t2 C2 N2).holds w')
    (hg1 : w.heap.size ≤ g1) (hg2 : w.heap.size ≤ g2) (hne : g1 ≠ g2) : Mem G w0 w' (⟨some g1, t1, C1, N1⟩ :: ⟨some g2, t2, C2, N2⟩ :: L) := by
  have h := hM.addNew ha h2 hg2
  refine ⟨h.touch, fun b hb => ?_, fun b hb => ?_, ?_⟩
  · rw [List.mem_cons] at hb
    rcases hb with rfl | hb
    · exact h1
    · exact h.holds b hb
  · rw [List.mem_cons] at hb
    rcases hb with rfl | hb
    · intro g' hg'
      cases hg'
      exact .inr (Nat.le_trans hM.touch.size hg1)
    · exact h.own b hb
  · rw [List.filterMap_cons]
    simp only
    rw [List.nodup_cons]
    refine ⟨fun hm => ?_, h.nodup⟩
    obtain ⟨b, hb, he⟩ := mem_ids.1 hm
    rw [List.mem_cons] at hb
    rcases hb with rfl | hb
    · cases he; exact hne rfl
    · have := (hM.holds b hb).lt he
      omega
theorem Blk.holds.adds {b : Blk} {w w' : World} (h : b.holds w) (ha : Adds w w') : b.holds w' := h.of_block fun g hg => ha.block g (h.lt hg)
end
end Go.PK
namespace Go.PK
open Go.RowKit
section
variable {P : Program} {Q : Exit → Act → World → Prop}
def Makes (P : Program) (ρ : Operand → Value) (o : Oper) (w : World) (R : Value → World → Prop) : Prop :=
  (∃ v w', (execOp ρ o).run P w = .ok (.value v) w' ∧ R v w') ∨ (∃ w', (execOp ρ o).run P w = .ok .skip w' ∧ R undef w') ∨
  ∃ f args, (execOp ρ o).run P w = .ok (.enter f args) w ∧ Calls P f args w fun e w'' => ∃ v, e = .returned v ∧ R v w''
variable {o : Oper} {w : World} {R : Value → World → Prop} {ρ : Operand → Value} {a : Act} {K : Act → World → Prop}
theorem Makes.wp (h : Makes P a.eval o w R) (hK : ∀ v w', R v w' → K (a.put o.dst v) w') : o.wp P a w K Q := by
  unfold Oper.wp
  rcases h with ⟨v, w', hr, hR⟩ | ⟨w', hr, hR⟩ | ⟨f, args, hr, hc⟩
  · rw [hr, Oper.upon_value]
    exact hK _ _ hR
  · rw [hr, Oper.upon_skip]
    exact hK _ _ hR
  · rw [hr, Oper.upon_enter]
    refine hc.mono ?_
    rintro e w'' ⟨v, rfl, hR⟩
    exact hK _ _ hR
theorem makes_value {v : Value} (hr : (execOp ρ o).run P w = .ok (.value v) w) (hR : R v w) : Makes P ρ o w R := .inl ⟨v, w, hr, hR⟩
theorem makes_call {f : FuncId} {args : Array Value} {S : Ending → World → Prop} (hc : Calls P f args w S) (hr : (execOp ρ o).run P w = .ok (.enter f args) w) (hR : ∀ e w', S e w' → ∃ v, e = .returned v ∧ R v w') : Makes P ρ o w R :=
  .inr (.inr ⟨f, args, hr, hc.mono hR⟩)
theorem makes_load {ty : TypeId} {x : Operand} {ad : Addr} {v : Value} (h : Loads P w ty ad v) (ho : o.op = .load ty x) (hx : ρ x = .pointer (some ad)) (hR : R v w) : Makes P ρ o w R := by
  refine makes_value (v := v) ?_ hR
  unfold Loads at h
  unfold execOp
  simp only [ho, hx, Instr.loadAt, Instr.sureAddr, Sem.run_bind, Sem.run_pure, Result.andThen_ok, h]
theorem makes_move {x : Operand} {v : Value} (ho : o.op = .move x ∨ o.op = .assign x) (hx : ρ x = v) (hR : R v w) : Makes P ρ o w R := by
  refine makes_value (v := v) ?_ hR
  unfold execOp
  rcases ho with ho | ho <;> simp only [ho, hx, Sem.run_pure]
theorem makes0 (h : ∀ ρ : Operand → Value, (∀ v, ρ (.const v) = v) → (∀ f, ρ (.func f) = .func (.func f) #[] #[]) → Makes P ρ o w R) : Makes P a.eval o w R := h a.eval (fun _ => rfl) (fun _ => rfl)
theorem makes1 {x : Operand} {X : Value} (hx : a.eval x = X) (h : ∀ ρ : Operand → Value, (∀ v, ρ (.const v) = v) → (∀ f, ρ (.func f) = .func (.func f) #[] #[]) → ρ x = X → Makes P ρ o w R) : Makes P a.eval o w R := h a.eval (fun _ => rfl) (fun _ => rfl) hx
theorem makes2 {x y : Operand} {X Y : Value} (hx : a.eval x = X) (hy : a.eval y = Y) (h : ∀ ρ : Operand → Value, (∀ v, ρ (.const v) = v) → (∀ f, ρ (.func f) = .func (.func f) #[] #[]) → ρ x = X → ρ y = Y → Makes P ρ o w R) : Makes P a.eval o w R := h a.eval (fun _ => rfl) (fun _ => rfl) hx hy
theorem makes3 {x y z : Operand} {X Y Z : Value} (hx : a.eval x = X) (hy : a.eval y = Y) (hz : a.eval z = Z) (h : ∀ ρ : Operand → Value, (∀ v, ρ (.const v) = v) → (∀ f, ρ (.func f) = .func (.func f) #[] #[]) → ρ x = X → ρ y = Y → ρ z = Z → Makes P ρ o w R) : Makes P a.eval o w R := h a.eval (fun _ => rfl) (fun _ => rfl) hx hy hz
theorem makes4 {x y z t : Operand} {X Y Z T : Value} (hx : a.eval x = X) (hy : a.eval y = Y) (hz : a.eval z = Z) (ht : a.eval t = T) (h : ∀ ρ : Operand → Value, (∀ v, ρ (.const v) = v) → (∀ f, ρ (.func f) = .func (.func f) #[] #[]) → ρ x = X → ρ y = Y → ρ z = Z → ρ t = T → Makes P ρ o w R) : Makes P a.eval o w R := h a.eval (fun _ => rfl) (fun _ => rfl) hx hy hz ht
variable {ops : Array Oper} {fr : (Nat → Value) → (Nat → Value) → Act} {X : (Nat → Value) → Prop} {C : World → Prop} {Φs : List (Value → World → Prop)} {D : List (List Nat)} {As : List Nat}
def ShowA (P : Program) (ops : Array Oper) (Q : Exit → Act → World → Prop) (fr : (Nat → Value) → (Nat → Value) → Act) (X : (Nat → Value) → Prop) (C : World → Prop) (Φs : List (Value → World → Prop)) (D : List (List Nat)) (As : List Nat) (k : Nat) (o : Oper) : Prop :=
  (∀ c vals v, (fr c vals).put o.dst v = fr c (upd vals k v)) ∧
     ∀ c, X c → ∀ vals w, C w → (∀ j, (D.getD k []).contains j = true → Φs.getD j (fun _ _ => True) (vals j) w) →
      ∀ K : Act → World → Prop, (∀ v w', Adds w w' → Φs.getD k (fun _ _ => True) v w' → (As.contains k = true → v = .pointer (some ⟨w.heap.size, 0, none⟩) ∧ w.heap.size < w'.heap.size) → K (fr c (upd vals k v)) w') →
       if Region.wanted o (yielded ops (fr c vals).tmps) = true then o.wp P (fr c vals) w K Q else K ((fr c vals).put o.dst undef) w
theorem showA_of (k : Nat) (hput : ∀ c vals v, (fr c vals).put o.dst v = fr c (upd vals k v)) (hA : As.contains k = false)
    (h : ∀ c vals w, C w → (∀ j, (D.getD k []).contains j = true → Φs.getD j (fun _ _ => True) (vals j) w) → Region.wanted o (yielded ops (fr c vals).tmps) = true ∧ Makes P (fr c vals).eval o w fun v w' => Adds w w' ∧ Φs.getD k (fun _ _ => True) v w') :
    ShowA P ops Q fr X C Φs D As k o := by
  refine ⟨hput, fun c _ vals w hC hD K hK => ?_⟩
  obtain ⟨hw, hm⟩ := h c vals w hC hD
  rw [if_pos hw]
  refine hm.wp fun v w' hR => ?_
  rw [hput]
  exact hK v w' hR.1 hR.2 (fun h => by rw [hA] at h; cases h)
theorem showA_op (k : Nat) (hput : ∀ c vals v, (fr c vals).put o.dst v = fr c (upd vals k v)) (hg : o.guard = none) (hA : As.contains k = false)
    (h : ∀ c vals w, C w → (∀ j, (D.getD k []).contains j = true → Φs.getD j (fun _ _ => True) (vals j) w) → Makes P (fr c vals).eval o w fun v w' => Adds w w' ∧ Φs.getD k (fun _ _ => True) v w') :
    ShowA P ops Q fr X C Φs D As k o :=
  showA_of k hput hA fun c vals w hC hD => ⟨wanted_none hg, h c vals w hC hD⟩
theorem showA_run (k : Nat) (hput : ∀ c vals v, (fr c vals).put o.dst v = fr c (upd vals k v)) {j : Nat} {want : Bool} {oj : Oper} {d : Nat} (hg : o.guard = some (j, want)) (hj : ops[j]? = some oj) (hd : oj.dst = some d)
    (hv : ∀ c vals, (fr c vals).tmps[d]? = some (vals j)) (hA : As.contains k = false)
    (h : ∀ c vals w, C w → (∀ j, (D.getD k []).contains j = true → Φs.getD j (fun _ _ => True) (vals j) w) → vals j = .bool want ∧ Makes P (fr c vals).eval o w fun v w' => Adds w w' ∧ Φs.getD k (fun _ _ => True) v w') :
    ShowA P ops Q fr X C Φs D As k o :=
  showA_of k hput hA fun c vals w hC hD => ⟨wanted_of hg hj hd (hv c vals) (h c vals w hC hD).1, (h c vals w hC hD).2⟩
end
end Go.PK
namespace Go.PK
open Go.RowKit
section
variable {P : Program} {G : List Nat} {w0 w : World} {L : List Blk}
theorem Mem.perm {L' : List Blk} (hM : Mem G w0 w L) (h : L.Perm L') : Mem G w0 w L' :=
  ⟨hM.touch, fun b hb => hM.holds b (h.mem_iff.2 hb), fun b hb => hM.own b (h.mem_iff.2 hb), (h.filterMap _).nodup_iff.1 hM.nodup⟩
theorem Mem.mem_new {g : Nat} {t : TypeId} {C : List Value} {N : Nat} (hM : Mem [] w0 w L) (hb : ⟨some g, t, C, N⟩ ∈ L) : w0.heap.size ≤ g := by
  rcases hM.own _ hb g rfl with h | h
  · cases h
  · exact h
theorem Mem.calls (hM : Mem G w0 w L) {L' : List Blk} {g : Nat} {t : TypeId} {C C' : List Value} {N : Nat} (hb : Has L ⟨some g, t, C, N⟩ ⟨some g, t, C', N⟩ L') {w' : World} (hT : Touch [g] w w') (hR : Row w' g t C') (hN : Len C' N) : Mem G w0 w' L' :=
  hM.wrote hb hT ⟨[], by rw [List.append_nil]; exact hR, by rw [hN.eq]; rfl⟩
theorem Mem.takeIn (hM : Mem G w0 w L) {g : Nat} {t : TypeId} {C : List Value} {N : Nat} (hR : Row w g t C) (hN : Len C N) (hg : g ∈ G) (hn : ∀ b ∈ L, b.id ≠ some g) : Mem G w0 w (⟨some g, t, C, N⟩ :: L) :=
  ⟨hM.touch, fun b hb => by
    simp at hb
    rcases hb with rfl | hb
    · exact ⟨[], by rw [List.append_nil]; exact hR, by rw [hN.eq]; rfl⟩
    · exact hM.holds b hb, fun b hb => by
    simp at hb
    rcases hb with rfl | hb
    · intro g' hg'; cases hg'; exact .inl hg
    · exact hM.own b hb, by
    simp only [List.filterMap_cons, List.nodup_cons]
    exact ⟨fun hm => by obtain ⟨b, hb, he⟩ := mem_ids.1 hm; exact hn b hb he, hM.nodup⟩⟩
theorem Mem.mono {H : List Nat} (hM : Mem G w0 w L) (h : ∀ g ∈ G, g ∈ H) : Mem H w0 w L :=
  ⟨hM.touch.mono h, hM.holds, fun b hb g hg => (hM.own b hb g hg).imp (h g) id, hM.nodup⟩
structure Kept where
  ob : Option Nat
  l : List UInt8
  cap : Nat
abbrev Kept.blk (t : TypeId) (r : Kept) : Blk := ⟨r.ob, t, r.l.map B8, r.cap⟩
abbrev Kept.val (r : Kept) : Value := sl r.ob r.l.length r.cap
abbrev Kept.none : Kept := ⟨.none, [], 0⟩
end
end Go.PK
namespace Go.PK
open Go.RowKit
section
variable {P : Program} {Q : Exit → Act → World → Prop} {ops : Array Oper} {rest : List Oper} {a : Act} {K : Act → World → Prop} {o : Oper}
variable {dst : Option Tmp} {type : TypeId} {pos : String} {after : Array Edge} {j : Nat} {want : Bool}
def Builds (P : Program) (ty : TypeId) (vals : List (Nat × Value)) (v : Value) : Prop := ∀ w, (Instr.build ty vals.toArray).run P w = .ok v w
theorem wp_build_of {w : World} {ty : TypeId} {parts : List (Nat × Operand)} {vals : List (Nat × Value)} {v : Value} (ho : o.op = .build ty parts.toArray) (hp : (parts.map fun p => (p.1, a.eval p.2)) = vals) (h : Builds P ty vals v) (hK : K (a.put o.dst v) w) : o.wp P a w K Q := by
  unfold Oper.wp execOp
  simp only [ho, List.map_toArray, Sem.run_bind, Sem.run_pure, Result.andThen_ok, hp, h w]
  exact hK
theorem wpL_build {w : World} {ty : TypeId} {parts : List (Nat × Operand)} {vals : List (Nat × Value)} {v : Value} (hp : (parts.map fun p => (p.1, a.eval p.2)) = vals) (h : Builds P ty vals v) (hK : wpList P ops Q rest (a.put dst v) w) :
    wpList P ops Q (Oper.mk dst (.build ty parts.toArray) type pos after none :: rest) a w := wpList_plain rfl fun _ hk => wp_build_of rfl hp h (hk _ _ hK)
theorem gL_build {w : World} {ty : TypeId} {parts : List (Nat × Operand)} (h : ∃ vals v, (parts.map fun p => (p.1, a.eval p.2)) = vals ∧ Builds P ty vals v ∧ wpList P ops Q rest (a.put dst v) w) :
    wpList P ops Q (Oper.mk dst (.build ty parts.toArray) type pos after none :: rest) a w := let ⟨_, _, h1, h2, h3⟩ := h; wpL_build h1 h2 h3
@[go_sem] theorem bin_rem_W64 (t : TypeId) (x y : UInt64) (hy : y ≠ 0) : binOp .rem t (W64 x) (W64 y) = pure (W64 (x % y)) := by
  have hy' : ((y.toNat : Nat) : Int) ≠ 0 := by
    intro h
    exact hy (UInt64.toNat_inj.1 (by simpa using h))
  unfold W64
  simp only [binOp, Op.intDiv, if_neg hy']
  congr 2
end
end Go.PK
namespace Go.PK
open Go.RowKit
section
variable {P : Program} {Q : Exit → Act → World → Prop} {ops : Array Oper} {rest : List Oper} {a : Act} {K : Act → World → Prop} {o : Oper}
variable {dst : Option Tmp} {type : TypeId} {pos : String} {after : Array Edge} {j : Nat} {want : Bool}
def Sliced (P : Program) (t : TypeId) (x : Value) (lo hi mx : Option Value) (v : Value) : Prop := ∀ w, (Instr.sliceAt t x lo hi mx).run P w = .ok v w
def uaB (P : Program) (t : TypeId) (n e : Nat) : Prop := P.underlying t = some (.array n e)
theorem slice_arr {t n e : Nat} (hu : P.underlying t = some (.array n e)) (he : (P.info? e).map (·.size) = some 1) {g off : Nat} {lo hi : Option Nat} (h1 : lo.getD 0 ≤ hi.getD n) (h2 : hi.getD n ≤ n) :
    Sliced P t (.pointer (some ⟨g, off, none⟩)) (lo.map fun (k : Nat) => .int .i64 (k : Int)) (hi.map fun (k : Nat) => .int .i64 (k : Int)) none (.slice (some ⟨g, if n = lo.getD 0 then off else off + lo.getD 0, none⟩) (hi.getD n - lo.getD 0) (n - lo.getD 0)) := by
  intro w
  cases hq : P.info? e with
  | none => simp [hq] at he
  | some i =>
    have hs : i.size = 1 := by simpa [hq] using he
    have hb : (Instr.sliceBounds false n n (lo.map fun (k : Nat) => Value.int .i64 (k : Int)) (hi.map fun (k : Nat) => Value.int .i64 (k : Int)) none).run P w = .ok (lo.getD 0, hi.getD n, n) w := by
      cases lo with
      | none => cases hi with
        | none => simp [Instr.sliceBounds]
        | some h => simp at h2; simp [Instr.sliceBounds, run_sliceBound, h2]
      | some l => cases hi with
        | none => simp at h1; simp [Instr.sliceBounds, run_sliceBound, h1]
        | some h => simp at h1 h2; simp [Instr.sliceBounds, run_sliceBound, h1, h2]
    simp only [Instr.sliceAt, Sem.run_bind, run_underlying hu, Instr.sureAddr, Sem.run_pure, Result.andThen_ok, hb, sizeOf, typeInfo]
    simp [hq, hs]
    split <;> simp [Addr.add_lit]
theorem slice_arr_lo {t n e : Nat} (hu : P.underlying t = some (.array n e)) (he : (P.info? e).map (·.size) = some 1) {g off k : Nat} (h1 : k < n) :
    Sliced P t (.pointer (some ⟨g, off, none⟩)) (some (.int .i64 (k : Int))) none none (.slice (some ⟨g, off + k, none⟩) (n - k) (n - k)) := by
  have := slice_arr (P := P) hu he (g := g) (off := off) (lo := some k) (hi := none) (by simp; omega) (by simp)
  simp only [Option.map_some, Option.map_none, Option.getD_some, Option.getD_none, if_neg (show ¬ n = k by omega)] at this
  exact this
theorem slice_arr_hi {t n e : Nat} (hu : P.underlying t = some (.array n e)) (he : (P.info? e).map (·.size) = some 1) {g off h : Nat} (h1 : h ≤ n) :
    Sliced P t (.pointer (some ⟨g, off, none⟩)) none (some (.int .i64 (h : Int))) none (.slice (some ⟨g, off, none⟩) h n) := by
  have := slice_arr (P := P) hu he (g := g) (off := off) (lo := none) (hi := some h) (by simp) (by simpa using h1)
  simpa using this
theorem slice_arr_all {t n e : Nat} (hu : P.underlying t = some (.array n e)) (he : (P.info? e).map (·.size) = some 1) {g off : Nat} :
    Sliced P t (.pointer (some ⟨g, off, none⟩)) none none none (.slice (some ⟨g, off, none⟩) n n) := by
  have := slice_arr (P := P) hu he (g := g) (off := off) (lo := none) (hi := none) (by simp) (by simp)
  simpa using this
theorem gL_slice {w : World} {t : TypeId} {x : Operand} {lo hi mx : Option Operand} (h : ∃ v, Sliced P t (a.eval x) (lo.map a.eval) (hi.map a.eval) (mx.map a.eval) v ∧ wpList P ops Q rest (a.put dst v) w) :
    wpList P ops Q (Oper.mk dst (.slice t x lo hi mx) type pos after none :: rest) a w := by
  obtain ⟨v, h1, h2⟩ := h
  refine wpList_plain rfl fun K hk => ?_
  unfold Oper.wp execOp
  simp only [Sem.run_bind, Sem.run_pure, Result.andThen_ok, h1 w]
  exact hk _ _ h2
theorem _root_.Go.PK.El.one {P : Program} {e : TypeId} {b : Nat} (h : El P e 1 b) : (P.info? e).map (·.size) = some 1 := by
  obtain ⟨z, h1, -⟩ := h
  cases hq : P.info? e with
  | none => simp [hq] at h1
  | some i => simp [hq] at h1; simp [h1.2.1]
theorem bytes_from {w : World} {ao : Option Addr} {n cap : Nat} {l : List UInt8} (h : Bytes w (.slice ao n cap) l) {t e : TypeId} (hu : P.underlying t = some (.slice e)) (he : (P.info? e).map (·.size) = some 1) {k : Nat} (hk : k ≤ n) :
    ∃ ao', Sliced P t (.slice ao n cap) (some (.int .i64 (k : Int))) none none (.slice ao' (n - k) (cap - k)) ∧ Bytes w (.slice ao' (n - k) (cap - k)) (l.drop k) ∧ ∀ a n' cap', (Value.slice ao' (n - k) (cap - k)) = .slice (some a) n' cap' → ∃ a0, ao = some a0 ∧ a0.block = a.block := by
  obtain ⟨e1, e2, e3⟩ := h.form
  have hsub := h.sub (lo := k) (hi := n) (mx := cap) hk (by omega) e2 (Nat.le_refl _)
  rw [List.take_of_length_le (by rw [List.length_drop]; omega)] at hsub
  cases hq : P.info? e with
  | none => simp [hq] at he
  | some i =>
    have hs : i.size = 1 := by simpa [hq] using he
    refine ⟨_, fun w => ?_, hsub, ?_⟩
    · have hb : (Instr.sliceBounds true n cap (some (.int .i64 (k : Int))) none none).run P w = .ok (k, n, cap) w := by
        simp [Instr.sliceBounds, run_sliceBound, hk]
      simp only [Instr.sliceAt, Instr.slice, Sem.run_bind, run_underlying hu, Sem.run_pure, Result.andThen_ok, hb, sizeOf, typeInfo]
      simp [hq, hs]
    · intro a n' cap' he
      split at he
      · cases he; exact ⟨_, rfl, rfl⟩
      · cases ao with
        | none => simp at he
        | some a0 =>
          refine ⟨a0, rfl, ?_⟩
          simp [Addr.add] at he
          rw [← he.1]
          split <;> rfl
theorem bytes_upto {w : World} {ao : Option Addr} {n cap : Nat} {l : List UInt8} (h : Bytes w (.slice ao n cap) l) {t e : TypeId} (hu : P.underlying t = some (.slice e)) (he : (P.info? e).map (·.size) = some 1) {k : Nat} (hk : k ≤ n) :
    Sliced P t (.slice ao n cap) none (some (.int .i64 (k : Int))) none (.slice ao k cap) ∧ Bytes w (.slice ao k cap) (l.take k) := by
  obtain ⟨e1, e2, e3⟩ := h.form
  refine ⟨fun w => ?_, h.pre (by omega) (by omega) (Nat.le_refl _)⟩
  cases hq : P.info? e with
  | none => simp [hq] at he
  | some i =>
    have hs : i.size = 1 := by simpa [hq] using he
    have hb : (Instr.sliceBounds true n cap none (some (.int .i64 (k : Int))) none).run P w = .ok (0, k, cap) w := by
      have : (k : Int) ≤ cap := by omega
      simp [Instr.sliceBounds, run_sliceBound, this]
    simp only [Instr.sliceAt, Instr.slice, Sem.run_bind, run_underlying hu, Sem.run_pure, Result.andThen_ok, hb, sizeOf, typeInfo]
    simp [hq, hs]
    intro h0
    cases ao <;> simp [Addr.add]
theorem run_copy_none {dT sT t elem : TypeId} {w : World} {g off dLen dCap : Nat} (hu : P.underlying dT = some (.slice elem)) (he : (P.info? elem).map (·.size) = some 1) :
    (Builtin.copy_ #[dT, sT] t #[.slice (some ⟨g, off, none⟩) dLen dCap, .slice none 0 0]).run P w = .ok (.int .i64 0) w := by
  cases hq : P.info? elem with
  | none => simp [hq] at he
  | some i =>
    simp [Builtin.copy_, Sem.run_bind, run_underlying hu, Builtin.lenOf, sizeOf, typeInfo, hq, Builtin.firstCells, storeCells, goInt]
variable {G : List Nat} {w0 w : World} {L : List Blk}
theorem Mem.wp_copy_B (hM : Mem G w0 w L) {s x : Operand} {dT sT elem : TypeId} (ho : o.op = .call { callee := .builtin .copy, args := #[s, x], argTypes := #[dT, sT] })
    (hu : P.underlying dT = some (.slice elem)) (he : (P.info? elem).map (·.size) = some 1)
    {g off dLen dCap : Nat} (hs : a.eval s = .slice (some ⟨g, off, none⟩) dLen dCap) {t : TypeId} {C : List Value} {N : Nat} {L' : List Blk} {v : Value} {l : List UInt8}
    (hx : a.eval x = v) (hv : Bytes w v l) (hfit : off + dLen ≤ C.length)
    (hb : Has L ⟨some g, t, C, N⟩ ⟨some g, t, C.take off ++ (l.take dLen).map B8 ++ C.drop (off + (l.take dLen).length), N⟩ L')
    (h : ∀ w', Mem G w0 w' L' → K (a.put o.dst (.int .i64 ((l.take dLen).length : Int))) w') : o.wp P a w K Q := by
  obtain ⟨ao, cap, rfl, e1, e2, e3, e4⟩ := hv
  cases ao with
  | none =>
    have hc := e3 rfl
    have hl : l = [] := List.eq_nil_of_length_eq_zero (by omega)
    subst hl
    subst hc
    have hrun := run_copy_none (P := P) (sT := sT) (t := o.type) (w := w) (g := g) (off := off) (dLen := dLen) (dCap := dCap) hu he
    unfold Oper.wp execOp
    simp only [ho, resolve, invoke, builtin, Sem.run_bind, Sem.run_pure, Result.andThen_ok, List.map_toArray, List.map_cons, List.map_nil, hs, hx]
    rw [show ([] : List UInt8).length = 0 from rfl, hrun]
    have : L' = L := by
      have hE : (C.take off ++ (([] : List UInt8).take dLen).map B8 ++ C.drop (off + (([] : List UInt8).take dLen).length)) = C := by simp
      rw [hE] at hb
      clear h
      generalize hB : (Blk.mk (some g) t C N) = B at hb
      have : ∀ {L L' : List Blk} {b b' : Blk}, Has L b b' L' → b = b' → L' = L := by
        intro L L' b b' h e
        induction h with
        | here => rw [e]
        | there x _ ih => rw [ih e]
      exact this hb rfl
    subst this
    have hk := h w hM
    simpa [Result.andThen, Oper.upon] using hk
  | some ad =>
    refine hM.wp_copy ho hu he hs hx ((l.take dLen).map B8) (by simp [Nat.min_comm]) (fun j u hu => ?_) (by rw [List.length_map]; exact hb) (by rw [List.length_map, List.length_take]; omega) ?_ (fun w' hm => by have := h w' hm; rwa [List.length_map])
    · have hj : j < (l.take dLen).length := by simpa using (List.getElem?_eq_some_iff.1 hu).1
      have hj' : j < l.length := by rw [List.length_take] at hj; omega
      obtain ⟨b, off', hb', -, g3⟩ := e4 j hj'
      cases hb'
      rw [Addr.add_lit, g3, ← hu, List.getElem?_map, List.getElem?_take, if_pos (by rw [List.length_take] at hj; omega), List.getElem?_eq_getElem hj', List.getD_eq_getElem?_getD, List.getElem?_eq_getElem hj']
      rfl
    · intro u hu
      obtain ⟨c, _, rfl⟩ := List.mem_map.1 hu
      rfl
theorem gL_copy_B (hM : Mem G w0 w L) {ops : Array Oper} {rest : List Oper} {s x : Operand} {dT sT : TypeId}
    (h : ∃ (elem g off dLen dCap : Nat) (t : TypeId) (C : List Value) (N : Nat) (L' : List Blk) (v : Value) (l : List UInt8), P.underlying dT = some (.slice elem) ∧ (P.info? elem).map (·.size) = some 1 ∧ a.eval s = .slice (some ⟨g, off, none⟩) dLen dCap ∧ a.eval x = v ∧ Bytes w v l ∧
      off + dLen ≤ C.length ∧ Has L ⟨some g, t, C, N⟩ ⟨some g, t, C.take off ++ (l.take dLen).map B8 ++ C.drop (off + (l.take dLen).length), N⟩ L' ∧
      ∀ w', Mem G w0 w' L' → wpList P ops Q rest (a.put dst (.int .i64 ((l.take dLen).length : Int))) w') :
    wpList P ops Q (Oper.mk dst (.call { callee := .builtin .copy, args := #[s, x], argTypes := #[dT, sT] }) type pos after none :: rest) a w :=
  let ⟨_, _, _, _, _, _, _, _, _, _, _, h1, h2, h3, h4, h5, h6, h7, h8⟩ := h; wpList_plain rfl fun _ hk => hM.wp_copy_B rfl h1 h2 h3 h4 h5 h6 h7 fun w' hm => hk _ _ (h8 w' hm)
theorem toInt64_small {x : UInt64} {k : Nat} (h : x.toNat = k) (hk : k < 9223372036854775808) : x.toInt64.toInt = (k : Int) := by
  show x.toBitVec.toInt = _
  rw [BitVec.toInt_eq_toNat_bmod]
  show (x.toNat : Int).bmod 18446744073709551616 = _
  have hx : (x.toNat : Int) % ((18446744073709551616 : Nat) : Int) = x.toNat := by omega
  rw [Int.bmod, hx, if_pos (by omega), h]
end
end Go.PK
namespace Go.PK
open Go.RowKit
section
variable {P : Program} {o : Oper} {w : World} {R : Value → World → Prop} {ρ : Operand → Value}
theorem makes_slice {t : TypeId} {x : Operand} {lo hi mx : Option Operand} {X v : Value} {LO HI MX : Option Value} (h : Sliced P t X LO HI MX v) (ho : o.op = .slice t x lo hi mx) (hx : ρ x = X) (hlo : lo.map ρ = LO) (hhi : hi.map ρ = HI) (hmx : mx.map ρ = MX) (hR : R v w) : Makes P ρ o w R := by
  refine makes_value (v := v) ?_ hR
  unfold execOp
  simp only [ho, hx, hlo, hhi, hmx, Sem.run_bind, Sem.run_pure, Result.andThen_ok, h w]
theorem makes_neq {ty yt : TypeId} {x y : Operand} {A B : Array Value} {b : Bool} (hE : EqTo P ty A B b) (ho : o.op = .binOp .neq ty x y yt) (hx : ρ x = .agg A) (hy : ρ y = .agg B) (hR : R (.bool (!b)) w) : Makes P ρ o w R := by
  refine makes_value (v := .bool (!b)) ?_ hR
  unfold execOp
  simp only [ho, hx, hy, Sem.run_bind, Sem.run_pure, Result.andThen_ok, run_eqGuard_agg w .neq ty x y A B hE.1, run_neq_struct, hE.2 w]
end
end Go.PK
namespace Go.PK.Sha
def ks : List UInt32 := [
  0x428a2f98, 0x71374491, 0xb5c0fbcf, 0xe9b5dba5, 0x3956c25b, 0x59f111f1, 0x923f82a4, 0xab1c5ed5,
  0xd807aa98, 0x12835b01, 0x243185be, 0x550c7dc3, 0x72be5d74, 0x80deb1fe, 0x9bdc06a7, 0xc19bf174,
  0xe49b69c1, 0xefbe4786, 0x0fc19dc6, 0x240ca1cc, 0x2de92c6f, 0x4a7484aa, 0x5cb0a9dc, 0x76f988da,
  0x983e5152, 0xa831c66d, 0xb00327c8, 0xbf597fc7, 0xc6e00bf3, 0xd5a79147, 0x06ca6351, 0x14292967,
  0x27b70a85, 0x2e1b2138, 0x4d2c6dfc, 0x53380d13, 0x650a7354, 0x766a0abb, 0x81c2c92e, 0x92722c85,
  0xa2bfe8a1, 0xa81a664b, 0xc24b8b70, 0xc76c51a3, 0xd192e819, 0xd6990624, 0xf40e3585, 0x106aa070,
  0x19a4c116, 0x1e376c08, 0x2748774c, 0x34b0bcb5, 0x391c0cb3, 0x4ed8aa4a, 0x5b9cca4f, 0x682e6ff3,
  0x748f82ee, 0x78a5636f, 0x84c87814, 0x8cc70208, 0x90befffa, 0xa4506ceb, 0xbef9a3f7, 0xc67178f2]
def begins : List UInt32 := [0x6a09e667, 0xbb67ae85, 0x3c6ef372, 0xa54ff53a, 0x510e527f, 0x9b05688c, 0x1f83d9ab, 0x5be0cd19]
def turned (x : UInt32) (n : Nat) : UInt32 := shr32 x n ||| shl32 x (32 - n)
def be (c : List UInt8) (t : Nat) : UInt32 := (gb c (4 * t)).toUInt32 <<< 24 ||| (gb c (4 * t + 1)).toUInt32 <<< 16 ||| (gb c (4 * t + 2)).toUInt32 <<< 8 ||| (gb c (4 * t + 3)).toUInt32
def sig0 (x : UInt32) : UInt32 := turned x 7 ^^^ turned x 18 ^^^ x >>> 3
def sig1 (x : UInt32) : UInt32 := turned x 17 ^^^ turned x 19 ^^^ x >>> 10
def next (c : List UInt8) (l : List UInt32) (t : Nat) : UInt32 :=
  if t < 16 then be c t else gw l (t - 16) + sig0 (gw l (t - 15)) + gw l (t - 7) + sig1 (gw l (t - 2))
def wl (c : List UInt8) : Nat → List UInt32
  | 0 => []
  | t + 1 => wl c t ++ [next c (wl c t) t]
def one (s : List UInt32) (k w : UInt32) : UInt32 := gw s 7 + (turned (gw s 4) 6 ^^^ turned (gw s 4) 11 ^^^ turned (gw s 4) 25) + ((gw s 4 &&& gw s 5) ^^^ (~~~(gw s 4) &&& gw s 6)) + k + w
def two (s : List UInt32) : UInt32 := (turned (gw s 0) 2 ^^^ turned (gw s 0) 13 ^^^ turned (gw s 0) 22) + (((gw s 0 &&& gw s 1) ^^^ (gw s 0 &&& gw s 2)) ^^^ (gw s 1 &&& gw s 2))
def round (s : List UInt32) (k w : UInt32) : List UInt32 := [one s k w + two s, gw s 0, gw s 1, gw s 2, gw s 3 + one s k w, gw s 4, gw s 5, gw s 6]
def rnd (s w : List UInt32) : Nat → List UInt32
  | 0 => s
  | t + 1 => round (rnd s w t) (gw ks t) (gw w t)
def plus (s v : List UInt32) : List UInt32 := List.zipWith (· + ·) s v
def piece (s : List UInt32) (c : List UInt8) : List UInt32 := plus s (rnd s (wl c 64) 64)
def run (m : List UInt8) : Nat → List UInt32
  | 0 => begins
  | q + 1 => piece (run m q) ((m.drop (64 * q)).take 64)
def be64 (n : UInt64) : List UInt8 := (List.range 8).map fun i => (shr64 n (56 - 8 * i)).toUInt8
def zeros (n : Nat) : Nat := (64 + 55 - n % 64) % 64
def ending (n : Nat) : List UInt8 := 0x80 :: (List.replicate (zeros n) 0 ++ be64 (8 * UInt64.ofNat n))
def padded (m : List UInt8) : List UInt8 := m ++ ending m.length
def out (s : List UInt32) : List UInt8 := (List.range 32).map fun i => (shr32 (gw s (i / 4)) (24 - 8 * (i % 4))).toUInt8
def of (m : List UInt8) : List UInt8 := out (run (padded m) ((padded m).length / 64))
theorem ks_len : ks.length = 64 := rfl
theorem wl_len (c : List UInt8) (t : Nat) : (wl c t).length = t := by
  induction t with
  | zero => rfl
  | succ t ih => rw [wl, List.length_append, ih]; rfl
theorem gw_left {l X : List UInt32} {i : Nat} (h : i < l.length) : gw (l ++ X) i = gw l i := by
  unfold gw
  rw [List.getD_eq_getElem?_getD, List.getD_eq_getElem?_getD, List.getElem?_append_left h]
def laying (c : List UInt8) (t : Nat) : List UInt32 := wl c t ++ List.replicate (64 - t) 0
theorem laying_len (c : List UInt8) (t : Nat) (h : t ≤ 64) : (laying c t).length = 64 := by
  rw [laying, List.length_append, wl_len, List.length_replicate]
  omega
theorem laying_all (c : List UInt8) : laying c 64 = wl c 64 := by simp [laying]
theorem laying_zero (c : List UInt8) : laying c 0 = List.replicate 64 0 := by simp [laying, wl]
theorem piece_eq (s : List UInt32) (c : List UInt8) : piece s c = plus s (rnd s (wl c 64) 64) := by rw [piece]
theorem laying_get (c : List UInt8) {t i : Nat} (h : i < t) : gw (laying c t) i = gw (wl c t) i := gw_left (by rw [wl_len]; exact h)
theorem laying_set (c : List UInt8) (t : Nat) (h : t < 64) : (laying c t).set t (next c (wl c t) t) = laying c (t + 1) := by
  rw [laying, laying, wl, show 64 - t = (64 - (t + 1)) + 1 from by omega, List.replicate_succ, List.set_append_right _ _ (by rw [wl_len]; exact Nat.le_refl _), wl_len, Nat.sub_self, List.append_assoc]
  rfl
theorem rnd_len (s w : List UInt32) (t : Nat) (h : s.length = 8) : (rnd s w t).length = 8 := by
  cases t with
  | zero => exact h
  | succ t => rfl
theorem plus_len (s v : List UInt32) (h : s.length = 8) (k : v.length = 8) : (plus s v).length = 8 := by simp [plus, h, k]
theorem plus_step (s v : List UInt32) (h : s.length = 8) (k : v.length = 8) (t : Nat) (ht : t < 8) :
    ((plus s v).take t ++ s.drop t).set t (gw ((plus s v).take t ++ s.drop t) t + gw v t) = (plus s v).take (t + 1) ++ s.drop (t + 1) := by
  have hl := plus_len s v h k
  have h1 : ((plus s v).take t).length = t := by rw [List.length_take, hl]; omega
  have h2 : gw ((plus s v).take t ++ s.drop t) t = gw s t := by
    unfold gw
    rw [List.getD_eq_getElem?_getD, List.getD_eq_getElem?_getD, List.getElem?_append_right (by rw [h1]; exact Nat.le_refl _), h1, Nat.sub_self, List.getElem?_drop, Nat.add_zero]
  have h3 : s.drop t = gw s t :: s.drop (t + 1) := by
    rw [List.drop_eq_getElem_cons (by omega)]
    unfold gw
    rw [List.getD_eq_getElem?_getD, List.getElem?_eq_getElem (by omega)]
    rfl
  have h4 : (plus s v).take (t + 1) = (plus s v).take t ++ [gw s t + gw v t] := by
    rw [List.take_succ_eq_append_getElem (by rw [hl]; exact ht)]
    unfold plus gw
    rw [List.getElem_zipWith, List.getD_eq_getElem?_getD, List.getD_eq_getElem?_getD, List.getElem?_eq_getElem (by omega), List.getElem?_eq_getElem (by omega)]
    rfl
  rw [h2, h3, List.set_append_right _ _ (by rw [h1]; exact Nat.le_refl _), h1, Nat.sub_self, List.set_cons_zero, h4, List.append_assoc]
  rfl
theorem piece_len (s : List UInt32) (c : List UInt8) (h : s.length = 8) : (piece s c).length = 8 := plus_len _ _ h (rnd_len _ _ _ h)
theorem run_len (m : List UInt8) (q : Nat) : (run m q).length = 8 := by
  induction q with
  | zero => rfl
  | succ q ih => exact piece_len _ _ ih
theorem be64_len (n : UInt64) : (be64 n).length = 8 := by simp [be64]
theorem out_len (s : List UInt32) : (out s).length = 32 := by simp [out]
theorem of_len (m : List UInt8) : (of m).length = 32 := out_len _
theorem ending_len (n : Nat) : (ending n).length = zeros n + 9 := by simp [ending, be64_len]
theorem padded_len (m : List UInt8) : (padded m).length = 64 * ((padded m).length / 64) := by
  have : (padded m).length = m.length + (zeros m.length + 9) := by rw [padded, List.length_append, ending_len]
  rw [this]
  unfold zeros
  omega
theorem run_append (m l : List UInt8) (q : Nat) (h : 64 * q ≤ m.length) : run (m ++ l) q = run m q := by
  induction q with
  | zero => rfl
  | succ q ih =>
    rw [run, run, ih (by omega), List.drop_append_of_le_length (by omega), List.take_append_of_le_length (by rw [List.length_drop]; omega)]
structure At (s : List UInt32) (some : List UInt8) (m : List UInt8) : Prop where
  s : s = run m (m.length / 64)
  len : some.length = 64
  some : some.take (m.length % 64) = m.drop (64 * (m.length / 64))
theorem At.start : At begins (List.replicate 64 0) [] := ⟨rfl, rfl, rfl⟩
theorem At.slen {s : List UInt32} {b m : List UInt8} (h : At s b m) : s.length = 8 := by rw [h.s]; exact run_len _ _
theorem At.few {s : List UInt32} {b m l : List UInt8} (h : At s b m) (hl : m.length % 64 + l.length < 64) : At s (b.take (m.length % 64) ++ l ++ b.drop (m.length % 64 + l.length)) (m ++ l) := by
  have e1 : (m ++ l).length / 64 = m.length / 64 := by rw [List.length_append]; omega
  have e2 : (m ++ l).length % 64 = m.length % 64 + l.length := by rw [List.length_append]; omega
  have ht : (b.take (m.length % 64)).length = m.length % 64 := by rw [List.length_take, h.len]; omega
  refine ⟨?_, ?_, ?_⟩
  · rw [h.s, e1, run_append _ _ _ (by omega)]
  · simp [h.len]; omega
  · rw [e1, e2, List.take_append_of_le_length (by rw [List.length_append, ht]; exact Nat.le_refl _), List.take_of_length_le (by rw [List.length_append, ht]; exact Nat.le_refl _), h.some, List.drop_append_of_le_length (by omega)]
theorem At.whole {s : List UInt32} {b m l : List UInt8} (h : At s b m) (_hl : 64 ≤ m.length % 64 + l.length) :
    piece s (b.take (m.length % 64) ++ l.take (64 - m.length % 64)) = run (m ++ l) (m.length / 64 + 1) ∧ (m ++ l).drop (64 * (m.length / 64 + 1)) = l.drop (64 - m.length % 64) := by
  have hd : (m ++ l).drop (64 * (m.length / 64)) = m.drop (64 * (m.length / 64)) ++ l := List.drop_append_of_le_length (by omega)
  have hdl : (m.drop (64 * (m.length / 64))).length = m.length % 64 := by rw [List.length_drop]; omega
  refine ⟨?_, ?_⟩
  · rw [run, run_append _ _ _ (by omega), ← h.s, hd, h.some, List.take_append, hdl, List.take_of_length_le (l := m.drop _) (by omega)]
  · rw [show 64 * (m.length / 64 + 1) = 64 * (m.length / 64) + 64 from by omega, ← List.drop_drop, hd, List.drop_append, hdl, List.drop_of_length_le (l := m.drop _) (by omega), List.nil_append]
theorem At.rest {s : List UInt32} {b M : List UInt8} (q : Nat) (hs : s = run M q) (hb : b.length = 64) (h1 : 64 * q ≤ M.length) (h2 : M.length < 64 * q + 64) : At s (M.drop (64 * q) ++ b.drop (M.length - 64 * q)) M := by
  have e1 : M.length / 64 = q := by omega
  have e2 : M.length % 64 = M.length - 64 * q := by omega
  refine ⟨by rw [hs, e1], by simp [hb]; omega, ?_⟩
  rw [e1, e2, List.take_append_of_le_length (by rw [List.length_drop]; omega), List.take_of_length_le (by rw [List.length_drop]; omega)]
theorem At.hash {s : List UInt32} {b m : List UInt8} (h : At s b (m ++ ending m.length)) : out s = of m := by
  rw [h.s]
  rfl
def bp (c : List UInt8) (t : Nat) : Nat → UInt32
  | 0 => 0
  | k + 1 => bp c t k <<< 8 ||| (gb c (4 * t + k)).toUInt32
theorem shl_or (a b n : UInt32) : (a ||| b) <<< n = a <<< n ||| b <<< n := by
  apply UInt32.toBitVec_inj.1
  simp [BitVec.shiftLeft_or_distrib]
theorem bp_be (c : List UInt8) (t : Nat) : bp c t 4 = be c t := by
  have e : ∀ x : UInt32, (x <<< 8) <<< 8 = x <<< 16 := fun x => by
    apply UInt32.toNat_inj.1
    simp only [UInt32.toNat_shiftLeft]
    show (x.toNat <<< 8 % 2 ^ 32) <<< 8 % 2 ^ 32 = x.toNat <<< 16 % 2 ^ 32
    simp only [Nat.shiftLeft_eq]
    omega
  have e2 : ∀ x : UInt32, (x <<< 16) <<< 8 = x <<< 24 := fun x => by
    apply UInt32.toNat_inj.1
    simp only [UInt32.toNat_shiftLeft]
    show (x.toNat <<< 16 % 2 ^ 32) <<< 8 % 2 ^ 32 = x.toNat <<< 24 % 2 ^ 32
    simp only [Nat.shiftLeft_eq]
    omega
  have e0 : (0 : UInt32) <<< 8 = 0 := by decide
  simp only [bp, e0, UInt32.zero_or, shl_or, e, e2]
  rfl
theorem laying_bp (c : List UInt8) (t : Nat) (h : t < 16) : (laying c t).set t (bp c t 4) = laying c (t + 1) := by
  rw [← laying_set c t (by omega), bp_be, next, if_pos h]
theorem laying_bp0 (c : List UInt8) (t : Nat) (h : t < 16) : (laying c t).set t (bp c t 0) = laying c t := by
  rw [laying, show 64 - t = (64 - (t + 1)) + 1 from by omega, List.replicate_succ, List.set_append_right _ _ (by rw [wl_len]; exact Nat.le_refl _), wl_len, Nat.sub_self]
  rfl
theorem gw_set {l : List UInt32} {i : Nat} (h : i < l.length) (x : UInt32) : gw (l.set i x) i = x := by
  unfold gw
  rw [List.getD_eq_getElem?_getD, List.getElem?_set_self h]
  rfl
end Go.PK.Sha
namespace Go.PK
def filling (X : List UInt8) (n j : Nat) : List UInt8 := X.take j ++ List.replicate (n - j) 0
theorem filling_len {X : List UInt8} {n : Nat} (h : X.length = n) (j : Nat) (hj : j ≤ n) : (filling X n j).length = n := by simp [filling, h]; omega
theorem filling_set {X : List UInt8} {n : Nat} (h : X.length = n) {j : Nat} (hj : j < n) : (filling X n j).set j (gb X j) = filling X n (j + 1) := by
  have h1 : (X.take j).length = j := by rw [List.length_take]; omega
  have h2 : X.take (j + 1) = X.take j ++ [gb X j] := by
    rw [List.take_succ_eq_append_getElem (by omega)]
    unfold gb
    rw [List.getD_eq_getElem?_getD, List.getElem?_eq_getElem (by omega)]
    rfl
  rw [filling, filling, List.set_append_right _ _ (by rw [h1]; exact Nat.le_refl _), h1, Nat.sub_self, show n - j = n - (j + 1) + 1 from by omega, List.replicate_succ, List.set_cons_zero, h2, List.append_assoc]
  rfl
theorem filling_all {X : List UInt8} {n : Nat} (h : X.length = n) : filling X n n = X := by simp [filling, List.take_of_length_le (Nat.le_of_eq h)]
theorem filling_zero (X : List UInt8) (n : Nat) : filling X n 0 = List.replicate n 0 := by simp [filling]
namespace Sha
def endX (n : Nat) : List UInt8 := ending n ++ List.replicate (64 - zeros n) 0
theorem zeros_lt (n : Nat) : zeros n < 64 := by unfold zeros; omega
theorem endX_len (n : Nat) : (endX n).length = 73 := by
  have := zeros_lt n
  simp [endX, ending_len]
  omega
theorem endX_start (n : Nat) : (List.replicate 73 (0 : UInt8)).set 0 128 = filling (endX n) 73 (1 + zeros n) := by
  have := zeros_lt n
  have h : (endX n).take (1 + zeros n) = 128 :: List.replicate (zeros n) 0 := by
    rw [endX, ending, Nat.add_comm, List.cons_append, List.take_succ_cons, List.append_assoc, List.take_append_of_le_length (by simp), List.take_of_length_le (by simp)]
  rw [filling, h, show (73 : Nat) = 72 + 1 from rfl, List.replicate_succ, List.set_cons_zero, List.cons_append, List.replicate_append_replicate]
  congr 2
  omega
theorem endX_at (n : Nat) {k : Nat} (hk : k < 8) : gb (endX n) (1 + zeros n + k) = (shr64 (8 * UInt64.ofNat n) (56 - 8 * k)).toUInt8 := by
  have h1 : (be64 (8 * UInt64.ofNat n))[k]? = some ((shr64 (8 * UInt64.ofNat n) (56 - 8 * k)).toUInt8) := by
    unfold be64
    rw [List.getElem?_map, List.getElem?_range hk]
    rfl
  unfold gb
  rw [List.getD_eq_getElem?_getD, endX, ending, List.getElem?_append_left (by simp [be64_len]; omega), show 1 + zeros n + k = zeros n + k + 1 from by omega, List.getElem?_cons_succ, List.getElem?_append_right (by simp), List.length_replicate, show zeros n + k - zeros n = k from by omega, h1]
  rfl
theorem endX_take (n : Nat) : (filling (endX n) 73 (1 + zeros n + 8)).take (zeros n + 9) = ending n := by
  have := zeros_lt n
  rw [filling, List.take_append_of_le_length (by rw [List.length_take, endX_len]; omega), List.take_take, Nat.min_eq_left (by omega), endX, List.take_append_of_le_length (by rw [ending_len]; exact Nat.le_refl _), List.take_of_length_le (by rw [ending_len]; exact Nat.le_refl _)]
theorem out_at (s : List UInt32) {i k : Nat} (hi : i < 8) (hk : k < 4) : gb (out s) (4 * i + k) = (shr32 (gw s i) (24 - 8 * k)).toUInt8 := by
  unfold gb out
  rw [List.getD_eq_getElem?_getD, List.getElem?_map, List.getElem?_range (by omega)]
  simp only [Option.map_some, Option.getD_some]
  rw [show (4 * i + k) / 4 = i from by omega, show (4 * i + k) % 4 = k from by omega]
end Sha
end Go.PK
namespace Go.Proofs.YtejmbkljnhnklaaDoor
open Go.RowKit Go.PK
def dig (s : List UInt32) (b : List UInt8) (n : UInt64) : List Value := s.map W32 ++ (b.map B8 ++ (W64 n :: Sha.ks.map W32))
theorem dig_len {s : List UInt32} {b : List UInt8} {n : UInt64} (hs : s.length = 8) (hb : b.length = 64) : Len (dig s b n) 137 := Len.of (by simp [dig, hs, hb, Sha.ks_len])
theorem B8_one {l : List UInt8} : ∀ v ∈ l.map B8, v.oneCell' = true := by
  intro v hv
  obtain ⟨x, _, rfl⟩ := List.mem_map.1 hv
  rfl
theorem W32_one {l : List UInt32} : ∀ v ∈ l.map W32, v.oneCell' = true := by
  intro v hv
  obtain ⟨x, _, rfl⟩ := List.mem_map.1 hv
  rfl
theorem dig_one {s : List UInt32} {b : List UInt8} {n : UInt64} : ∀ v ∈ dig s b n, v.oneCell' = true := by
  intro v hv
  unfold dig at hv
  rcases List.mem_append.1 hv with h | h
  · exact W32_one v h
  rcases List.mem_append.1 h with h | h
  · exact B8_one v h
  rcases List.mem_cons.1 h with h | h
  · subst h; rfl
  · exact W32_one v h
theorem sha_rotate (w : World) (x : UInt32) (n : Nat) (hn : 0 < n) (hn2 : n < 32) : Calls Tryd.prog 61 #[W32 x, .int .i64 (-(n : Int))] w fun e w' => e = .returned (W32 (Sha.turned x n)) ∧ w' = w := by
  have h1 : -UInt64.ofInt (n : Int) &&& 31 = UInt64.ofNat (32 - n) := by
    rw [← UInt64.ofInt_neg]
    apply UInt64.toNat_inj.1
    rw [UInt64.toNat_and]
    have : (31 : UInt64).toNat = 2 ^ 5 - 1 := rfl
    rw [this, Nat.and_two_pow_sub_one_eq_mod]
    unfold UInt64.ofInt
    rw [UInt64.toNat_ofNat', UInt64.toNat_ofNat']
    omega
  have h2 : (32 : UInt64) - UInt64.ofNat (32 - n) = UInt64.ofNat n := by
    apply UInt64.toNat_inj.1
    rw [UInt64.toNat_sub, UInt64.toNat_ofNat', UInt64.toNat_ofNat']
    show (2 ^ 64 - (32 - n) % 2 ^ 64 + 32) % 2 ^ 64 = _
    omega
  have h3 := bin_shl_W32_u64 84 x (UInt64.ofNat (32 - n)) (by rw [UInt64.lt_iff_toNat_lt, UInt64.toNat_ofNat']; show _ < 32; omega)
  have h4 := bin_shr_W32_u64 84 x (UInt64.ofNat n) (by rw [UInt64.lt_iff_toNat_lt, UInt64.toNat_ofNat']; show _ < 32; omega)
  have e1 : UInt32.ofNat (UInt64.ofNat (32 - n)).toNat = UInt32.ofNat (32 - n) := by rw [UInt64.toNat_ofNat', Nat.mod_eq_of_lt (by omega)]
  have e2 : UInt32.ofNat (UInt64.ofNat n).toNat = UInt32.ofNat n := by rw [UInt64.toNat_ofNat', Nat.mod_eq_of_lt (by omega)]
  rw [e1] at h3
  rw [e2] at h4
  clear e1 e2
  have hres : Hid (x <<< UInt32.ofNat (32 - n) ||| x >>> UInt32.ofNat n = Sha.turned x n) := by
    unfold Sha.turned shr32 shl32
    rw [if_pos hn2, if_pos (by omega), UInt32.or_comm]
    rfl
  generalize UInt64.ofNat (32 - n) = k1 at *
  generalize UInt64.ofNat n = k2 at *
  go_enter Tryd.func61, Tryd.ntmps61
  go_wp2
  go_ret
  exact ⟨by rw [hres.out]; rfl, rfl⟩
theorem sha_turn (w : World) (x : UInt32) (n : Nat) (hn : 0 < n) (hn2 : n < 32) : Calls Tryd.prog 57 #[W32 x, .int .i64 (n : Int)] w fun e w' => e = .returned (W32 (Sha.turned x n)) ∧ w' = w := by
  have hw : IntKind.i64.wrap (-(n : Int)) = -(n : Int) := by rw [wrapP_i64]; omega
  go_enter Tryd.func57, Tryd.ntmps57
  go_wp2_with (go_at_call 61; refine (sha_rotate _ _ n hn hn2).mono ?_; rintro e w' ⟨rfl, rfl⟩)
  go_ret
  exact ⟨rfl, rfl⟩
theorem sha_turn_b (w : World) (x : UInt32) (n : Nat) (hn : 0 < n) (hn2 : n < 32) : Calls Tryd.prog 57 #[W32 x, .int .i64 (n : Int)] w fun e w' => e = .returned (W32 (Sha.turned x n)) ∧ Below w.heap.size w w' :=
  (sha_turn w x n hn hn2).mono (by rintro e w' ⟨rfl, rfl⟩; exact ⟨rfl, Adds.refl _⟩)
theorem ref02_turned (w : World) (x : UInt32) (n : Nat) (hn2 : n < 32) : Calls Tryd.prog 60 #[W32 x, .int .i64 (n : Int)] w fun e w' => e = .returned (W32 (Sha.turned x n)) ∧ Below w.heap.size w w' := by
  have h1 := bin_shr_W32_nat 84 x .i64 n
  have h2 := bin_shl_W32_nat 84 x .i64 (32 - n)
  have hc : (32 : Int) - (n : Int) = ((32 - n : Nat) : Int) := by omega
  have hw : IntKind.i64.wrap ((32 - n : Nat) : Int) = ((32 - n : Nat) : Int) := by rw [wrapP_i64]; omega
  have hres : Hid (shr32 x n ||| shl32 x (32 - n) = Sha.turned x n) := rfl
  generalize hk : 32 - n = k at *
  clear hk
  go_enter Tryd.func60, Tryd.ntmps60
  go_wp2
  go_region
  all_goals go_wp2
  all_goals go_ret
  all_goals exact ⟨by rw [hres.out]; rfl, (Adds.refl _).drew⟩
set_option maxRecDepth 100000 in
theorem sha_start (w : World) : Calls Tryd.prog 55 #[] w fun e w' => e = .returned (.agg (Sha.begins.map W32).toArray) ∧ Below w.heap.size w w' := by
  have hM := Mem.start w
  go_enter Tryd.func55, Tryd.ntmps55
  go_wp2_with (first | go_skip | ((first | (with_reducible refine gL_load ?_) | ((with_reducible refine gG_load ?_ ?_); (exact wanted_of rfl rfl rfl rfl rfl))); refine ⟨_, _, rfl, (by (first | (assumption) | (exact hM.loads_B8 (by (repeat (first | exact .head _ | apply List.Mem.tail)); done) (on_of rfl) (by first | omega | (simp only [Len] at *; omega) | (simp; omega))) | (exact hM.loads_all (by (repeat (first | exact .head _ | apply List.Mem.tail)); done) (ag_of rfl) (by first | assumption | exact Len.map (by assumption) _ | rfl | exact Len.map (by rfl) _ | exact Len.of (by simp; done))) | (exact hM.loads_one (by (repeat (first | exact .head _ | apply List.Mem.tail)); done) (on_of rfl) rfl) | (exact hM.loads_W32 (by (repeat (first | exact .head _ | apply List.Mem.tail)); done) (on_of rfl) (by first | omega | (simp only [Len] at *; omega) | (simp; omega))) | (exact loads_cell (by assumption) (on_of rfl)))), ?_⟩) | ((with_reducible refine gL_store hM ?_); refine ⟨_, _, _, rfl, rfl, (by (first | (exact hM.stores_B8 (by first | exact (rfl : B8 _ = B8 _) | exact lit8 _ (by decide)) (by (repeat (first | exact .here _ _ _ | apply Has.there)); done) (on_of rfl) (by first | omega | (simp only [Len] at *; omega) | (simp; omega))) | (exact hM.stores_all (by (repeat (first | exact .here _ _ _ | apply Has.there)); done) (ag_of rfl) (by first | assumption | exact Len.map (by assumption) _ | rfl | exact Len.map (by rfl) _ | exact Len.of (by simp; done)) (by first | assumption | exact Len.map (by assumption) _ | rfl | exact Len.map (by rfl) _ | exact Len.of (by simp; done)) (by first | exact B8_one | exact W32_one | exact one_of_all rfl)) | (exact hM.stores_W32 rfl (by (repeat (first | exact .here _ _ _ | apply Has.there)); done) (on_of rfl) (by first | omega | (simp only [Len] at *; omega) | (simp; omega))) | (exact hM.stores_one (by (repeat (first | exact .here _ _ _ | apply Has.there)); done) (on_of rfl) (by first | omega | (simp only [Len] at *; omega) | (simp; omega)) rfl rfl))), ?_⟩; intro _ hM2; clear hM; have hM := hM2; clear hM2) | ((with_reducible refine gL_alloc hM ?_); refine ⟨_, _, (zr_of rfl), ?_⟩; intro _ _ hM2; clear hM; have hM := hM2; clear hM2) | ((with_reducible refine gL_box hM ?_); refine ⟨_, _, _, rfl, rfl, (by first | assumption | exact Len.map (by assumption) _ | rfl | exact Len.map (by rfl) _ | exact Len.of (by simp; done)), ?_⟩; intro _ _ hM2; clear hM; have hM := hM2; clear hM2) | ((with_reducible refine gL_build0 ?_); refine ⟨_, _, _, _, _, _, (zr_of rfl), (ua_of rfl), (ag_of rfl), (el_of rfl), ?_⟩) | ((with_reducible refine gL_buildBytes hM ?_); refine ⟨_, _, (us_of rfl), (el_of rfl), (by decide), (by decide), rfl, (by (repeat (first | exact EvB.nil | apply EvB.cons rfl (by first | exact (rfl : B8 _ = B8 _) | exact lit8 _ (by decide)))); done), ?_⟩; intro _ _ hM2; clear hM; have hM := hM2; clear hM2) | ((with_reducible refine gL_append_B hM ?_); refine ⟨_, _, _, _, _, _, _, _, _, _, rfl, rfl, (by first | exact (rfl : Value.slice (some ⟨_, 0, none⟩) _ _ = sl (some _) _ _) | exact (rfl : Value.slice none _ _ = sl none _ _) | rfl), (us_of rfl), (el_of rfl), (by first | exact hM.src (by (repeat (first | exact .head _ | apply List.Mem.tail)); done) | exact (hM.bytes0 (by assumption)).src), (fun _ _ => by (repeat (first | exact .here _ _ _ | apply Swap.there)); done), (by first | assumption | exact Len.map (by assumption) _ | rfl | exact Len.map (by rfl) _ | exact Len.of (by simp; done)), (by first | assumption | exact Len.map (by assumption) _ | rfl | exact Len.map (by rfl) _ | exact Len.of (by simp; done)), (by first | assumption | (simp [maxLen]; done) | omega | (simp [maxLen]; omega)), (by first | omega | (simp only [Len] at *; omega) | (simp; omega)), ?_⟩; intro _ _ _ hM2 _ _; clear hM; have hM := hM2; clear hM2) | ((first | (with_reducible refine gL_field ?_) | ((with_reducible refine gG_field ?_ ?_); (exact wanted_of rfl rfl rfl rfl rfl))); refine ⟨_, _, rfl, (by (first | (exact field_one (fb_of rfl) rfl) | (exact field_agg (fa_of rfl) rfl))), ?_⟩))
  exact hM.ret_cell rfl rfl rfl (by (repeat (first | exact .head _ | apply List.Mem.tail)); done) (ag_of rfl) (by first | assumption | exact Len.map (by assumption) _ | rfl | exact Len.map (by rfl) _ | exact Len.of (by simp; done)) ⟨congrArg (fun x => Ending.returned (.agg x)) (by kernel_rfl), hM.done⟩
set_option maxRecDepth 100000 in
theorem ref02_begins (w : World) : Calls Tryd.prog 49 #[] w fun e w' => e = .returned (.agg (Sha.begins.map W32).toArray) ∧ Below w.heap.size w w' := by
  have hM := Mem.start w
  go_enter Tryd.func49, Tryd.ntmps49
  go_wp2_with (first | go_skip | ((first | (with_reducible refine gL_load ?_) | ((with_reducible refine gG_load ?_ ?_); (exact wanted_of rfl rfl rfl rfl rfl))); refine ⟨_, _, rfl, (by (first | (assumption) | (exact hM.loads_B8 (by (repeat (first | exact .head _ | apply List.Mem.tail)); done) (on_of rfl) (by first | omega | (simp only [Len] at *; omega) | (simp; omega))) | (exact hM.loads_all (by (repeat (first | exact .head _ | apply List.Mem.tail)); done) (ag_of rfl) (by first | assumption | exact Len.map (by assumption) _ | rfl | exact Len.map (by rfl) _ | exact Len.of (by simp; done))) | (exact hM.loads_one (by (repeat (first | exact .head _ | apply List.Mem.tail)); done) (on_of rfl) rfl) | (exact hM.loads_W32 (by (repeat (first | exact .head _ | apply List.Mem.tail)); done) (on_of rfl) (by first | omega | (simp only [Len] at *; omega) | (simp; omega))) | (exact loads_cell (by assumption) (on_of rfl)))), ?_⟩) | ((with_reducible refine gL_store hM ?_); refine ⟨_, _, _, rfl, rfl, (by (first | (exact hM.stores_B8 (by first | exact (rfl : B8 _ = B8 _) | exact lit8 _ (by decide)) (by (repeat (first | exact .here _ _ _ | apply Has.there)); done) (on_of rfl) (by first | omega | (simp only [Len] at *; omega) | (simp; omega))) | (exact hM.stores_all (by (repeat (first | exact .here _ _ _ | apply Has.there)); done) (ag_of rfl) (by first | assumption | exact Len.map (by assumption) _ | rfl | exact Len.map (by rfl) _ | exact Len.of (by simp; done)) (by first | assumption | exact Len.map (by assumption) _ | rfl | exact Len.map (by rfl) _ | exact Len.of (by simp; done)) (by first | exact B8_one | exact W32_one | exact one_of_all rfl)) | (exact hM.stores_W32 rfl (by (repeat (first | exact .here _ _ _ | apply Has.there)); done) (on_of rfl) (by first | omega | (simp only [Len] at *; omega) | (simp; omega))) | (exact hM.stores_one (by (repeat (first | exact .here _ _ _ | apply Has.there)); done) (on_of rfl) (by first | omega | (simp only [Len] at *; omega) | (simp; omega)) rfl rfl))), ?_⟩; intro _ hM2; clear hM; have hM := hM2; clear hM2) | ((with_reducible refine gL_alloc hM ?_); refine ⟨_, _, (zr_of rfl), ?_⟩; intro _ _ hM2; clear hM; have hM := hM2; clear hM2) | ((with_reducible refine gL_box hM ?_); refine ⟨_, _, _, rfl, rfl, (by first | assumption | exact Len.map (by assumption) _ | rfl | exact Len.map (by rfl) _ | exact Len.of (by simp; done)), ?_⟩; intro _ _ hM2; clear hM; have hM := hM2; clear hM2) | ((with_reducible refine gL_build0 ?_); refine ⟨_, _, _, _, _, _, (zr_of rfl), (ua_of rfl), (ag_of rfl), (el_of rfl), ?_⟩) | ((with_reducible refine gL_buildBytes hM ?_); refine ⟨_, _, (us_of rfl), (el_of rfl), (by decide), (by decide), rfl, (by (repeat (first | exact EvB.nil | apply EvB.cons rfl (by first | exact (rfl : B8 _ = B8 _) | exact lit8 _ (by decide)))); done), ?_⟩; intro _ _ hM2; clear hM; have hM := hM2; clear hM2) | ((with_reducible refine gL_append_B hM ?_); refine ⟨_, _, _, _, _, _, _, _, _, _, rfl, rfl, (by first | exact (rfl : Value.slice (some ⟨_, 0, none⟩) _ _ = sl (some _) _ _) | exact (rfl : Value.slice none _ _ = sl none _ _) | rfl), (us_of rfl), (el_of rfl), (by first | exact hM.src (by (repeat (first | exact .head _ | apply List.Mem.tail)); done) | exact (hM.bytes0 (by assumption)).src), (fun _ _ => by (repeat (first | exact .here _ _ _ | apply Swap.there)); done), (by first | assumption | exact Len.map (by assumption) _ | rfl | exact Len.map (by rfl) _ | exact Len.of (by simp; done)), (by first | assumption | exact Len.map (by assumption) _ | rfl | exact Len.map (by rfl) _ | exact Len.of (by simp; done)), (by first | assumption | (simp [maxLen]; done) | omega | (simp [maxLen]; omega)), (by first | omega | (simp only [Len] at *; omega) | (simp; omega)), ?_⟩; intro _ _ _ hM2 _ _; clear hM; have hM := hM2; clear hM2) | ((first | (with_reducible refine gL_field ?_) | ((with_reducible refine gG_field ?_ ?_); (exact wanted_of rfl rfl rfl rfl rfl))); refine ⟨_, _, rfl, (by (first | (exact field_one (fb_of rfl) rfl) | (exact field_agg (fa_of rfl) rfl))), ?_⟩))
  exact hM.ret_cell rfl rfl rfl (by (repeat (first | exact .head _ | apply List.Mem.tail)); done) (ag_of rfl) (by first | assumption | exact Len.map (by assumption) _ | rfl | exact Len.map (by rfl) _ | exact Len.of (by simp; done)) ⟨congrArg (fun x => Ending.returned (.agg x)) (by kernel_rfl), hM.done⟩
theorem bu_rounds : Builds Tryd.prog 86 [(0, .int .u32 0x428a2f98), (1, .int .u32 0x71374491), (2, .int .u32 0xb5c0fbcf), (3, .int .u32 0xe9b5dba5), (4, .int .u32 0x3956c25b), (5, .int .u32 0x59f111f1), (6, .int .u32 0x923f82a4), (7, .int .u32 0xab1c5ed5), (8, .int .u32 0xd807aa98), (9, .int .u32 0x12835b01), (10, .int .u32 0x243185be), (11, .int .u32 0x550c7dc3), (12, .int .u32 0x72be5d74), (13, .int .u32 0x80deb1fe), (14, .int .u32 0x9bdc06a7), (15, .int .u32 0xc19bf174), (16, .int .u32 0xe49b69c1), (17, .int .u32 0xefbe4786), (18, .int .u32 0x0fc19dc6), (19, .int .u32 0x240ca1cc), (20, .int .u32 0x2de92c6f), (21, .int .u32 0x4a7484aa), (22, .int .u32 0x5cb0a9dc), (23, .int .u32 0x76f988da), (24, .int .u32 0x983e5152), (25, .int .u32 0xa831c66d), (26, .int .u32 0xb00327c8), (27, .int .u32 0xbf597fc7), (28, .int .u32 0xc6e00bf3), (29, .int .u32 0xd5a79147), (30, .int .u32 0x06ca6351), (31, .int .u32 0x14292967), (32, .int .u32 0x27b70a85), (33, .int .u32 0x2e1b2138), (34, .int .u32 0x4d2c6dfc), (35, .int .u32 0x53380d13), (36, .int .u32 0x650a7354), (37, .int .u32 0x766a0abb), (38, .int .u32 0x81c2c92e), (39, .int .u32 0x92722c85), (40, .int .u32 0xa2bfe8a1), (41, .int .u32 0xa81a664b), (42, .int .u32 0xc24b8b70), (43, .int .u32 0xc76c51a3), (44, .int .u32 0xd192e819), (45, .int .u32 0xd6990624), (46, .int .u32 0xf40e3585), (47, .int .u32 0x106aa070), (48, .int .u32 0x19a4c116), (49, .int .u32 0x1e376c08), (50, .int .u32 0x2748774c), (51, .int .u32 0x34b0bcb5), (52, .int .u32 0x391c0cb3), (53, .int .u32 0x4ed8aa4a), (54, .int .u32 0x5b9cca4f), (55, .int .u32 0x682e6ff3), (56, .int .u32 0x748f82ee), (57, .int .u32 0x78a5636f), (58, .int .u32 0x84c87814), (59, .int .u32 0x8cc70208), (60, .int .u32 0x90befffa), (61, .int .u32 0xa4506ceb), (62, .int .u32 0xbef9a3f7), (63, .int .u32 0xc67178f2)] (.agg (Sha.ks.map W32).toArray) := by
  intro w
  kernel_rfl
theorem ks_w32 : Len (Sha.ks.map W32) 64 := rfl
set_option maxRecDepth 100000 in
theorem sha_rounds (w : World) : Calls Tryd.prog 56 #[] w fun e w' => e = .returned (.agg (Sha.ks.map W32).toArray) ∧ Below w.heap.size w w' := by
  have hM := Mem.start w
  go_enter Tryd.func56, Tryd.ntmps56
  go_wp2_with (first | ((with_reducible refine gL_build ?_); refine ⟨_, _, ?_, bu_rounds, ?_⟩; kernel_rfl) | ((with_reducible refine gL_store hM ?_); refine ⟨_, _, _, rfl, rfl, hM.stores_all (by (repeat (first | exact .here _ _ _ | apply Has.there)); done) (ag_of rfl) ks_w32 (by first | assumption | exact Len.map (by assumption) _ | rfl | exact Len.map (by rfl) _ | exact Len.of (by simp; done)) W32_one, ?_⟩; intro _ hM2; clear hM; have hM := hM2; clear hM2) | go_skip | ((first | (with_reducible refine gL_load ?_) | ((with_reducible refine gG_load ?_ ?_); (exact wanted_of rfl rfl rfl rfl rfl))); refine ⟨_, _, rfl, (by (first | (assumption) | (exact hM.loads_B8 (by (repeat (first | exact .head _ | apply List.Mem.tail)); done) (on_of rfl) (by first | omega | (simp only [Len] at *; omega) | (simp; omega))) | (exact hM.loads_all (by (repeat (first | exact .head _ | apply List.Mem.tail)); done) (ag_of rfl) (by first | assumption | exact Len.map (by assumption) _ | rfl | exact Len.map (by rfl) _ | exact Len.of (by simp; done))) | (exact hM.loads_one (by (repeat (first | exact .head _ | apply List.Mem.tail)); done) (on_of rfl) rfl) | (exact hM.loads_W32 (by (repeat (first | exact .head _ | apply List.Mem.tail)); done) (on_of rfl) (by first | omega | (simp only [Len] at *; omega) | (simp; omega))) | (exact loads_cell (by assumption) (on_of rfl)))), ?_⟩) | ((with_reducible refine gL_store hM ?_); refine ⟨_, _, _, rfl, rfl, (by (first | (exact hM.stores_B8 (by first | exact (rfl : B8 _ = B8 _) | exact lit8 _ (by decide)) (by (repeat (first | exact .here _ _ _ | apply Has.there)); done) (on_of rfl) (by first | omega | (simp only [Len] at *; omega) | (simp; omega))) | (exact hM.stores_all (by (repeat (first | exact .here _ _ _ | apply Has.there)); done) (ag_of rfl) (by first | assumption | exact Len.map (by assumption) _ | rfl | exact Len.map (by rfl) _ | exact Len.of (by simp; done)) (by first | assumption | exact Len.map (by assumption) _ | rfl | exact Len.map (by rfl) _ | exact Len.of (by simp; done)) (by first | exact B8_one | exact W32_one | exact one_of_all rfl)) | (exact hM.stores_W32 rfl (by (repeat (first | exact .here _ _ _ | apply Has.there)); done) (on_of rfl) (by first | omega | (simp only [Len] at *; omega) | (simp; omega))) | (exact hM.stores_one (by (repeat (first | exact .here _ _ _ | apply Has.there)); done) (on_of rfl) (by first | omega | (simp only [Len] at *; omega) | (simp; omega)) rfl rfl))), ?_⟩; intro _ hM2; clear hM; have hM := hM2; clear hM2) | ((with_reducible refine gL_alloc hM ?_); refine ⟨_, _, (zr_of rfl), ?_⟩; intro _ _ hM2; clear hM; have hM := hM2; clear hM2) | ((with_reducible refine gL_box hM ?_); refine ⟨_, _, _, rfl, rfl, (by first | assumption | exact Len.map (by assumption) _ | rfl | exact Len.map (by rfl) _ | exact Len.of (by simp; done)), ?_⟩; intro _ _ hM2; clear hM; have hM := hM2; clear hM2) | ((with_reducible refine gL_build0 ?_); refine ⟨_, _, _, _, _, _, (zr_of rfl), (ua_of rfl), (ag_of rfl), (el_of rfl), ?_⟩) | ((with_reducible refine gL_buildBytes hM ?_); refine ⟨_, _, (us_of rfl), (el_of rfl), (by decide), (by decide), rfl, (by (repeat (first | exact EvB.nil | apply EvB.cons rfl (by first | exact (rfl : B8 _ = B8 _) | exact lit8 _ (by decide)))); done), ?_⟩; intro _ _ hM2; clear hM; have hM := hM2; clear hM2) | ((with_reducible refine gL_append_B hM ?_); refine ⟨_, _, _, _, _, _, _, _, _, _, rfl, rfl, (by first | exact (rfl : Value.slice (some ⟨_, 0, none⟩) _ _ = sl (some _) _ _) | exact (rfl : Value.slice none _ _ = sl none _ _) | rfl), (us_of rfl), (el_of rfl), (by first | exact hM.src (by (repeat (first | exact .head _ | apply List.Mem.tail)); done) | exact (hM.bytes0 (by assumption)).src), (fun _ _ => by (repeat (first | exact .here _ _ _ | apply Swap.there)); done), (by first | assumption | exact Len.map (by assumption) _ | rfl | exact Len.map (by rfl) _ | exact Len.of (by simp; done)), (by first | assumption | exact Len.map (by assumption) _ | rfl | exact Len.map (by rfl) _ | exact Len.of (by simp; done)), (by first | assumption | (simp [maxLen]; done) | omega | (simp [maxLen]; omega)), (by first | omega | (simp only [Len] at *; omega) | (simp; omega)), ?_⟩; intro _ _ _ hM2 _ _; clear hM; have hM := hM2; clear hM2) | ((first | (with_reducible refine gL_field ?_) | ((with_reducible refine gG_field ?_ ?_); (exact wanted_of rfl rfl rfl rfl rfl))); refine ⟨_, _, rfl, (by (first | (exact field_one (fb_of rfl) rfl) | (exact field_agg (fa_of rfl) rfl))), ?_⟩))
  exact hM.ret_cell rfl rfl rfl (by (repeat (first | exact .head _ | apply List.Mem.tail)); done) (ag_of rfl) ks_w32 ⟨rfl, hM.done⟩
set_option maxRecDepth 100000 in
theorem ref02_rounds (w : World) : Calls Tryd.prog 50 #[] w fun e w' => e = .returned (.agg (Sha.ks.map W32).toArray) ∧ Below w.heap.size w w' := by
  have hM := Mem.start w
  go_enter Tryd.func50, Tryd.ntmps50
  go_wp2_with (first | ((with_reducible refine gL_build ?_); refine ⟨_, _, ?_, bu_rounds, ?_⟩; kernel_rfl) | ((with_reducible refine gL_store hM ?_); refine ⟨_, _, _, rfl, rfl, hM.stores_all (by (repeat (first | exact .here _ _ _ | apply Has.there)); done) (ag_of rfl) ks_w32 (by first | assumption | exact Len.map (by assumption) _ | rfl | exact Len.map (by rfl) _ | exact Len.of (by simp; done)) W32_one, ?_⟩; intro _ hM2; clear hM; have hM := hM2; clear hM2) | go_skip | ((first | (with_reducible refine gL_load ?_) | ((with_reducible refine gG_load ?_ ?_); (exact wanted_of rfl rfl rfl rfl rfl))); refine ⟨_, _, rfl, (by (first | (assumption) | (exact hM.loads_B8 (by (repeat (first | exact .head _ | apply List.Mem.tail)); done) (on_of rfl) (by first | omega | (simp only [Len] at *; omega) | (simp; omega))) | (exact hM.loads_all (by (repeat (first | exact .head _ | apply List.Mem.tail)); done) (ag_of rfl) (by first | assumption | exact Len.map (by assumption) _ | rfl | exact Len.map (by rfl) _ | exact Len.of (by simp; done))) | (exact hM.loads_one (by (repeat (first | exact .head _ | apply List.Mem.tail)); done) (on_of rfl) rfl) | (exact hM.loads_W32 (by (repeat (first | exact .head _ | apply List.Mem.tail)); done) (on_of rfl) (by first | omega | (simp only [Len] at *; omega) | (simp; omega))) | (exact loads_cell (by assumption) (on_of rfl)))), ?_⟩) | ((with_reducible refine gL_store hM ?_); refine ⟨_, _, _, rfl, rfl, (by (first | (exact hM.stores_B8 (by first | exact (rfl : B8 _ = B8 _) | exact lit8 _ (by decide)) (by (repeat (first | exact .here _ _ _ | apply Has.there)); done) (on_of rfl) (by first | omega | (simp only [Len] at *; omega) | (simp; omega))) | (exact hM.stores_all (by (repeat (first | exact .here _ _ _ | apply Has.there)); done) (ag_of rfl) (by first | assumption | exact Len.map (by assumption) _ | rfl | exact Len.map (by rfl) _ | exact Len.of (by simp; done)) (by first | assumption | exact Len.map (by assumption) _ | rfl | exact Len.map (by rfl) _ | exact Len.of (by simp; done)) (by first | exact B8_one | exact W32_one | exact one_of_all rfl)) | (exact hM.stores_W32 rfl (by (repeat (first | exact .here _ _ _ | apply Has.there)); done) (on_of rfl) (by first | omega | (simp only [Len] at *; omega) | (simp; omega))) | (exact hM.stores_one (by (repeat (first | exact .here _ _ _ | apply Has.there)); done) (on_of rfl) (by first | omega | (simp only [Len] at *; omega) | (simp; omega)) rfl rfl))), ?_⟩; intro _ hM2; clear hM; have hM := hM2; clear hM2) | ((with_reducible refine gL_alloc hM ?_); refine ⟨_, _, (zr_of rfl), ?_⟩; intro _ _ hM2; clear hM; have hM := hM2; clear hM2) | ((with_reducible refine gL_box hM ?_); refine ⟨_, _, _, rfl, rfl, (by first | assumption | exact Len.map (by assumption) _ | rfl | exact Len.map (by rfl) _ | exact Len.of (by simp; done)), ?_⟩; intro _ _ hM2; clear hM; have hM := hM2; clear hM2) | ((with_reducible refine gL_build0 ?_); refine ⟨_, _, _, _, _, _, (zr_of rfl), (ua_of rfl), (ag_of rfl), (el_of rfl), ?_⟩) | ((with_reducible refine gL_buildBytes hM ?_); refine ⟨_, _, (us_of rfl), (el_of rfl), (by decide), (by decide), rfl, (by (repeat (first | exact EvB.nil | apply EvB.cons rfl (by first | exact (rfl : B8 _ = B8 _) | exact lit8 _ (by decide)))); done), ?_⟩; intro _ _ hM2; clear hM; have hM := hM2; clear hM2) | ((with_reducible refine gL_append_B hM ?_); refine ⟨_, _, _, _, _, _, _, _, _, _, rfl, rfl, (by first | exact (rfl : Value.slice (some ⟨_, 0, none⟩) _ _ = sl (some _) _ _) | exact (rfl : Value.slice none _ _ = sl none _ _) | rfl), (us_of rfl), (el_of rfl), (by first | exact hM.src (by (repeat (first | exact .head _ | apply List.Mem.tail)); done) | exact (hM.bytes0 (by assumption)).src), (fun _ _ => by (repeat (first | exact .here _ _ _ | apply Swap.there)); done), (by first | assumption | exact Len.map (by assumption) _ | rfl | exact Len.map (by rfl) _ | exact Len.of (by simp; done)), (by first | assumption | exact Len.map (by assumption) _ | rfl | exact Len.map (by rfl) _ | exact Len.of (by simp; done)), (by first | assumption | (simp [maxLen]; done) | omega | (simp [maxLen]; omega)), (by first | omega | (simp only [Len] at *; omega) | (simp; omega)), ?_⟩; intro _ _ _ hM2 _ _; clear hM; have hM := hM2; clear hM2) | ((first | (with_reducible refine gL_field ?_) | ((with_reducible refine gG_field ?_ ?_); (exact wanted_of rfl rfl rfl rfl rfl))); refine ⟨_, _, rfl, (by (first | (exact field_one (fb_of rfl) rfl) | (exact field_agg (fa_of rfl) rfl))), ?_⟩))
  exact hM.ret_cell rfl rfl rfl (by (repeat (first | exact .head _ | apply List.Mem.tail)); done) (ag_of rfl) ks_w32 ⟨rfl, hM.done⟩
theorem bu_dig : Builds Tryd.prog 88 [(0, .agg (Sha.begins.map W32).toArray), (3, .agg (Sha.ks.map W32).toArray)] (.agg (dig Sha.begins (List.replicate 64 0) 0).toArray) := by
  intro w
  kernel_rfl
set_option maxRecDepth 100000 in
theorem sha_New (w : World) : Calls Tryd.prog 45 #[] w fun e w' => ∃ g, e = .returned (.pointer (some ⟨g, 0, none⟩)) ∧ Mem [] w w' [⟨some g, 88, dig Sha.begins (List.replicate 64 0) 0, 137⟩] := by
  have hM := Mem.start w
  have hl : Len (dig Sha.begins (List.replicate 64 0) 0) 137 := rfl
  go_enter Tryd.func45, Tryd.ntmps45
  go_wp2_with (first | (go_at_call 55; (with_reducible refine (sha_start _).mono ?_); rintro _ _ ⟨rfl, B1⟩; replace hM := hM.adds B1; clear B1) | (go_at_call 56; (with_reducible refine (sha_rounds _).mono ?_); rintro _ _ ⟨rfl, B1⟩; replace hM := hM.adds B1; clear B1) | ((with_reducible refine gL_build ?_); refine ⟨_, _, rfl, bu_dig, ?_⟩) | go_skip | ((first | (with_reducible refine gL_load ?_) | ((with_reducible refine gG_load ?_ ?_); (exact wanted_of rfl rfl rfl rfl rfl))); refine ⟨_, _, rfl, (by (first | (assumption) | (exact hM.loads_B8 (by (repeat (first | exact .head _ | apply List.Mem.tail)); done) (on_of rfl) (by first | omega | (simp only [Len] at *; omega) | (simp; omega))) | (exact hM.loads_all (by (repeat (first | exact .head _ | apply List.Mem.tail)); done) (ag_of rfl) (by first | assumption | exact Len.map (by assumption) _ | rfl | exact Len.map (by rfl) _ | exact Len.of (by simp; done))) | (exact hM.loads_one (by (repeat (first | exact .head _ | apply List.Mem.tail)); done) (on_of rfl) rfl) | (exact hM.loads_W32 (by (repeat (first | exact .head _ | apply List.Mem.tail)); done) (on_of rfl) (by first | omega | (simp only [Len] at *; omega) | (simp; omega))) | (exact loads_cell (by assumption) (on_of rfl)))), ?_⟩) | ((with_reducible refine gL_store hM ?_); refine ⟨_, _, _, rfl, rfl, (by (first | (exact hM.stores_B8 (by first | exact (rfl : B8 _ = B8 _) | exact lit8 _ (by decide)) (by (repeat (first | exact .here _ _ _ | apply Has.there)); done) (on_of rfl) (by first | omega | (simp only [Len] at *; omega) | (simp; omega))) | (exact hM.stores_all (by (repeat (first | exact .here _ _ _ | apply Has.there)); done) (ag_of rfl) (by first | assumption | exact Len.map (by assumption) _ | rfl | exact Len.map (by rfl) _ | exact Len.of (by simp; done)) (by first | assumption | exact Len.map (by assumption) _ | rfl | exact Len.map (by rfl) _ | exact Len.of (by simp; done)) (by first | exact B8_one | exact W32_one | exact one_of_all rfl)) | (exact hM.stores_W32 rfl (by (repeat (first | exact .here _ _ _ | apply Has.there)); done) (on_of rfl) (by first | omega | (simp only [Len] at *; omega) | (simp; omega))) | (exact hM.stores_one (by (repeat (first | exact .here _ _ _ | apply Has.there)); done) (on_of rfl) (by first | omega | (simp only [Len] at *; omega) | (simp; omega)) rfl rfl))), ?_⟩; intro _ hM2; clear hM; have hM := hM2; clear hM2) | ((with_reducible refine gL_alloc hM ?_); refine ⟨_, _, (zr_of rfl), ?_⟩; intro _ _ hM2; clear hM; have hM := hM2; clear hM2) | ((with_reducible refine gL_box hM ?_); refine ⟨_, _, _, rfl, rfl, (by first | assumption | exact Len.map (by assumption) _ | rfl | exact Len.map (by rfl) _ | exact Len.of (by simp; done)), ?_⟩; intro _ _ hM2; clear hM; have hM := hM2; clear hM2) | ((with_reducible refine gL_build0 ?_); refine ⟨_, _, _, _, _, _, (zr_of rfl), (ua_of rfl), (ag_of rfl), (el_of rfl), ?_⟩) | ((with_reducible refine gL_buildBytes hM ?_); refine ⟨_, _, (us_of rfl), (el_of rfl), (by decide), (by decide), rfl, (by (repeat (first | exact EvB.nil | apply EvB.cons rfl (by first | exact (rfl : B8 _ = B8 _) | exact lit8 _ (by decide)))); done), ?_⟩; intro _ _ hM2; clear hM; have hM := hM2; clear hM2) | ((with_reducible refine gL_append_B hM ?_); refine ⟨_, _, _, _, _, _, _, _, _, _, rfl, rfl, (by first | exact (rfl : Value.slice (some ⟨_, 0, none⟩) _ _ = sl (some _) _ _) | exact (rfl : Value.slice none _ _ = sl none _ _) | rfl), (us_of rfl), (el_of rfl), (by first | exact hM.src (by (repeat (first | exact .head _ | apply List.Mem.tail)); done) | exact (hM.bytes0 (by assumption)).src), (fun _ _ => by (repeat (first | exact .here _ _ _ | apply Swap.there)); done), (by first | assumption | exact Len.map (by assumption) _ | rfl | exact Len.map (by rfl) _ | exact Len.of (by simp; done)), (by first | assumption | exact Len.map (by assumption) _ | rfl | exact Len.map (by rfl) _ | exact Len.of (by simp; done)), (by first | assumption | (simp [maxLen]; done) | omega | (simp [maxLen]; omega)), (by first | omega | (simp only [Len] at *; omega) | (simp; omega)), ?_⟩; intro _ _ _ hM2 _ _; clear hM; have hM := hM2; clear hM2) | ((first | (with_reducible refine gL_field ?_) | ((with_reducible refine gG_field ?_ ?_); (exact wanted_of rfl rfl rfl rfl rfl))); refine ⟨_, _, rfl, (by (first | (exact field_one (fb_of rfl) rfl) | (exact field_agg (fa_of rfl) rfl))), ?_⟩))
  go_ret
  exact ⟨_, rfl, hM⟩
set_option maxRecDepth 100000 in
theorem sha_Copy (w : World) (g : Nat) (C : List Value) (hR : Row w g 88 C) (hC : Len C 137) (h1 : ∀ v ∈ C, v.oneCell' = true) :
    Calls Tryd.prog 58 #[.pointer (some ⟨g, 0, none⟩)] w fun e w' => ∃ g2, e = .returned (.pointer (some ⟨g2, 0, none⟩)) ∧ Mem [] w w' [⟨some g2, 88, C, 137⟩] := by
  have hM := Mem.start w
  have hL : Loads Tryd.prog w 88 ⟨g, 0, none⟩ (.agg C.toArray) := loads_agg (ag_of rfl) hC (fun j v hv => by rw [Addr.add_lit, Nat.zero_add, hR.cell?]; exact hv)
  go_enter Tryd.func58, Tryd.ntmps58
  go_wp2_with (first | ((with_reducible refine gL_store hM ?_); refine ⟨_, _, _, rfl, rfl, hM.stores_all (by (repeat (first | exact .here _ _ _ | apply Has.there)); done) (ag_of rfl) hC (by first | assumption | exact Len.map (by assumption) _ | rfl | exact Len.map (by rfl) _ | exact Len.of (by simp; done)) h1, ?_⟩; intro _ hM2; clear hM; have hM := hM2; clear hM2) | go_skip | ((first | (with_reducible refine gL_load ?_) | ((with_reducible refine gG_load ?_ ?_); (exact wanted_of rfl rfl rfl rfl rfl))); refine ⟨_, _, rfl, (by (first | (assumption) | (exact hM.loads_B8 (by (repeat (first | exact .head _ | apply List.Mem.tail)); done) (on_of rfl) (by first | omega | (simp only [Len] at *; omega) | (simp; omega))) | (exact hM.loads_all (by (repeat (first | exact .head _ | apply List.Mem.tail)); done) (ag_of rfl) (by first | assumption | exact Len.map (by assumption) _ | rfl | exact Len.map (by rfl) _ | exact Len.of (by simp; done))) | (exact hM.loads_one (by (repeat (first | exact .head _ | apply List.Mem.tail)); done) (on_of rfl) rfl) | (exact hM.loads_W32 (by (repeat (first | exact .head _ | apply List.Mem.tail)); done) (on_of rfl) (by first | omega | (simp only [Len] at *; omega) | (simp; omega))) | (exact loads_cell (by assumption) (on_of rfl)))), ?_⟩) | ((with_reducible refine gL_store hM ?_); refine ⟨_, _, _, rfl, rfl, (by (first | (exact hM.stores_B8 (by first | exact (rfl : B8 _ = B8 _) | exact lit8 _ (by decide)) (by (repeat (first | exact .here _ _ _ | apply Has.there)); done) (on_of rfl) (by first | omega | (simp only [Len] at *; omega) | (simp; omega))) | (exact hM.stores_all (by (repeat (first | exact .here _ _ _ | apply Has.there)); done) (ag_of rfl) (by first | assumption | exact Len.map (by assumption) _ | rfl | exact Len.map (by rfl) _ | exact Len.of (by simp; done)) (by first | assumption | exact Len.map (by assumption) _ | rfl | exact Len.map (by rfl) _ | exact Len.of (by simp; done)) (by first | exact B8_one | exact W32_one | exact one_of_all rfl)) | (exact hM.stores_W32 rfl (by (repeat (first | exact .here _ _ _ | apply Has.there)); done) (on_of rfl) (by first | omega | (simp only [Len] at *; omega) | (simp; omega))) | (exact hM.stores_one (by (repeat (first | exact .here _ _ _ | apply Has.there)); done) (on_of rfl) (by first | omega | (simp only [Len] at *; omega) | (simp; omega)) rfl rfl))), ?_⟩; intro _ hM2; clear hM; have hM := hM2; clear hM2) | ((with_reducible refine gL_alloc hM ?_); refine ⟨_, _, (zr_of rfl), ?_⟩; intro _ _ hM2; clear hM; have hM := hM2; clear hM2) | ((with_reducible refine gL_box hM ?_); refine ⟨_, _, _, rfl, rfl, (by first | assumption | exact Len.map (by assumption) _ | rfl | exact Len.map (by rfl) _ | exact Len.of (by simp; done)), ?_⟩; intro _ _ hM2; clear hM; have hM := hM2; clear hM2) | ((with_reducible refine gL_build0 ?_); refine ⟨_, _, _, _, _, _, (zr_of rfl), (ua_of rfl), (ag_of rfl), (el_of rfl), ?_⟩) | ((with_reducible refine gL_buildBytes hM ?_); refine ⟨_, _, (us_of rfl), (el_of rfl), (by decide), (by decide), rfl, (by (repeat (first | exact EvB.nil | apply EvB.cons rfl (by first | exact (rfl : B8 _ = B8 _) | exact lit8 _ (by decide)))); done), ?_⟩; intro _ _ hM2; clear hM; have hM := hM2; clear hM2) | ((with_reducible refine gL_append_B hM ?_); refine ⟨_, _, _, _, _, _, _, _, _, _, rfl, rfl, (by first | exact (rfl : Value.slice (some ⟨_, 0, none⟩) _ _ = sl (some _) _ _) | exact (rfl : Value.slice none _ _ = sl none _ _) | rfl), (us_of rfl), (el_of rfl), (by first | exact hM.src (by (repeat (first | exact .head _ | apply List.Mem.tail)); done) | exact (hM.bytes0 (by assumption)).src), (fun _ _ => by (repeat (first | exact .here _ _ _ | apply Swap.there)); done), (by first | assumption | exact Len.map (by assumption) _ | rfl | exact Len.map (by rfl) _ | exact Len.of (by simp; done)), (by first | assumption | exact Len.map (by assumption) _ | rfl | exact Len.map (by rfl) _ | exact Len.of (by simp; done)), (by first | assumption | (simp [maxLen]; done) | omega | (simp [maxLen]; omega)), (by first | omega | (simp only [Len] at *; omega) | (simp; omega)), ?_⟩; intro _ _ _ hM2 _ _; clear hM; have hM := hM2; clear hM2) | ((first | (with_reducible refine gL_field ?_) | ((with_reducible refine gG_field ?_ ?_); (exact wanted_of rfl rfl rfl rfl rfl))); refine ⟨_, _, rfl, (by (first | (exact field_one (fb_of rfl) rfl) | (exact field_agg (fa_of rfl) rfl))), ?_⟩))
  go_ret
  exact ⟨_, rfl, hM⟩
end Go.Proofs.YtejmbkljnhnklaaDoor
