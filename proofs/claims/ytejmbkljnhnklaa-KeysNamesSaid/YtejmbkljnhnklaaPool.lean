/-
  What a script keeps: objects, each of its own block, told by a list of states; rows of bytes, each made once, never written again.
-/
import Derived.Test.YtejmbkljnhnklaaWr
namespace Go.PK
open Go.RowKit
/-- a row of bytes that was made -/
structure PR where
  ob : Option Nat
  m : List UInt8
  cap : Nat
def PR.v (r : PR) : Value := sl r.ob r.m.length r.cap
def PR.blk (t : TypeId) (r : PR) : Blk := ⟨r.ob, t, r.m.map B8, r.cap⟩
def PR.nil : PR := ⟨none, [], 0⟩
section
variable {G : List Nat} {w0 w : World} {L : List Blk}
theorem PR.bytes {r : PR} {t : TypeId} (hM : Mem G w0 w L) (hb : r.blk t ∈ L) (hcap : r.cap ≤ maxLen) : Bytes w r.v r.m := hM.whole hb (Len.of rfl) hcap
theorem Mem.head_ne {g g' : Nat} {t : TypeId} {C : List Value} {N : Nat} {b : Blk} (hM : Mem G w0 w (⟨some g, t, C, N⟩ :: L)) (hb : b ∈ L) (hid : b.id = some g') : g ≠ g' := fun h => by
  have := hM.nodup
  rw [List.filterMap_cons_some (by rfl), List.nodup_cons] at this
  exact this.1 (mem_ids.2 ⟨b, hb, by rw [hid, h]⟩)
/-- one of the states' entries -/
theorem Has.map_at {α : Type} (f : α → Blk) {ds : List α} {k : Nat} {d d' : α} (h : ds[k]? = some d) (R : List Blk) : Has (ds.map f ++ R) (f d) (f d') ((ds.set k d').map f ++ R) := by
  induction ds generalizing k with
  | nil => simp at h
  | cons x ds ih =>
    cases k with
    | zero =>
      simp at h
      subst h
      exact .here _ _ _
    | succ k => exact .there _ (ih (by simpa using h))
theorem mem_map_at {α : Type} (f : α → Blk) {ds : List α} {k : Nat} {d : α} (h : ds[k]? = some d) (R : List Blk) : f d ∈ ds.map f ++ R :=
  List.mem_append_left _ (List.mem_map.2 ⟨d, List.mem_of_getElem? h, rfl⟩)
theorem mem_pool {α : Type} (f : α → Blk) (A : List Blk) {ps : List α} {p : α} (h : p ∈ ps) : f p ∈ A ++ ps.map f := List.mem_append_right _ (List.mem_map.2 ⟨p, h, rfl⟩)
/-- a new state's entry, and a new row's, taken to their places -/
theorem Mem.push_obj {α β : Type} {f : α → Blk} {p : β → Blk} {ds : List α} {ps : List β} {d : α} {A : List Blk} (hM : Mem G w0 w (f d :: (A ++ (ds.map f ++ ps.map p)))) : Mem G w0 w (A ++ ((ds ++ [d]).map f ++ ps.map p)) := by
  refine hM.perm ?_
  rw [List.map_append, List.map_cons, List.map_nil]
  have h1 : (f d :: (A ++ (ds.map f ++ ps.map p))).Perm (A ++ f d :: (ds.map f ++ ps.map p)) := List.perm_middle.symm
  refine h1.trans (List.Perm.append_left A ?_)
  rw [List.append_assoc]
  exact List.perm_middle.symm
theorem Mem.push_row {α β : Type} {f : α → Blk} {p : β → Blk} {ds : List α} {ps : List β} {r : β} {A : List Blk} (hM : Mem G w0 w (p r :: (A ++ (ds.map f ++ ps.map p)))) : Mem G w0 w (A ++ (ds.map f ++ (ps ++ [r]).map p)) := by
  refine hM.perm ?_
  rw [List.map_append, List.map_cons, List.map_nil]
  have h1 : (p r :: (A ++ (ds.map f ++ ps.map p))).Perm ((A ++ (ds.map f ++ ps.map p)) ++ [p r]) := (List.perm_append_singleton _ _).symm
  refine h1.trans ?_
  rw [List.append_assoc, List.append_assoc]
end
end Go.PK
