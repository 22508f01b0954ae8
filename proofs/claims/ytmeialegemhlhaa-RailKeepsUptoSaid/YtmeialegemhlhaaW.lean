/-
  Rows of the call's own beside one another: appends that tell where they lie; what stays.
-/
import Derived.Deep.AppendLies
import Derived.Test.YtmeialegemhlhaaM
namespace Go.PK
open Go.RowKit

theorem wpList_append_one {P : Program} {w : World} {ops : Array Oper} {rest : List Oper} {o : Oper} {a : Act} {Q : Exit → Act → World → Prop} (hgd : o.guard = none) (s x : Operand) (t : TypeId)
    (ho : o.op = .call { callee := .builtin .append, args := #[s, x], argTypes := #[t, t] })
    (base : Nat) (e : TypeId) (ht : P.underlying t = some (.slice e)) (hinfo : (P.info? e).map (fun i => (i.zero, i.size, i.bytes)) = some (some (B8 0), 1, 1))
    (v : Value) (n : Nat) (m : List UInt8) (hs : a.eval s = v) (hown : w.ownsRow base e 1 v n (m.map B8))
    (b c : Nat) (y : UInt8) (hx : a.eval x = .slice (some ⟨b, 0, none⟩) 1 c) (hcell : w.cell? ⟨b, 0, none⟩ = some (B8 y)) (hb : n + 1 ≤ 140737488355328) (hbase : base ≤ w.heap.size)
    (h : ∀ g cap w', w'.ownsRow base e 1 (.slice (some ⟨g, 0, none⟩) (n + 1) cap) (n + 1) ((m ++ [y]).map B8) → w.grownBy w' v.ownBlock → Below base w w' → (v.ownBlock = some g ∨ g = w.heap.size) → wpList P ops Q rest (a.put o.dst (.slice (some ⟨g, 0, none⟩) (n + 1) cap)) w') : wpList P ops Q (o :: rest) a w := by
  obtain ⟨i, hi, hz, hsize, hby⟩ := info_parts hinfo
  refine wpList_append_lies w hgd s x t ho base e i (B8 0) 1 1 ht hi hz hsize hby rfl (by decide) v n (m.map B8) hs hown ⟨b, 0, none⟩ 1 c [B8 y] hx rfl (fun j u hu => ?_) (fun u hu => ?_) (by decide)
    (by simp only [maxLen]; omega) (by omega) hbase _ rfl (fun g cap w' h1 h2 h3 _ => h g cap w' (by rw [List.map_append]; exact h1) h2 (grownBy_below hown h2 hbase) h3)
  · match j, hu with
    | 0, hu =>
      simp at hu
      subst hu
      exact hcell
    | j + 1, hu => simp at hu
  · simp at hu
    subst hu
    rfl

theorem Bytes.grown {w w' : World} {v : Value} {l : List UInt8} {row : Option Nat} (h : Bytes w v l) (hg : w.grownBy w' row) (hne : ∀ b off n cap, v = .slice (some ⟨b, off, none⟩) n cap → some b ≠ row) : Bytes w' v l := by
  obtain ⟨ao, cap, rfl, h1, h2, h3, h4⟩ := h
  refine ⟨ao, cap, rfl, h1, h2, h3, fun j hj => ?_⟩
  obtain ⟨b, off, rfl, hb, hc⟩ := h4 j hj
  exact ⟨b, off, rfl, Nat.lt_of_lt_of_le hb hg.size, by rw [World.cell?_of_block (hg.block b hb (hne b off _ _ rfl))]; exact hc⟩
theorem Bytes.set_other {w : World} {v : Value} {l : List UInt8} (h : Bytes w v l) {c j : Nat} (x : Value) (hne : ∀ b off n cap, v = .slice (some ⟨b, off, none⟩) n cap → b ≠ c) : Bytes (w.setCell ⟨c, j, none⟩ x) v l := by
  obtain ⟨ao, cap, rfl, h1, h2, h3, h4⟩ := h
  refine ⟨ao, cap, rfl, h1, h2, h3, fun j' hj => ?_⟩
  obtain ⟨b, off, rfl, hb, hc⟩ := h4 j' hj
  refine ⟨b, off, rfl, by simpa using hb, ?_⟩
  rw [World.cell?_of_block (heap_setCell_other w ⟨c, j, none⟩ b x (hne b off _ _ rfl))]
  exact hc
/-- where an owned row lies -/
theorem owns_lies {w : World} {base : Nat} {e : TypeId} {v : Value} {n : Nat} {l : List Value} (h : w.ownsRow base e 1 v n l) : ∀ b off m cap, v = .slice (some ⟨b, off, none⟩) m cap → base ≤ b ∧ b < w.heap.size := by
  intro b off m cap hv
  rcases h.2 with ⟨h', _⟩ | ⟨g', cap', cur, h', hb, hg, r⟩
  · rw [hv] at h'; simp at h'
  · rw [hv] at h'
    cases h'
    exact ⟨hb, (Array.getElem?_eq_some_iff.1 hg).1⟩
end Go.PK
