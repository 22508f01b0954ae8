/-
  Scripts of steps (a kind, a number, bytes): what their cells say; how many bytes there are; objects and kept rows, brought forward and put back.
-/
import Derived.Test.YtejmbkljnhnklaaScript
import Derived.Test.YtejmbkljnhnklaaRd
namespace Go.PK
open Go.RowKit

abbrev Step := Int × Int × List UInt8
abbrev rOp : Rd Step := rPair rInt (rPair rInt (rSlice rByte))
/-- bytes and steps up to a step -/
def pre (l : List Step) (k : Nat) : Nat := ((l.take k).map fun o => o.2.2.length + 1).sum
theorem pre_zero (l : List Step) : pre l 0 = 0 := rfl
theorem pre_succ (l : List Step) {k : Nat} (h : k < l.length) : pre l (k + 1) = pre l k + (l[k].2.2.length + 1) := by
  unfold pre
  rw [List.take_succ_eq_append_getElem h, List.map_append, List.sum_append]
  simp
theorem pre_mono (l : List Step) (k : Nat) : pre l k ≤ pre l l.length := by
  have : ∀ (l : List Step) (k : Nat), ((l.take k).map fun o => o.2.2.length + 1).sum ≤ (l.map fun o => o.2.2.length + 1).sum := by
    intro l
    induction l with
    | nil => intro k; simp
    | cons a l ih =>
      intro k
      cases k with
      | zero => simp
      | succ k =>
        rw [List.take_succ_cons, List.map_cons, List.map_cons, List.sum_cons, List.sum_cons]
        have := ih k
        omega
  unfold pre
  rw [List.take_length]
  exact this l k
theorem le_pre (l : List Step) {k : Nat} (h : k ≤ l.length) : k ≤ pre l k := by
  induction k with
  | zero => omega
  | succ k ih => rw [pre_succ l (by omega)]; have := ih (by omega); omega

/-- the cells of a step -/
theorem step_cells {w : World} {ao : Option Addr} {n cap : Nat} {l : List Step} (h : (rSlice rOp).K w [.slice ao n cap] l) {k : Nat} (hk : k < l.length) :
    ∃ b off vB, ao = some ⟨b, off, none⟩ ∧ b < w.heap.size ∧ w.cell? ⟨b, off + k * 3, none⟩ = some (.int .i64 l[k].1) ∧ w.cell? ⟨b, off + (k * 3 + 1), none⟩ = some (.int .i64 l[k].2.1) ∧
      w.cell? ⟨b, off + (k * 3 + 2), none⟩ = some vB ∧ Bytes w vB l[k].2.2 := by
  obtain ⟨ao', cap', he, h1, h2, h3, h4⟩ := h
  cases he
  obtain ⟨b, off, rfl, hb, cells, hK, hc⟩ := h4 k _ (List.getElem?_eq_getElem hk)
  obtain ⟨c1, c2, rfl, e1, c3, c4, rfl, e2, e3⟩ := hK
  obtain rfl : c1 = [.int .i64 l[k].1] := e1
  obtain rfl : c3 = [.int .i64 l[k].2.1] := e2
  obtain ⟨ao2, cap2, e4, -⟩ := id e3
  obtain ⟨vB, rfl⟩ : ∃ vB, c4 = [vB] := ⟨_, e4⟩
  have g0 := hc 0 (by decide)
  have g1 := hc 1 (by decide)
  have g2 := hc 2 (by decide)
  exact ⟨b, off, vB, rfl, hb, g0, g1, g2, Bytes.of_K e3⟩
theorem steps_form {w : World} {v : Value} {l : List Step} (h : (rSlice rOp).K w [v] l) : ∃ ao cap, v = .slice ao l.length cap ∧ l.length ≤ cap ∧ cap ≤ 9223372036854775807 := by
  obtain ⟨ao, cap, e, h1, h2, -⟩ := h
  exact ⟨ao, cap, by simpa using e, h1, h2⟩
end Go.PK
