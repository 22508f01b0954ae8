/-
  A drawn region's operations: an element's address in a slice, whatever its size; parts of rows.
-/
import Derived.Test.YtejmbkljnhnklaaRm
namespace Go.PK
open Go.RowKit
section
variable {P : Program} {o : Oper} {w : World} {R : Value → World → Prop} {ρ : Operand → Value}
theorem run_indexAt {t e size bytes b off n cap j : Nat} (hu : P.underlying t = some (.slice e)) (hel : El P e size bytes) (hj : j < n) :
    (Instr.indexAt t (.slice (some ⟨b, off, none⟩) n cap) (.int .i64 (j : Int))).run P w = .ok (.pointer (some ⟨b, off + j * size, none⟩)) w := by
  obtain ⟨z, hinfo, -, -⟩ := hel
  obtain ⟨i, hi, -, hsize, -⟩ := info_parts hinfo
  simp [Instr.indexAt, run_underlying hu, sizeOf, typeInfo, hi, hsize, Addr.add, asIntOf]
  rw [if_pos (by omega)]
  by_cases h0 : j * size = 0
  · rw [if_pos h0, h0]
    rfl
  · rw [if_neg h0]
theorem makes_index {t e size bytes b off n cap j : Nat} {x y : Operand} (hu : P.underlying t = some (.slice e)) (hel : El P e size bytes) (hj : j < n) (ho : o.op = .indexAddr t x y) (hx : ρ x = .slice (some ⟨b, off, none⟩) n cap) (hy : ρ y = .int .i64 (j : Int))
    (hR : R (.pointer (some ⟨b, off + j * size, none⟩)) w) : Makes P ρ o w R := by
  refine makes_value ?_ hR
  unfold execOp
  simp only [ho, hx, hy, Sem.run_bind, Sem.run_pure, Result.andThen_ok, run_indexAt hu hel hj]
end
theorem Mem.loads_last {P : Program} {G : List Nat} {w0 w : World} {L : List Blk} (hM : Mem G w0 w L) {ty g n off : Nat} {t : TypeId} {A B : List Value} {N : Nat} (hb : ⟨some g, t, A ++ B, N⟩ ∈ L) (ht : aggB P ty n = true) (hA : A.length = off) (hB : Len B n) : Loads P w ty ⟨g, off, none⟩ (.agg B.toArray) := by
  have := hM.loads_part (off := off) (n := n) hb ht (by rw [List.length_append, hB.eq, hA]; exact Nat.le_refl _)
  rwa [List.drop_append_of_le_length (by omega), List.drop_of_length_le (by omega), List.nil_append, List.take_of_length_le (by rw [hB.eq]; exact Nat.le_refl _)] at this
end Go.PK
