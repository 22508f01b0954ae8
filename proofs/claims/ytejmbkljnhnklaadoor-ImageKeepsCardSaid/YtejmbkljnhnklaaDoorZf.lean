/-
  A drawn region in which a row that was made is marked behind its last cell: cells stay, marks may come.
  A region that draws its order, whose last operations follow all others but for one writer ahead of them, which some plain moves need not come ahead of ('x.f = append(x.f, ..)').
  What a script keeps: objects, each of its own block, told by a list of states; rows of bytes, each made once, never written again.
  An append as what it makes of its operands.
  A drawn region's operations: an element's address in a slice, whatever its size; parts of rows.
-/
import Derived.Test.YtejmbkljnhnklaaDoorZb
import Derived.Test.YtejmbkljnhnklaaDoorZa
namespace Go.PK
open Go.RowKit
structure Grows (m : Nat) (w w' : World) : Prop where
  below : Below m w w'
  cells : ∀ (k : Nat) (C : Array Value) (e : TypeId) (f : Nat × Nat), w.heap[k]? = some (Obj.cells C e f) → ∃ f', w'.heap[k]? = some (Obj.cells C e f')
theorem Grows.cell {m : Nat} {w w' : World} {a : Addr} {v : Value} (h : Grows m w w') (hc : w.cell? a = some v) : w'.cell? a = some v := by
  unfold World.cell? at hc ⊢
  split at hc
  · rename_i C e f hk
    obtain ⟨f', hf⟩ := h.cells _ _ _ _ hk
    rw [hf]
    exact hc
  · cases hc
def StableG (m : Nat) : List (Value → World → Prop) → Prop
  | [] => True
  | Φ :: rest => (∀ x w w', Φ x w → Grows m w w' → Φ x w') ∧ StableG m rest
theorem StableG.get {m : Nat} : ∀ (l : List (Value → World → Prop)), StableG m l → ∀ i x w w', l.getD i (fun _ _ => True) x w → Grows m w w' → l.getD i (fun _ _ => True) x w'
  | [], _, i, x, w, w', _, _ => by simp
  | Φ :: rest, h, 0, x, w, w', hx, hb => h.1 x w w' hx hb
  | Φ :: rest, h, i + 1, x, w, w', hx, hb => StableG.get rest h.2 i x w w' hx hb
section
variable {P : Program} {Q : Exit → Act → World → Prop}
variable {ops : Array Oper} {fr : (Nat → Value) → (Nat → Value) → Act} {X : (Nat → Value) → Prop} {w0 : World} {Φs : List (Value → World → Prop)} {D : List (List Nat)} {o : Oper}
def ShowG (P : Program) (ops : Array Oper) (Q : Exit → Act → World → Prop) (fr : (Nat → Value) → (Nat → Value) → Act) (X : (Nat → Value) → Prop) (m : Nat) (C : World → Prop) (Φs : List (Value → World → Prop)) (D : List (List Nat)) (k : Nat) (o : Oper) : Prop :=
  (∀ c vals v, (fr c vals).put o.dst v = fr c (upd vals k v)) ∧
     ∀ c, X c → ∀ vals w, C w → (∀ j, (D.getD k []).contains j = true → Φs.getD j (fun _ _ => True) (vals j) w) →
      ∀ K : Act → World → Prop, (∀ v w', Grows m w w' → Φs.getD k (fun _ _ => True) v w' → K (fr c (upd vals k v)) w') →
       if Region.wanted o (yielded ops (fr c vals).tmps) = true then o.wp P (fr c vals) w K Q else K ((fr c vals).put o.dst undef) w
theorem Makes.imp {ρ : Operand → Value} {w : World} {R R' : Value → World → Prop} (h : Makes P ρ o w R) (hR : ∀ v w', R v w' → R' v w') : Makes P ρ o w R' := by
  rcases h with ⟨v, w', hr, h⟩ | ⟨w', hr, h⟩ | ⟨f, args, hr, hc⟩
  · exact .inl ⟨v, w', hr, hR _ _ h⟩
  · exact .inr (.inl ⟨w', hr, hR _ _ h⟩)
  · exact .inr (.inr ⟨f, args, hr, hc.mono fun e w' ⟨v, he, h⟩ => ⟨v, he, hR _ _ h⟩⟩)
variable {w : World} {R : Value → World → Prop} {ρ : Operand → Value} {a : Act}
theorem makes_buildSlice {t e : TypeId} {len : Nat} {parts : List (Nat × Operand)} {size bytes : Nat} {C : List Value} (hu : P.underlying t = some (.slice e)) (hel : El P e size bytes)
    (hsmall : len * size ≤ 16777216) (hpos : 0 < len) (ho : o.op = .buildSlice t len parts.toArray) (hpl : parts.map (·.1) = List.range' 0 len) (hC : (parts.map fun p => (ρ p.2)).flatMap (fun v => v.cells.toList) = C) (hall : ∀ v ∈ (parts.map fun p => (ρ p.2)), v.cells.size = size)
    (hR : R (.slice (some ⟨w.heap.size, 0, none⟩) len len) (w.alloc (.cells C.toArray e))) : Makes P ρ o w R := by
  obtain ⟨z, hinfo, hzs, hsz⟩ := hel
  obtain ⟨i, hi, hz0, hsize, hby⟩ := info_parts hinfo
  subst hC
  have hlen : parts.length = len := by simpa using congrArg List.length hpl
  have hp : ¬ len * i.size = 0 := by
    rw [hsize]
    exact Nat.ne_of_gt (Nat.mul_pos hpos hsz)
  have hf := Great.fill_whole hsz (parts.map fun p => (ρ p.2)) ((Array.range (len * size)).map (z.cells[· % z.cells.size]!)) hall (by simp [hlen])
  have hz := zipIdx_of (parts.map fun p => (p.1, ρ p.2)) 0 (by simpa [Function.comp_def, hlen] using hpl)
  have hm : (parts.map fun p => (p.1, ρ p.2)).map (·.2) = parts.map fun p => (ρ p.2) := by simp [Function.comp_def]
  rw [hm] at hz
  rw [← hz] at hf
  have hrun : (Instr.buildSlice t len ((parts.map fun p => (p.1, ρ p.2)).toArray)).run P w = .ok (.slice (some ⟨w.heap.size, 0, none⟩) len len) (w.alloc (.cells ((parts.map fun p => (ρ p.2)).flatMap (fun v => v.cells.toList)).toArray e)) := by
    have hs : ¬ len * i.size > 2 ^ 24 := by rw [hsize]; omega
    rw [← hsize] at hf
    simp [Instr.buildSlice, run_underlying hu, sizeOf, typeInfo, zeroValue, hi, hz0, hs, hp, newRow]
    rw [hf]
    rfl
  refine .inl ⟨_, _, ?_, hR⟩
  unfold execOp
  simp only [ho, List.map_toArray, Sem.run_bind, Sem.run_pure, Result.andThen_ok, hrun]
end
end Go.PK
namespace Go.PK
open Go.RowKit
section
variable {P : Program} {Q : Exit → Act → World → Prop}
def tailOkF (m : Nat) (F : List Nat) (ops : List Oper) (D : List (List Nat)) : Bool := (List.range ops.length).all fun i => i < m || (List.range i).all fun j => (i == m && F.contains j) || (D.getD i []).contains j
def WrInv (P : Program) (Q : Exit → Act → World → Prop) (l : List Oper) (m : Nat) (F : List Nat) (fr : (Nat → Value) → (Nat → Value) → Act) (c : Nat → Value) (C : World → Prop) (Φs : List (Value → World → Prop)) (Es : List (Value → Prop)) (S : Value → World → Prop) (D : List (List Nat)) (listed : Array Bool) (a : Act) (w' : World) : Prop :=
  listed.size = l.length ∧ (∀ i o, listed[i]? = some true → l[i]? = some o → (∀ k ∈ bound o, listed[k]? = some true) ∧ ∀ j, (D.getD i []).contains j = true → listed[j]? = some true) ∧
  ((C w' ∧ (∀ i, m ≤ i → listed[i]? ≠ some true) ∧ ∃ vals, a = fr c vals ∧ (∀ i, listed[i]? = some true → Φs.getD i (fun _ _ => True) (vals i) w')) ∨
   (listed[m]? = some true ∧ (∀ i, m < i → listed[i]? ≠ some true) ∧ (∀ i, i < m → F.contains i = false → listed[i]? = some true) ∧ ∃ vals, a = fr c vals ∧ S (vals m) w' ∧ ∀ i, i < m → listed[i]? = some true → Es.getD i (fun _ => True) (vals i)) ∨
   (∃ j, m + 1 < j ∧ (∀ i, i < j → listed[i]? = some true) ∧ (∀ i, j ≤ i → listed[i]? ≠ some true) ∧ wpList P l.toArray Q (l.drop j) a w'))
end
end Go.PK
namespace Go.PK
open Go.RowKit
structure PR where
  ob : Option Nat
  m : List UInt8
  cap : Nat
def PR.v (r : PR) : Value := sl r.ob r.m.length r.cap
def PR.blk (t : TypeId) (r : PR) : Blk := ⟨r.ob, t, r.m.map B8, r.cap⟩
def PR.nil : PR := ⟨none, [], 0⟩
section
variable {G : List Nat} {w0 w : World} {L : List Blk}
theorem PR.bytes {r : PR} {t : TypeId} (hM : Mem G w0 w L) (hb : r.blk t ∈ L) (hcap : r.cap ≤ maxLen) : Bytes w r.v r.m := hM.whole hb (Len.of rfl) hcap
end
end Go.PK
namespace Go.PK
open Go.RowKit
section
variable {P : Program} {o : Oper} {w w0 : World} {R : Value → World → Prop} {ρ : Operand → Value} {G : List Nat} {L : List Blk}
theorem makes_value2 {v : Value} {w' : World} (hr : (execOp ρ o).run P w = .ok (.value v) w') (hR : R v w') : Makes P ρ o w R := .inl ⟨v, w', hr, hR⟩
end
end Go.PK
namespace Go.PK
open Go.RowKit
section
variable {P : Program} {o : Oper} {w : World} {R : Value → World → Prop} {ρ : Operand → Value}
theorem run_indexAt {t e size bytes b off n cap j : Nat} (hu : P.underlying t = some (.slice e)) (hel : El P e size bytes) (hj : j < n) :
    (Instr.indexAt t (.slice (some ⟨b, off, none⟩) n cap) (.int .i64 (j : Int))).run P w = .ok (.pointer (some ⟨b, off + j * size, none⟩)) w := by
  obtain ⟨z, hinfo, -, -⟩ := hel
  obtain ⟨i, hi, -, hsize, -⟩ := info_parts hinfo
  simp [Instr.indexAt, run_underlying hu, sizeOf, typeInfo, hi, hsize, Addr.add, asIntOf]
  rw [if_pos (by omega)]
  by_cases h0 : j * size = 0
  · rw [if_pos h0, h0]
    rfl
  · rw [if_neg h0]
theorem makes_index {t e size bytes b off n cap j : Nat} {x y : Operand} (hu : P.underlying t = some (.slice e)) (hel : El P e size bytes) (hj : j < n) (ho : o.op = .indexAddr t x y) (hx : ρ x = .slice (some ⟨b, off, none⟩) n cap) (hy : ρ y = .int .i64 (j : Int))
    (hR : R (.pointer (some ⟨b, off + j * size, none⟩)) w) : Makes P ρ o w R := by
  refine makes_value ?_ hR
  unfold execOp
  simp only [ho, hx, hy, Sem.run_bind, Sem.run_pure, Result.andThen_ok, run_indexAt hu hel hj]
end
theorem Mem.loads_last {P : Program} {G : List Nat} {w0 w : World} {L : List Blk} (hM : Mem G w0 w L) {ty g n off : Nat} {t : TypeId} {A B : List Value} {N : Nat} (hb : ⟨some g, t, A ++ B, N⟩ ∈ L) (ht : aggB P ty n = true) (hA : A.length = off) (hB : Len B n) : Loads P w ty ⟨g, off, none⟩ (.agg B.toArray) := by
  have := hM.loads_part (off := off) (n := n) hb ht (by rw [List.length_append, hB.eq, hA]; exact Nat.le_refl _)
  rwa [List.drop_append_of_le_length (by omega), List.drop_of_length_le (by omega), List.nil_append, List.take_of_length_le (by rw [hB.eq]; exact Nat.le_refl _)] at this
end Go.PK
