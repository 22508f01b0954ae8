/-
  Arrays and structs in one block: whole, in part, cell by cell.
-/
import Derived.Test.YtejmbkljnhnklaaR
namespace Go.PK
open Go.RowKit

/-- block b's cells -/
def Row (w : World) (b : Nat) (t : TypeId) (L : List Value) : Prop := w.heap[b]? = some (.cells L.toArray t)

theorem Row.lt {w : World} {b : Nat} {t : TypeId} {L : List Value} (h : Row w b t L) : b < w.heap.size := (Array.getElem?_eq_some_iff.1 h).1
theorem Row.cell? {w : World} {b : Nat} {t : TypeId} {L : List Value} (h : Row w b t L) (j : Nat) : w.cell? ⟨b, j, none⟩ = L[j]? := by
  rw [cell_row h, List.getElem?_toArray]
theorem Row.cell {w : World} {b : Nat} {t : TypeId} {L : List Value} (h : Row w b t L) {j : Nat} {v : Value} (hj : L[j]? = some v) : w.cell? ⟨b, j, none⟩ = some v := by
  rw [h.cell?, hj]
theorem Row.at {α : Type} {f : α → Value} {w : World} {b : Nat} {t : TypeId} {l : List α} (h : Row w b t (l.map f)) {j : Nat} (hj : j < l.length) (d : α) : w.cell? ⟨b, j, none⟩ = some (f (l.getD j d)) := by
  rw [h.cell?, List.getElem?_map, List.getElem?_eq_getElem hj, List.getD_eq_getElem?_getD, List.getElem?_eq_getElem hj]
  rfl
theorem Row.free {w : World} {b : Nat} {t : TypeId} {L : List Value} (h : Row w b t L) (j : Nat) : w.frozen? ⟨b, j, none⟩ = false := frozen_of_row w b j _ _ h
theorem Row.set {w : World} {b : Nat} {t : TypeId} {L : List Value} (h : Row w b t L) (j : Nat) (v : Value) : Row (w.setCell ⟨b, j, none⟩ v) b t (L.set j v) := by
  unfold Row
  rw [heap_setCell_same w b j _ _ _ h, List.setIfInBounds_toArray]
theorem Row.set_map {α : Type} {f : α → Value} {w : World} {b : Nat} {t : TypeId} {l : List α} (h : Row w b t (l.map f)) (j : Nat) (x : α) : Row (w.setCell ⟨b, j, none⟩ (f x)) b t ((l.set j x).map f) := by
  rw [List.map_set]
  exact h.set j _
theorem Row.other {w : World} {b c j : Nat} {t : TypeId} {L : List Value} (h : Row w b t L) (hc : b ≠ c) (v : Value) : Row (w.setCell ⟨c, j, none⟩ v) b t L := by
  unfold Row
  rw [heap_setCell_other w ⟨c, j, none⟩ b v hc]
  exact h
theorem Row.below {w w' : World} {b B : Nat} {t : TypeId} {L : List Value} (h : Row w b t L) (hb : Below B w w') (hB : b < B) : Row w' b t L := block_below hb h hB
theorem Row.adds {w w' : World} {b : Nat} {t : TypeId} {L : List Value} (h : Row w b t L) (hb : Adds w w') : Row w' b t L := h.below hb h.lt
theorem Row.drew {w : World} {b : Nat} {t : TypeId} {L : List Value} (h : Row w b t L) : Row w.drew b t L := h
theorem Row.new (w : World) (t : TypeId) (L : List Value) : Row (w.alloc (.cells L.toArray t)) w.heap.size t L := heap_alloc_new w _
theorem Row.alloc {w : World} {b : Nat} {t : TypeId} {L : List Value} (h : Row w b t L) (o : Obj) : Row (w.alloc o) b t L := by
  unfold Row
  rw [Below.heap_alloc w o b h.lt]
  exact h
theorem Row.setRow {w : World} {b : Nat} {t : TypeId} {L : List Value} (h : Row w b t L) (L' : List Value) : Row (w.setRow b L'.toArray) b t L' := setRow_heap w b _ _ t _ h
theorem Row.otherRow {w : World} {b c : Nat} {t : TypeId} {L : List Value} (h : Row w b t L) (hc : b ≠ c) (cs : Array Value) : Row (w.setRow c cs) b t L := by
  unfold Row
  rw [setRow_other w c b cs hc]
  exact h
theorem _root_.Go.RowKit.Below.setRow {B : Nat} {a w : World} (h : Below B a w) {g : Nat} (hg : B ≤ g) (cs : Array Value) : Below B a (w.setRow g cs) :=
  h.trans ⟨rfl, rfl, rfl, by simp, fun k hk => setRow_other w g k cs (by omega)⟩

theorem RowB_iff {w : World} {b : Nat} {t : TypeId} {l : List UInt8} : RowB w b t l ↔ Row w b t (l.map B8) := Iff.rfl
theorem Row.bytes {w : World} {b : Nat} {t : TypeId} {l : List UInt8} (h : Row w b t (l.map B8)) {off n cap : Nat} (h1 : off + n ≤ l.length) (h2 : n ≤ cap) (h3 : cap ≤ 9223372036854775807) :
    Bytes w (.slice (some ⟨b, off, none⟩) n cap) ((l.drop off).take n) := RowB.bytes (w := w) h h1 h2 h3

def isAggDesc : TypeDesc → Bool
  | .struct _ | .array _ _ => true
  | _ => false

section
variable {P : Program}

theorem run_isAgg {ty : TypeId} {d : TypeDesc} (hu : P.underlying ty = some d) (w : World) : (isAgg ty).run P w = .ok (isAggDesc d) w := by
  unfold isAgg
  rw [Sem.run_bind, run_underlying hu w]
  cases d <;> rfl

theorem run_loadVar_part {w : World} {g o n : Nat} {t ty : TypeId} {L : List Value} {d : TypeDesc} (hR : Row w g t L) (hn : o + n ≤ L.length) (hu : P.underlying ty = some d) (hd : isAggDesc d = true)
    (hi : (P.info? ty).map (·.size) = some n) : (loadVar ty ⟨g, o, none⟩).run P w = .ok (.agg ((L.drop o).take n).toArray) w := by
  have hlen : ((L.drop o).take n).length = n := by simp; omega
  have hl : (loadCells ⟨g, o, none⟩ n).run P w = .ok ((L.drop o).take n).toArray w := by
    have := run_loadCells_list (P := P) w ⟨g, o, none⟩ ((L.drop o).take n) (fun j v hv => by
      have hj : j < n := by have := (List.getElem?_eq_some_iff.1 hv).1; omega
      rw [Addr.add_lit, hR.cell?, ← hv, List.getElem?_take, if_pos hj, List.getElem?_drop])
    rwa [hlen] at this
  cases hq : P.info? ty with
  | none => simp [hq] at hi
  | some i =>
    have hs : i.size = n := by simpa [hq] using hi
    have hagg := run_isAgg (P := P) hu w
    rw [hd] at hagg
    simp [loadVar, Sem.run_bind, hagg, sizeOf, typeInfo, hq, hs, hl]

theorem run_storeVar_part {w : World} {g o : Nat} {t ty : TypeId} {L C : List Value} (hR : Row w g t L) (hn : o + C.length ≤ L.length)
    (hi : (P.info? ty).map (·.size) = some C.length) (h1 : ∀ v ∈ C, v.oneCell' = true) :
    (storeVar ty ⟨g, o, none⟩ (.agg C.toArray)).run P w = .ok () (w.setRow g (L.take o ++ C ++ L.drop (o + C.length)).toArray) := by
  have := run_storeCells_at (P := P) g o t C 0 L.toArray w hR (by simpa using hn) h1
  simp only [Nat.add_zero] at this
  cases hq : P.info? ty with
  | none => simp [hq] at hi
  | some i =>
    have hs : i.size = C.length := by simpa [hq] using hi
    simp [storeVar, Sem.run_bind, sizeOf, typeInfo, hq, hs, Value.cells, this]

theorem run_storeCells_all {w : World} {g : Nat} {t : TypeId} {L C : List Value} (hR : Row w g t L) (hn : C.length = L.length) (h1 : ∀ v ∈ C, v.oneCell' = true) :
    (storeCells ⟨g, 0, none⟩ C).run P w = .ok () (w.setRow g C.toArray) := by
  have := run_storeCells_at (P := P) g 0 t C 0 L.toArray w hR (by simp; omega) h1
  simp only [Nat.add_zero] at this
  rw [this]
  simp [List.drop_of_length_le, hn]

variable {w : World} {o : Oper} {a : Act} {K : Act → World → Prop} {Q : Exit → Act → World → Prop}

theorem wp_load_part (ty : TypeId) (x : Operand) (ho : o.op = .load ty x) (g off n : Nat) (hx : a.eval x = .pointer (some ⟨g, off, none⟩)) {t : TypeId} {L : List Value} {d : TypeDesc} (hR : Row w g t L) (hn : off + n ≤ L.length)
    (hu : P.underlying ty = some d) (hd : isAggDesc d = true) (hi : (P.info? ty).map (·.size) = some n)
    (h : K (a.put o.dst (.agg ((L.drop off).take n).toArray)) w) : o.wp P a w K Q := by
  unfold Oper.wp execOp
  simp only [ho, hx, Instr.loadAt, Instr.sureAddr, Sem.run_bind, Sem.run_pure, Result.andThen_ok, run_loadVar_part hR hn hu hd hi]
  exact h
theorem wp_store_part (ty : TypeId) (x y : Operand) (ho : o.op = .store ty x y) (g off : Nat) (hx : a.eval x = .pointer (some ⟨g, off, none⟩)) {t : TypeId} {L C : List Value} (hy : a.eval y = .agg C.toArray) (hR : Row w g t L) (hn : off + C.length ≤ L.length)
    (hi : (P.info? ty).map (·.size) = some C.length) (h1 : ∀ v ∈ C, v.oneCell' = true)
    (h : K (a.put o.dst undef) (w.setRow g (L.take off ++ C ++ L.drop (off + C.length)).toArray)) : o.wp P a w K Q := by
  unfold Oper.wp execOp
  simp only [ho, hx, hy, Instr.storeAt, Instr.sureAddr, Sem.run_bind, Sem.run_pure, Result.andThen_ok, run_storeVar_part hR hn hi h1]
  exact h
theorem wp_alloc_row (ty : TypeId) (ho : o.op = .alloc ty) (C : List Value) (hz : (P.info? ty).map (·.zero) = some (some (.agg C.toArray)))
    (h : K (a.put o.dst (.pointer (some ⟨w.heap.size, 0, none⟩))) (w.alloc (.cells C.toArray ty))) : o.wp P a w K Q := by
  unfold Oper.wp execOp
  cases hq : P.info? ty with
  | none => simp [hq] at hz
  | some i =>
    have hz' : i.zero = some (.agg C.toArray) := by simpa [hq] using hz
    have hrun : (Instr.alloc ty true (.tuple #[])).run P w = .ok (.pointer (some ⟨w.heap.size, 0, none⟩)) (w.alloc (.cells C.toArray ty)) := by
      simp [Instr.alloc, zeroValue, typeInfo, hq, hz', newVar, newRow, Value.cells]
    simp only [ho, Sem.run_bind, Sem.run_pure, Result.andThen_ok, hrun]
    exact h
theorem wp_box_row (ty : TypeId) (x : Operand) (ho : o.op = .box ty x) (C : List Value) (hx : a.eval x = .agg C.toArray)
    (h : K (a.put o.dst (.pointer (some ⟨w.heap.size, 0, none⟩))) (w.alloc (.cells C.toArray ty))) : o.wp P a w K Q := by
  unfold Oper.wp execOp
  have hrun : (Instr.box ty (.agg C.toArray)).run P w = .ok (.pointer (some ⟨w.heap.size, 0, none⟩)) (w.alloc (.cells C.toArray ty)) := by
    simp [Instr.box, newVar, newRow, Value.cells]
  simp only [ho, hx, Sem.run_bind, Sem.run_pure, Result.andThen_ok, hrun]
  exact h

variable {ops : Array Oper} {rest : List Oper}
theorem wpList_load_part (hgd : o.guard = none) (ty : TypeId) (x : Operand) (ho : o.op = .load ty x) (g off n : Nat) (hx : a.eval x = .pointer (some ⟨g, off, none⟩)) {t : TypeId} {L : List Value} {d : TypeDesc} (hR : Row w g t L) (hn : off + n ≤ L.length)
    (hu : P.underlying ty = some d) (hd : isAggDesc d = true) (hi : (P.info? ty).map (·.size) = some n)
    (h : wpList P ops Q rest (a.put o.dst (.agg ((L.drop off).take n).toArray)) w) : wpList P ops Q (o :: rest) a w :=
  wpList_plain hgd fun _ hK => wp_load_part ty x ho g off n hx hR hn hu hd hi (hK _ _ h)
theorem wpList_store_part (hgd : o.guard = none) (ty : TypeId) (x y : Operand) (ho : o.op = .store ty x y) (g off : Nat) (hx : a.eval x = .pointer (some ⟨g, off, none⟩)) {t : TypeId} {L C : List Value} (hy : a.eval y = .agg C.toArray) (hR : Row w g t L) (hn : off + C.length ≤ L.length)
    (hi : (P.info? ty).map (·.size) = some C.length) (h1 : ∀ v ∈ C, v.oneCell' = true)
    (h : wpList P ops Q rest (a.put o.dst undef) (w.setRow g (L.take off ++ C ++ L.drop (off + C.length)).toArray)) : wpList P ops Q (o :: rest) a w :=
  wpList_plain hgd fun _ hK => wp_store_part ty x y ho g off hx hy hR hn hi h1 (hK _ _ h)
theorem wpList_alloc_row (hgd : o.guard = none) (ty : TypeId) (ho : o.op = .alloc ty) (C : List Value) (hz : (P.info? ty).map (·.zero) = some (some (.agg C.toArray)))
    (h : wpList P ops Q rest (a.put o.dst (.pointer (some ⟨w.heap.size, 0, none⟩))) (w.alloc (.cells C.toArray ty))) : wpList P ops Q (o :: rest) a w :=
  wpList_plain hgd fun _ hK => wp_alloc_row ty ho C hz (hK _ _ h)
theorem wpList_box_row (hgd : o.guard = none) (ty : TypeId) (x : Operand) (ho : o.op = .box ty x) (C : List Value) (hx : a.eval x = .agg C.toArray)
    (h : wpList P ops Q rest (a.put o.dst (.pointer (some ⟨w.heap.size, 0, none⟩))) (w.alloc (.cells C.toArray ty))) : wpList P ops Q (o :: rest) a w :=
  wpList_plain hgd fun _ hK => wp_box_row ty x ho C hx (hK _ _ h)

/-- whole -/
theorem wp_load_all (ty : TypeId) (x : Operand) (ho : o.op = .load ty x) (g : Nat) (hx : a.eval x = .pointer (some ⟨g, 0, none⟩)) {t : TypeId} {L : List Value} {d : TypeDesc} (hR : Row w g t L)
    (hu : P.underlying ty = some d) (hd : isAggDesc d = true) (hi : (P.info? ty).map (·.size) = some L.length)
    (h : K (a.put o.dst (.agg L.toArray)) w) : o.wp P a w K Q := by
  refine wp_load_part ty x ho g 0 L.length hx hR (by omega) hu hd hi ?_
  rw [List.drop_zero, List.take_length]
  exact h
theorem wp_store_all (ty : TypeId) (x y : Operand) (ho : o.op = .store ty x y) (g : Nat) (hx : a.eval x = .pointer (some ⟨g, 0, none⟩)) {t : TypeId} {L C : List Value} (hy : a.eval y = .agg C.toArray) (hR : Row w g t L) (hn : C.length = L.length)
    (hi : (P.info? ty).map (·.size) = some C.length) (h1 : ∀ v ∈ C, v.oneCell' = true)
    (h : K (a.put o.dst undef) (w.setRow g C.toArray)) : o.wp P a w K Q := by
  refine wp_store_part ty x y ho g 0 hx hy hR (by omega) hi h1 ?_
  rw [List.take_zero, List.nil_append, List.drop_of_length_le (by omega), List.append_nil]
  exact h
theorem wpList_load_all (hgd : o.guard = none) (ty : TypeId) (x : Operand) (ho : o.op = .load ty x) (g : Nat) (hx : a.eval x = .pointer (some ⟨g, 0, none⟩)) {t : TypeId} {L : List Value} {d : TypeDesc} (hR : Row w g t L)
    (hu : P.underlying ty = some d) (hd : isAggDesc d = true) (hi : (P.info? ty).map (·.size) = some L.length)
    (h : wpList P ops Q rest (a.put o.dst (.agg L.toArray)) w) : wpList P ops Q (o :: rest) a w :=
  wpList_plain hgd fun _ hK => wp_load_all ty x ho g hx hR hu hd hi (hK _ _ h)
theorem wpList_store_all (hgd : o.guard = none) (ty : TypeId) (x y : Operand) (ho : o.op = .store ty x y) (g : Nat) (hx : a.eval x = .pointer (some ⟨g, 0, none⟩)) {t : TypeId} {L C : List Value} (hy : a.eval y = .agg C.toArray) (hR : Row w g t L) (hn : C.length = L.length)
    (hi : (P.info? ty).map (·.size) = some C.length) (h1 : ∀ v ∈ C, v.oneCell' = true)
    (h : wpList P ops Q rest (a.put o.dst undef) (w.setRow g C.toArray)) : wpList P ops Q (o :: rest) a w :=
  wpList_plain hgd fun _ hK => wp_store_all ty x y ho g hx hy hR hn hi h1 (hK _ _ h)

theorem wp_build_zero (ty : TypeId) (ho : o.op = .build ty #[]) (C : List Value) {n : Nat} {e : TypeId} (hu : P.underlying ty = some (.array n e)) (he : (P.info? e).isSome = true) (hz : (P.info? ty).map (·.zero) = some (some (.agg C.toArray)))
    (h : K (a.put o.dst (.agg C.toArray)) w) : o.wp P a w K Q := by
  unfold Oper.wp execOp
  cases hq : P.info? ty with
  | none => simp [hq] at hz
  | some i =>
    have hz' : i.zero = some (.agg C.toArray) := by simpa [hq] using hz
    obtain ⟨j, hj⟩ := Option.isSome_iff_exists.1 he
    have hrun : (Instr.build ty #[]).run P w = .ok (.agg C.toArray) w := by
      simp [Instr.build, Instr.fill, zeroValue, typeInfo, sizeOf, Sem.run_bind, run_underlying hu, hq, hz', hj, Value.cells]
    simp only [ho, List.map_toArray, List.map_nil, Sem.run_bind, Sem.run_pure, Result.andThen_ok, hrun]
    exact h
theorem wpList_build_zero (hgd : o.guard = none) (ty : TypeId) (ho : o.op = .build ty #[]) (C : List Value) {n : Nat} {e : TypeId} (hu : P.underlying ty = some (.array n e)) (he : (P.info? e).isSome = true) (hz : (P.info? ty).map (·.zero) = some (some (.agg C.toArray)))
    (h : wpList P ops Q rest (a.put o.dst (.agg C.toArray)) w) : wpList P ops Q (o :: rest) a w :=
  wpList_plain hgd fun _ hK => wp_build_zero ty ho C hu he hz (hK _ _ h)

/-- an array's literal, its elements of one cell each -/
theorem fill_one : ∀ (ps : List (Nat × Value)) (L : List Value), (∀ p ∈ ps, p.1 < L.length ∧ p.2.cells = #[p.2]) →
    Instr.fill (fun i => some (i * 1, 1)) L.toArray ps = some ((ps.foldl (fun L p => L.set p.1 p.2) L).toArray)
  | [], L, _ => rfl
  | (i, v) :: ps, L, h => by
    obtain ⟨h1, h2⟩ := h (i, v) (by simp)
    simp only at h1 h2
    have := fill_one ps (L.set i v) (fun p hp => by rw [List.length_set]; exact h p (by simp [hp]))
    simp only [Instr.fill, h2, List.foldl_cons]
    rw [if_neg (by simp; omega)]
    simpa using this
theorem run_build_arr {ty e : TypeId} {n : Nat} (hu : P.underlying ty = some (.array n e)) (he : (P.info? e).map (·.size) = some 1) (C : List Value) (hz : (P.info? ty).map (·.zero) = some (some (.agg C.toArray)))
    (ps : List (Nat × Value)) (hp : ∀ p ∈ ps, p.1 < C.length ∧ p.2.cells = #[p.2]) (w : World) :
    (Instr.build ty ps.toArray).run P w = .ok (.agg (ps.foldl (fun L p => L.set p.1 p.2) C).toArray) w := by
  cases hq : P.info? ty with
  | none => simp [hq] at hz
  | some i =>
    have hz' : i.zero = some (.agg C.toArray) := by simpa [hq] using hz
    cases hr : P.info? e with
    | none => simp [hr] at he
    | some j =>
      have hj : j.size = 1 := by simpa [hr] using he
      have := fill_one ps C hp
      simp only [Nat.mul_one] at this
      simp [Instr.build, zeroValue, typeInfo, sizeOf, Sem.run_bind, run_underlying hu, hq, hz', hr, hj, Value.cells, this]
theorem wp_built (ty : TypeId) (ps : List (Nat × Operand)) (ho : o.op = .build ty ps.toArray) (V : Value) (hb : (Instr.build ty (ps.map fun p => (p.1, a.eval p.2)).toArray).run P w = .ok V w)
    (h : K (a.put o.dst V) w) : o.wp P a w K Q := by
  unfold Oper.wp execOp
  simp only [ho, List.map_toArray, Sem.run_bind, Sem.run_pure, Result.andThen_ok, hb]
  exact h
theorem wpList_built (hgd : o.guard = none) (ty : TypeId) (ps : List (Nat × Operand)) (ho : o.op = .build ty ps.toArray) (V : Value) (hb : (Instr.build ty (ps.map fun p => (p.1, a.eval p.2)).toArray).run P w = .ok V w)
    (h : wpList P ops Q rest (a.put o.dst V) w) : wpList P ops Q (o :: rest) a w :=
  wpList_plain hgd fun _ hK => wp_built ty ps ho V hb (hK _ _ h)

theorem wpList_built2 (hgd : o.guard = none) (ty : TypeId) (i j : Nat) (x y : Operand) (ho : o.op = .build ty #[(i, x), (j, y)]) (vx vy : Value) (hx : a.eval x = vx) (hy : a.eval y = vy) (V : Value) (hb : (Instr.build ty #[(i, vx), (j, vy)]).run P w = .ok V w)
    (h : wpList P ops Q rest (a.put o.dst V) w) : wpList P ops Q (o :: rest) a w :=
  wpList_built hgd ty [(i, x), (j, y)] ho V (by simp only [List.map_cons, List.map_nil, hx, hy]; exact hb) h

/-- copy(d[..], s): from a row of cells into a block -/
theorem wp_copy_row (s x : Operand) (dT sT elem : TypeId) (ho : o.op = .call { callee := .builtin .copy, args := #[s, x], argTypes := #[dT, sT] })
    (hu : P.underlying dT = some (.slice elem)) (he : (P.info? elem).map (·.size) = some 1)
    (g off dLen dCap : Nat) (hs : a.eval s = .slice (some ⟨g, off, none⟩) dLen dCap) {t : TypeId} {L : List Value} (hR : Row w g t L)
    (ad : Addr) (sLen sCap : Nat) (hx : a.eval x = .slice (some ad) sLen sCap) (cs : List Value) (hn : cs.length = Nat.min sLen dLen) (hsrc : ∀ j v, cs[j]? = some v → w.cell? (ad.add j) = some v)
    (hfit : off + cs.length ≤ L.length) (h1 : ∀ v ∈ cs, v.oneCell' = true)
    (h : K (a.put o.dst (.int .i64 (cs.length : Int))) (w.setRow g (L.take off ++ cs ++ L.drop (off + cs.length)).toArray)) : o.wp P a w K Q := by
  have hrun := run_copy_row (P := P) w dT sT o.type elem g off dLen dCap ad sLen sCap L.toArray t cs hu he hR hn hsrc (by simpa using hfit) h1
  unfold Oper.wp execOp
  simp only [ho, resolve, invoke, builtin, Sem.run_bind, Sem.run_pure, Result.andThen_ok, List.map_toArray, List.map_cons, List.map_nil, hs, hx, hrun]
  exact h
theorem step_copy_row {E : Prop} (hgd : o.guard = none) (s x : Operand) (dT sT elem : TypeId) (ho : o.op = .call { callee := .builtin .copy, args := #[s, x], argTypes := #[dT, sT] })
    (hu : P.underlying dT = some (.slice elem)) (he : (P.info? elem).map (·.size) = some 1)
    (g off dLen dCap : Nat) (hs : a.eval s = .slice (some ⟨g, off, none⟩) dLen dCap) {t : TypeId} {L : List Value} (hR : Row w g t L)
    (ad : Addr) (sLen sCap : Nat) (hx : a.eval x = .slice (some ad) sLen sCap) (cs : List Value) (hn : cs.length = Nat.min sLen dLen) (hsrc : ∀ j v, cs[j]? = some v → w.cell? (ad.add j) = some v)
    (hfit : off + cs.length ≤ L.length) (h1 : ∀ v ∈ cs, v.oneCell' = true)
    (h : K (a.put o.dst (.int .i64 (cs.length : Int))) (w.setRow g (L.take off ++ cs ++ L.drop (off + cs.length)).toArray)) :
    if Region.wanted o (yielded ops a.tmps) = true then Oper.wp P o a w K Q else E := by
  have hw : Region.wanted o (yielded ops a.tmps) = true := by simp [Region.wanted, hgd]
  rw [if_pos hw]
  exact wp_copy_row s x dT sT elem ho hu he g off dLen dCap hs hR ad sLen sCap hx cs hn hsrc hfit h1 h

/-- the one result is an array or a struct that lies in a block -/
theorem bodyPost_cell {fn : Func} {R : Ending → World → Prop} {p : Tmp} {ty : TypeId} (hres : fn.results = #[.cell p ty]) {g n : Nat} {t : TypeId} {L : List Value} {d : TypeDesc}
    (hp : a.tmps.getD p undef = .pointer (some ⟨g, 0, none⟩)) (hd : a.defers = []) (hR : Row w g t L) (hn : n = L.length) (hu : P.underlying ty = some d) (hdd : isAggDesc d = true) (hi : (P.info? ty).map (·.size) = some n)
    (h : R (.returned (.agg L.toArray)) w) : bodyPost P fn R .ret a w := by
  have hp' : a.tmps[p]?.getD undef = .pointer (some ⟨g, 0, none⟩) := by simpa using hp
  have hl := run_loadVar_part (P := P) (o := 0) hR (n := n) (by omega) hu hdd hi
  rw [List.drop_zero, hn, List.take_length] at hl
  exact ⟨hd, .agg L.toArray, by simp [results, hres, hp', asAddr, hl], h⟩
/-- two results: an aggregate that lies in a block, and a slot -/
theorem bodyPost_cell_tmp {fn : Func} {R : Ending → World → Prop} {p q : Tmp} {ty : TypeId} (hres : fn.results = #[.cell p ty, .tmp q]) {g n : Nat} {t : TypeId} {L : List Value} {d : TypeDesc} {v : Value}
    (hp : a.tmps.getD p undef = .pointer (some ⟨g, 0, none⟩)) (hq : a.tmps.getD q undef = v) (hd : a.defers = []) (hR : Row w g t L) (hn : n = L.length) (hu : P.underlying ty = some d) (hdd : isAggDesc d = true) (hi : (P.info? ty).map (·.size) = some n)
    (h : R (.returned (.tuple #[.agg L.toArray, v])) w) : bodyPost P fn R .ret a w := by
  have hp' : a.tmps[p]?.getD undef = .pointer (some ⟨g, 0, none⟩) := by simpa using hp
  have hq' : a.tmps[q]?.getD undef = v := by simpa using hq
  have hl := run_loadVar_part (P := P) (o := 0) hR (n := n) (by omega) hu hdd hi
  rw [List.drop_zero, hn, List.take_length] at hl
  exact ⟨hd, .tuple #[.agg L.toArray, v], by simp [results, hres, hp', hq', asAddr, hl], h⟩
end
end Go.PK
