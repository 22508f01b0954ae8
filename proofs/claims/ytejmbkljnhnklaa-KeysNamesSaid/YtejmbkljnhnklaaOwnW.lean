/-
  Steps of the walk over what a call owns ('Mem'): new blocks, loads, stores, copies, appends.
-/
import Derived.Test.YtejmbkljnhnklaaOwn
namespace Go.PK
open Go.RowKit

/-- a byte, a word of a row (names that the walk's simp does not open) -/
def gb (l : List UInt8) (i : Nat) : UInt8 := l.getD i 0
def gw (l : List UInt32) (i : Nat) : UInt32 := l.getD i 0
def aggB (P : Program) (ty : TypeId) (n : Nat) : Bool :=
  match P.underlying ty, P.info? ty with
  | some d, some i => isAggDesc d && i.size == n
  | _, _ => false
def oneB (P : Program) (ty : TypeId) : Bool :=
  match P.underlying ty, P.info? ty with
  | some d, some i => !isAggDesc d && i.size == 1
  | _, _ => false
section
variable {P : Program}
theorem aggB_parts {ty : TypeId} {n : Nat} (h : aggB P ty n = true) : ∃ d, P.underlying ty = some d ∧ isAggDesc d = true ∧ (P.info? ty).map (·.size) = some n := by
  unfold aggB at h
  split at h
  · rename_i d i hd hi
    simp at h
    exact ⟨d, hd, h.1, by simp [hi, h.2]⟩
  · cases h
theorem oneB_parts {ty : TypeId} (h : oneB P ty = true) : ∃ d, P.underlying ty = some d ∧ isAggDesc d = false ∧ (P.info? ty).map (·.size) = some 1 := by
  unfold oneB at h
  split at h
  · rename_i d i hd hi
    simp at h
    exact ⟨d, hd, h.1, by simp [hi, h.2]⟩
  · cases h

theorem run_load_one {ty : TypeId} {w : World} {a : Addr} {v : Value} (ht : oneB P ty = true) (hv : w.cell? a = some v) : (loadVar ty a).run P w = .ok v w := by
  obtain ⟨d, hu, hd, -⟩ := oneB_parts ht
  have hagg := run_isAgg (P := P) hu w
  rw [hd] at hagg
  simp [loadVar, Sem.run_bind, hagg, load, Sem.run, hv]

variable {G : List Nat} {w0 w : World} {L : List Blk}

theorem Mem.run_load (h : Mem G w0 w L) {ty g off n : Nat} {t : TypeId} {C : List Value} {N : Nat} (hb : ⟨some g, t, C, N⟩ ∈ L) (ht : aggB P ty n = true) (hn : off + n ≤ C.length) :
    (loadVar ty ⟨g, off, none⟩).run P w = .ok (.agg ((C.drop off).take n).toArray) w := by
  obtain ⟨J, hJ, -⟩ := h.holds _ hb
  obtain ⟨d, hu, hd, hs⟩ := aggB_parts ht
  have := run_loadVar_part (P := P) (L := C ++ J) hJ (o := off) (n := n) (by simp; omega) hu hd hs
  rw [this, List.drop_append_of_le_length (by omega), List.take_append_of_le_length (by simp; omega)]
theorem Mem.run_store (h : Mem G w0 w L) {ty g off : Nat} {t : TypeId} {C C1 : List Value} {N : Nat} {L' : List Blk} (hb : Has L ⟨some g, t, C, N⟩ ⟨some g, t, C.take off ++ C1 ++ C.drop (off + C1.length), N⟩ L') (ht : (P.info? ty).map (·.size) = some C1.length)
    (hn : off + C1.length ≤ C.length) (h1 : ∀ v ∈ C1, v.oneCell' = true) :
    ∃ w', (storeVar ty ⟨g, off, none⟩ (.agg C1.toArray)).run P w = .ok () w' ∧ Mem G w0 w' L' := by
  obtain ⟨J, hJ, hN⟩ := h.holds _ hb.mem
  have := run_storeVar_part (P := P) (L := C ++ J) (C := C1) hJ (o := off) (ty := ty) (by simp; omega) ht h1
  refine ⟨_, this, ?_⟩
  have he : List.take off (C ++ J) ++ C1 ++ List.drop (off + C1.length) (C ++ J) = (C.take off ++ C1 ++ C.drop (off + C1.length)) ++ J := by
    rw [List.take_append_of_le_length (by omega), List.drop_append_of_le_length (by omega)]
    simp
  rw [he]
  exact h.setRow hb hJ J (by simp at hN ⊢; omega)
theorem Mem.run_store_one (h : Mem G w0 w L) {ty g off : Nat} {t : TypeId} {C : List Value} {v : Value} {N : Nat} {L' : List Blk} (hb : Has L ⟨some g, t, C, N⟩ ⟨some g, t, C.set off v, N⟩ L') (ht : (P.info? ty).map (·.size) = some 1)
    (hn : off < C.length) (h1 : v.oneCell' = true) (h2 : v.cells = #[v]) :
    ∃ w', (storeVar ty ⟨g, off, none⟩ v).run P w = .ok () w' ∧ Mem G w0 w' L' := by
  obtain ⟨J, hJ, hN⟩ := h.holds _ hb.mem
  have := run_storeCells_at (P := P) g off t [v] 0 (C ++ J).toArray w hJ (by simp; omega) (by simpa using h1)
  refine ⟨_, ?_, h.setRow hb hJ J (by simp at hN ⊢; omega)⟩
  rw [storeVar]
  cases hq : P.info? ty with
  | none => simp [hq] at ht
  | some i =>
    have hs : i.size = 1 := by simpa [hq] using ht
    have he : (C ++ J).take off ++ [v] ++ (C ++ J).drop (off + 1) = C.set off v ++ J := by
      rw [List.take_append_of_le_length (by omega), List.drop_append_of_le_length (by omega), List.set_eq_take_append_cons_drop, if_pos hn]
      simp
    simp only [Nat.add_zero, List.length_singleton] at this
    rw [he] at this
    simpa [Sem.run_bind, sizeOf, typeInfo, hq, hs, h2] using this

theorem run_alloc_of {ty : TypeId} {z : Value} {C : List Value} (hz : (P.info? ty).map (·.zero) = some (some z)) (hC : z.cells = C.toArray) (w : World) :
    (Instr.alloc ty true (.tuple #[])).run P w = .ok (.pointer (some ⟨w.heap.size, 0, none⟩)) (w.alloc (.cells C.toArray ty)) := by
  cases hq : P.info? ty with
  | none => simp [hq] at hz
  | some i =>
    have hz' : i.zero = some z := by simpa [hq] using hz
    simp [Instr.alloc, zeroValue, typeInfo, hq, hz', newVar, newRow, hC]
theorem run_box_of {ty : TypeId} {v : Value} {C : List Value} (hC : v.cells = C.toArray) (w : World) :
    (Instr.box ty v).run P w = .ok (.pointer (some ⟨w.heap.size, 0, none⟩)) (w.alloc (.cells C.toArray ty)) := by
  simp [Instr.box, newVar, newRow, hC]

theorem Mem.setCell (h : Mem G w0 w L) {g off : Nat} {t : TypeId} {C : List Value} {v : Value} {N : Nat} {L' : List Blk} (hb : Has L ⟨some g, t, C, N⟩ ⟨some g, t, C.set off v, N⟩ L') (hn : off < C.length) : Mem G w0 (w.setCell ⟨g, off, none⟩ v) L' := by
  obtain ⟨J, hJ, hN⟩ := h.holds _ hb.mem
  refine h.wrote hb ⟨rfl, rfl, rfl, by simp, fun k _ hk => heap_setCell_other w ⟨g, off, none⟩ k v (fun he => hk (by simp [he]))⟩ ⟨J, ?_, ?_⟩
  · have := heap_setCell_same w g off _ _ v hJ
    rw [this, List.setIfInBounds_toArray, List.set_append_left _ _ hn]
  · simp only [List.length_set]
    exact hN
theorem Mem.setB8 (h : Mem G w0 w L) {g off : Nat} {t : TypeId} {l : List UInt8} {x : UInt8} {N : Nat} {L' : List Blk} (hb : Has L ⟨some g, t, l.map B8, N⟩ ⟨some g, t, (l.set off x).map B8, N⟩ L') (hn : off < l.length) : Mem G w0 (w.setCell ⟨g, off, none⟩ (B8 x)) L' :=
  h.setCell (C := l.map B8) (by rw [List.map_set] at hb; exact hb) (by simpa using hn)
variable {ops : Array Oper} {rest : List Oper} {a : Act} {Q : Exit → Act → World → Prop} {K : Act → World → Prop} {o : Oper}

theorem one_of_all {C : List Value} (h : C.all (·.oneCell') = true) : ∀ v ∈ C, v.oneCell' = true := fun v hv => List.all_eq_true.1 h v hv
/-- a type's zero value, as cells -/
def Zr (P : Program) (ty : TypeId) (C : List Value) (n : Nat) : Prop := ∃ z, (P.info? ty).map (·.zero) = some (some z) ∧ z.cells = C.toArray ∧ C.length = n
/-- an element's size, in cells and in bytes -/
def El (P : Program) (e : TypeId) (size bytes : Nat) : Prop := ∃ z, (P.info? e).map (fun i => (i.zero, i.size, i.bytes)) = some (some z, size, bytes) ∧ z.cells.size = size ∧ 0 < size
/-! at one operation -/
theorem Mem.wp_alloc (hM : Mem G w0 w L) {ty : TypeId} {C : List Value} {n : Nat} (ho : o.op = .alloc ty) (hz : Zr P ty C n)
    (h : ∀ g w', Mem G w0 w' (⟨some g, ty, C, n⟩ :: L) → Touch [] w w' → K (a.put o.dst (.pointer (some ⟨g, 0, none⟩))) w') : o.wp P a w K Q := by
  unfold Oper.wp execOp
  obtain ⟨z, hz, hC, rfl⟩ := hz
  simp only [ho, Sem.run_bind, Sem.run_pure, Result.andThen_ok, run_alloc_of hz hC]
  exact h _ _ (hM.alloc C ty) (Touch.of_below ((Below.refl _ _).alloc (Nat.le_refl _) _))
theorem Mem.wp_box (hM : Mem G w0 w L) {ty : TypeId} {x : Operand} {v : Value} {C : List Value} {n : Nat} (ho : o.op = .box ty x) (hx : a.eval x = v) (hC : v.cells = C.toArray) (hn : Len C n)
    (h : ∀ g w', Mem G w0 w' (⟨some g, ty, C, n⟩ :: L) → Touch [] w w' → K (a.put o.dst (.pointer (some ⟨g, 0, none⟩))) w') : o.wp P a w K Q := by
  unfold Oper.wp execOp
  simp only [ho, hx, Sem.run_bind, Sem.run_pure, Result.andThen_ok, run_box_of hC]
  obtain rfl := hn.eq
  exact h _ _ (hM.alloc C ty) (Touch.of_below ((Below.refl _ _).alloc (Nat.le_refl _) _))
theorem Mem.wp_load (hM : Mem G w0 w L) {ty : TypeId} {x : Operand} {g off n : Nat} {t : TypeId} {C : List Value} {N : Nat} (ho : o.op = .load ty x) (hx : a.eval x = .pointer (some ⟨g, off, none⟩)) (hb : ⟨some g, t, C, N⟩ ∈ L) (ht : aggB P ty n = true) (hn : off + n ≤ C.length)
    (h : K (a.put o.dst (.agg ((C.drop off).take n).toArray)) w) : o.wp P a w K Q := by
  unfold Oper.wp execOp
  simp only [ho, hx, Instr.loadAt, Instr.sureAddr, Sem.run_bind, Sem.run_pure, Result.andThen_ok, hM.run_load hb ht hn]
  exact h
theorem Mem.wp_load_all (hM : Mem G w0 w L) {ty : TypeId} {x : Operand} {g : Nat} {t : TypeId} {C : List Value} {N : Nat} (ho : o.op = .load ty x) (hx : a.eval x = .pointer (some ⟨g, 0, none⟩)) (hb : ⟨some g, t, C, N⟩ ∈ L) (ht : aggB P ty N = true) (hn : Len C N)
    (h : K (a.put o.dst (.agg C.toArray)) w) : o.wp P a w K Q := by
  refine hM.wp_load ho hx hb ht (by have := hn.eq; omega) ?_
  rw [List.drop_zero, List.take_of_length_le (by have := hn.eq; omega)]
  exact h
theorem Mem.wp_load_one (hM : Mem G w0 w L) {ty : TypeId} {x : Operand} {g off : Nat} {t : TypeId} {C : List Value} {N : Nat} {v : Value} (ho : o.op = .load ty x) (hx : a.eval x = .pointer (some ⟨g, off, none⟩)) (hb : ⟨some g, t, C, N⟩ ∈ L) (ht : oneB P ty = true) (hv : C[off]? = some v)
    (h : K (a.put o.dst v) w) : o.wp P a w K Q := by
  unfold Oper.wp execOp
  simp only [ho, hx, Instr.loadAt, Instr.sureAddr, Sem.run_bind, Sem.run_pure, Result.andThen_ok, run_load_one ht (hM.cell hb hv)]
  exact h
theorem wp_load_cell {ty : TypeId} {x : Operand} {ad : Addr} {v : Value} {w : World} (ho : o.op = .load ty x) (hx : a.eval x = .pointer (some ad)) (hv : w.cell? ad = some v) (ht : oneB P ty = true)
    (h : K (a.put o.dst v) w) : o.wp P a w K Q := by
  unfold Oper.wp execOp
  simp only [ho, hx, Instr.loadAt, Instr.sureAddr, Sem.run_bind, Sem.run_pure, Result.andThen_ok, run_load_one ht hv]
  exact h
theorem Mem.wp_store (hM : Mem G w0 w L) {ty : TypeId} {x y : Operand} {g off : Nat} {t : TypeId} {C C1 : List Value} {N : Nat} {L' : List Blk} (ho : o.op = .store ty x y) (hx : a.eval x = .pointer (some ⟨g, off, none⟩)) (hy : a.eval y = .agg C1.toArray)
    (hb : Has L ⟨some g, t, C, N⟩ ⟨some g, t, C.take off ++ C1 ++ C.drop (off + C1.length), N⟩ L') (ht : (P.info? ty).map (·.size) = some C1.length) (hn : off + C1.length ≤ C.length) (h1 : ∀ v ∈ C1, v.oneCell' = true)
    (h : ∀ w', Mem G w0 w' L' → K (a.put o.dst undef) w') : o.wp P a w K Q := by
  obtain ⟨w', hr, hM'⟩ := hM.run_store (ty := ty) hb ht hn h1
  unfold Oper.wp execOp
  simp only [ho, hx, hy, Instr.storeAt, Instr.sureAddr, Sem.run_bind, Sem.run_pure, Result.andThen_ok, hr]
  exact h _ hM'
theorem Mem.wp_store_all (hM : Mem G w0 w L) {ty : TypeId} {x y : Operand} {g : Nat} {t : TypeId} {C C1 : List Value} {N : Nat} {L' : List Blk} (ho : o.op = .store ty x y) (hx : a.eval x = .pointer (some ⟨g, 0, none⟩)) (hy : a.eval y = .agg C1.toArray)
    (hb : Has L ⟨some g, t, C, N⟩ ⟨some g, t, C1, N⟩ L') (ht : aggB P ty N = true) (hn1 : Len C1 N) (hn : Len C N) (h1 : ∀ v ∈ C1, v.oneCell' = true)
    (h : ∀ w', Mem G w0 w' L' → K (a.put o.dst undef) w') : o.wp P a w K Q := by
  have e1 := hn1.eq
  have e2 := hn.eq
  obtain ⟨d, -, -, hs⟩ := aggB_parts ht
  have hb' : Has L ⟨some g, t, C, N⟩ ⟨some g, t, C.take 0 ++ C1 ++ C.drop (0 + C1.length), N⟩ L' := by
    rw [List.take_zero, List.nil_append, List.drop_of_length_le (by omega), List.append_nil]
    exact hb
  exact hM.wp_store ho hx hy hb' (by rw [e1]; exact hs) (by omega) h1 h
theorem Mem.wp_store_one (hM : Mem G w0 w L) {ty : TypeId} {x y : Operand} {g off : Nat} {t : TypeId} {C : List Value} {v : Value} {N : Nat} {L' : List Blk} (ho : o.op = .store ty x y) (hx : a.eval x = .pointer (some ⟨g, off, none⟩)) (hy : a.eval y = v)
    (hb : Has L ⟨some g, t, C, N⟩ ⟨some g, t, C.set off v, N⟩ L') (ht : oneB P ty = true) (hn : off < C.length) (h1 : v.oneCell' = true) (h2 : v.cells = #[v])
    (h : ∀ w', Mem G w0 w' L' → K (a.put o.dst undef) w') : o.wp P a w K Q := by
  obtain ⟨d, -, -, hs⟩ := oneB_parts ht
  obtain ⟨w', hr, hM'⟩ := hM.run_store_one (ty := ty) hb hs hn h1 h2
  unfold Oper.wp execOp
  simp only [ho, hx, hy, Instr.storeAt, Instr.sureAddr, Sem.run_bind, Sem.run_pure, Result.andThen_ok, hr]
  exact h _ hM'
/-- a store of one cell into a row of typed cells -/
theorem Has.map_set {α : Type} {f : α → Value} {L L' : List Blk} {g : Option Nat} {t : TypeId} {l : List α} {off : Nat} {x : α} {N : Nat} (h : Has L ⟨g, t, l.map f, N⟩ ⟨g, t, (l.set off x).map f, N⟩ L') : Has L ⟨g, t, l.map f, N⟩ ⟨g, t, (l.map f).set off (f x), N⟩ L' := by
  rw [List.map_set] at h
  exact h
theorem Mem.wp_store_B8 (hM : Mem G w0 w L) {ty : TypeId} {x y : Operand} {g off : Nat} {t : TypeId} {l : List UInt8} {c : UInt8} {N : Nat} {L' : List Blk} (ho : o.op = .store ty x y) (hx : a.eval x = .pointer (some ⟨g, off, none⟩)) (hy : a.eval y = B8 c)
    (hb : Has L ⟨some g, t, l.map B8, N⟩ ⟨some g, t, (l.set off c).map B8, N⟩ L') (ht : oneB P ty = true) (hn : off < l.length)
    (h : ∀ w', Mem G w0 w' L' → K (a.put o.dst undef) w') : o.wp P a w K Q :=
  hM.wp_store_one ho hx hy hb.map_set ht (by simpa using hn) rfl rfl h
theorem Mem.wp_store_B8c (hM : Mem G w0 w L) {ty : TypeId} {x y : Operand} {g off : Nat} {t : TypeId} {l : List UInt8} {c : UInt8} {v : Value} {N : Nat} {L' : List Blk} (ho : o.op = .store ty x y) (hx : a.eval x = .pointer (some ⟨g, off, none⟩)) (hy : a.eval y = v) (hv : v = B8 c)
    (hb : Has L ⟨some g, t, l.map B8, N⟩ ⟨some g, t, (l.set off c).map B8, N⟩ L') (ht : oneB P ty = true) (hn : off < l.length)
    (h : ∀ w', Mem G w0 w' L' → K (a.put o.dst undef) w') : o.wp P a w K Q :=
  hM.wp_store_one ho hx (hy.trans hv) hb.map_set ht (by simpa using hn) rfl rfl h
theorem Mem.wp_store_W32 (hM : Mem G w0 w L) {ty : TypeId} {x y : Operand} {g off : Nat} {t : TypeId} {l : List UInt32} {c : UInt32} {N : Nat} {L' : List Blk} (ho : o.op = .store ty x y) (hx : a.eval x = .pointer (some ⟨g, off, none⟩)) (hy : a.eval y = W32 c)
    (hb : Has L ⟨some g, t, l.map W32, N⟩ ⟨some g, t, (l.set off c).map W32, N⟩ L') (ht : oneB P ty = true) (hn : off < l.length)
    (h : ∀ w', Mem G w0 w' L' → K (a.put o.dst undef) w') : o.wp P a w K Q :=
  hM.wp_store_one ho hx hy hb.map_set ht (by simpa using hn) rfl rfl h
theorem get_map {α : Type} {f : α → Value} {l : List α} {j : Nat} (d : α) (hj : j < l.length) : (l.map f)[j]? = some (f (l.getD j d)) := by
  rw [List.getElem?_map, List.getElem?_eq_getElem hj, List.getD_eq_getElem?_getD, List.getElem?_eq_getElem hj]
  rfl
theorem Mem.wp_load_B8 (hM : Mem G w0 w L) {ty : TypeId} {x : Operand} {g off : Nat} {t : TypeId} {l : List UInt8} {N : Nat} (ho : o.op = .load ty x) (hx : a.eval x = .pointer (some ⟨g, off, none⟩)) (hb : ⟨some g, t, l.map B8, N⟩ ∈ L) (ht : oneB P ty = true) (hj : off < l.length)
    (h : K (a.put o.dst (B8 (gb l off))) w) : o.wp P a w K Q := hM.wp_load_one ho hx hb ht (get_map 0 hj) h
theorem Mem.wp_load_W32 (hM : Mem G w0 w L) {ty : TypeId} {x : Operand} {g off : Nat} {t : TypeId} {l : List UInt32} {N : Nat} (ho : o.op = .load ty x) (hx : a.eval x = .pointer (some ⟨g, off, none⟩)) (hb : ⟨some g, t, l.map W32, N⟩ ∈ L) (ht : oneB P ty = true) (hj : off < l.length)
    (h : K (a.put o.dst (W32 (gw l off))) w) : o.wp P a w K Q := hM.wp_load_one ho hx hb ht (get_map 0 hj) h

theorem wp_build0 {ty : TypeId} {C : List Value} {n m : Nat} {e : TypeId} (ho : o.op = .build ty #[]) (hz : Zr P ty C n) (hu : P.underlying ty = some (.array m e)) (hg : aggB P ty n = true) {es eb : Nat} (he : El P e es eb)
    (h : K (a.put o.dst (.agg C.toArray)) w) : o.wp P a w K Q := by
  obtain ⟨z, hz1, hz2, rfl⟩ := hz
  obtain ⟨z', he1, -, -⟩ := he
  cases hq : P.info? ty with
  | none => simp [hq] at hz1
  | some i =>
    have hz' : i.zero = some z := by simpa [hq] using hz1
    cases hr : P.info? e with
    | none => simp [hr] at he1
    | some j =>
      have hrun : (Instr.build ty #[]).run P w = .ok (.agg C.toArray) w := by
        simp [Instr.build, Instr.fill, zeroValue, typeInfo, sizeOf, Sem.run_bind, run_underlying hu, hq, hz', hr, hz2]
      unfold Oper.wp execOp
      simp only [ho, List.map_toArray, List.map_nil, Sem.run_bind, Sem.run_pure, Result.andThen_ok, hrun]
      exact h
/-- copy(d[off:..], s): the destination is owned -/
theorem Mem.wp_copy (hM : Mem G w0 w L) {s x : Operand} {dT sT elem : TypeId} (ho : o.op = .call { callee := .builtin .copy, args := #[s, x], argTypes := #[dT, sT] })
    (hu : P.underlying dT = some (.slice elem)) (he : (P.info? elem).map (·.size) = some 1)
    {g off dLen dCap : Nat} (hs : a.eval s = .slice (some ⟨g, off, none⟩) dLen dCap) {t : TypeId} {C : List Value} {N : Nat} {L' : List Blk}
    {ad : Addr} {sLen sCap : Nat} (hx : a.eval x = .slice (some ad) sLen sCap) (cs : List Value) (hn : cs.length = Nat.min sLen dLen) (hsrc : ∀ j v, cs[j]? = some v → w.cell? (ad.add j) = some v)
    (hb : Has L ⟨some g, t, C, N⟩ ⟨some g, t, C.take off ++ cs ++ C.drop (off + cs.length), N⟩ L') (hfit : off + cs.length ≤ C.length) (h1 : ∀ v ∈ cs, v.oneCell' = true)
    (h : ∀ w', Mem G w0 w' L' → K (a.put o.dst (.int .i64 (cs.length : Int))) w') : o.wp P a w K Q := by
  obtain ⟨J, hJ, hN⟩ := hM.holds _ hb.mem
  refine Go.PK.wp_copy_row (L := C ++ J) s x dT sT elem ho hu he g off dLen dCap hs hJ ad sLen sCap hx cs hn hsrc (by simp; omega) h1 ?_
  have he : List.take off (C ++ J) ++ cs ++ List.drop (off + cs.length) (C ++ J) = (C.take off ++ cs ++ C.drop (off + cs.length)) ++ J := by
    rw [List.take_append_of_le_length (by omega), List.drop_append_of_le_length (by omega)]
    simp
  rw [he]
  exact h _ (hM.setRow hb hJ J (by simp at hN ⊢; omega))

/-- the same, but for one entry, whose block may be another one now -/
inductive Swap : List Blk → Blk → Blk → List Blk → Prop
  | here (b b' : Blk) (L : List Blk) : Swap (b :: L) b b' (b' :: L)
  | there {L L' : List Blk} {b b' : Blk} (x : Blk) (h : Swap L b b' L') : Swap (x :: L) b b' (x :: L')
theorem Swap.mem {L L' : List Blk} {b b' : Blk} (h : Swap L b b' L') : b ∈ L := by
  induction h with
  | here => simp
  | there _ _ ih => simp [ih]
theorem Swap.mem' {L L' : List Blk} {b b' : Blk} (h : Swap L b b' L') : ∀ x ∈ L', x = b' ∨ x ∈ L := by
  induction h with
  | here b b' L => intro x hx; simp at hx; rcases hx with h | h; exact .inl h; exact .inr (by simp [h])
  | there y _ ih => intro x hx; simp at hx; rcases hx with h | h; exact .inr (by simp [h]); rcases ih x h with h | h; exact .inl h; exact .inr (by simp [h])
theorem Swap.other {L L' : List Blk} {b b' : Blk} (h : Swap L b b' L') (hn : (L.filterMap (·.id)).Nodup) : ∀ x ∈ L', x = b' ∨ (x ∈ L ∧ ∀ g, b.id = some g → x.id ≠ some g) := by
  induction h with
  | here b b' L =>
    intro x hx
    simp at hx
    rcases hx with h | h
    · exact .inl h
    · refine .inr ⟨by simp [h], fun g hb he => ?_⟩
      simp only [List.filterMap_cons, hb, List.nodup_cons] at hn
      exact hn.1 (mem_ids.2 ⟨x, h, he⟩)
  | there y hh ih =>
    intro x hx
    simp at hx
    rcases hx with h | h
    · subst h
      refine .inr ⟨by simp, fun g hb he => ?_⟩
      simp only [List.filterMap_cons, he, List.nodup_cons] at hn
      exact hn.1 (mem_ids.2 ⟨_, hh.mem, hb⟩)
    · rcases ih (by
        simp only [List.filterMap_cons] at hn
        split at hn
        · exact hn
        · exact (List.nodup_cons.1 hn).2) x h with h | ⟨h1, h2⟩
      · exact .inl h
      · exact .inr ⟨by simp [h1], h2⟩
theorem Swap.nodup {L L' : List Blk} {b b' : Blk} (h : Swap L b b' L') (hn : (L.filterMap (·.id)).Nodup) (hb : ∀ g, b'.id = some g → b.id = some g ∨ ∀ x ∈ L, x.id ≠ some g) : (L'.filterMap (·.id)).Nodup := by
  induction h with
  | here b b' L =>
    have hL : (L.filterMap (·.id)).Nodup := by
      simp only [List.filterMap_cons] at hn
      split at hn
      · exact hn
      · exact (List.nodup_cons.1 hn).2
    simp only [List.filterMap_cons]
    cases he : b'.id with
    | none => exact hL
    | some g =>
      refine List.nodup_cons.2 ⟨fun hm => ?_, hL⟩
      obtain ⟨x, hx, hxe⟩ := mem_ids.1 hm
      rcases hb g he with h1 | h1
      · simp only [List.filterMap_cons, h1, List.nodup_cons] at hn
        exact hn.1 hm
      · exact h1 x (by simp [hx]) hxe
  | @there L L' b b' y hh ih =>
    have hL : (L.filterMap (·.id)).Nodup := by
      simp only [List.filterMap_cons] at hn
      split at hn
      · exact hn
      · exact (List.nodup_cons.1 hn).2
    have ih' := ih hL (fun g hg => (hb g hg).imp id fun h x hx => h x (by simp [hx]))
    simp only [List.filterMap_cons]
    cases he : y.id with
    | none => exact ih'
    | some k =>
      refine List.nodup_cons.2 ⟨fun hm => ?_, ih'⟩
      obtain ⟨x, hx, hxe⟩ := mem_ids.1 hm
      rcases hh.mem' x hx with rfl | h1
      · rcases hb k hxe with h2 | h2
        · simp only [List.filterMap_cons, he, List.nodup_cons] at hn
          exact hn.1 (mem_ids.2 ⟨_, hh.mem, h2⟩)
        · exact h2 y (by simp) he
      · simp only [List.filterMap_cons, he, List.nodup_cons] at hn
        exact hn.1 (mem_ids.2 ⟨x, h1, hxe⟩)

/-- a slice at the begin of its block -/
abbrev sl (ob : Option Nat) (n cap : Nat) : Value := .slice (ob.map fun g => ⟨g, 0, none⟩) n cap

@[go_sem high] theorem sl_some (g n cap : Nat) : sl (some g) n cap = .slice (some ⟨g, 0, none⟩) n cap := rfl
theorem Mem.owns (hM : Mem G w0 w L) {ob : Option Nat} {e : TypeId} {C : List Value} {N n cap size : Nat} (hb : ⟨ob, e, C, N⟩ ∈ L) (hN : N = cap * size) (hC : C.length = n * size) (hsz : 0 < size) (hcap : cap ≤ maxLen) (base : Nat) (hbase : ∀ g, ob = some g → base ≤ g) :
    w.ownsRow base e size (sl ob n cap) n C := by
  refine ⟨hC, ?_⟩
  have hh := hM.holds _ hb
  cases ob with
  | none =>
    obtain ⟨h1, h2⟩ := hh
    simp only at h1 h2
    subst h1
    have hn : n = 0 := by
      rcases Nat.mul_eq_zero.1 (show n * size = 0 by simpa using hC.symm) with h | h <;> omega
    have hc : cap = 0 := by
      rw [hN] at h2
      rcases Nat.mul_eq_zero.1 h2 with h | h <;> omega
    subst hn
    subst hc
    exact .inl ⟨rfl, rfl⟩
  | some g =>
    obtain ⟨J, hJ, hJN⟩ := hh
    simp only at hJN
    refine .inr ⟨g, cap, (C ++ J).toArray, rfl, hbase g rfl, hJ, ?_, hcap, by simp; omega, ?_⟩
    · have : n * size ≤ cap * size := by omega
      exact Nat.le_of_mul_le_mul_right this hsz
    · rw [← hC]
      simp

/-- what a slice gives to be appended: m elements, these cells -/
def Src (w : World) (u : Value) (m : Nat) (news : List Value) : Prop :=
  (∃ ad c, u = .slice (some ad) m c ∧ (∀ j u, news[j]? = some u → w.cell? (ad.add j) = some u)) ∨ (u = .slice none 0 0 ∧ m = 0 ∧ news = [])
theorem Bytes.src {w : World} {u : Value} {l : List UInt8} (h : Bytes w u l) : Src w u l.length (l.map B8) := by
  obtain ⟨ao, cap, rfl, e1, e2, e3, e4⟩ := h
  cases ao with
  | none =>
    have hc := e3 rfl
    have hl : l = [] := List.eq_nil_of_length_eq_zero (by omega)
    subst hl
    subst hc
    exact .inr ⟨rfl, rfl, rfl⟩
  | some ad =>
    refine .inl ⟨ad, cap, rfl, fun j u hu => ?_⟩
    have hj : j < l.length := by simpa using (List.getElem?_eq_some_iff.1 hu).1
    obtain ⟨b, off, he, -, g3⟩ := e4 j hj
    cases he
    rw [Addr.add_lit, g3, ← hu, get_map 0 hj]

/-- append(s, x..) to a slice that is owned -/
theorem Mem.wp_append (hM : Mem G w0 w L) {s x : Operand} {t : TypeId} {ob : Option Nat} {e : TypeId} {C : List Value} {N n cap size bytes : Nat} {L' : Option Nat → Nat → List Blk} (ho : o.op = .call { callee := .builtin .append, args := #[s, x], argTypes := #[t, t] })
    (hs : a.eval s = sl ob n cap) (ht : P.underlying t = some (.slice e)) (hel : El P e size bytes)
    {news : List Value} (hb : ∀ ob' cap', Swap L ⟨ob, e, C, N⟩ ⟨ob', e, C ++ news, cap' * size⟩ (L' ob' cap')) (hN : N = cap * size) (hC : C.length = n * size) (hcap : cap ≤ maxLen)
    {u : Value} {m : Nat} (hx : a.eval x = u) (hsrc : Src w u m news) (hl : news.length = m * size) (h1 : ∀ u ∈ news, u.oneCell' = true)
    (h63 : n + m ≤ maxLen) (hbytes : (n + m) * bytes ≤ 140737488355328)
    (h : ∀ ob' cap' w', Mem G w0 w' (L' ob' cap') → n + m ≤ cap' → cap' ≤ maxLen → K (a.put o.dst (sl ob' (n + m) cap')) w') :
    o.wp P a w K Q := by
  obtain ⟨z, hinfo, hzs, hsz⟩ := hel
  obtain ⟨i, hi, hz, hsize, hby⟩ := info_parts hinfo
  have hmem := (hb none 0).mem
  obtain ⟨base, hb1, hb2⟩ : ∃ base, base ≤ w.heap.size ∧ ∀ g, ob = some g → base ≤ g ∧ g = base := by
    cases ob with
    | none => exact ⟨w.heap.size, Nat.le_refl _, by simp⟩
    | some g => exact ⟨g, Nat.le_of_lt ((hM.holds _ hmem).lt rfl), fun g' hg' => by cases hg'; exact ⟨Nat.le_refl _, rfl⟩⟩
  have hown := hM.owns hmem hN hC hsz hcap base (fun g hg => (hb2 g hg).1)
  have hrow : ∀ k, (sl ob n cap).ownBlock = some k → ob = some k := by
    intro k hk
    cases ob with
    | none => simp [sl, Value.ownBlock] at hk
    | some g => simpa [sl, Value.ownBlock] using hk
  have fin : ∀ (ob' : Option Nat) (cap' : Nat) (w' : World), w.grownBy w' (sl ob n cap).ownBlock → (Blk.mk ob' e (C ++ news) (cap' * size)).holds w' → (∀ g, ob' = some g → ob = some g ∨ g = w.heap.size) → Mem G w0 w' (L' ob' cap') := by
    intro ob' cap' w' hg hh hlies
    have hsw := hb ob' cap'
    refine ⟨hM.touch.step (H := (ob.toList)) ⟨hg.os, hg.tape, hg.output, hg.size, fun k hk hno => hg.block k hk fun he => hno (by rw [hrow k he.symm]; simp)⟩ ?_, fun b hb' => ?_, fun b hb' => ?_, ?_⟩
    · intro k hk
      have hk' : ob = some k := by cases ob <;> simp_all
      exact hM.own _ hmem k hk'
    · rcases hsw.other hM.nodup b hb' with rfl | ⟨h1, h2⟩
      · exact hh
      · refine (hM.holds b h1).of_block fun k hk => hg.block k ((hM.holds b h1).lt hk) fun he => ?_
        exact h2 k (hrow k he.symm) hk
    · rcases hsw.mem' b hb' with rfl | h1
      · intro g hg'
        rcases hlies g hg' with h1 | h1
        · exact hM.own _ hmem g h1
        · exact .inr (by rw [h1]; exact hM.touch.size)
      · exact hM.own b h1
    · refine hsw.nodup hM.nodup fun g hg' => ?_
      rcases hlies g hg' with h1 | h1
      · exact .inl h1
      · exact .inr fun y hy he => by have := (hM.holds y hy).lt he; omega
  have hrun : ∃ v' w', (Builtin.append_ #[t, t] o.type #[sl ob n cap, u]).run P w = .ok v' w' ∧ w'.ownsRow base e size v' (n + m) (C ++ news) ∧ w.grownBy w' (sl ob n cap).ownBlock ∧ (v'.ownBlock = (sl ob n cap).ownBlock ∨ v'.ownBlock = some w.heap.size) := by
    rcases hsrc with ⟨ad, c, rfl, hnews⟩ | ⟨rfl, rfl, rfl⟩
    · obtain ⟨v', w', r1, r2, r3, -, r4⟩ := run_append_own_at (P := P) w base t o.type e i z size bytes ht hi hz hsize hby hzs hsz (sl ob n cap) n C hown ad m c news hl hnews h1 h63 hbytes hb1
      exact ⟨v', w', r1, r2, r3, r4⟩
    · refine ⟨_, w, run_append_owned_none (P := P) w base t o.type e i size ht hi (sl ob n cap) n C hown, by simpa using hown, World.grownBy.refl _ _, .inl rfl⟩
  obtain ⟨v', w', hr, hown2, hg, hlies⟩ := hrun
  unfold Oper.wp execOp
  simp only [ho, resolve, invoke, builtin, Sem.run_bind, Sem.run_pure, Result.andThen_ok, List.map_toArray, List.map_cons, List.map_nil, hs, hx, hr]
  rcases hown2.2 with ⟨rfl, h0⟩ | ⟨g, cap', cur, rfl, hbg, hcell, hc1, hc2, hc3, hc4⟩
  · have hCn : C ++ news = [] := List.eq_nil_of_length_eq_zero (by rw [hown2.1, h0, Nat.zero_mul])
    have := h none 0 w' (fin none 0 w' hg ⟨hCn, by simp⟩ (by simp)) (by omega) (by simp [maxLen])
    rw [h0] at this
    exact this
  · refine h (some g) cap' w' (fin (some g) cap' w' hg ⟨cur.toList.drop ((n + m) * size), ?_, ?_⟩ ?_) hc1 hc2
    · rw [hcell, ← hc4, List.take_append_drop]
    · simp only [List.length_append, hC, hl, List.length_drop, Array.length_toList, hc3]
      have : (n + m) * size ≤ cap' * size := Nat.mul_le_mul_right _ hc1
      rw [Nat.add_mul] at this ⊢
      omega
    · intro k hk
      cases hk
      rcases hlies with h1 | h1
      · left
        exact hrow g (by rw [← h1]; rfl)
      · right
        simpa [Value.ownBlock] using h1
/-! where no rule fits, the walk stops and shows the operation -/
def Stop (p : Prop) : Prop := p
theorem Stop.mk {p : Prop} (h : Stop p) : p := h
def isAppend : Op → Bool
  | .call { callee := .builtin .append, .. } => true
  | _ => false
def isBuildSlice : Op → Bool
  | .buildSlice .. => true
  | _ => false
def isLoad : Op → Bool
  | .load .. => true
  | _ => false
def isStore : Op → Bool
  | .store .. => true
  | _ => false
def isNew : Op → Bool
  | .alloc _ | .box .. => true
  | _ => false
def isBuild0 : Op → Bool
  | .build _ ps => ps.isEmpty
  | _ => false
variable {ops : Array Oper} {rest : List Oper}
theorem wpList_load (hg : o.guard = none) (_ho : isLoad o.op = true) (h : ∀ K : Act → World → Prop, (∀ a w, wpList P ops Q rest a w → K a w) → o.wp P a w K Q) : wpList P ops Q (o :: rest) a w := wpList_plain hg h
theorem wpList_store (hg : o.guard = none) (_ho : isStore o.op = true) (h : ∀ K : Act → World → Prop, (∀ a w, wpList P ops Q rest a w → K a w) → o.wp P a w K Q) : wpList P ops Q (o :: rest) a w := wpList_plain hg h
theorem wpList_new (hg : o.guard = none) (_ho : isNew o.op = true) (h : ∀ K : Act → World → Prop, (∀ a w, wpList P ops Q rest a w → K a w) → o.wp P a w K Q) : wpList P ops Q (o :: rest) a w := wpList_plain hg h
theorem wpList_build0 (hg : o.guard = none) (_ho : isBuild0 o.op = true) (h : ∀ K : Act → World → Prop, (∀ a w, wpList P ops Q rest a w → K a w) → o.wp P a w K Q) : wpList P ops Q (o :: rest) a w := wpList_plain hg h

theorem wpList_app (hg : o.guard = none) (_ho : isAppend o.op = true) (h : ∀ K : Act → World → Prop, (∀ a w, wpList P ops Q rest a w → K a w) → o.wp P a w K Q) : wpList P ops Q (o :: rest) a w := wpList_plain hg h
theorem wpList_bs (hg : o.guard = none) (_ho : isBuildSlice o.op = true) (h : ∀ K : Act → World → Prop, (∀ a w, wpList P ops Q rest a w → K a w) → o.wp P a w K Q) : wpList P ops Q (o :: rest) a w := wpList_plain hg h

theorem Mem.some_of (hM : Mem G w0 w L) {ob : Option Nat} {e : TypeId} {C : List Value} {N n : Nat} (hb : ⟨ob, e, C, N⟩ ∈ L) (hn : Len C n) (h0 : 0 < n) : ∃ g, ob = some g := by
  have hh := hM.holds _ hb
  cases ob with
  | none =>
    have h1 : C = [] := hh.1
    rw [h1] at hn
    have : 0 = n := hn
    omega
  | some g => exact ⟨g, rfl⟩
theorem Mem.addNil (hM : Mem G w0 w L) (e : TypeId) : Mem G w0 w (⟨none, e, [], 0⟩ :: L) :=
  ⟨hM.touch, fun b hb => by
    simp at hb
    rcases hb with rfl | hb
    · exact ⟨rfl, rfl⟩
    · exact hM.holds b hb, fun b hb => by
    simp at hb
    rcases hb with rfl | hb
    · intro g hg; cases hg
    · exact hM.own b hb, by simpa [List.filterMap_cons] using hM.nodup⟩
theorem cells_of_int (k : IntKind) (n : Int) : (Value.int k n).cells = #[.int k n] := rfl
theorem cells_of_string (s : ByteArray) : (Value.string s).cells = #[.string s] := rfl
theorem cells_of_slice (p : Option Addr) (n c : Nat) : (Value.slice p n c).cells = #[.slice p n c] := rfl
theorem cells_of_pointer (p : Option Addr) : (Value.pointer p).cells = #[.pointer p] := rfl
theorem cells_of_bool (b : Bool) : (Value.bool b).cells = #[.bool b] := rfl
theorem cells_of_agg (cs : Array Value) : (Value.agg cs).cells = cs := rfl
theorem bmap1 (x : UInt8) : [B8 x] = [x].map B8 := rfl
theorem bmap2 (x : UInt8) (l : List UInt8) : B8 x :: l.map B8 = (x :: l).map B8 := rfl
theorem zipIdx_of : ∀ (l : List (Nat × Value)) (k : Nat), l.map (·.1) = List.range' k l.length → l = ((l.map (·.2)).zipIdx k).map fun x => (x.2, x.1)
  | [], _, _ => rfl
  | (i, v) :: l, k, h => by
    rw [List.map_cons, List.length_cons, List.range'_succ] at h
    obtain ⟨h1, h2⟩ := List.cons.inj h
    have h1' : i = k := h1
    subst h1'
    rw [List.map_cons, List.zipIdx_cons, List.map_cons]
    exact congrArg _ (zipIdx_of l (i + 1) h2)
theorem Mem.wp_buildSlice (hM : Mem G w0 w L) {t e : TypeId} {len : Nat} {parts : List (Nat × Operand)} {size bytes : Nat} {C : List Value} (ho : o.op = .buildSlice t len parts.toArray) (hu : P.underlying t = some (.slice e)) (hel : El P e size bytes)
    (hsmall : len * size ≤ 16777216) (hpos : 0 < len) (hpl : parts.map (·.1) = List.range' 0 len) (hC : (parts.map fun p => (a.eval p.2)).flatMap (fun v => v.cells.toList) = C) (hall : ∀ v ∈ (parts.map fun p => (a.eval p.2)), v.cells.size = size) {N : Nat} (hN : N = len * size)
    (h : ∀ g w', Mem G w0 w' (⟨some g, e, C, N⟩ :: L) → K (a.put o.dst (.slice (some ⟨g, 0, none⟩) len len)) w') : o.wp P a w K Q := by
  obtain ⟨z, hinfo, hzs, hsz⟩ := hel
  obtain ⟨i, hi, hz0, hsize, hby⟩ := info_parts hinfo
  subst hC
  have hlen : parts.length = len := by simpa using congrArg List.length hpl
  have hp : ¬ len * i.size = 0 := by
    rw [hsize]
    exact Nat.ne_of_gt (Nat.mul_pos hpos hsz)
  have hf := Great.fill_whole hsz (parts.map fun p => (a.eval p.2)) ((Array.range (len * size)).map (z.cells[· % z.cells.size]!)) hall (by simp [hlen])
  have hz := zipIdx_of (parts.map fun p => (p.1, a.eval p.2)) 0 (by simpa [Function.comp_def, hlen] using hpl)
  have hm : (parts.map fun p => (p.1, a.eval p.2)).map (·.2) = parts.map fun p => (a.eval p.2) := by simp [Function.comp_def]
  rw [hm] at hz
  rw [← hz] at hf
  have hrun : (Instr.buildSlice t len ((parts.map fun p => (p.1, a.eval p.2)).toArray)).run P w = .ok (.slice (some ⟨w.heap.size, 0, none⟩) len len) (w.alloc (.cells ((parts.map fun p => (a.eval p.2)).flatMap (fun v => v.cells.toList)).toArray e)) := by
    have hs : ¬ len * i.size > 2 ^ 24 := by rw [hsize]; omega
    rw [← hsize] at hf
    simp [Instr.buildSlice, run_underlying hu, sizeOf, typeInfo, zeroValue, hi, hz0, hs, hp, newRow]
    rw [hf]
    rfl
  unfold Oper.wp execOp
  simp only [ho, List.map_toArray, Sem.run_bind, Sem.run_pure, Result.andThen_ok, hrun]
  have hCl : ((parts.map fun p => (a.eval p.2)).flatMap (fun v => v.cells.toList)).length = N := by
    have : ∀ vs : List Value, (∀ v ∈ vs, v.cells.size = size) → (vs.flatMap (fun v => v.cells.toList)).length = vs.length * size := by
      intro vs
      induction vs with
      | nil => simp
      | cons v vs ih =>
        intro h
        rw [List.flatMap_cons, List.length_append, ih (fun u hu => h u (by simp [hu])), List.length_cons, Nat.add_mul, Array.length_toList, h v (by simp)]
        omega
    rw [this _ hall, List.length_map, hlen, hN]
  rw [← hCl] at h
  exact h _ _ (hM.alloc _ e)
/-- parts that are bytes -/
inductive EvB (a : Act) : List (Nat × Operand) → List UInt8 → Prop
  | nil : EvB a [] []
  | cons {i : Nat} {x : Operand} {v : Value} {b : UInt8} {ps : List (Nat × Operand)} {bs : List UInt8} (h : a.eval x = v) (hv : v = B8 b) (t : EvB a ps bs) : EvB a ((i, x) :: ps) (b :: bs)
theorem EvB.eq {a : Act} {ps : List (Nat × Operand)} {bs : List UInt8} (h : EvB a ps bs) : (ps.map fun p => a.eval p.2) = bs.map B8 := by
  induction h with
  | nil => rfl
  | cons h hv _ ih => rw [List.map_cons, List.map_cons, ih, h, hv]
theorem Mem.wp_buildBytes (hM : Mem G w0 w L) {t e : TypeId} {len : Nat} {parts : List (Nat × Operand)} {bs : List UInt8} (ho : o.op = .buildSlice t len parts.toArray) (hu : P.underlying t = some (.slice e)) (hel : El P e 1 1)
    (hsmall : len * 1 ≤ 16777216) (hpos : 0 < len) (hpl : parts.map (·.1) = List.range' 0 len) (hbs : EvB a parts bs) {N : Nat} (hN : N = len)
    (h : ∀ g w', Mem G w0 w' (⟨some g, e, bs.map B8, N⟩ :: L) → K (a.put o.dst (.slice (some ⟨g, 0, none⟩) len len)) w') : o.wp P a w K Q := by
  refine hM.wp_buildSlice ho hu hel hsmall hpos hpl (C := bs.map B8) ?_ ?_ (by omega) h
  · rw [hbs.eq]
    clear hbs h hpl ho
    induction bs with
    | nil => rfl
    | cons b bs ih => rw [List.map_cons, List.flatMap_cons, ih]; rfl
  · rw [hbs.eq]
    intro v hv
    obtain ⟨b, _, rfl⟩ := List.mem_map.1 hv
    rfl
theorem Mem.src (hM : Mem G w0 w L) {g : Nat} {e : TypeId} {C : List Value} {N m cap : Nat} (hb : ⟨some g, e, C, N⟩ ∈ L) : Src w (.slice (some ⟨g, 0, none⟩) m cap) m C :=
  .inl ⟨_, _, rfl, fun j u hu => by rw [Addr.add_lit, Nat.zero_add]; exact hM.cell hb hu⟩
/-- append of bytes -/
theorem Mem.wp_append_B (hM : Mem G w0 w L) {s x : Operand} {t : TypeId} {ob : Option Nat} {e : TypeId} {l l2 : List UInt8} {n cap m : Nat} {u v : Value} {L' : Option Nat → Nat → List Blk}
    (ho : o.op = .call { callee := .builtin .append, args := #[s, x], argTypes := #[t, t] })
    (hs : a.eval s = v) (hv : v = sl ob n cap) (ht : P.underlying t = some (.slice e)) (hel : El P e 1 1)
    (hx : a.eval x = u) (hsrc : Src w u m (l2.map B8)) (hb : ∀ ob' cap', Swap L ⟨ob, e, l.map B8, cap⟩ ⟨ob', e, (l ++ l2).map B8, cap'⟩ (L' ob' cap')) (hn : Len l n) (hm : Len l2 m) (hcap : cap ≤ maxLen)
    (hlen : n + m ≤ 140737488355328)
    (h : ∀ ob' cap' w', Mem G w0 w' (L' ob' cap') → n + m ≤ cap' → cap' ≤ maxLen → K (a.put o.dst (sl ob' (n + m) cap')) w') : o.wp P a w K Q := by
  refine hM.wp_append (size := 1) (bytes := 1) (C := l.map B8) (news := l2.map B8) (N := cap) ho (hs.trans hv) ht hel ?_ (by omega) (by rw [List.length_map, hn.eq]; omega) hcap hx hsrc (by rw [List.length_map, hm.eq]; omega) ?_ (by simp only [maxLen]; omega) (by omega) h
  · intro ob' cap'
    rw [Nat.mul_one, ← List.map_append]
    exact hb ob' cap'
  · intro u hu
    obtain ⟨c, _, rfl⟩ := List.mem_map.1 hu
    rfl

/-! '==' and '!=' of values of several cells -/
def isEqOp : Op → Bool
  | .binOp .eql .. => true
  | .binOp .neq .. => true
  | _ => false
theorem wpList_eq (hg : o.guard = none) (_ho : isEqOp o.op = true) (h : ∀ K : Act → World → Prop, (∀ a w, wpList P ops Q rest a w → K a w) → o.wp P a w K Q) : wpList P ops Q (o :: rest) a w := wpList_plain hg h
theorem wp_eq_of {ty yt : TypeId} {x y : Operand} {A B : Array Value} {b : Bool} (ho : o.op = .binOp .eql ty x y yt) (hx : a.eval x = .agg A) (hy : a.eval y = .agg B)
    (hE : P.eqGuardType P.depth ty = false ∧ ∀ w, (Op.equalIn 10000 ty (.agg A) (.agg B)).run P w = .ok b w) (hK : K (a.put o.dst (.bool b)) w) : o.wp P a w K Q :=
  wp_eql_agg ty yt x y ho A B hx hy hE.1 b (hE.2 w) hK
theorem wp_ne_of {ty yt : TypeId} {x y : Operand} {A B : Array Value} {b : Bool} (ho : o.op = .binOp .neq ty x y yt) (hx : a.eval x = .agg A) (hy : a.eval y = .agg B)
    (hE : P.eqGuardType P.depth ty = false ∧ ∀ w, (Op.equalIn 10000 ty (.agg A) (.agg B)).run P w = .ok b w) (hK : K (a.put o.dst (.bool (!b))) w) : o.wp P a w K Q :=
  wp_neq_agg ty yt x y ho A B hx hy hE.1 b (hE.2 w) hK

/-! the rules as the walk tries them: the operation by its form alone, the frame looked up once -/
def Loads (P : Program) (w : World) (ty : TypeId) (ad : Addr) (v : Value) : Prop := (loadVar ty ad).run P w = .ok v w
theorem Mem.loads_all (hM : Mem G w0 w L) {ty g : Nat} {t : TypeId} {C : List Value} {N : Nat} (hb : ⟨some g, t, C, N⟩ ∈ L) (ht : aggB P ty N = true) (hn : Len C N) : Loads P w ty ⟨g, 0, none⟩ (.agg C.toArray) := by
  have := hM.run_load (off := 0) hb ht (by have := hn.eq; omega)
  rwa [List.drop_zero, List.take_of_length_le (by have := hn.eq; omega)] at this
theorem Mem.loads_part (hM : Mem G w0 w L) {ty g off n : Nat} {t : TypeId} {C : List Value} {N : Nat} (hb : ⟨some g, t, C, N⟩ ∈ L) (ht : aggB P ty n = true) (hn : off + n ≤ C.length) : Loads P w ty ⟨g, off, none⟩ (.agg ((C.drop off).take n).toArray) :=
  hM.run_load hb ht hn
theorem Mem.loads_one (hM : Mem G w0 w L) {ty g off : Nat} {t : TypeId} {C : List Value} {N : Nat} {v : Value} (hb : ⟨some g, t, C, N⟩ ∈ L) (ht : oneB P ty = true) (hv : C[off]? = some v) : Loads P w ty ⟨g, off, none⟩ v :=
  run_load_one ht (hM.cell hb hv)
theorem Mem.loads_B8 (hM : Mem G w0 w L) {ty g off : Nat} {t : TypeId} {l : List UInt8} {N : Nat} (hb : ⟨some g, t, l.map B8, N⟩ ∈ L) (ht : oneB P ty = true) (hj : off < l.length) : Loads P w ty ⟨g, off, none⟩ (B8 (gb l off)) :=
  hM.loads_one hb ht (get_map 0 hj)
theorem Mem.loads_W32 (hM : Mem G w0 w L) {ty g off : Nat} {t : TypeId} {l : List UInt32} {N : Nat} (hb : ⟨some g, t, l.map W32, N⟩ ∈ L) (ht : oneB P ty = true) (hj : off < l.length) : Loads P w ty ⟨g, off, none⟩ (W32 (gw l off)) :=
  hM.loads_one hb ht (get_map 0 hj)
theorem loads_agg {w : World} {ty : TypeId} {ad : Addr} {C : List Value} {n : Nat} (ht : aggB P ty n = true) (hn : Len C n) (hc : ∀ j v, C[j]? = some v → w.cell? (ad.add j) = some v) : Loads P w ty ad (.agg C.toArray) := by
  obtain ⟨d, hu, hd, hs⟩ := aggB_parts ht
  have hl := run_loadCells_list (P := P) w ad C hc
  rw [hn.eq] at hl
  have hagg := run_isAgg (P := P) hu w
  rw [hd] at hagg
  unfold Loads
  cases hq : P.info? ty with
  | none => simp [hq] at hs
  | some i =>
    have hsz : i.size = n := by simpa [hq] using hs
    simp [loadVar, Sem.run_bind, hagg, sizeOf, typeInfo, hq, hsz, hl]
theorem loads_cell {w : World} {ty : TypeId} {ad : Addr} {v : Value} (hv : w.cell? ad = some v) (ht : oneB P ty = true) : Loads P w ty ad v := run_load_one ht hv
variable {dst : Option Tmp} {type : TypeId} {pos : String} {after : Array Edge} {j : Nat} {want : Bool}
theorem wp_load_of {w : World} {ty : TypeId} {x : Operand} {ad : Addr} {v : Value} (ho : o.op = .load ty x) (hx : a.eval x = .pointer (some ad)) (h : Loads P w ty ad v) (hK : K (a.put o.dst v) w) : o.wp P a w K Q := by
  unfold Oper.wp execOp
  unfold Loads at h
  simp only [ho, hx, Instr.loadAt, Instr.sureAddr, Sem.run_bind, Sem.run_pure, Result.andThen_ok, h]
  exact hK
theorem wpL_load {w : World} {ty : TypeId} {x : Operand} {ad : Addr} {v : Value} (hx : a.eval x = .pointer (some ad)) (h : Loads P w ty ad v) (hK : wpList P ops Q rest (a.put dst v) w) :
    wpList P ops Q (Oper.mk dst (.load ty x) type pos after none :: rest) a w := wpList_plain rfl fun _ hk => wp_load_of rfl hx h (hk _ _ hK)
theorem wpG_load {w : World} {ty : TypeId} {x : Operand} {ad : Addr} {v : Value} (hw : Region.wanted (Oper.mk dst (.load ty x) type pos after (some (j, want))) (yielded ops a.tmps) = true) (hx : a.eval x = .pointer (some ad)) (h : Loads P w ty ad v) (hK : wpList P ops Q rest (a.put dst v) w) :
    wpList P ops Q (Oper.mk dst (.load ty x) type pos after (some (j, want)) :: rest) a w := wpList_wanted hw (wp_load_of rfl hx h hK)

def Stores (P : Program) (G : List Nat) (w0 w : World) (ty : TypeId) (ad : Addr) (v : Value) (L' : List Blk) : Prop := ∃ w', (storeVar ty ad v).run P w = .ok () w' ∧ Mem G w0 w' L'
theorem Mem.stores (hM : Mem G w0 w L) {ty g off : Nat} {t : TypeId} {C C1 : List Value} {N n : Nat} {L' : List Blk} (hb : Has L ⟨some g, t, C, N⟩ ⟨some g, t, C.take off ++ C1 ++ C.drop (off + n), N⟩ L') (ht : aggB P ty n = true) (hn1 : Len C1 n)
    (hn : off + n ≤ C.length) (h1 : ∀ v ∈ C1, v.oneCell' = true) : Stores P G w0 w ty ⟨g, off, none⟩ (.agg C1.toArray) L' := by
  obtain ⟨d, -, -, hs⟩ := aggB_parts ht
  obtain rfl := hn1.eq
  exact hM.run_store hb hs hn h1
theorem Mem.stores_all (hM : Mem G w0 w L) {ty g : Nat} {t : TypeId} {C C1 : List Value} {N : Nat} {L' : List Blk} (hb : Has L ⟨some g, t, C, N⟩ ⟨some g, t, C1, N⟩ L') (ht : aggB P ty N = true) (hn1 : Len C1 N) (hn : Len C N) (h1 : ∀ v ∈ C1, v.oneCell' = true) : Stores P G w0 w ty ⟨g, 0, none⟩ (.agg C1.toArray) L' := by
  refine hM.stores (t := t) (C := C) (off := 0) (N := N) (n := N) ?_ ht hn1 (by have := hn.eq; omega) h1
  rw [List.take_zero, List.nil_append, List.drop_of_length_le (by have := hn.eq; omega), List.append_nil]
  exact hb
theorem Mem.stores_one (hM : Mem G w0 w L) {ty g off : Nat} {t : TypeId} {C : List Value} {v : Value} {N : Nat} {L' : List Blk} (hb : Has L ⟨some g, t, C, N⟩ ⟨some g, t, C.set off v, N⟩ L') (ht : oneB P ty = true) (hn : off < C.length) (h1 : v.oneCell' = true) (h2 : v.cells = #[v]) :
    Stores P G w0 w ty ⟨g, off, none⟩ v L' := by
  obtain ⟨d, -, -, hs⟩ := oneB_parts ht
  exact hM.run_store_one hb hs hn h1 h2
theorem Mem.stores_B8 (hM : Mem G w0 w L) {ty g off : Nat} {t : TypeId} {l : List UInt8} {c : UInt8} {v : Value} {N : Nat} {L' : List Blk} (hv : v = B8 c) (hb : Has L ⟨some g, t, l.map B8, N⟩ ⟨some g, t, (l.set off c).map B8, N⟩ L') (ht : oneB P ty = true) (hn : off < l.length) :
    Stores P G w0 w ty ⟨g, off, none⟩ v L' := by
  subst hv
  exact hM.stores_one hb.map_set ht (by simpa using hn) rfl rfl
theorem Mem.stores_W32 (hM : Mem G w0 w L) {ty g off : Nat} {t : TypeId} {l : List UInt32} {c : UInt32} {v : Value} {N : Nat} {L' : List Blk} (hv : v = W32 c) (hb : Has L ⟨some g, t, l.map W32, N⟩ ⟨some g, t, (l.set off c).map W32, N⟩ L') (ht : oneB P ty = true) (hn : off < l.length) :
    Stores P G w0 w ty ⟨g, off, none⟩ v L' := by
  subst hv
  exact hM.stores_one hb.map_set ht (by simpa using hn) rfl rfl
theorem wp_store_of {w : World} {ty : TypeId} {x y : Operand} {ad : Addr} {v : Value} {L' : List Blk} (ho : o.op = .store ty x y) (hx : a.eval x = .pointer (some ad)) (hy : a.eval y = v) (h : Stores P G w0 w ty ad v L') (hK : ∀ w', Mem G w0 w' L' → K (a.put o.dst undef) w') : o.wp P a w K Q := by
  obtain ⟨w', hr, hM'⟩ := h
  unfold Oper.wp execOp
  simp only [ho, hx, hy, Instr.storeAt, Instr.sureAddr, Sem.run_bind, Sem.run_pure, Result.andThen_ok, hr]
  exact hK _ hM'
theorem wpL_store {w : World} {ty : TypeId} {x y : Operand} {ad : Addr} {v : Value} {L' : List Blk} (hx : a.eval x = .pointer (some ad)) (hy : a.eval y = v) (h : Stores P G w0 w ty ad v L') (hK : ∀ w', Mem G w0 w' L' → wpList P ops Q rest (a.put dst undef) w') :
    wpList P ops Q (Oper.mk dst (.store ty x y) type pos after none :: rest) a w := wpList_plain rfl fun _ hk => wp_store_of rfl hx hy h fun w' hm => hk _ _ (hK w' hm)
theorem wpL_alloc (hM : Mem G w0 w L) {ty : TypeId} {C : List Value} {n : Nat} (hz : Zr P ty C n) (hK : ∀ g w', Mem G w0 w' (⟨some g, ty, C, n⟩ :: L) → wpList P ops Q rest (a.put dst (.pointer (some ⟨g, 0, none⟩))) w') :
    wpList P ops Q (Oper.mk dst (.alloc ty) type pos after none :: rest) a w := wpList_plain rfl fun _ hk => hM.wp_alloc rfl hz fun g w' hm _ => hk _ _ (hK g w' hm)
theorem wpL_box (hM : Mem G w0 w L) {ty : TypeId} {x : Operand} {v : Value} {C : List Value} {n : Nat} (hx : a.eval x = v) (hC : v.cells = C.toArray) (hn : Len C n) (hK : ∀ g w', Mem G w0 w' (⟨some g, ty, C, n⟩ :: L) → wpList P ops Q rest (a.put dst (.pointer (some ⟨g, 0, none⟩))) w') :
    wpList P ops Q (Oper.mk dst (.box ty x) type pos after none :: rest) a w := wpList_plain rfl fun _ hk => hM.wp_box rfl hx hC hn fun g w' hm _ => hk _ _ (hK g w' hm)
theorem wpL_build0 {w : World} {ty : TypeId} {C : List Value} {n m : Nat} {e : TypeId} (hz : Zr P ty C n) (hu : P.underlying ty = some (.array m e)) (hg : aggB P ty n = true) {es eb : Nat} (he : El P e es eb) (hK : wpList P ops Q rest (a.put dst (.agg C.toArray)) w) :
    wpList P ops Q (Oper.mk dst (.build ty #[]) type pos after none :: rest) a w := wpList_plain rfl fun _ hk => wp_build0 rfl hz hu hg he (hk _ _ hK)
theorem wpL_buildBytes (hM : Mem G w0 w L) {t e : TypeId} {len : Nat} {parts : List (Nat × Operand)} {bs : List UInt8} (hu : P.underlying t = some (.slice e)) (hel : El P e 1 1)
    (hsmall : len * 1 ≤ 16777216) (hpos : 0 < len) (hpl : parts.map (·.1) = List.range' 0 len) (hbs : EvB a parts bs)
    (hK : ∀ g w', Mem G w0 w' (⟨some g, e, bs.map B8, len⟩ :: L) → wpList P ops Q rest (a.put dst (.slice (some ⟨g, 0, none⟩) len len)) w') :
    wpList P ops Q (Oper.mk dst (.buildSlice t len parts.toArray) type pos after none :: rest) a w := wpList_plain rfl fun _ hk => hM.wp_buildBytes rfl hu hel hsmall hpos hpl hbs rfl fun g w' hm => hk _ _ (hK g w' hm)
theorem wpL_append_B (hM : Mem G w0 w L) {s x : Operand} {t : TypeId} {ob : Option Nat} {e : TypeId} {l l2 : List UInt8} {n cap m : Nat} {u v : Value} {L' : Option Nat → Nat → List Blk}
    (hs : a.eval s = v) (hx : a.eval x = u) (hv : v = sl ob n cap) (ht : P.underlying t = some (.slice e)) (hel : El P e 1 1)
    (hsrc : Src w u m (l2.map B8)) (hb : ∀ ob' cap', Swap L ⟨ob, e, l.map B8, cap⟩ ⟨ob', e, (l ++ l2).map B8, cap'⟩ (L' ob' cap')) (hn : Len l n) (hm : Len l2 m) (hcap : cap ≤ maxLen)
    (hlen : n + m ≤ 140737488355328)
    (hK : ∀ ob' cap' w', Mem G w0 w' (L' ob' cap') → n + m ≤ cap' → cap' ≤ maxLen → wpList P ops Q rest (a.put dst (sl ob' (n + m) cap')) w') :
    wpList P ops Q (Oper.mk dst (.call { callee := .builtin .append, args := #[s, x], argTypes := #[t, t] }) type pos after none :: rest) a w :=
  wpList_plain rfl fun _ hk => hM.wp_append_B rfl hs hv ht hel hx hsrc hb hn hm hcap hlen fun ob' cap' w' h1 h2 h3 => hk _ _ (hK ob' cap' w' h1 h2 h3)
def EqTo (P : Program) (ty : TypeId) (A B : Array Value) (b : Bool) : Prop := P.eqGuardType P.depth ty = false ∧ ∀ w, (Op.equalIn 10000 ty (.agg A) (.agg B)).run P w = .ok b w
theorem wpL_eql {w : World} {ty yt : TypeId} {x y : Operand} {A B : Array Value} {b : Bool} (hx : a.eval x = .agg A) (hy : a.eval y = .agg B) (hE : EqTo P ty A B b) (hK : wpList P ops Q rest (a.put dst (.bool b)) w) :
    wpList P ops Q (Oper.mk dst (.binOp .eql ty x y yt) type pos after none :: rest) a w := wpList_plain rfl fun _ hk => wp_eq_of rfl hx hy hE (hk _ _ hK)
theorem wpL_neq {w : World} {ty yt : TypeId} {x y : Operand} {A B : Array Value} {b : Bool} (hx : a.eval x = .agg A) (hy : a.eval y = .agg B) (hE : EqTo P ty A B b) (hK : wpList P ops Q rest (a.put dst (.bool (!b))) w) :
    wpList P ops Q (Oper.mk dst (.binOp .neq ty x y yt) type pos after none :: rest) a w := wpList_plain rfl fun _ hk => wp_ne_of rfl hx hy hE (hk _ _ hK)
theorem wpG_eql {w : World} {ty yt : TypeId} {x y : Operand} {A B : Array Value} {b : Bool} (hw : Region.wanted (Oper.mk dst (.binOp .eql ty x y yt) type pos after (some (j, want))) (yielded ops a.tmps) = true) (hx : a.eval x = .agg A) (hy : a.eval y = .agg B) (hE : EqTo P ty A B b) (hK : wpList P ops Q rest (a.put dst (.bool b)) w) :
    wpList P ops Q (Oper.mk dst (.binOp .eql ty x y yt) type pos after (some (j, want)) :: rest) a w := wpList_wanted hw (wp_eq_of rfl hx hy hE hK)
theorem wpG_neq {w : World} {ty yt : TypeId} {x y : Operand} {A B : Array Value} {b : Bool} (hw : Region.wanted (Oper.mk dst (.binOp .neq ty x y yt) type pos after (some (j, want))) (yielded ops a.tmps) = true) (hx : a.eval x = .agg A) (hy : a.eval y = .agg B) (hE : EqTo P ty A B b) (hK : wpList P ops Q rest (a.put dst (.bool (!b))) w) :
    wpList P ops Q (Oper.mk dst (.binOp .neq ty x y yt) type pos after (some (j, want)) :: rest) a w := wpList_wanted hw (wp_ne_of rfl hx hy hE hK)
/-- a field of one cell, of several, and where it lies -/
def fieldB (P : Program) (ty : TypeId) (f off : Nat) : Bool :=
  match P.underlying ty with
  | some (.struct fs) => match fs[f]? with
    | some fl => fl.offset == off && oneB P fl.type
    | none => false
  | _ => false
def fieldA (P : Program) (ty : TypeId) (f off n : Nat) : Bool :=
  match P.underlying ty with
  | some (.struct fs) => match fs[f]? with
    | some fl => fl.offset == off && aggB P fl.type n
    | none => false
  | _ => false
theorem run_fieldB {ty f off : Nat} {C : List Value} {v : Value} (h : fieldB P ty f off = true) (hv : C[off]? = some v) (w : World) : (Instr.field ty (.agg C.toArray) f).run P w = .ok v w := by
  unfold fieldB at h
  split at h
  · rename_i fs hu
    split at h
    · rename_i fl hf
      simp at h
      obtain ⟨h1, h2⟩ := h
      obtain ⟨d, hd, hd2, -⟩ := oneB_parts h2
      have hagg := run_isAgg (P := P) hd w
      rw [hd2] at hagg
      have hv' : C.toArray[fl.offset]? = some v := by rw [h1, List.getElem?_toArray]; exact hv
      simp [Instr.field, Sem.run_bind, run_underlying hu, hf, part, hagg, asAgg, hv, h1]
    · cases h
  · cases h
theorem run_fieldA {ty f off n : Nat} {C : List Value} (h : fieldA P ty f off n = true) (w : World) : (Instr.field ty (.agg C.toArray) f).run P w = .ok (.agg ((C.drop off).take n).toArray) w := by
  unfold fieldA at h
  split at h
  · rename_i fs hu
    split at h
    · rename_i fl hf
      simp at h
      obtain ⟨h1, h2⟩ := h
      obtain ⟨d, hd, hd2, hs⟩ := aggB_parts h2
      have hagg := run_isAgg (P := P) hd w
      rw [hd2] at hagg
      cases hq : P.info? fl.type with
      | none => simp [hq] at hs
      | some i =>
        have hsz : i.size = n := by simpa [hq] using hs
        have he : C.toArray.extract off (off + n) = ((C.drop off).take n).toArray := by
          rw [List.extract_toArray]
          simp [List.extract_eq_take_drop]
        simp [Instr.field, Sem.run_bind, run_underlying hu, hf, part, hagg, asAgg, sizeOf, typeInfo, hq, hsz, h1]
    · cases h
  · cases h
def Field (P : Program) (ty : TypeId) (V : Value) (f : Nat) (v : Value) : Prop := ∀ w, (Instr.field ty V f).run P w = .ok v w
theorem field_one {ty f off : Nat} {C : List Value} {v : Value} (h : fieldB P ty f off = true) (hv : C[off]? = some v) : Field P ty (.agg C.toArray) f v := run_fieldB h hv
theorem field_agg {ty f off n : Nat} {C C1 : List Value} (h : fieldA P ty f off n = true) (hC : (C.drop off).take n = C1) : Field P ty (.agg C.toArray) f (.agg C1.toArray) := by subst hC; exact run_fieldA h
theorem wp_field_of {w : World} {ty f : Nat} {x : Operand} {V v : Value} (ho : o.op = .field ty x f) (hx : a.eval x = V) (h : Field P ty V f v) (hK : K (a.put o.dst v) w) : o.wp P a w K Q := by
  unfold Oper.wp execOp
  simp only [ho, hx, Sem.run_bind, Sem.run_pure, Result.andThen_ok, h w]
  exact hK
theorem wpL_field {w : World} {ty f : Nat} {x : Operand} {V v : Value} (hx : a.eval x = V) (h : Field P ty V f v) (hK : wpList P ops Q rest (a.put dst v) w) :
    wpList P ops Q (Oper.mk dst (.field ty x f) type pos after none :: rest) a w := wpList_plain rfl fun _ hk => wp_field_of rfl hx h (hk _ _ hK)
theorem wpG_field {w : World} {ty f : Nat} {x : Operand} {V v : Value} (hw : Region.wanted (Oper.mk dst (.field ty x f) type pos after (some (j, want))) (yielded ops a.tmps) = true) (hx : a.eval x = V) (h : Field P ty V f v) (hK : wpList P ops Q rest (a.put dst v) w) :
    wpList P ops Q (Oper.mk dst (.field ty x f) type pos after (some (j, want)) :: rest) a w := wpList_wanted hw (wp_field_of rfl hx h hK)
theorem stop_load {w : World} {ty : TypeId} {ad : Addr} {v : Value} (h : Stop (Loads P w ty ad v)) : Loads P w ty ad v := h

/-! the same, with what is to be found behind one '∃' -/
theorem gL_load {w : World} {ty : TypeId} {x : Operand} (h : ∃ ad v, a.eval x = .pointer (some ad) ∧ Loads P w ty ad v ∧ wpList P ops Q rest (a.put dst v) w) : wpList P ops Q (Oper.mk dst (.load ty x) type pos after none :: rest) a w :=
  let ⟨_, _, h1, h2, h3⟩ := h; wpL_load h1 h2 h3
theorem gG_load {w : World} {ty : TypeId} {x : Operand} (hw : Region.wanted (Oper.mk dst (.load ty x) type pos after (some (j, want))) (yielded ops a.tmps) = true) (h : ∃ ad v, a.eval x = .pointer (some ad) ∧ Loads P w ty ad v ∧ wpList P ops Q rest (a.put dst v) w) :
    wpList P ops Q (Oper.mk dst (.load ty x) type pos after (some (j, want)) :: rest) a w := let ⟨_, _, h1, h2, h3⟩ := h; wpG_load hw h1 h2 h3
theorem gL_store (_hM : Mem G w0 w L) {ty : TypeId} {x y : Operand} (h : ∃ ad v L', a.eval x = .pointer (some ad) ∧ a.eval y = v ∧ Stores P G w0 w ty ad v L' ∧ ∀ w', Mem G w0 w' L' → wpList P ops Q rest (a.put dst undef) w') :
    wpList P ops Q (Oper.mk dst (.store ty x y) type pos after none :: rest) a w := let ⟨_, _, _, h1, h2, h3, h4⟩ := h; wpL_store h1 h2 h3 h4
theorem gL_alloc (hM : Mem G w0 w L) {ty : TypeId} (h : ∃ C n, Zr P ty C n ∧ ∀ g w', Mem G w0 w' (⟨some g, ty, C, n⟩ :: L) → wpList P ops Q rest (a.put dst (.pointer (some ⟨g, 0, none⟩))) w') :
    wpList P ops Q (Oper.mk dst (.alloc ty) type pos after none :: rest) a w := let ⟨_, _, h1, h2⟩ := h; wpL_alloc hM h1 h2
theorem gL_box (hM : Mem G w0 w L) {ty : TypeId} {x : Operand} (h : ∃ v C n, a.eval x = v ∧ v.cells = C.toArray ∧ Len C n ∧ ∀ g w', Mem G w0 w' (⟨some g, ty, C, n⟩ :: L) → wpList P ops Q rest (a.put dst (.pointer (some ⟨g, 0, none⟩))) w') :
    wpList P ops Q (Oper.mk dst (.box ty x) type pos after none :: rest) a w := let ⟨_, _, _, h1, h2, h3, h4⟩ := h; wpL_box hM h1 h2 h3 h4
theorem gL_build0 {w : World} {ty : TypeId} (h : ∃ C n m e es eb, Zr P ty C n ∧ P.underlying ty = some (.array m e) ∧ aggB P ty n = true ∧ El P e es eb ∧ wpList P ops Q rest (a.put dst (.agg C.toArray)) w) :
    wpList P ops Q (Oper.mk dst (.build ty #[]) type pos after none :: rest) a w := let ⟨_, _, _, _, _, _, h1, h2, h3, h4, h5⟩ := h; wpL_build0 h1 h2 h3 h4 h5
theorem gL_buildBytes (hM : Mem G w0 w L) {t : TypeId} {len : Nat} {parts : List (Nat × Operand)} (h : ∃ e bs, P.underlying t = some (.slice e) ∧ El P e 1 1 ∧ len * 1 ≤ 16777216 ∧ 0 < len ∧ parts.map (·.1) = List.range' 0 len ∧ EvB a parts bs ∧
    ∀ g w', Mem G w0 w' (⟨some g, e, bs.map B8, len⟩ :: L) → wpList P ops Q rest (a.put dst (.slice (some ⟨g, 0, none⟩) len len)) w') :
    wpList P ops Q (Oper.mk dst (.buildSlice t len parts.toArray) type pos after none :: rest) a w := let ⟨_, _, h1, h2, h3, h4, h5, h6, h7⟩ := h; wpL_buildBytes hM h1 h2 h3 h4 h5 h6 h7
theorem gL_append_B (hM : Mem G w0 w L) {s x : Operand} {t : TypeId} (h : ∃ (v u : Value) (ob : Option Nat) (n cap : Nat) (e : TypeId) (l l2 : List UInt8) (m : Nat) (L' : Option Nat → Nat → List Blk), a.eval s = v ∧ a.eval x = u ∧ v = sl ob n cap ∧ P.underlying t = some (.slice e) ∧ El P e 1 1 ∧ Src w u m (l2.map B8) ∧
    (∀ ob' cap', Swap L ⟨ob, e, l.map B8, cap⟩ ⟨ob', e, (l ++ l2).map B8, cap'⟩ (L' ob' cap')) ∧ Len l n ∧ Len l2 m ∧ cap ≤ maxLen ∧ n + m ≤ 140737488355328 ∧
    ∀ ob' cap' w', Mem G w0 w' (L' ob' cap') → n + m ≤ cap' → cap' ≤ maxLen → wpList P ops Q rest (a.put dst (sl ob' (n + m) cap')) w') :
    wpList P ops Q (Oper.mk dst (.call { callee := .builtin .append, args := #[s, x], argTypes := #[t, t] }) type pos after none :: rest) a w :=
  let ⟨_, _, _, _, _, _, _, _, _, _, h1, h2, h3, h4, h5, h6, h7, h8, h9, h10, h11, h12⟩ := h; wpL_append_B hM h1 h2 h3 h4 h5 h6 h7 h8 h9 h10 h11 h12
theorem gL_field {w : World} {ty f : Nat} {x : Operand} (h : ∃ V v, a.eval x = V ∧ Field P ty V f v ∧ wpList P ops Q rest (a.put dst v) w) : wpList P ops Q (Oper.mk dst (.field ty x f) type pos after none :: rest) a w :=
  let ⟨_, _, h1, h2, h3⟩ := h; wpL_field h1 h2 h3
theorem gG_field {w : World} {ty f : Nat} {x : Operand} (hw : Region.wanted (Oper.mk dst (.field ty x f) type pos after (some (j, want))) (yielded ops a.tmps) = true) (h : ∃ V v, a.eval x = V ∧ Field P ty V f v ∧ wpList P ops Q rest (a.put dst v) w) :
    wpList P ops Q (Oper.mk dst (.field ty x f) type pos after (some (j, want)) :: rest) a w := let ⟨_, _, h1, h2, h3⟩ := h; wpG_field hw h1 h2 h3
theorem gL_eql {w : World} {ty yt : TypeId} {x y : Operand} (h : ∃ A B b, a.eval x = .agg A ∧ a.eval y = .agg B ∧ EqTo P ty A B b ∧ wpList P ops Q rest (a.put dst (.bool b)) w) :
    wpList P ops Q (Oper.mk dst (.binOp .eql ty x y yt) type pos after none :: rest) a w := let ⟨_, _, _, h1, h2, h3, h4⟩ := h; wpL_eql h1 h2 h3 h4
theorem gL_neq {w : World} {ty yt : TypeId} {x y : Operand} (h : ∃ A B b, a.eval x = .agg A ∧ a.eval y = .agg B ∧ EqTo P ty A B b ∧ wpList P ops Q rest (a.put dst (.bool (!b))) w) :
    wpList P ops Q (Oper.mk dst (.binOp .neq ty x y yt) type pos after none :: rest) a w := let ⟨_, _, _, h1, h2, h3, h4⟩ := h; wpL_neq h1 h2 h3 h4
theorem gG_eql {w : World} {ty yt : TypeId} {x y : Operand} (hw : Region.wanted (Oper.mk dst (.binOp .eql ty x y yt) type pos after (some (j, want))) (yielded ops a.tmps) = true) (h : ∃ A B b, a.eval x = .agg A ∧ a.eval y = .agg B ∧ EqTo P ty A B b ∧ wpList P ops Q rest (a.put dst (.bool b)) w) :
    wpList P ops Q (Oper.mk dst (.binOp .eql ty x y yt) type pos after (some (j, want)) :: rest) a w := let ⟨_, _, _, h1, h2, h3, h4⟩ := h; wpG_eql hw h1 h2 h3 h4
theorem gG_neq {w : World} {ty yt : TypeId} {x y : Operand} (hw : Region.wanted (Oper.mk dst (.binOp .neq ty x y yt) type pos after (some (j, want))) (yielded ops a.tmps) = true) (h : ∃ A B b, a.eval x = .agg A ∧ a.eval y = .agg B ∧ EqTo P ty A B b ∧ wpList P ops Q rest (a.put dst (.bool (!b))) w) :
    wpList P ops Q (Oper.mk dst (.binOp .neq ty x y yt) type pos after (some (j, want)) :: rest) a w := let ⟨_, _, _, h1, h2, h3, h4⟩ := h; wpG_neq hw h1 h2 h3 h4

/-! results that lie in a block -/
variable {R : Ending → World → Prop} {fn : Func}
theorem Mem.rowN (hM : Mem G w0 w L) {g : Nat} {t : TypeId} {C : List Value} {N : Nat} (hb : ⟨some g, t, C, N⟩ ∈ L) (hn : Len C N) : Row w g t C := by
  obtain ⟨J, hJ, h⟩ := hM.holds _ hb
  have hJ0 : J = [] := List.eq_nil_of_length_eq_zero (by have := hn.eq; simp only at h; omega)
  subst hJ0
  rw [List.append_nil] at hJ
  exact hJ
theorem Mem.ret_cell (hM : Mem G w0 w L) {p : Tmp} {ty : TypeId} (hres : fn.results = #[.cell p ty]) {g : Nat} {t : TypeId} {C : List Value} {N : Nat}
    (hp : a.tmps.getD p undef = .pointer (some ⟨g, 0, none⟩)) (hd : a.defers = []) (hb : ⟨some g, t, C, N⟩ ∈ L) (ht : aggB P ty N = true) (hn : Len C N)
    (h : R (.returned (.agg C.toArray)) w) : bodyPost P fn R .ret a w := by
  obtain ⟨d, hu, hdd, hs⟩ := aggB_parts ht
  exact bodyPost_cell hres hp hd (hM.rowN hb hn) hn.eq.symm hu hdd hs h
theorem Mem.ret_cell_tmp (hM : Mem G w0 w L) {p q : Tmp} {ty : TypeId} (hres : fn.results = #[.cell p ty, .tmp q]) {g : Nat} {t : TypeId} {C : List Value} {N : Nat} {v : Value}
    (hp : a.tmps.getD p undef = .pointer (some ⟨g, 0, none⟩)) (hq : a.tmps.getD q undef = v) (hd : a.defers = []) (hb : ⟨some g, t, C, N⟩ ∈ L) (ht : aggB P ty N = true) (hn : Len C N)
    (h : R (.returned (.tuple #[.agg C.toArray, v])) w) : bodyPost P fn R .ret a w := by
  obtain ⟨d, hu, hdd, hs⟩ := aggB_parts ht
  exact bodyPost_cell_tmp hres hp hq hd (hM.rowN hb hn) hn.eq.symm hu hdd hs h
end
end Go.PK
