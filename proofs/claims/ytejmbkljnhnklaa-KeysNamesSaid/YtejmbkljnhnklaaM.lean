/-
  Readable byte slices, and what becomes of them where memory is added.
-/
import Derived.Test.YtejmbkljnhnklaaK
namespace Go.PK
open Go.RowKit

/-- 'v' is a slice of bytes that reads as 'l' in 'w': nil, or cells of one block. -/
def Bytes (w : World) (v : Value) (l : List UInt8) : Prop :=
  ∃ ao cap, v = .slice ao l.length cap ∧ l.length ≤ cap ∧ cap ≤ 9223372036854775807 ∧ (ao = none → cap = 0) ∧
    ∀ j, j < l.length → ∃ b off, ao = some ⟨b, off, none⟩ ∧ b < w.heap.size ∧ w.cell? ⟨b, off + j, none⟩ = some (B8 (l.getD j 0))

theorem Bytes.nil (w : World) : Bytes w (.slice none 0 0) [] := ⟨none, 0, rfl, Nat.le_refl _, by omega, fun _ => rfl, fun _ h => by cases h⟩

theorem cell_below {w w' : World} {B : Nat} (hb : Below B w w') {a : Addr} (h : a.block < B) : w'.cell? a = w.cell? a := hb.cell h

theorem Bytes.below {w w' : World} {v : Value} {l : List UInt8} {B : Nat} (h : Bytes w v l) (hb : Below B w w') (hB : w.heap.size ≤ B) : Bytes w' v l := by
  obtain ⟨ao, cap, hv, h1, h2, h3, h4⟩ := h
  refine ⟨ao, cap, hv, h1, h2, h3, fun j hj => ?_⟩
  obtain ⟨b, off, g1, g2, g3⟩ := h4 j hj
  refine ⟨b, off, g1, Nat.lt_of_lt_of_le g2 hb.size, ?_⟩
  rw [cell_below hb (by show b < B; omega)]
  exact g3

theorem Bytes.form {w : World} {ao : Option Addr} {n cap : Nat} {l : List UInt8} (h : Bytes w (.slice ao n cap) l) : n = l.length ∧ n ≤ cap ∧ cap ≤ 9223372036854775807 := by
  obtain ⟨ao', cap', hv, h1, h2, h3, h4⟩ := h
  cases hv
  exact ⟨rfl, h1, h2⟩

/-- the cell of the element at k -/
theorem Bytes.at {w : World} {ao : Option Addr} {n cap : Nat} {l : List UInt8} (h : Bytes w (.slice ao n cap) l) {k : Nat} (hk : k < l.length) :
    ∃ b off, ao = some ⟨b, off, none⟩ ∧ b < w.heap.size ∧ w.cell? ⟨b, off + k, none⟩ = some (B8 (l.getD k 0)) := by
  obtain ⟨ao', cap', hv, h1, h2, h3, h4⟩ := h
  cases hv
  exact h4 k hk

/-- a cut of a slice: x[lo:hi:mx] (mx: the capacity's end) -/
theorem Bytes.sub {w : World} {ao : Option Addr} {n cap : Nat} {l : List UInt8} (h : Bytes w (.slice ao n cap) l) {lo hi mx : Nat} (h1 : lo ≤ hi) (h2 : hi ≤ l.length) (h3 : hi ≤ mx) (h4 : mx ≤ cap) :
    Bytes w (.slice (if mx = lo then ao else ao.map (fun x => x.add (lo * 1))) (hi - lo) (mx - lo)) ((l.drop lo).take (hi - lo)) := by
  obtain ⟨ao', cap', hv, e1, e2, e3, e4⟩ := h
  cases hv
  have hl : ((l.drop lo).take (hi - lo)).length = hi - lo := by simp; omega
  refine ⟨if mx = lo then ao else ao.map (fun x => x.add (lo * 1)), mx - lo, by rw [hl], by rw [hl]; omega, by omega, ?_, ?_⟩
  · intro ha
    by_cases hm : mx = lo
    · omega
    · rw [if_neg hm] at ha
      have : ao = none := by simpa using ha
      have := e3 this
      omega
  · intro j hj
    rw [hl] at hj
    rw [if_neg (by omega)]
    obtain ⟨b, off, rfl, g2, g3⟩ := e4 (lo + j) (by omega)
    refine ⟨b, off + lo, by simp only [Option.map_some, Addr.add_lit, Nat.mul_one], g2, ?_⟩
    rw [show off + lo + j = off + (lo + j) from by omega, g3]
    congr 2
    rw [List.getD_eq_getElem?_getD, List.getD_eq_getElem?_getD, List.getElem?_take, if_pos hj, List.getElem?_drop]

theorem cell_row {w : World} {g : Nat} {cs : Array Value} {t : TypeId} {fr : Nat × Nat} (hg : w.heap[g]? = some (.cells cs t fr)) (j : Nat) : w.cell? ⟨g, j, none⟩ = cs[j]? := cell_of_row w g j cs t fr hg

/-- a part of a block of bytes -/
theorem Bytes.of_block {w : World} {g off cap : Nat} {t : TypeId} {fr : Nat × Nat} {cs : Array Value} {l : List UInt8} (hg : w.heap[g]? = some (.cells cs t fr))
    (h : ∀ j, j < l.length → cs[off + j]? = some (B8 (l.getD j 0))) (h1 : l.length ≤ cap) (h2 : cap ≤ 9223372036854775807) : Bytes w (.slice (some ⟨g, off, none⟩) l.length cap) l :=
  ⟨some ⟨g, off, none⟩, cap, rfl, h1, h2, (fun h => by cases h), fun j hj =>
    ⟨g, off, rfl, (Array.getElem?_eq_some_iff.1 hg).1, by rw [cell_row hg]; exact h j hj⟩⟩

/-- what the call owns reads as it should -/
theorem Bytes.of_owns {w : World} {base : Nat} {e : TypeId} {v : Value} {n : Nat} {l : List UInt8} (h : w.ownsRow base e 1 v n (l.map B8)) : n = l.length ∧ Bytes w v l := by
  obtain ⟨h1, h2⟩ := h
  have hn : n = l.length := by simpa using h1.symm
  refine ⟨hn, ?_⟩
  rcases h2 with ⟨rfl, hn0⟩ | ⟨g, cap, cur, rfl, hb, hg, hc, hm, hs, htake⟩
  · have : l = [] := List.eq_nil_of_length_eq_zero (by omega)
    subst this
    exact Bytes.nil w
  · subst hn
    refine Bytes.of_block hg (fun j hj => ?_) hc (by simpa [maxLen] using hm)
    have e : (cur.toList.take (l.length * 1))[j]? = (l.map B8)[j]? := by rw [htake]
    rw [List.getElem?_take, if_pos (by omega)] at e
    simp only [Nat.zero_add]
    rw [← Array.getElem?_toList, e, List.getElem?_map, List.getD_eq_getElem?_getD, List.getElem?_eq_getElem hj]
    rfl

theorem ownsRow_below {w w' : World} {base B : Nat} {e : TypeId} {size : Nat} {v : Value} {n : Nat} {xs : List Value} (h : w.ownsRow base e size v n xs) (hb : Below B w w') (hB : w.heap.size ≤ B) : w'.ownsRow base e size v n xs := by
  obtain ⟨h1, h2⟩ := h
  refine ⟨h1, ?_⟩
  rcases h2 with h2 | ⟨g, cap, cur, hv, hg, hh, r⟩
  · exact .inl h2
  · refine .inr ⟨g, cap, cur, hv, hg, ?_, r⟩
    have := (Array.getElem?_eq_some_iff.1 hh).1
    rw [hb.block g (by omega)]
    exact hh

theorem ownsRow_mono {w : World} {base base' : Nat} {e : TypeId} {size : Nat} {v : Value} {n : Nat} {xs : List Value} (h : w.ownsRow base e size v n xs) (hb : base' ≤ base) : w.ownsRow base' e size v n xs := by
  obtain ⟨h1, h2⟩ := h
  refine ⟨h1, ?_⟩
  rcases h2 with h2 | ⟨g, cap, cur, hv, hg, hh, r⟩
  · exact .inl h2
  · exact .inr ⟨g, cap, cur, hv, by omega, hh, r⟩

theorem block_below {w w' : World} {B g : Nat} {o : Obj} (hb : Below B w w') (h : w.heap[g]? = some o) (hB : g < B) : w'.heap[g]? = some o := by
  rw [hb.block g hB]; exact h

theorem take_succ_getD (l : List UInt8) (k : Nat) (h : k < l.length) : l.take (k + 1) = l.take k ++ [l.getD k 0] := by
  rw [List.take_succ_eq_append_getElem h, List.getD_eq_getElem?_getD, List.getElem?_eq_getElem h]
  rfl

theorem ret_val {a b : Value} (h : a = b) : Ending.returned a = .returned b := by rw [h]
theorem ret_W32 {a b : UInt32} (h : a = b) : Ending.returned (W32 a) = .returned (W32 b) := by rw [h]
theorem ret_bool {a b : Bool} (h : a = b) : Ending.returned (.bool a) = .returned (.bool b) := by rw [h]

theorem madeCells_one (z : Value) (n : Nat) : madeCells #[z] n = (List.replicate n z).toArray := by
  unfold madeCells
  apply Array.ext
  · simp
  · intro i h1 h2
    simp [Nat.mod_one]

/-- make([]T, n, m), T of one cell: the block is known. -/
theorem wpList_make_one {P : Program} {w : World} {ops : Array Oper} {rest : List Oper} {o : Oper} {a : Act} {Q : Exit → Act → World → Prop}
    (hg : o.guard = none) (l c : Operand) (t : TypeId) (hop : o.op = Op.makeSlice t l c) (e : TypeId) (z : Value) (bytes : Nat) (h1 : P.underlying t = some (.slice e))
    (h2 : (P.info? e).map (fun i => (i.zero, i.size, i.bytes)) = some (some z, 1, bytes)) (hz : z.cells = #[z])
    (n m : Nat) (hl : a.eval l = .int .i64 (n : Int)) (hc : a.eval c = .int .i64 (m : Int)) (hnm : n ≤ m) (hm : bytes * m ≤ 281474976710656) (hm' : m ≤ 9223372036854775807)
    (hK : wpList P ops Q rest (a.put o.dst (.slice (some ⟨w.heap.size, 0, none⟩) n m)) (w.alloc (.cells (List.replicate m z).toArray e))) : wpList P ops Q (o :: rest) a w := by
  refine wpList_plain hg fun K hK' => ?_
  obtain ⟨i, hi, hz0, hz1, hz2⟩ := info_parts h2
  have hb : (i.bytes : Int) * (m : Int) ≤ 281474976710656 := by
    rw [hz2]
    have : ((bytes * m : Nat) : Int) ≤ 281474976710656 := by omega
    rwa [Int.natCast_mul] at this
  have hrun := run_make (P := P) w t e i z h1 hi hz0 .i64 .i64 n m (by omega) (by omega) hb (by omega)
  rw [hz1, hz, Nat.mul_one, Int.toNat_natCast, Int.toNat_natCast, madeCells_one] at hrun
  unfold Oper.wp
  simp only [execOp, hop, hl, hc, hrun, Sem.run_bind, Result.andThen]
  exact hK' _ _ hK

theorem get_map_B8 (l : List UInt8) (j : Nat) : ((l.map B8).toArray)[j]? = (l[j]?).map B8 := by simp
theorem set_map_B8 (l : List UInt8) (j : Nat) (x : UInt8) : ((l.map B8).toArray).setIfInBounds j (B8 x) = ((l.set j x).map B8).toArray := by
  rw [List.setIfInBounds_toArray, List.map_set]

/-- block b is a row of bytes -/
def RowB (w : World) (b : Nat) (t : TypeId) (l : List UInt8) : Prop := w.heap[b]? = some (.cells (l.map B8).toArray t)
theorem RowB.cell {w : World} {b : Nat} {t : TypeId} {l : List UInt8} (h : RowB w b t l) {j : Nat} (hj : j < l.length) : w.cell? ⟨b, j, none⟩ = some (B8 (l.getD j 0)) := by
  rw [cell_row h, get_map_B8, List.getElem?_eq_getElem hj, List.getD_eq_getElem?_getD, List.getElem?_eq_getElem hj]
  rfl
theorem RowB.free {w : World} {b : Nat} {t : TypeId} {l : List UInt8} (h : RowB w b t l) (j : Nat) : w.frozen? ⟨b, j, none⟩ = false := frozen_of_row w b j _ _ h
theorem RowB.set {w : World} {b : Nat} {t : TypeId} {l : List UInt8} (h : RowB w b t l) (j : Nat) (x : UInt8) : RowB (w.setCell ⟨b, j, none⟩ (B8 x)) b t (l.set j x) := by
  unfold RowB
  rw [heap_setCell_same w b j _ _ _ h, set_map_B8]
theorem RowB.below {w w' : World} {b B : Nat} {t : TypeId} {l : List UInt8} (h : RowB w b t l) (hb : Below B w w') (hB : b < B) : RowB w' b t l := block_below hb h hB
theorem RowB.lt {w : World} {b : Nat} {t : TypeId} {l : List UInt8} (h : RowB w b t l) : b < w.heap.size := (Array.getElem?_eq_some_iff.1 h).1
theorem RowB.new (w : World) (t : TypeId) (n : Nat) : RowB (w.alloc (.cells (List.replicate n (B8 0)).toArray t)) w.heap.size t (List.replicate n 0) := by
  unfold RowB
  rw [List.map_replicate]
  exact heap_alloc_new w _
theorem RowB.other {w : World} {b c j : Nat} {t : TypeId} {l : List UInt8} (h : RowB w b t l) (hc : b ≠ c) (v : Value) : RowB (w.setCell ⟨c, j, none⟩ v) b t l := by
  unfold RowB
  rw [heap_setCell_other w ⟨c, j, none⟩ b v hc]
  exact h
theorem RowB.drew {w : World} {b : Nat} {t : TypeId} {l : List UInt8} (h : RowB w b t l) : RowB w.drew b t l := h
theorem RowB.owns {w : World} {b base : Nat} {t : TypeId} {l : List UInt8} (h : RowB w b t l) (hb : base ≤ b) (hl : l.length ≤ 9223372036854775807) : w.ownsRow base t 1 (.slice (some ⟨b, 0, none⟩) l.length l.length) l.length (l.map B8) :=
  ⟨by simp, .inr ⟨b, l.length, _, rfl, hb, h, Nat.le_refl _, by simpa [maxLen] using hl, by simp, by simp [List.take_of_length_le]⟩⟩
/-- a part of a row of bytes, as a slice -/
theorem RowB.bytes {w : World} {b : Nat} {t : TypeId} {l : List UInt8} (h : RowB w b t l) {off n cap : Nat} (h1 : off + n ≤ l.length) (h2 : n ≤ cap) (h3 : cap ≤ 9223372036854775807) :
    Bytes w (.slice (some ⟨b, off, none⟩) n cap) ((l.drop off).take n) := by
  have hl : ((l.drop off).take n).length = n := by simp; omega
  have := Bytes.of_block (w := w) (g := b) (off := off) (cap := cap) (l := (l.drop off).take n) h (fun j hj => by
    rw [hl] at hj
    rw [get_map_B8, List.getD_eq_getElem?_getD, List.getElem?_take, if_pos hj, List.getElem?_drop, List.getElem?_eq_getElem (show off + j < l.length by omega)]
    rfl) (by omega) h3
  rwa [hl] at this

theorem grownBy_below {w w' : World} {base : Nat} {e : TypeId} {size : Nat} {v : Value} {n : Nat} {xs : List Value} (hown : w.ownsRow base e size v n xs) (hg : w.grownBy w' v.ownBlock) (hb : base ≤ w.heap.size) : Below base w w' :=
  ⟨hg.os, hg.tape, hg.output, hg.size, fun k hk => hg.block k (by omega) (fun e => by have := (hown.lt k e.symm).1; omega)⟩
theorem RowB.grown {w w' : World} {b : Nat} {t : TypeId} {l : List UInt8} {row : Option Nat} (h : RowB w b t l) (hg : w.grownBy w' row) (hne : some b ≠ row) : RowB w' b t l := by
  unfold RowB
  rw [hg.block b h.lt hne]
  exact h

/-- append of bytes, from whatever slice of bytes, to a slice that is nil or the call's own -/
theorem wp_append_B8 {P : Program} {w : World} {o : Oper} {a : Act} {K : Act → World → Prop} {Q : Exit → Act → World → Prop} (s x : Operand) (t : TypeId)
    (ho : o.op = .call { callee := .builtin .append, args := #[s, x], argTypes := #[t, t] })
    (base : Nat) (e : TypeId) (ht : P.underlying t = some (.slice e)) (hinfo : (P.info? e).map (fun i => (i.zero, i.size, i.bytes)) = some (some (B8 0), 1, 1))
    (v : Value) (n : Nat) (m : List UInt8) (hs : a.eval s = v) (hown : w.ownsRow base e 1 v n (m.map B8))
    (u : Value) (l : List UInt8) (hx : a.eval x = u) (hu : Bytes w u l) (hb : n + l.length ≤ 140737488355328) (hbase : base ≤ w.heap.size)
    (h : ∀ v' w', w'.ownsRow base e 1 v' (n + l.length) ((m ++ l).map B8) → w.grownBy w' v.ownBlock → Below base w w' → K (a.put o.dst v') w') : o.wp P a w K Q := by
  obtain ⟨i, hi, hz, hsize, hby⟩ := info_parts hinfo
  have hz1 : (B8 0).cells.size = 1 := rfl
  obtain ⟨ao, cap, rfl, e1, e2, e3, e4⟩ := hu
  cases ao with
  | some ad =>
    refine wp_append_own w s x t ho base e i (B8 0) 1 1 ht hi hz hsize hby hz1 (by decide) v n (m.map B8) hs hown ad l.length cap (l.map B8) hx (by simp) ?_ ?_
      (by simp only [maxLen]; omega) (by omega) hbase ?_
    · intro j u hu
      have hj : j < l.length := by simpa using (List.getElem?_eq_some_iff.1 hu).1
      obtain ⟨b, off, he, -, g3⟩ := e4 j hj
      cases he
      rw [Addr.add_lit, g3, ← hu, List.getElem?_map, List.getElem?_eq_getElem hj, List.getD_eq_getElem?_getD, List.getElem?_eq_getElem hj]
      rfl
    · intro u hu
      obtain ⟨c, _, rfl⟩ := List.mem_map.1 hu
      rfl
    · intro v' w' ho' hg' _
      rw [← List.map_append] at ho'
      exact h v' w' ho' hg' (grownBy_below hown hg' hbase)
  | none =>
    have hc := e3 rfl
    have hl : l = [] := List.eq_nil_of_length_eq_zero (by omega)
    subst hl
    subst hc
    have hrun := run_append_owned_none (P := P) w base t o.type e i 1 ht hi v n (m.map B8) hown
    unfold Oper.wp
    have hk := h v w (by simpa using hown) (World.grownBy.refl _ _) (Below.refl _ _)
    simp [execOp, ho, resolve, invoke, builtin, hs, hx, hrun, Result.andThen]
    exact hk
theorem wpList_append_B8 {P : Program} {w : World} {ops : Array Oper} {rest : List Oper} {o : Oper} {a : Act} {Q : Exit → Act → World → Prop} (hgd : o.guard = none) (s x : Operand) (t : TypeId)
    (ho : o.op = .call { callee := .builtin .append, args := #[s, x], argTypes := #[t, t] })
    (base : Nat) (e : TypeId) (ht : P.underlying t = some (.slice e)) (hinfo : (P.info? e).map (fun i => (i.zero, i.size, i.bytes)) = some (some (B8 0), 1, 1))
    (v : Value) (n : Nat) (m : List UInt8) (hs : a.eval s = v) (hown : w.ownsRow base e 1 v n (m.map B8))
    (u : Value) (l : List UInt8) (hx : a.eval x = u) (hu : Bytes w u l) (hb : n + l.length ≤ 140737488355328) (hbase : base ≤ w.heap.size)
    (h : ∀ v' w', w'.ownsRow base e 1 v' (n + l.length) ((m ++ l).map B8) → w.grownBy w' v.ownBlock → Below base w w' → wpList P ops Q rest (a.put o.dst v') w') : wpList P ops Q (o :: rest) a w :=
  wpList_plain hgd fun _ hK => wp_append_B8 s x t ho base e ht hinfo v n m hs hown u l hx hu hb hbase fun v' w' h1 h2 h3 => hK _ _ (h v' w' h1 h2 h3)
/-- .. as a step of a region that draws its order -/
theorem step_append_B8 {P : Program} {w : World} {ops : Array Oper} {o : Oper} {a : Act} {K : Act → World → Prop} {Q : Exit → Act → World → Prop} {E : Prop} (hgd : o.guard = none) (s x : Operand) (t : TypeId)
    (ho : o.op = .call { callee := .builtin .append, args := #[s, x], argTypes := #[t, t] })
    (base : Nat) (e : TypeId) (ht : P.underlying t = some (.slice e)) (hinfo : (P.info? e).map (fun i => (i.zero, i.size, i.bytes)) = some (some (B8 0), 1, 1))
    (v : Value) (n : Nat) (m : List UInt8) (hs : a.eval s = v) (hown : w.ownsRow base e 1 v n (m.map B8))
    (u : Value) (l : List UInt8) (hx : a.eval x = u) (hu : Bytes w u l) (hb : n + l.length ≤ 140737488355328) (hbase : base ≤ w.heap.size)
    (h : ∀ v' w', w'.ownsRow base e 1 v' (n + l.length) ((m ++ l).map B8) → Below base w w' → K (a.put o.dst v') w') :
    if Region.wanted o (yielded ops a.tmps) = true then Oper.wp P o a w K Q else E := by
  have hw : Region.wanted o (yielded ops a.tmps) = true := by simp [Region.wanted, hgd]
  rw [if_pos hw]
  exact wp_append_B8 s x t ho base e ht hinfo v n m hs hown u l hx hu hb hbase fun v' w' h1 _ h3 => h v' w' h1 h3

theorem mod2_beq (n : Nat) : decide ((n : Int) % 2 = 0) = (n % 2 == 0) := by
  rw [Bool.eq_iff_iff]; simp; omega

/-- x[:hi:mx] -/
theorem Bytes.pre {w : World} {ao : Option Addr} {n cap : Nat} {l : List UInt8} (h : Bytes w (.slice ao n cap) l) {hi mx : Nat} (h2 : hi ≤ l.length) (h3 : hi ≤ mx) (h4 : mx ≤ cap) :
    Bytes w (.slice ao hi mx) (l.take hi) := by
  obtain ⟨ao', cap', hv, e1, e2, e3, e4⟩ := h
  cases hv
  have hl : (l.take hi).length = hi := by simp; omega
  refine ⟨ao, mx, by rw [hl], by rw [hl]; omega, by omega, fun ha => ?_, fun j hj => ?_⟩
  · have := e3 ha; omega
  · rw [hl] at hj
    obtain ⟨b, off, g1, g2, g3⟩ := e4 j (by omega)
    refine ⟨b, off, g1, g2, ?_⟩
    rw [g3, List.getD_eq_getElem?_getD, List.getD_eq_getElem?_getD, List.getElem?_take, if_pos hj]

/-- one byte that was just laid down -/
theorem Bytes.one (w : World) (t : TypeId) (c : UInt8) : Bytes (w.alloc (.cells #[B8 c] t)) (.slice (some ⟨w.heap.size, 0, none⟩) 1 1) [c] := by
  refine Bytes.of_block (l := [c]) (heap_alloc_new w _) (fun j hj => ?_) (by simp) (by omega)
  have : j = 0 := by simpa using hj
  subst this
  rfl

theorem foldl_push_B8 : ∀ (l : List UInt8) (s : ByteArray), (l.map fun c => (c.toNat : Int)).foldl (fun r n => r.push (UInt8.ofNat n.toNat)) s = ⟨s.data ++ l.toArray⟩
  | [], s => by simp
  | c :: l, s => by
    rw [List.map_cons, List.foldl_cons, foldl_push_B8 l]
    simp [ByteArray.push]

/-- '[]byte("..")' of a string that is fixed: the new row bears a mark behind its last cell -/
theorem run_bytesMark {P : Program} {t e : TypeId} (hs : P.underlying t = some (.slice e)) (he : P.underlying e = some (.int .u8)) (w : World) {b : Nat} (hb : b = w.heap.size) (C : Array Value) (n c : Nat) :
    (convert t t (.slice (some ⟨b, 0, none⟩) n c)).run P (w.alloc (.cells C e)) = .ok (.slice (some ⟨b, 0, none⟩) n c) (w.alloc (.cells C e (C.size, C.size + 1))) := by
  subst hb
  have hsh : (w.alloc (.cells C e)).shape? w.heap.size = some (e, C.size) := by
    unfold World.shape?
    rw [heap_alloc_new]
  have hfr : (w.alloc (.cells C e)).freeze ⟨w.heap.size, C.size, none⟩ 1 = w.alloc (.cells C e (C.size, C.size + 1)) := by
    have hm : ∀ (a : Array Obj) (x : Obj) (f : Obj → Obj), (a.push x).modify a.size f = a.push (f x) := by
      intro a x f
      apply Array.ext
      · simp
      · intro i h1 h2
        simp only [Array.getElem_modify, Array.getElem_push]
        by_cases h : a.size = i
        · subst h
          simp
        · have hi : i < a.size := by simp at h1; omega
          simp [h, hi]
    unfold World.freeze
    rw [if_neg (by decide)]
    show ({ w.alloc (.cells C e) with heap := (w.heap.push (.cells C e)).modify w.heap.size _ } : World) = _
    rw [hm]
    rfl
  simp [convert, run_underlying hs, run_underlying he, markStringish, hsh]
  exact hfr
theorem Bytes.mark (w : World) (t : TypeId) (C : Array Value) (f : Nat × Nat) (l : List UInt8) (h : C = (l.map B8).toArray) (hl : l.length ≤ 9223372036854775807) : Bytes (w.alloc (.cells C t f)) (.slice (some ⟨w.heap.size, 0, none⟩) l.length l.length) l := by
  subst h
  refine Bytes.of_block (heap_alloc_new w _) (fun j hj => ?_) (Nat.le_refl _) hl
  rw [get_map_B8, Nat.zero_add, List.getElem?_eq_getElem hj, List.getD_eq_getElem?_getD, List.getElem?_eq_getElem hj]
  rfl
/-- string(x) of a slice of bytes -/
theorem run_str {P : Program} {w : World} {v : Value} {l : List UInt8} (src dst e : TypeId) (hs : P.underlying src = some (.slice e)) (he : P.underlying e = some (.int .u8)) (hd : P.underlying dst = some .string)
    (h : Bytes w v l) : (convert src dst v).run P w = .ok (.string ⟨l.toArray⟩) w := by
  obtain ⟨ao, cap, rfl, e1, e2, e3, e4⟩ := h
  cases ao with
  | none =>
    have hc := e3 rfl
    have hl : l = [] := List.eq_nil_of_length_eq_zero (by omega)
    subst hl
    rw [run_convert_bytes_string w src dst e none _ _ hs he hd]
    rfl
  | some a =>
    rw [run_convert_bytes_string w src dst e _ _ _ hs he hd]
    have hl : (loadCells a l.length).run P w = .ok ((l.map fun c => (c.toNat : Int)).map (Value.int .u8)).toArray w := by
      have := run_loadCells_list (P := P) w a (l.map B8) (fun j v hv => by
        have hj : j < l.length := by simpa using (List.getElem?_eq_some_iff.1 hv).1
        obtain ⟨b, off, he, -, g3⟩ := e4 j hj
        cases he
        rw [Addr.add_lit, g3, ← hv, List.getElem?_map, List.getElem?_eq_getElem hj, List.getD_eq_getElem?_getD, List.getElem?_eq_getElem hj]
        rfl)
      rw [List.length_map] at this
      rw [this, List.map_map]
      rfl
    rw [run_bytesToString (P := P) w a l.length cap _ hl, foldl_push_B8]
    simp
theorem Bytes.new (w : World) (t : TypeId) (C : Array Value) (l : List UInt8) (h : C = (l.map B8).toArray) (hl : l.length ≤ 9223372036854775807) : Bytes (w.alloc (.cells C t)) (.slice (some ⟨w.heap.size, 0, none⟩) l.length l.length) l := by
  subst h
  refine Bytes.of_block (heap_alloc_new w _) (fun j hj => ?_) (Nat.le_refl _) hl
  rw [get_map_B8, Nat.zero_add, List.getElem?_eq_getElem hj, List.getD_eq_getElem?_getD, List.getElem?_eq_getElem hj]
  rfl
/-- an owned row of bytes under a store -/
theorem owns_set {w : World} {base : Nat} {e : TypeId} {g n cap : Nat} {l : List UInt8} (h : w.ownsRow base e 1 (.slice (some ⟨g, 0, none⟩) n cap) n (l.map B8)) (j : Nat) (x : UInt8) :
    (w.setCell ⟨g, j, none⟩ (B8 x)).ownsRow base e 1 (.slice (some ⟨g, 0, none⟩) n cap) n ((l.set j x).map B8) := by
  have := (h.stored j (B8 x)).1
  rwa [List.map_set]
theorem owns_other {w : World} {base : Nat} {e : TypeId} {g n cap c j : Nat} {l : List Value} (h : w.ownsRow base e 1 (.slice (some ⟨g, 0, none⟩) n cap) n l) (hc : g ≠ c) (x : Value) :
    (w.setCell ⟨c, j, none⟩ x).ownsRow base e 1 (.slice (some ⟨g, 0, none⟩) n cap) n l := by
  rcases h.2 with ⟨h', _⟩ | ⟨g', cap', cur, h', hb, hg, r⟩
  · simp at h'
  · cases h'
    refine ⟨h.1, .inr ⟨g, cap, cur, rfl, hb, ?_, r⟩⟩
    rw [heap_setCell_other w ⟨c, j, none⟩ g x hc]
    exact hg
theorem owns_form {w : World} {base : Nat} {e : TypeId} {v : Value} {n : Nat} {l : List UInt8} (h : w.ownsRow base e 1 v n (l.map B8)) (hn : 0 < n) : ∃ g cap, v = .slice (some ⟨g, 0, none⟩) n cap ∧ base ≤ g ∧ g < w.heap.size := by
  rcases h.2 with ⟨_, h0⟩ | ⟨g, cap, cur, rfl, hb, hg, r⟩
  · omega
  · exact ⟨g, cap, rfl, hb, (Array.getElem?_eq_some_iff.1 hg).1⟩
theorem owns_cell {w : World} {base : Nat} {e : TypeId} {g n cap : Nat} {l : List UInt8} (h : w.ownsRow base e 1 (.slice (some ⟨g, 0, none⟩) n cap) n (l.map B8)) {j : Nat} (hj : j < l.length) :
    w.cell? ⟨g, j, none⟩ = some (B8 (l.getD j 0)) := by
  have hn : n = l.length := by simpa using h.1.symm
  rw [h.cellAt j (by omega), List.getElem?_map, List.getElem?_eq_getElem hj, List.getD_eq_getElem?_getD, List.getElem?_eq_getElem hj]
  rfl

theorem owns_free {w : World} {base : Nat} {e : TypeId} {g n cap : Nat} {l : List Value} (h : w.ownsRow base e 1 (.slice (some ⟨g, 0, none⟩) n cap) n l) (j : Nat) : w.frozen? ⟨g, j, none⟩ = false := by
  rcases h.2 with ⟨h', _⟩ | ⟨g', cap', cur, h', hb, hg, r⟩
  · simp at h'
  · cases h'
    exact frozen_of_row w g j _ _ hg
theorem owns_src {w : World} {base : Nat} {e : TypeId} {g n cap : Nat} {l : List UInt8} (h : w.ownsRow base e 1 (.slice (some ⟨g, 0, none⟩) n cap) n (l.map B8)) (_hl : l.length = n) :
    ∀ j v, (l.map B8)[j]? = some v → w.cell? ((⟨g, 0, none⟩ : Addr).add j) = some v := by
  intro j v hv
  have hj : j < l.length := by simpa using (List.getElem?_eq_some_iff.1 hv).1
  rw [Addr.add_lit, Nat.zero_add, owns_cell h hj, ← hv, List.getElem?_map, List.getElem?_eq_getElem hj, List.getD_eq_getElem?_getD, List.getElem?_eq_getElem hj]
  rfl
end Go.PK
