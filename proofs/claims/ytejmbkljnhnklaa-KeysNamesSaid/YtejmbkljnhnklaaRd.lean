/-
  Readers: what cells say, put together: bytes, numbers, strings, byte arrays, pairs (structs), slices; and what came in, opened by them.
-/
import Derived.Test.YtejmbkljnhnklaaO
import Derived.Test.YtejmbkljnhnklaaA
namespace Go.PK
open Go.RowKit Go.ChangeShapes Go.WideShapes Go.ChangeAt

/-- how cells say a value -/
structure Rd (α : Type) where
  sz : Nat
  K : World → List Value → α → Prop
  ok : α → Prop
  len : ∀ {w cs a}, K w cs a → cs.length = sz
  adds : ∀ {w w' cs a}, K w cs a → Adds w w' → K w' cs a
  one : ∀ {w cs a}, K w cs a → ∀ v ∈ cs, v.oneCell' = true

def rByte : Rd UInt8 where
  sz := 1
  K _ cs a := cs = [B8 a]
  ok _ := True
  len h := by rw [h]; rfl
  adds h _ := h
  one h := by rw [h]; intro v hv; simp at hv; subst hv; rfl
def rU32 : Rd UInt32 where
  sz := 1
  K _ cs a := cs = [W32 a]
  ok _ := True
  len h := by rw [h]; rfl
  adds h _ := h
  one h := by rw [h]; intro v hv; simp at hv; subst hv; rfl
/-- a number of kind int, int64 -/
def rInt : Rd Int where
  sz := 1
  K _ cs a := cs = [.int .i64 a]
  ok a := -9223372036854775808 ≤ a ∧ a ≤ 9223372036854775807
  len h := by rw [h]; rfl
  adds h _ := h
  one h := by rw [h]; intro v hv; simp at hv; subst hv; rfl
def rStr : Rd (List UInt8) where
  sz := 1
  K _ cs l := cs = [.string ⟨l.toArray⟩]
  ok l := l.length ≤ 140737488351232
  len h := by rw [h]; rfl
  adds h _ := h
  one h := by rw [h]; intro v hv; simp at hv; subst hv; rfl
/-- n bytes in an array -/
def rArr (n : Nat) : Rd (List UInt8) where
  sz := n
  K _ cs l := cs = l.map B8 ∧ l.length = n
  ok l := l.length = n
  len h := by rw [h.1, List.length_map, h.2]
  adds h _ := h
  one h := by
    rw [h.1]; intro v hv
    obtain ⟨x, _, rfl⟩ := List.mem_map.1 hv
    rfl
def rPair {α β : Type} (r : Rd α) (s : Rd β) : Rd (α × β) where
  sz := r.sz + s.sz
  K w cs x := ∃ c1 c2, cs = c1 ++ c2 ∧ r.K w c1 x.1 ∧ s.K w c2 x.2
  ok x := r.ok x.1 ∧ s.ok x.2
  len h := by obtain ⟨c1, c2, rfl, h1, h2⟩ := h; rw [List.length_append, r.len h1, s.len h2]
  adds h b := by obtain ⟨c1, c2, e, h1, h2⟩ := h; exact ⟨c1, c2, e, r.adds h1 b, s.adds h2 b⟩
  one h := by
    obtain ⟨c1, c2, rfl, h1, h2⟩ := h
    intro v hv
    rcases List.mem_append.1 hv with hv | hv
    · exact r.one h1 v hv
    · exact s.one h2 v hv
/-- a slice's elements, each of r.sz cells -/
def Elems {α : Type} (r : Rd α) (w : World) (ao : Option Addr) (l : List α) : Prop :=
  ∀ j a, l[j]? = some a → ∃ b off, ao = some ⟨b, off, none⟩ ∧ b < w.heap.size ∧ ∃ cells, r.K w cells a ∧ ∀ i, i < r.sz → w.cell? ⟨b, off + (j * r.sz + i), none⟩ = cells[i]?
theorem Elems.adds {α : Type} {r : Rd α} {w w' : World} {ao : Option Addr} {l : List α} (h : Elems r w ao l) (hb : Adds w w') : Elems r w' ao l := by
  intro j a ha
  obtain ⟨b, off, h1, h2, cells, h3, h4⟩ := h j a ha
  exact ⟨b, off, h1, Nat.lt_of_lt_of_le h2 hb.size, cells, r.adds h3 hb, fun i hi => by rw [cell_below hb (by exact h2)]; exact h4 i hi⟩
def rSlice {α : Type} (r : Rd α) : Rd (List α) where
  sz := 1
  K w cs l := ∃ ao cap, cs = [.slice ao l.length cap] ∧ l.length ≤ cap ∧ cap ≤ 9223372036854775807 ∧ (ao = none → cap = 0) ∧ Elems r w ao l
  ok l := l.length ≤ 140737488351232 ∧ ∀ a ∈ l, r.ok a
  len h := by obtain ⟨ao, cap, rfl, _⟩ := h; rfl
  adds h b := by obtain ⟨ao, cap, e, h1, h2, h3, h4⟩ := h; exact ⟨ao, cap, e, h1, h2, h3, h4.adds b⟩
  one h := by obtain ⟨ao, cap, rfl, _⟩ := h; intro v hv; simp at hv; subst hv; rfl

theorem Bytes.of_K {w : World} {v : Value} {l : List UInt8} (h : (rSlice rByte).K w [v] l) : Bytes w v l := by
  obtain ⟨ao, cap, e, h1, h2, h3, h4⟩ := h
  refine ⟨ao, cap, by simpa using e, h1, h2, h3, fun j hj => ?_⟩
  obtain ⟨b, off, g1, g2, cells, g3, g4⟩ := h4 j _ (List.getElem?_eq_getElem hj)
  refine ⟨b, off, g1, g2, ?_⟩
  have := g4 0 (by decide)
  rw [show cells = [B8 _] from g3] at this
  simp only [rByte, Nat.mul_one, Nat.add_zero] at this
  rw [this, List.getD_eq_getElem?_getD, List.getElem?_eq_getElem hj]
  rfl
theorem Bytes.to_K {w : World} {v : Value} {l : List UInt8} (h : Bytes w v l) : (rSlice rByte).K w [v] l := by
  obtain ⟨ao, cap, rfl, h1, h2, h3, h4⟩ := h
  refine ⟨ao, cap, rfl, h1, h2, h3, fun j a ha => ?_⟩
  have hj := (List.getElem?_eq_some_iff.1 ha).1
  obtain ⟨b, off, g1, g2, g3⟩ := h4 j hj
  refine ⟨b, off, g1, g2, [B8 a], rfl, fun i hi => ?_⟩
  have : i = 0 := by simpa [rByte] using hi
  subst this
  simp only [rByte, Nat.mul_one, Nat.add_zero]
  rw [g3, List.getD_eq_getElem?_getD, ha]
  rfl

section
variable {H : Type} {enc : TypeId × Value → H} {P : Program} {w : World}

/-- a type's values are said by a reader -/
def Opens (P : Program) (t : TypeId) {α : Type} (r : Rd α) : Prop :=
  ∀ (H : Type) (enc : TypeId × Value → H) (w : World) (fuel : Nat) (cs : List Value) (x : DataW H × List MemPlace), DataW.trod enc P w 0 (fun _ => true) true fuel t cs = some x → (∀ n ∈ x.1.weights P t, n ≤ reachBytes) → ∃ a, r.K w cs a ∧ r.ok a

theorem opens_byte {t : TypeId} (ht : P.underlying t = some (.int .u8)) : Opens P t rByte := by
  intro H enc w fuel cs x h _
  obtain ⟨m, rfl, _, hw⟩ := DataW.trod_int ht h
  have hb : 0 ≤ m ∧ m ≤ 255 := by simpa [Lit.wf, IntKind.min, IntKind.max, IntKind.signed, IntKind.bits] using hw
  exact ⟨UInt8.ofNat m.toNat, by show _ = _; rw [B8_of hb.1 hb.2], trivial⟩
theorem opens_u32 {t : TypeId} (ht : P.underlying t = some (.int .u32)) : Opens P t rU32 := by
  intro H enc w fuel cs x h _
  obtain ⟨m, rfl, _, hw⟩ := DataW.trod_int ht h
  have hb : 0 ≤ m ∧ m ≤ 4294967295 := by simpa [Lit.wf, IntKind.min, IntKind.max, IntKind.signed, IntKind.bits] using hw
  exact ⟨UInt32.ofNat m.toNat, by show _ = _; rw [W32_of hb.1 hb.2], trivial⟩
theorem opens_int {t : TypeId} (ht : P.underlying t = some (.int .i64)) : Opens P t rInt := by
  intro H enc w fuel cs x h _
  obtain ⟨m, rfl, _, hw⟩ := DataW.trod_int ht h
  have hb : -9223372036854775808 ≤ m ∧ m ≤ 9223372036854775807 := by simpa [Lit.wf, IntKind.min, IntKind.max, IntKind.signed, IntKind.bits] using hw
  exact ⟨m, rfl, hb⟩
theorem all_B8 : ∀ (cs : List Value), (∀ i, i < cs.length → ∃ b, cs[i]? = some (B8 b)) → ∃ l : List UInt8, cs = l.map B8
  | [], _ => ⟨[], rfl⟩
  | c :: cs, h => by
    obtain ⟨l, hl⟩ := all_B8 cs fun i hi => by
      have := h (i + 1) (by simpa using hi)
      simpa using this
    obtain ⟨b, hb⟩ := h 0 (by simp)
    refine ⟨b :: l, ?_⟩
    simp at hb
    rw [hb, hl]
    rfl
theorem opens_arr {t e : TypeId} {n : Nat} (ht : P.underlying t = some (.array n e)) (he : P.underlying e = some (.int .u8)) (hc : P.cellsOf e = 1) (hn : P.cellsOf t = n) : Opens P t (rArr n) := by
  intro H enc w fuel cs x h _
  obtain ⟨xs, m, _, _, hl, _, hf⟩ := DataW.trod_array ht h
  have key : ∀ i, i < n → ∃ b, cs[i]? = some (B8 b) := by
    intro i hi
    have h1 := hf i hi
    rw [hc, Nat.mul_one] at h1
    have hxi : i < xs.length := by omega
    rw [List.getElem?_eq_getElem hxi] at h1
    obtain ⟨z, hz, _, hw⟩ := DataW.trod_int he h1
    have hb : 0 ≤ z ∧ z ≤ 255 := by simpa [Lit.wf, IntKind.min, IntKind.max, IntKind.signed, IntKind.bits] using hw
    refine ⟨UInt8.ofNat z.toNat, ?_⟩
    have : ((cs.drop i).take 1)[0]? = some (Value.int .u8 z) := by rw [hz]; rfl
    rw [List.getElem?_take, if_pos (by omega), List.getElem?_drop, Nat.add_zero] at this
    rw [this, B8_of hb.1 hb.2]
  have : ∃ l : List UInt8, cs = l.map B8 := all_B8 cs fun i hi => key i (by omega)
  obtain ⟨l, rfl⟩ := this
  have hln : l.length = n := by rw [List.length_map] at hl; omega
  exact ⟨l, ⟨rfl, hln⟩, hln⟩

theorem opens_str {t : TypeId} (ht : P.underlying t = some .string) : Opens P t rStr := by
  intro H enc w fuel cs x h hw
  cases fuel with
  | zero => simp [DataW.trod] at h
  | succ n =>
    unfold DataW.trod at h
    rw [ht] at h
    split at h <;> simp_all
    rename_i s
    obtain ⟨_, rfl⟩ := h
    refine ⟨s.data.toList, rfl, ?_⟩
    have := hw s.data.toList.length (by simp [DataW.weights])
    exact this

theorem weightsAll_mem {e : TypeId} : ∀ {ds : List (DataW H)} {j : Nat} {d : DataW H}, ds[j]? = some d → ∀ n ∈ d.weights P e, n ∈ DataW.weightsAll P e ds
  | [], j, d, hd, _, _ => by simp at hd
  | x :: ds, 0, d, hd, n, hn => by
    simp at hd
    subst hd
    simp only [DataW.weightsAll, List.mem_append]
    exact .inl hn
  | x :: ds, j + 1, d, hd, n, hn => by
    simp only [DataW.weightsAll, List.mem_append]
    exact .inr (weightsAll_mem (by simpa using hd) n hn)

theorem opens_slice {α : Type} {r : Rd α} {t e : TypeId} (ht : P.underlying t = some (.slice e)) (hr : Opens P e r) (hc : P.cellsOf e = r.sz) (hsz : 0 < r.sz) (hb : 1 ≤ P.bytesOf e) : Opens P t (rSlice r) := by
  intro H enc w fuel cs x h hw
  rcases DataW.trod_slice ht h with ⟨rfl, rfl⟩ | ⟨a, len, cap, elems, rest, n, _, rfl, rfl, -, hl, hm, hlen, hel, hsp, -⟩
  · exact ⟨[], ⟨none, 0, rfl, Nat.le_refl _, by omega, fun _ => rfl, fun j a h => by simp at h⟩, Nat.zero_le _, fun a h => by cases h⟩
  · have hwl : len ≤ 140737488351232 := by
      have := hw (((elems.map (·.1)).length + (rest.map (·.1)).length) * P.bytesOf e) (by simp [DataW.weights, ht])
      rw [List.length_map, List.length_map, hlen] at this
      have h2 : len ≤ (len + rest.length) * P.bytesOf e := Nat.le_trans (Nat.le_add_right _ _) (Nat.le_mul_of_pos_right _ (by omega))
      exact Nat.le_trans h2 this
    have each : ∀ j, j < len → ∃ y cs', elems[j]? = some y ∧ w.cells? 0 (a.add (j * r.sz)) r.sz = some cs' ∧ ∃ v, r.K w cs' v ∧ r.ok v := by
      intro j hj
      have h1 := hel j hj
      rw [hc, List.getElem?_eq_getElem (by omega)] at h1
      obtain ⟨cs', h2, h3⟩ := Option.bind_eq_some_iff.1 h1
      refine ⟨_, cs', List.getElem?_eq_getElem (by omega), h2, hr H enc w n cs' _ h3 fun m hm' => ?_⟩
      refine hw m ?_
      simp only [DataW.weights, ht, List.mem_cons, List.mem_append]
      exact .inr (.inl (weightsAll_mem (j := j) (d := elems[j].1) (by simp [List.getElem?_map, List.getElem?_eq_getElem (show j < elems.length by omega)]) m hm'))
    obtain ⟨f, hf⟩ : ∃ f : Nat → Option α, ∀ j, j < len → ∃ v y cs', f j = some v ∧ elems[j]? = some y ∧ w.cells? 0 (a.add (j * r.sz)) r.sz = some cs' ∧ r.K w cs' v ∧ r.ok v := by
      refine ⟨fun j => if hj : j < len then some (Classical.choose (Classical.choose_spec (Classical.choose_spec (each j hj))).2.2) else none, fun j hj => ?_⟩
      obtain ⟨h1, h2, h3⟩ := Classical.choose_spec (Classical.choose_spec (each j hj))
      exact ⟨_, _, _, by simp only [dif_pos hj], h1, h2, (Classical.choose_spec h3).1, (Classical.choose_spec h3).2⟩
    have hall : ∀ j, j < len → (f j).isSome = true := fun j hj => by obtain ⟨v, _, _, h, _⟩ := hf j hj; rw [h]; rfl
    have hL : ∃ l : List α, l.length = len ∧ ∀ j, j < len → l[j]? = f j := by
      clear hwl each hf hw hel hsp h hl hlen
      induction len with
      | zero => exact ⟨[], rfl, fun j hj => by omega⟩
      | succ m ih =>
        obtain ⟨l, h1, h2⟩ := ih (fun j hj => hall j (by omega))
        obtain ⟨v, hv⟩ := Option.isSome_iff_exists.1 (hall m (by omega))
        refine ⟨l ++ [v], by simp [h1], fun j hj => ?_⟩
        by_cases hjm : j < m
        · rw [List.getElem?_append_left (by omega), h2 j hjm]
        · have : j = m := by omega
          subst this
          rw [List.getElem?_append_right (by omega), h1, Nat.sub_self, hv]
          rfl
    obtain ⟨l, h1, h2⟩ := hL
    refine ⟨l, ⟨some a, cap, by rw [h1], by omega, by simpa [maxLen] using hm, (fun h => by cases h), fun j v hv => ?_⟩, by omega, fun v hv => ?_⟩
    · have hj : j < len := by have := (List.getElem?_eq_some_iff.1 hv).1; omega
      obtain ⟨v', y, cs', e1, e2, e3, e4, e5⟩ := hf j hj
      rw [h2 j hj, e1] at hv
      cases hv
      obtain ⟨-, hcl, hcell⟩ := World.cells?_some e3
      obtain ⟨b, off, spot⟩ := a
      have hblk : ((⟨b, off, spot⟩ : Addr).add (j * r.sz)).block = b := by unfold Addr.add; split <;> rfl
      have hspot : spot = none := by
        obtain ⟨_, _, cs0, _, _, e30, e40, _⟩ := hf 0 (by omega)
        obtain ⟨-, hcl0, hcell0⟩ := World.cells?_some e30
        have := hcell0 0 hsz
        rw [Nat.zero_mul] at this
        rw [show ((⟨b, off, spot⟩ : Addr).add 0).add 0 = ⟨b, off, spot⟩ from rfl, List.getElem?_eq_getElem (by omega)] at this
        cases spot with
        | none => rfl
        | some s => simp [World.cell?] at this; split at this <;> simp_all
      subst hspot
      have hlt : b < w.heap.size := by
        have := hcell 0 hsz
        rw [List.getElem?_eq_getElem (by omega)] at this
        have := block_lt_of_cell this
        rw [Addr.add_lit, Addr.add_lit] at this
        exact this
      refine ⟨b, off, rfl, hlt, cs', e4, fun i hi => ?_⟩
      rw [← hcell i hi, Addr.add_lit, Addr.add_lit, Nat.add_assoc]
    · obtain ⟨j, hj⟩ := List.getElem?_of_mem hv
      have hj' : j < len := by have := (List.getElem?_eq_some_iff.1 hj).1; omega
      obtain ⟨v', y, cs', e1, _, _, _, e5⟩ := hf j hj'
      rw [h2 j hj', e1] at hj
      cases hj
      exact e5
theorem opens_struct2 {α0 α1 : Type} {r0 : Rd α0} {r1 : Rd α1} {t : TypeId} {f0 f1 : Field} (ht : P.underlying t = some (.struct #[f0, f1])) (hr0 : Opens P f0.type r0) (hr1 : Opens P f1.type r1) (hc0 : P.cellsOf f0.type = r0.sz) (hc1 : P.cellsOf f1.type = r1.sz) (ho0 : f0.offset = 0) (ho1 : f1.offset = r0.sz) (hn : P.cellsOf t = r0.sz + r1.sz) : Opens P t (rPair r0 r1) := by
  intro H enc w fuel cs x h hw
  obtain ⟨xs, n, _, rfl, hl, hlen, hf⟩ := DataW.trod_struct ht h
  have hlen' : xs.length = 2 := by simpa using hlen
  have g0 := hf 0 f0 rfl
  rw [hc0, ho0, List.getElem?_eq_getElem (by omega)] at g0
  obtain ⟨v0, K0, o0⟩ := hr0 H enc w n _ _ g0 (fun m hm => hw m (by
    simp only [DataW.weights, ht]
    exact DataW.weights_mem_each (j := 0) (t := f0.type) (d := xs[0].1) (by simp) (by simp [List.getElem?_eq_getElem (show 0 < xs.length by omega)]) m hm))
  have g1 := hf 1 f1 rfl
  rw [hc1, ho1, List.getElem?_eq_getElem (by omega)] at g1
  obtain ⟨v1, K1, o1⟩ := hr1 H enc w n _ _ g1 (fun m hm => hw m (by
    simp only [DataW.weights, ht]
    exact DataW.weights_mem_each (j := 1) (t := f1.type) (d := xs[1].1) (by simp) (by simp [List.getElem?_eq_getElem (show 1 < xs.length by omega)]) m hm))
  refine ⟨(v0, v1), ?_, ⟨o0, o1⟩⟩
  rw [hn] at hl
  have e0 : cs.drop (0) = ((cs.drop (0)).take r0.sz) ++ ((cs.drop (r0.sz)).take r1.sz) := by rw [List.take_of_length_le (l := cs.drop (r0.sz)) (by rw [List.length_drop]; omega), show cs.drop (r0.sz) = (cs.drop (0)).drop r0.sz from by rw [List.drop_drop]; congr 1; omega, List.take_append_drop]
  have := show (rPair r0 r1).K w (cs.drop (0)) (v0, v1) from ⟨_, _, e0, K0, K1⟩
  simpa using this
theorem opens_struct3 {α0 α1 α2 : Type} {r0 : Rd α0} {r1 : Rd α1} {r2 : Rd α2} {t : TypeId} {f0 f1 f2 : Field} (ht : P.underlying t = some (.struct #[f0, f1, f2])) (hr0 : Opens P f0.type r0) (hr1 : Opens P f1.type r1) (hr2 : Opens P f2.type r2) (hc0 : P.cellsOf f0.type = r0.sz) (hc1 : P.cellsOf f1.type = r1.sz) (hc2 : P.cellsOf f2.type = r2.sz) (ho0 : f0.offset = 0) (ho1 : f1.offset = r0.sz) (ho2 : f2.offset = r0.sz + r1.sz) (hn : P.cellsOf t = r0.sz + r1.sz + r2.sz) : Opens P t (rPair r0 (rPair r1 r2)) := by
  intro H enc w fuel cs x h hw
  obtain ⟨xs, n, _, rfl, hl, hlen, hf⟩ := DataW.trod_struct ht h
  have hlen' : xs.length = 3 := by simpa using hlen
  have g0 := hf 0 f0 rfl
  rw [hc0, ho0, List.getElem?_eq_getElem (by omega)] at g0
  obtain ⟨v0, K0, o0⟩ := hr0 H enc w n _ _ g0 (fun m hm => hw m (by
    simp only [DataW.weights, ht]
    exact DataW.weights_mem_each (j := 0) (t := f0.type) (d := xs[0].1) (by simp) (by simp [List.getElem?_eq_getElem (show 0 < xs.length by omega)]) m hm))
  have g1 := hf 1 f1 rfl
  rw [hc1, ho1, List.getElem?_eq_getElem (by omega)] at g1
  obtain ⟨v1, K1, o1⟩ := hr1 H enc w n _ _ g1 (fun m hm => hw m (by
    simp only [DataW.weights, ht]
    exact DataW.weights_mem_each (j := 1) (t := f1.type) (d := xs[1].1) (by simp) (by simp [List.getElem?_eq_getElem (show 1 < xs.length by omega)]) m hm))
  have g2 := hf 2 f2 rfl
  rw [hc2, ho2, List.getElem?_eq_getElem (by omega)] at g2
  obtain ⟨v2, K2, o2⟩ := hr2 H enc w n _ _ g2 (fun m hm => hw m (by
    simp only [DataW.weights, ht]
    exact DataW.weights_mem_each (j := 2) (t := f2.type) (d := xs[2].1) (by simp) (by simp [List.getElem?_eq_getElem (show 2 < xs.length by omega)]) m hm))
  refine ⟨(v0, (v1, v2)), ?_, ⟨o0, ⟨o1, o2⟩⟩⟩
  rw [hn] at hl
  have e1 : cs.drop (r0.sz) = ((cs.drop (r0.sz)).take r1.sz) ++ ((cs.drop (r0.sz+r1.sz)).take r2.sz) := by rw [List.take_of_length_le (l := cs.drop (r0.sz+r1.sz)) (by rw [List.length_drop]; omega), show cs.drop (r0.sz+r1.sz) = (cs.drop (r0.sz)).drop r1.sz from by rw [List.drop_drop], List.take_append_drop]
  have e0 : cs.drop (0) = ((cs.drop (0)).take r0.sz) ++ (cs.drop (r0.sz)) := by rw [show cs.drop (r0.sz) = (cs.drop (0)).drop r0.sz from by rw [List.drop_drop]; congr 1; omega, List.take_append_drop]
  have := show (rPair r0 (rPair r1 r2)).K w (cs.drop (0)) (v0, (v1, v2)) from ⟨_, _, e0, K0, ⟨_, _, e1, K1, K2⟩⟩
  simpa using this
theorem opens_struct4 {α0 α1 α2 α3 : Type} {r0 : Rd α0} {r1 : Rd α1} {r2 : Rd α2} {r3 : Rd α3} {t : TypeId} {f0 f1 f2 f3 : Field} (ht : P.underlying t = some (.struct #[f0, f1, f2, f3])) (hr0 : Opens P f0.type r0) (hr1 : Opens P f1.type r1) (hr2 : Opens P f2.type r2) (hr3 : Opens P f3.type r3) (hc0 : P.cellsOf f0.type = r0.sz) (hc1 : P.cellsOf f1.type = r1.sz) (hc2 : P.cellsOf f2.type = r2.sz) (hc3 : P.cellsOf f3.type = r3.sz) (ho0 : f0.offset = 0) (ho1 : f1.offset = r0.sz) (ho2 : f2.offset = r0.sz + r1.sz) (ho3 : f3.offset = r0.sz + r1.sz + r2.sz) (hn : P.cellsOf t = r0.sz + r1.sz + r2.sz + r3.sz) : Opens P t (rPair r0 (rPair r1 (rPair r2 r3))) := by
  intro H enc w fuel cs x h hw
  obtain ⟨xs, n, _, rfl, hl, hlen, hf⟩ := DataW.trod_struct ht h
  have hlen' : xs.length = 4 := by simpa using hlen
  have g0 := hf 0 f0 rfl
  rw [hc0, ho0, List.getElem?_eq_getElem (by omega)] at g0
  obtain ⟨v0, K0, o0⟩ := hr0 H enc w n _ _ g0 (fun m hm => hw m (by
    simp only [DataW.weights, ht]
    exact DataW.weights_mem_each (j := 0) (t := f0.type) (d := xs[0].1) (by simp) (by simp [List.getElem?_eq_getElem (show 0 < xs.length by omega)]) m hm))
  have g1 := hf 1 f1 rfl
  rw [hc1, ho1, List.getElem?_eq_getElem (by omega)] at g1
  obtain ⟨v1, K1, o1⟩ := hr1 H enc w n _ _ g1 (fun m hm => hw m (by
    simp only [DataW.weights, ht]
    exact DataW.weights_mem_each (j := 1) (t := f1.type) (d := xs[1].1) (by simp) (by simp [List.getElem?_eq_getElem (show 1 < xs.length by omega)]) m hm))
  have g2 := hf 2 f2 rfl
  rw [hc2, ho2, List.getElem?_eq_getElem (by omega)] at g2
  obtain ⟨v2, K2, o2⟩ := hr2 H enc w n _ _ g2 (fun m hm => hw m (by
    simp only [DataW.weights, ht]
    exact DataW.weights_mem_each (j := 2) (t := f2.type) (d := xs[2].1) (by simp) (by simp [List.getElem?_eq_getElem (show 2 < xs.length by omega)]) m hm))
  have g3 := hf 3 f3 rfl
  rw [hc3, ho3, List.getElem?_eq_getElem (by omega)] at g3
  obtain ⟨v3, K3, o3⟩ := hr3 H enc w n _ _ g3 (fun m hm => hw m (by
    simp only [DataW.weights, ht]
    exact DataW.weights_mem_each (j := 3) (t := f3.type) (d := xs[3].1) (by simp) (by simp [List.getElem?_eq_getElem (show 3 < xs.length by omega)]) m hm))
  refine ⟨(v0, (v1, (v2, v3))), ?_, ⟨o0, ⟨o1, ⟨o2, o3⟩⟩⟩⟩
  rw [hn] at hl
  have e2 : cs.drop (r0.sz+r1.sz) = ((cs.drop (r0.sz+r1.sz)).take r2.sz) ++ ((cs.drop (r0.sz+r1.sz+r2.sz)).take r3.sz) := by rw [List.take_of_length_le (l := cs.drop (r0.sz+r1.sz+r2.sz)) (by rw [List.length_drop]; omega), show cs.drop (r0.sz+r1.sz+r2.sz) = (cs.drop (r0.sz+r1.sz)).drop r2.sz from by rw [List.drop_drop], List.take_append_drop]
  have e1 : cs.drop (r0.sz) = ((cs.drop (r0.sz)).take r1.sz) ++ (cs.drop (r0.sz+r1.sz)) := by rw [show cs.drop (r0.sz+r1.sz) = (cs.drop (r0.sz)).drop r1.sz from by rw [List.drop_drop], List.take_append_drop]
  have e0 : cs.drop (0) = ((cs.drop (0)).take r0.sz) ++ (cs.drop (r0.sz)) := by rw [show cs.drop (r0.sz) = (cs.drop (0)).drop r0.sz from by rw [List.drop_drop]; congr 1; omega, List.take_append_drop]
  have := show (rPair r0 (rPair r1 (rPair r2 r3))).K w (cs.drop (0)) (v0, (v1, (v2, v3))) from ⟨_, _, e0, K0, ⟨_, _, e1, K1, ⟨_, _, e2, K2, K3⟩⟩⟩
  simpa using this
theorem opens_struct5 {α0 α1 α2 α3 α4 : Type} {r0 : Rd α0} {r1 : Rd α1} {r2 : Rd α2} {r3 : Rd α3} {r4 : Rd α4} {t : TypeId} {f0 f1 f2 f3 f4 : Field} (ht : P.underlying t = some (.struct #[f0, f1, f2, f3, f4])) (hr0 : Opens P f0.type r0) (hr1 : Opens P f1.type r1) (hr2 : Opens P f2.type r2) (hr3 : Opens P f3.type r3) (hr4 : Opens P f4.type r4) (hc0 : P.cellsOf f0.type = r0.sz) (hc1 : P.cellsOf f1.type = r1.sz) (hc2 : P.cellsOf f2.type = r2.sz) (hc3 : P.cellsOf f3.type = r3.sz) (hc4 : P.cellsOf f4.type = r4.sz) (ho0 : f0.offset = 0) (ho1 : f1.offset = r0.sz) (ho2 : f2.offset = r0.sz + r1.sz) (ho3 : f3.offset = r0.sz + r1.sz + r2.sz) (ho4 : f4.offset = r0.sz + r1.sz + r2.sz + r3.sz) (hn : P.cellsOf t = r0.sz + r1.sz + r2.sz + r3.sz + r4.sz) : Opens P t (rPair r0 (rPair r1 (rPair r2 (rPair r3 r4)))) := by
  intro H enc w fuel cs x h hw
  obtain ⟨xs, n, _, rfl, hl, hlen, hf⟩ := DataW.trod_struct ht h
  have hlen' : xs.length = 5 := by simpa using hlen
  have g0 := hf 0 f0 rfl
  rw [hc0, ho0, List.getElem?_eq_getElem (by omega)] at g0
  obtain ⟨v0, K0, o0⟩ := hr0 H enc w n _ _ g0 (fun m hm => hw m (by
    simp only [DataW.weights, ht]
    exact DataW.weights_mem_each (j := 0) (t := f0.type) (d := xs[0].1) (by simp) (by simp [List.getElem?_eq_getElem (show 0 < xs.length by omega)]) m hm))
  have g1 := hf 1 f1 rfl
  rw [hc1, ho1, List.getElem?_eq_getElem (by omega)] at g1
  obtain ⟨v1, K1, o1⟩ := hr1 H enc w n _ _ g1 (fun m hm => hw m (by
    simp only [DataW.weights, ht]
    exact DataW.weights_mem_each (j := 1) (t := f1.type) (d := xs[1].1) (by simp) (by simp [List.getElem?_eq_getElem (show 1 < xs.length by omega)]) m hm))
  have g2 := hf 2 f2 rfl
  rw [hc2, ho2, List.getElem?_eq_getElem (by omega)] at g2
  obtain ⟨v2, K2, o2⟩ := hr2 H enc w n _ _ g2 (fun m hm => hw m (by
    simp only [DataW.weights, ht]
    exact DataW.weights_mem_each (j := 2) (t := f2.type) (d := xs[2].1) (by simp) (by simp [List.getElem?_eq_getElem (show 2 < xs.length by omega)]) m hm))
  have g3 := hf 3 f3 rfl
  rw [hc3, ho3, List.getElem?_eq_getElem (by omega)] at g3
  obtain ⟨v3, K3, o3⟩ := hr3 H enc w n _ _ g3 (fun m hm => hw m (by
    simp only [DataW.weights, ht]
    exact DataW.weights_mem_each (j := 3) (t := f3.type) (d := xs[3].1) (by simp) (by simp [List.getElem?_eq_getElem (show 3 < xs.length by omega)]) m hm))
  have g4 := hf 4 f4 rfl
  rw [hc4, ho4, List.getElem?_eq_getElem (by omega)] at g4
  obtain ⟨v4, K4, o4⟩ := hr4 H enc w n _ _ g4 (fun m hm => hw m (by
    simp only [DataW.weights, ht]
    exact DataW.weights_mem_each (j := 4) (t := f4.type) (d := xs[4].1) (by simp) (by simp [List.getElem?_eq_getElem (show 4 < xs.length by omega)]) m hm))
  refine ⟨(v0, (v1, (v2, (v3, v4)))), ?_, ⟨o0, ⟨o1, ⟨o2, ⟨o3, o4⟩⟩⟩⟩⟩
  rw [hn] at hl
  have e3 : cs.drop (r0.sz+r1.sz+r2.sz) = ((cs.drop (r0.sz+r1.sz+r2.sz)).take r3.sz) ++ ((cs.drop (r0.sz+r1.sz+r2.sz+r3.sz)).take r4.sz) := by rw [List.take_of_length_le (l := cs.drop (r0.sz+r1.sz+r2.sz+r3.sz)) (by rw [List.length_drop]; omega), show cs.drop (r0.sz+r1.sz+r2.sz+r3.sz) = (cs.drop (r0.sz+r1.sz+r2.sz)).drop r3.sz from by rw [List.drop_drop], List.take_append_drop]
  have e2 : cs.drop (r0.sz+r1.sz) = ((cs.drop (r0.sz+r1.sz)).take r2.sz) ++ (cs.drop (r0.sz+r1.sz+r2.sz)) := by rw [show cs.drop (r0.sz+r1.sz+r2.sz) = (cs.drop (r0.sz+r1.sz)).drop r2.sz from by rw [List.drop_drop], List.take_append_drop]
  have e1 : cs.drop (r0.sz) = ((cs.drop (r0.sz)).take r1.sz) ++ (cs.drop (r0.sz+r1.sz)) := by rw [show cs.drop (r0.sz+r1.sz) = (cs.drop (r0.sz)).drop r1.sz from by rw [List.drop_drop], List.take_append_drop]
  have e0 : cs.drop (0) = ((cs.drop (0)).take r0.sz) ++ (cs.drop (r0.sz)) := by rw [show cs.drop (r0.sz) = (cs.drop (0)).drop r0.sz from by rw [List.drop_drop]; congr 1; omega, List.take_append_drop]
  have := show (rPair r0 (rPair r1 (rPair r2 (rPair r3 r4)))).K w (cs.drop (0)) (v0, (v1, (v2, (v3, v4)))) from ⟨_, _, e0, K0, ⟨_, _, e1, K1, ⟨_, _, e2, K2, ⟨_, _, e3, K3, K4⟩⟩⟩⟩
  simpa using this

theorem open_rd {α : Type} {r : Rd α} {t : TypeId} {v : Value} {d : DataW H} {ps : List MemPlace} (hr : Opens P t r) (h : DataW.Trod enc P w 0 (fun _ => true) true t v d ps) (hw : ∀ n ∈ d.weights P t, n ≤ reachBytes) :
    ∃ a, r.K w v.cells.toList a ∧ r.ok a := by
  obtain ⟨fuel, hf⟩ := h
  exact hr H enc w fuel _ _ hf hw
/-- .. of a value that is one cell -/
theorem open_cell {α : Type} {r : Rd α} {t : TypeId} {v : Value} {d : DataW H} {ps : List MemPlace} (hr : Opens P t r) (h : DataW.Trod enc P w 0 (fun _ => true) true t v d ps) (hw : ∀ n ∈ d.weights P t, n ≤ reachBytes) (hv : v.cells = #[v]) :
    ∃ a, r.K w [v] a ∧ r.ok a := by
  obtain ⟨a, hK, ho⟩ := open_rd hr h hw
  rw [hv] at hK
  exact ⟨a, hK, ho⟩
theorem open_agg {α : Type} {r : Rd α} {r' : Reach} {b0 : Nat} {t : TypeId} {v : Value} {d : DataW H} {ps : List MemPlace} {D : TypeDesc} (hr : Opens P t r) (hu : P.underlying t = some D) (hD : isAggDesc D = true) (hval : Value.okWide P w r' b0 t v)
    (h : DataW.Trod enc P w 0 (fun _ => true) true t v d ps) (hw : ∀ n ∈ d.weights P t, n ≤ reachBytes) : ∃ cs a, v = .agg (List.toArray cs) ∧ r.K w cs a ∧ r.ok a := by
  obtain ⟨a, hK, ho⟩ := open_rd hr h hw
  have : ∃ cs, v = .agg cs := by
    unfold Value.okWide at hval
    rw [hu] at hval
    cases D <;> simp only [isAggDesc] at hD <;> first | exact absurd hD Bool.false_ne_true | (obtain ⟨cs, h, _⟩ := hval; exact ⟨cs, h⟩)
  obtain ⟨cs, rfl⟩ := this
  exact ⟨cs.toList, a, by simp, by simpa [Value.cells] using hK, ho⟩
end
end Go.PK
