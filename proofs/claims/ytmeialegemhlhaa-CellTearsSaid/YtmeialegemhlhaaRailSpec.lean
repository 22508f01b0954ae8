/-
  Bytes beside their complements, as plain lists.
-/
namespace Go.PK.Rail
def put (l : List UInt8) : List UInt8 := l ++ l.map (~~~·)
/-- do the first k bytes of l stand beside their complements, n bytes on? -/
def upto (l : List UInt8) (n k : Nat) : Bool := (List.range k).all fun i => l.getD i 0 == ~~~(l.getD (n + i) 0)
def right (l : List UInt8) : Bool := upto l (l.length / 2) (l.length / 2) && l.length % 2 == 0
theorem upto_zero (l : List UInt8) (n : Nat) : upto l n 0 = true := rfl
theorem upto_succ (l : List UInt8) (n k : Nat) : upto l n (k + 1) = (upto l n k && l.getD k 0 == ~~~(l.getD (n + k) 0)) := by
  unfold upto
  rw [List.range_succ, List.all_append]
  simp
theorem upto_false (l : List UInt8) (n k m : Nat) (h : l.getD k 0 ≠ ~~~(l.getD (n + k) 0)) (hk : k < m) : upto l n m = false := by
  unfold upto
  rw [List.all_eq_false]
  exact ⟨k, List.mem_range.2 hk, by simpa using h⟩
theorem upto_iff (l : List UInt8) (n m : Nat) : upto l n m = true ↔ ∀ k, k < m → l.getD k 0 = ~~~(l.getD (n + k) 0) := by
  unfold upto
  simp [List.all_eq_true]
theorem put_length (l : List UInt8) : (put l).length = 2 * l.length := by unfold put; simp; omega
/-- what Put has laid after k rounds -/
def laying (l : List UInt8) (k : Nat) : List UInt8 :=
  l.take k ++ List.replicate (l.length - k) 0 ++ ((l.take k).map (~~~·) ++ List.replicate (l.length - k) 0)
theorem laying_zero (l : List UInt8) : laying l 0 = List.replicate (2 * l.length) 0 := by
  unfold laying
  simp
  omega
theorem laying_all (l : List UInt8) : laying l l.length = put l := by
  unfold laying put
  simp
theorem laying_length (l : List UInt8) (k : Nat) (h : k ≤ l.length) : (laying l k).length = 2 * l.length := by
  unfold laying
  simp
  omega
theorem not_getD (l : List UInt8) (k : Nat) (h : k < l.length) : (l.map (~~~·)).getD k 0 = ~~~(l.getD k 0) := by
  simp [List.getD, h]
theorem laying_get (l : List UInt8) (k j : Nat) (hk : k ≤ l.length) :
    (laying l k)[j]? = if j < l.length then some (if j < k then l.getD j 0 else 0) else if j < 2 * l.length then some (if j - l.length < k then ~~~(l.getD (j - l.length) 0) else 0) else none := by
  have hz : ∀ (a : List UInt8) (m j : Nat), (a ++ List.replicate m 0)[j]? = if j < a.length + m then some (if j < a.length then a.getD j 0 else 0) else none := by
    intro a m j
    rw [List.getElem?_append]
    by_cases h : j < a.length
    · rw [if_pos h, if_pos (by omega), if_pos h, List.getD_eq_getElem?_getD, List.getElem?_eq_getElem h]
      rfl
    · rw [if_neg h]
      by_cases h2 : j < a.length + m
      · rw [if_pos h2, if_neg h, List.getElem?_replicate, if_pos (by omega)]
      · rw [if_neg h2, List.getElem?_replicate, if_neg (by omega)]
  unfold laying
  rw [List.getElem?_append, hz, hz]
  have hlen : (l.take k).length = k := by simp; omega
  simp only [List.length_append, hlen, List.length_replicate, List.length_map]
  by_cases h : j < l.length
  · rw [if_pos (by omega), if_pos (by omega), if_pos h]
    by_cases h2 : j < k
    · rw [if_pos h2, if_pos h2]
      simp [List.getD, h2]
    · rw [if_neg h2, if_neg h2]
  · rw [if_neg (by omega), if_neg h, show k + (l.length - k) = l.length from by omega]
    by_cases h2 : j < 2 * l.length
    · rw [if_pos (by omega), if_pos h2]
      by_cases h3 : j - l.length < k
      · rw [if_pos h3, if_pos h3, not_getD _ _ (by rw [hlen]; exact h3)]
        simp [List.getD, h3]
      · rw [if_neg h3, if_neg h3]
    · rw [if_neg (by omega), if_neg h2]
theorem laying_succ (l : List UInt8) (k : Nat) (h : k < l.length) :
    ((laying l k).set k (l.getD k 0)).set (l.length + k) (~~~(l.getD k 0)) = laying l (k + 1) := by
  apply List.ext_getElem?
  intro j
  rw [List.getElem?_set, List.getElem?_set, laying_get l k j (by omega), laying_get l (k + 1) j (by omega)]
  simp only [List.length_set, laying_length l k (by omega)]
  by_cases h1 : l.length + k = j
  · subst h1
    rw [if_pos rfl, if_pos (by omega), if_neg (by omega), if_pos (by omega), if_pos (by omega), show l.length + k - l.length = k from by omega]
  · rw [if_neg h1]
    by_cases h2 : k = j
    · subst h2
      rw [if_pos rfl, if_pos (by omega), if_pos h, if_pos (by omega)]
    · rw [if_neg h2]
      by_cases h3 : j < l.length
      · rw [if_pos h3, if_pos h3]
        by_cases h4 : j < k
        · rw [if_pos h4, if_pos (by omega)]
        · rw [if_neg h4, if_neg (by omega)]
      · rw [if_neg h3, if_neg h3]
        by_cases h5 : j < 2 * l.length
        · rw [if_pos h5, if_pos h5]
          by_cases h4 : j - l.length < k
          · rw [if_pos h4, if_pos (by omega)]
          · rw [if_neg h4, if_neg (by omega)]
        · rw [if_neg h5, if_neg h5]

/-- what Get tells -/
def got (l : List UInt8) : List UInt8 := if right l then l.take (l.length / 2) else []

/-- do the first k bytes of a have no bit that b's lack? -/
def belowTo (a b : List UInt8) (k : Nat) : Bool := (List.range k).all fun i => a.getD i 0 &&& ~~~(b.getD i 0) == 0
def below (a b : List UInt8) : Bool := a.length == b.length && belowTo a b a.length
theorem belowTo_zero (a b : List UInt8) : belowTo a b 0 = true := rfl
theorem belowTo_succ (a b : List UInt8) (k : Nat) : belowTo a b (k + 1) = (belowTo a b k && a.getD k 0 &&& ~~~(b.getD k 0) == 0) := by
  unfold belowTo
  rw [List.range_succ, List.all_append]
  simp
theorem belowTo_false (a b : List UInt8) (k m : Nat) (h : ¬ a.getD k 0 &&& ~~~(b.getD k 0) = 0) (hk : k < m) : belowTo a b m = false := by
  unfold belowTo
  rw [List.all_eq_false]
  exact ⟨k, List.mem_range.2 hk, by simpa using h⟩
theorem belowTo_iff (a b : List UInt8) (m : Nat) : belowTo a b m = true ↔ ∀ k, k < m → a.getD k 0 &&& ~~~(b.getD k 0) = 0 := by
  unfold belowTo
  simp [List.all_eq_true]

theorem u8_ext {a b : UInt8} (h : ∀ i, i < 8 → a.toBitVec.getLsbD i = b.toBitVec.getLsbD i) : a = b :=
  UInt8.toBitVec_inj.1 (BitVec.eq_of_getLsbD_eq h)
theorem xor_full (x y : UInt8) : (x ^^^ y != 255) = (x != ~~~y) := by
  have h : x ^^^ y = 255 ↔ x = ~~~y := by
    constructor
    · intro h
      refine u8_ext fun i hi => ?_
      have := congrArg (fun z : UInt8 => z.toBitVec.getLsbD i) h
      have e : (255 : UInt8).toBitVec.getLsbD i = true := by
        have : ∀ i : Fin 8, (255 : UInt8).toBitVec.getLsbD i = true := by decide
        exact this ⟨i, hi⟩
      simp only [UInt8.toBitVec_xor, BitVec.getLsbD_xor, e] at this
      simp only [UInt8.toBitVec_not, BitVec.getLsbD_not, hi, decide_true, Bool.true_and]
      revert this
      cases x.toBitVec.getLsbD i <;> cases y.toBitVec.getLsbD i <;> simp
    · intro h
      subst h
      refine u8_ext fun i hi => ?_
      have e : (255 : UInt8).toBitVec.getLsbD i = true := by
        have : ∀ i : Fin 8, (255 : UInt8).toBitVec.getLsbD i = true := by decide
        exact this ⟨i, hi⟩
      simp only [UInt8.toBitVec_xor, BitVec.getLsbD_xor, e, UInt8.toBitVec_not, BitVec.getLsbD_not, hi, decide_true, Bool.true_and]
      cases y.toBitVec.getLsbD i <;> rfl
  rw [Bool.eq_iff_iff]; simp [h]
theorem or_same (x y : UInt8) : (x ||| y != y) = (x &&& ~~~y != 0) := by
  have h : x ||| y = y ↔ x &&& ~~~y = 0 := by
    constructor
    · intro h
      refine u8_ext fun i hi => ?_
      have := congrArg (fun z : UInt8 => z.toBitVec.getLsbD i) h
      simp only [UInt8.toBitVec_or, BitVec.getLsbD_or] at this
      have e : (0 : UInt8).toBitVec.getLsbD i = false := by simp
      simp only [UInt8.toBitVec_and, BitVec.getLsbD_and, UInt8.toBitVec_not, BitVec.getLsbD_not, hi, decide_true, Bool.true_and, e]
      revert this
      cases x.toBitVec.getLsbD i <;> cases y.toBitVec.getLsbD i <;> simp
    · intro h
      refine u8_ext fun i hi => ?_
      have := congrArg (fun z : UInt8 => z.toBitVec.getLsbD i) h
      have e : (0 : UInt8).toBitVec.getLsbD i = false := by simp
      simp only [UInt8.toBitVec_and, BitVec.getLsbD_and, UInt8.toBitVec_not, BitVec.getLsbD_not, hi, decide_true, Bool.true_and, e] at this
      simp only [UInt8.toBitVec_or, BitVec.getLsbD_or]
      revert this
      cases x.toBitVec.getLsbD i <;> cases y.toBitVec.getLsbD i <;> simp
  rw [Bool.eq_iff_iff]; simp [h]
theorem not_xor (x : UInt8) : x ^^^ 255 = ~~~x := by
  refine u8_ext fun i hi => ?_
  have e : (255 : UInt8).toBitVec.getLsbD i = true := by
    have : ∀ i : Fin 8, (255 : UInt8).toBitVec.getLsbD i = true := by decide
    exact this ⟨i, hi⟩
  simp only [UInt8.toBitVec_xor, BitVec.getLsbD_xor, e, UInt8.toBitVec_not, BitVec.getLsbD_not, hi, decide_true, Bool.true_and]
  cases x.toBitVec.getLsbD i <;> rfl

theorem put_getD_left (l : List UInt8) (k : Nat) (h : k < l.length) : (put l).getD k 0 = l.getD k 0 := by
  unfold put
  simp [List.getD, List.getElem?_append, h]
theorem put_getD_right (l : List UInt8) (k : Nat) (h : k < l.length) : (put l).getD (l.length + k) 0 = ~~~(l.getD k 0) := by
  unfold put
  simp [List.getD, h]
theorem not_not8 (x : UInt8) : ~~~(~~~x) = x := by simp
theorem right_put (l : List UInt8) : right (put l) = true := by
  unfold right
  rw [put_length, show 2 * l.length / 2 = l.length from by omega]
  have h : upto (put l) l.length l.length = true := by
    rw [upto_iff]
    intro k hk
    rw [put_getD_left l k hk, put_getD_right l k hk, not_not8]
  rw [h]
  simp
theorem got_put (l : List UInt8) : got (put l) = l := by
  unfold got
  rw [right_put, if_pos rfl, put_length, show 2 * l.length / 2 = l.length from by omega]
  unfold put
  simp
theorem put_got (l : List UInt8) (h : right l = true) : put (got l) = l := by
  unfold got
  rw [if_pos h]
  unfold right at h
  rw [Bool.and_eq_true, upto_iff] at h
  obtain ⟨h1, h2⟩ := h
  have h2 : l.length % 2 = 0 := by simpa using h2
  generalize hn : l.length / 2 = n at *
  have hl : l.length = 2 * n := by omega
  apply List.ext_getElem?
  intro j
  unfold put
  have ht : (l.take n).length = n := by simp; omega
  rw [List.getElem?_append, ht]
  by_cases hj : j < n
  · rw [if_pos hj, List.getElem?_take, if_pos hj]
  · rw [if_neg hj, List.getElem?_map, List.getElem?_take]
    by_cases hj2 : j < 2 * n
    · rw [if_pos (by omega), List.getElem?_eq_getElem (show j - n < l.length by omega), List.getElem?_eq_getElem (show j < l.length by omega)]
      have := h1 (j - n) (by omega)
      rw [show n + (j - n) = j from by omega] at this
      rw [List.getD_eq_getElem?_getD, List.getD_eq_getElem?_getD, List.getElem?_eq_getElem (show j - n < l.length by omega), List.getElem?_eq_getElem (show j < l.length by omega)] at this
      simp only [Option.getD_some] at this
      simp [this]
    · rw [if_neg (by omega), List.getElem?_eq_none (by omega)]
      rfl
theorem got_le (l : List UInt8) : (got l).length ≤ l.length := by
  unfold got
  split
  · simp; omega
  · simp
end Go.PK.Rail
