/-
  What turns bits one way alone leaves no other right bytes.
-/
import Derived.Test.YtmeialegemhlhaaRailSpec
namespace Go.PK.Rail

/-- the first k bytes of r, each changed by the mask's byte there -/
def turned (f : UInt8 → UInt8 → UInt8) (r m : List UInt8) (k : Nat) : List UInt8 := (List.range r.length).map fun i => if i < k then f (r.getD i 0) (m.getD i 0) else r.getD i 0
theorem turned_length (f : UInt8 → UInt8 → UInt8) (r m : List UInt8) (k : Nat) : (turned f r m k).length = r.length := by simp [turned]
theorem turned_get (f : UInt8 → UInt8 → UInt8) (r m : List UInt8) (k j : Nat) (hj : j < r.length) : (turned f r m k).getD j 0 = if j < k then f (r.getD j 0) (m.getD j 0) else r.getD j 0 := by
  simp [turned, hj]
theorem ext_getD {a b : List UInt8} (hl : a.length = b.length) (h : ∀ j, j < a.length → a.getD j 0 = b.getD j 0) : a = b := by
  apply List.ext_getElem hl
  intro j h1 h2
  have := h j h1
  simpa [List.getD, h1, h2] using this
theorem turned_zero (f : UInt8 → UInt8 → UInt8) (r m : List UInt8) : turned f r m 0 = r := by
  refine ext_getD (turned_length ..) fun j hj => ?_
  rw [turned_length] at hj
  rw [turned_get _ _ _ _ _ hj, if_neg (by omega)]
theorem turned_succ (f : UInt8 → UInt8 → UInt8) (r m : List UInt8) (k : Nat) (hk : k < r.length) : (turned f r m k).set k (f (r.getD k 0) (m.getD k 0)) = turned f r m (k + 1) := by
  refine ext_getD (by simp [turned_length]) fun j hj => ?_
  rw [List.length_set, turned_length] at hj
  rw [turned_get _ _ _ _ _ hj, List.getD_eq_getElem?_getD, List.getElem?_set]
  by_cases h : k = j
  · subst h
    rw [if_pos rfl, if_pos (by rw [turned_length]; exact hk), if_pos (by omega)]
    rfl
  · rw [if_neg h, ← List.getD_eq_getElem?_getD, turned_get _ _ _ _ _ hj]
    by_cases h2 : j < k
    · rw [if_pos h2, if_pos (by omega)]
    · rw [if_neg h2, if_neg (by omega)]

theorem below_iff (a b : List UInt8) : below a b = true ↔ a.length = b.length ∧ ∀ k, k < a.length → a.getD k 0 &&& ~~~(b.getD k 0) = 0 := by
  unfold below
  rw [Bool.and_eq_true, belowTo_iff]
  simp
theorem bit_and (x y : UInt8) (i : Nat) : (x &&& y).toBitVec.getLsbD i = (x.toBitVec.getLsbD i && y.toBitVec.getLsbD i) := by simp
theorem bit_or (x y : UInt8) (i : Nat) : (x ||| y).toBitVec.getLsbD i = (x.toBitVec.getLsbD i || y.toBitVec.getLsbD i) := by simp
theorem bit_not (x : UInt8) (i : Nat) (h : i < 8) : (~~~x).toBitVec.getLsbD i = !(x.toBitVec.getLsbD i) := by simp [h]
theorem bit_zero (i : Nat) : (0 : UInt8).toBitVec.getLsbD i = false := by simp
theorem and_not_zero {x y : UInt8} : x &&& ~~~y = 0 ↔ ∀ i, i < 8 → x.toBitVec.getLsbD i = true → y.toBitVec.getLsbD i = true := by
  constructor
  · intro h i hi hx
    have := congrArg (fun z : UInt8 => z.toBitVec.getLsbD i) h
    simp only [bit_and, bit_not _ _ hi, bit_zero, hx] at this
    simpa using this
  · intro h
    refine u8_ext fun i hi => ?_
    rw [bit_and, bit_not _ _ hi, bit_zero]
    have := h i hi
    revert this
    cases x.toBitVec.getLsbD i <;> cases y.toBitVec.getLsbD i <;> simp

theorem below_up (r m : List UInt8) (k : Nat) : below r (turned (· ||| ·) r m k) = true := by
  rw [below_iff]
  refine ⟨(turned_length ..).symm, fun j hj => ?_⟩
  rw [turned_get _ _ _ _ _ hj, and_not_zero]
  intro i hi hx
  split
  · rw [bit_or, hx]; rfl
  · exact hx
theorem below_down (r m : List UInt8) (k : Nat) : below (turned (fun x y => x &&& ~~~y) r m k) r = true := by
  rw [below_iff]
  refine ⟨turned_length .., fun j hj => ?_⟩
  rw [turned_length] at hj
  rw [turned_get _ _ _ _ _ hj, and_not_zero]
  intro i hi hx
  split at hx
  · rw [bit_and, Bool.and_eq_true] at hx; exact hx.1
  · exact hx

theorem right_iff (l : List UInt8) : right l = true ↔ l.length = 2 * (l.length / 2) ∧ ∀ k, k < l.length / 2 → l.getD k 0 = ~~~(l.getD (l.length / 2 + k) 0) := by
  unfold right
  rw [Bool.and_eq_true, upto_iff]
  simp
  constructor
  · intro ⟨a, b⟩; exact ⟨by omega, a⟩
  · intro ⟨a, b⟩; exact ⟨b, by omega⟩

/-- of two right rows of one length neither lies below the other one, but itself -/
theorem right_below {a b : List UInt8} (ha : right a = true) (hb : right b = true) (h : below a b = true) : a = b := by
  rw [right_iff] at ha hb
  rw [below_iff] at h
  obtain ⟨hl, h⟩ := h
  obtain ⟨ha1, ha2⟩ := ha
  obtain ⟨hb1, hb2⟩ := hb
  generalize hn : a.length / 2 = n at *
  have hn2 : b.length / 2 = n := by omega
  rw [hn2] at hb1 hb2
  have key : ∀ k, k < n → a.getD k 0 = b.getD k 0 ∧ a.getD (n + k) 0 = b.getD (n + k) 0 := by
    intro k hk
    have e1 := ha2 k hk
    have e2 := hb2 k hk
    have h1 := and_not_zero.1 (h k (by omega))
    have h2 := and_not_zero.1 (h (n + k) (by omega))
    generalize a.getD (n + k) 0 = y at *
    generalize b.getD (n + k) 0 = z at *
    have hyz : y = z := by
      refine u8_ext fun i hi => ?_
      have h1 := h1 i hi
      have h2 := h2 i hi
      rw [e1, e2, bit_not _ _ hi, bit_not _ _ hi] at h1
      revert h1 h2
      cases y.toBitVec.getLsbD i <;> cases z.toBitVec.getLsbD i <;> simp
    exact ⟨by rw [e1, e2, hyz], hyz⟩
  refine ext_getD hl fun j hj => ?_
  by_cases hjn : j < n
  · exact (key j hjn).1
  · have := (key (j - n) (by omega)).2
    rwa [show n + (j - n) = j from by omega] at this
theorem below_refl (a : List UInt8) : below a a = true := by
  rw [below_iff]
  exact ⟨rfl, fun k _ => and_not_zero.2 fun i _ h => h⟩
theorem put_inj {a b : List UInt8} (h : put a = put b) : a = b := by
  have := congrArg got h
  rwa [got_put, got_put] at this
theorem below_put (a b : List UInt8) : below (put a) (put b) = decide (a = b) := by
  rw [Bool.eq_iff_iff]
  constructor
  · intro h
    exact decide_eq_true (put_inj (right_below (right_put a) (right_put b) h))
  · intro h
    rw [of_decide_eq_true h]
    exact below_refl _
theorem right_up (a m : List UInt8) (k : Nat) : right (turned (· ||| ·) (put a) m k) = decide (turned (· ||| ·) (put a) m k = put a) := by
  rw [Bool.eq_iff_iff]
  constructor
  · intro h
    exact decide_eq_true (right_below (right_put a) h (below_up _ _ _)).symm
  · intro h
    rw [of_decide_eq_true h]
    exact right_put a
theorem right_down (a m : List UInt8) (k : Nat) : right (turned (fun x y => x &&& ~~~y) (put a) m k) = decide (turned (fun x y => x &&& ~~~y) (put a) m k = put a) := by
  rw [Bool.eq_iff_iff]
  constructor
  · intro h
    exact decide_eq_true (right_below h (right_put a) (below_down _ _ _))
  · intro h
    rw [of_decide_eq_true h]
    exact right_put a
end Go.PK.Rail
