/-
  Cells: what is made is read as it was made; what is read as a record is that record's cell; what lies above a right cell is no other right cell.
-/
import Derived.Test.YtmeialegemhlhaaCellR
import Derived.Test.YtmeialegemhlhaaRailSpec2
namespace Go.Proofs.Ytmeialegemhlhaa
open Go.RowKit Go.PK

theorem made_split (kd s : UInt8) (n : Nat) : ∃ rest, Cell.made kd s n = [kd, s, 0, 0] ++ (le 8 n ++ rest) := by
  unfold Cell.made Cell.rec' Cell.body Rail.put
  exact ⟨_, by simp only [List.append_assoc]; rfl⟩
theorem number_made (kd s : UInt8) (n : Int) (h0 : 0 ≤ n) (hn : n < 9223372036854775808) : Cell.number (Cell.made kd s n.toNat) = n := by
  obtain ⟨m, rfl⟩ : ∃ m : Nat, n = m := ⟨n.toNat, by omega⟩
  rw [Int.toNat_natCast]
  obtain ⟨rest, hr⟩ := made_split kd s m
  have he : ((Cell.made kd s m).drop 4).take 8 = le 8 m := by
    rw [hr]
    show List.take 8 (le 8 m ++ rest) = le 8 m
    rw [List.take_append_of_le_length (by rw [le_length]; omega), List.take_of_length_le (by rw [le_length]; omega)]
  rw [← asI_number, he, num_le]
  unfold asI
  rw [wrapP_i64]
  have : m % 2 ^ (8 * 8) = m := Nat.mod_eq_of_lt (by omega)
  rw [this]
  omega
theorem inside_iff (n : Int) : Cell.inside n = true ↔ 1 ≤ n ∧ n ≤ 4611686018427387904 := by unfold Cell.inside; simp
theorem made_ne_blank (s : UInt8) (n : Nat) : (Cell.made 1 s n == Cell.blank) = false ∧ (Cell.made 2 s n == Cell.blank) = false := by
  have hb : Cell.blank.getD 0 0 = 255 := rfl
  constructor
  all_goals
    rw [beq_eq_false_iff_ne]
    intro h
    have := congrArg (fun l : List UInt8 => l.getD 0 0) h
    simp only [Cell.made_head, hb] at this
    exact absurd this (by decide)
theorem made_snd (kd s : UInt8) (n : Nat) : (Cell.made kd s n).getD 1 0 = s := by
  obtain ⟨rest, hr⟩ := made_split kd s n
  rw [hr]
  rfl
theorem read_head (n : Int) (h : Cell.inside n = true) : Cell.read (Cell.made 1 0 n.toNat) = (1, 0, n) := by
  have hi := (inside_iff n).1 h
  unfold Cell.read
  rw [(made_ne_blank 0 n.toNat).1, number_made 1 0 n (by omega) (by omega), h]
  simp
theorem read_value (s n : Int) (h0 : 0 ≤ s) (h8 : s ≤ 8) (h : Cell.inside n = true) : Cell.read (Cell.made 2 (UInt8.ofInt s) n.toNat) = (2, s, n) := by
  have hi := (inside_iff n).1 h
  have hs : ((UInt8.ofInt s).toNat : Int) = s := by
    rw [show UInt8.ofInt s = UInt8.ofNat (s % 256).toNat from rfl, UInt8.toNat_ofNat']
    omega
  have hs8 : (UInt8.ofInt s).toNat ≤ 8 := by omega
  have hne : (Cell.made 2 (UInt8.ofInt s) n.toNat == Cell.made 1 0 n.toNat) = false := by
    rw [beq_eq_false_iff_ne]
    intro h
    have := congrArg (fun l : List UInt8 => l.getD 0 0) h
    simp only [Cell.made_head] at this
    exact absurd this (by decide)
  unfold Cell.read
  rw [(made_ne_blank _ n.toNat).2, number_made 2 _ n (by omega) (by omega), h, hne, made_snd, decide_eq_true hs8, beq_self_eq_true, hs]
  rfl

/-- what a cell may say, and what it is then -/
theorem read_inv (c : List UInt8) : (Cell.read c = (0, 0, 0) ∧ c = Cell.blank) ∨ (∃ n, Cell.read c = (1, 0, n) ∧ Cell.inside n = true ∧ c = Cell.made 1 0 n.toNat) ∨
    (∃ s n : Int, Cell.read c = (2, s, n) ∧ 0 ≤ s ∧ s ≤ 8 ∧ Cell.inside n = true ∧ c = Cell.made 2 (UInt8.ofInt s) n.toNat) ∨ (Cell.read c = (3, 0, 0) ∧ c ≠ Cell.blank) := by
  unfold Cell.read
  by_cases hb : (c == Cell.blank) = true
  · rw [if_pos hb]
    exact .inl ⟨rfl, beq_iff_eq.1 hb⟩
  · rw [if_neg hb]
    have hb' : c ≠ Cell.blank := fun h => hb (beq_iff_eq.2 h)
    by_cases hi : Cell.inside (Cell.number c) = true
    · rw [hi, if_neg (by decide)]
      by_cases h1 : (c == Cell.made 1 0 (Cell.number c).toNat) = true
      · rw [if_pos h1]
        exact .inr (.inl ⟨_, rfl, hi, beq_iff_eq.1 h1⟩)
      · rw [if_neg h1]
        by_cases h2 : (decide ((c.getD 1 0).toNat ≤ 8) && c == Cell.made 2 (c.getD 1 0) (Cell.number c).toNat) = true
        · rw [if_pos h2]
          rw [Bool.and_eq_true, decide_eq_true_eq, beq_iff_eq] at h2
          refine .inr (.inr (.inl ⟨_, _, rfl, by omega, by omega, hi, ?_⟩))
          rw [ofInt8_nat, UInt8.ofNat_toNat]
          exact h2.2
        · rw [if_neg h2]
          exact .inr (.inr (.inr ⟨rfl, hb'⟩))
    · have hi' : Cell.inside (Cell.number c) = false := by simpa using hi
      rw [hi', if_pos (by decide)]
      exact .inr (.inr (.inr ⟨rfl, hb'⟩))

theorem head_iff (n : Int) : (Cell.inside n = true ∧ Cell.head n = (Cell.made 1 0 n.toNat, 0)) ∨ (Cell.inside n = false ∧ Cell.head n = (Cell.zeros 32, 2)) := by
  unfold Cell.head
  cases h : Cell.inside n <;> simp
theorem value_iff (s n : Int) : (0 ≤ s ∧ s ≤ 8 ∧ Cell.inside n = true ∧ Cell.value s n = (Cell.made 2 (UInt8.ofInt s) n.toNat, 0)) ∨ (Cell.value s n = (Cell.zeros 32, 2)) := by
  unfold Cell.value
  by_cases h : (decide (0 ≤ s) && decide (s ≤ 8) && Cell.inside n) = true
  · rw [if_pos h]
    simp at h
    exact .inl ⟨h.1.1, h.1.2, h.2, rfl⟩
  · rw [if_neg h]
    exact .inr rfl

/-- a cell that is read as a record -/
def isRight (c : List UInt8) : Prop := Rail.right c = true ∧ c.length = 32
theorem made_right (kd s : UInt8) (n : Nat) : isRight (Cell.made kd s n) := ⟨Rail.right_put _, Cell.made_length kd s n⟩
theorem torn_get (was nu m : List UInt8) (i : Nat) (hi : i < 32) : (torn was nu m).getD i 0 = (gb was i &&& ~~~ maskAt m i) ||| (gb nu i &&& maskAt m i) := by
  unfold torn
  simp [List.getD_eq_getElem?_getD, hi]
theorem blank_get (i : Nat) (hi : i < 32) : gb Cell.blank i = 255 := by
  show (List.replicate 32 (255 : UInt8)).getD i 0 = 255
  rw [List.getD_eq_getElem?_getD, List.getElem?_replicate, if_pos hi]
  rfl
theorem bit_ff (i : Nat) (hi : i < 8) : (255 : UInt8).toBitVec.getLsbD i = true := by
  match i, hi with
  | 0, _ => rfl
  | 1, _ => rfl
  | 2, _ => rfl
  | 3, _ => rfl
  | 4, _ => rfl
  | 5, _ => rfl
  | 6, _ => rfl
  | 7, _ => rfl
theorem torn_up1 (c m : List UInt8) (hc : c.length = 32) : Rail.below c (torn Cell.blank c m) = true := by
  rw [Rail.below_iff]
  refine ⟨by rw [hc]; exact (torn_len _ _ _).eq.symm, fun i hi => ?_⟩
  rw [hc] at hi
  rw [torn_get _ _ _ _ hi, blank_get i hi, Rail.and_not_zero]
  intro j hj hx
  have hx' : (gb c i).toBitVec.getLsbD j = true := hx
  rw [Rail.bit_or, Rail.bit_and, Rail.bit_and, Rail.bit_not _ _ hj, bit_ff j hj, hx']
  cases (maskAt m i).toBitVec.getLsbD j <;> rfl
theorem torn_up2 (c m : List UInt8) (hc : c.length = 32) : Rail.below c (torn c Cell.blank m) = true := by
  rw [Rail.below_iff]
  refine ⟨by rw [hc]; exact (torn_len _ _ _).eq.symm, fun i hi => ?_⟩
  rw [hc] at hi
  rw [torn_get _ _ _ _ hi, blank_get i hi, Rail.and_not_zero]
  intro j hj hx
  have hx' : (gb c i).toBitVec.getLsbD j = true := hx
  rw [Rail.bit_or, Rail.bit_and, Rail.bit_and, Rail.bit_not _ _ hj, bit_ff j hj, hx']
  cases (maskAt m i).toBitVec.getLsbD j <;> rfl
theorem below_trans {a b c : List UInt8} (h : Rail.below a b = true) (k : Rail.below b c = true) : Rail.below a c = true := by
  rw [Rail.below_iff] at *
  refine ⟨h.1.trans k.1, fun i hi => ?_⟩
  have h1 := Rail.and_not_zero.1 (h.2 i hi)
  have h2 := Rail.and_not_zero.1 (k.2 i (by rw [← h.1]; exact hi))
  exact Rail.and_not_zero.2 fun j hj hx => h2 j hj (h1 j hj hx)
/-- what lies above a right cell, and is neither it nor blank, is torn -/
theorem read_above {c x : List UInt8} (hc : isRight c) (h : Rail.below c x = true) (h1 : x ≠ c) (h2 : x ≠ Cell.blank) : Cell.read x = (3, 0, 0) := by
  rcases read_inv x with ⟨-, hb⟩ | ⟨n, -, -, hx⟩ | ⟨s, n, -, -, -, -, hx⟩ | ⟨h3, -⟩
  · exact absurd hb h2
  · have hr : Rail.right x = true := by rw [hx]; exact (made_right _ _ _).1
    exact absurd (Rail.right_below hc.1 hr h).symm h1
  · have hr : Rail.right x = true := by rw [hx]; exact (made_right _ _ _).1
    exact absurd (Rail.right_below hc.1 hr h).symm h1
  · exact h3
/-- of unlike right cells none lies below the other one -/
theorem apart {a b : List UInt8} (ha : isRight a) (hb : isRight b) (h : a ≠ b) : Rail.below a b = false ∧ Rail.below b a = false := by
  constructor
  · cases hx : Rail.below a b with
    | false => rfl
    | true => exact absurd (Rail.right_below ha.1 hb.1 hx) h
  · cases hx : Rail.below b a with
    | false => rfl
    | true => exact absurd (Rail.right_below hb.1 ha.1 hx).symm h
theorem read_inj {a b : List UInt8} (h : Cell.read a = Cell.read b) (hk : (Cell.read a).1 = 1 ∨ (Cell.read a).1 = 2) : a = b := by
  rcases read_inv a with ⟨h1, -⟩ | ⟨n, h1, -, ea⟩ | ⟨s, n, h1, -, -, -, ea⟩ | ⟨h1, -⟩
  · rw [h1] at hk; simp at hk
  · rcases read_inv b with ⟨h2, -⟩ | ⟨m, h2, -, eb⟩ | ⟨t, m, h2, -, -, -, eb⟩ | ⟨h2, -⟩
    · rw [h1, h2] at h; simp at h
    · rw [h1, h2] at h
      simp at h
      rw [ea, eb, h]
    · rw [h1, h2] at h; simp at h
    · rw [h1, h2] at h; simp at h
  · rcases read_inv b with ⟨h2, -⟩ | ⟨m, h2, -, eb⟩ | ⟨t, m, h2, -, -, -, eb⟩ | ⟨h2, -⟩
    · rw [h1, h2] at h; simp at h
    · rw [h1, h2] at h; simp at h
    · rw [h1, h2] at h
      simp at h
      rw [ea, eb, h.1, h.2]
    · rw [h1, h2] at h; simp at h
  · rw [h1] at hk; simp at hk
theorem kinds (c : List UInt8) : ((Cell.read c).1 = 0 ∨ (Cell.read c).1 = 3) ∨ (((Cell.read c).1 = 1 ∨ (Cell.read c).1 = 2) ∧ isRight c) := by
  rcases read_inv c with ⟨h1, -⟩ | ⟨n, h1, -, ea⟩ | ⟨s, n, h1, -, -, -, ea⟩ | ⟨h1, -⟩
  · rw [h1]; exact .inl (.inl rfl)
  · rw [h1, ea]; exact .inr ⟨.inl rfl, made_right _ _ _⟩
  · rw [h1, ea]; exact .inr ⟨.inr rfl, made_right _ _ _⟩
  · rw [h1]; exact .inl (.inr rfl)
end Go.Proofs.Ytmeialegemhlhaa
