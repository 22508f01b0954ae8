/-
  CRC-32 tells a burst of 32 bits: what a turned bit does to the sum.
-/
import Derived.Test.YtmeialegemhlhaaCrcSpec2
import Derived.Test.YtmeialegemhlhaaK
namespace Go.PK.Crc

theorem feed_state (l : List UInt8) : ∀ (x d : UInt32), feed (x ^^^ d) l = feed x l ^^^ steps (8 * l.length) d := by
  induction l with
  | nil => intro x d; rfl
  | cons c l ih =>
    intro x d
    show feed (eight (x ^^^ d ^^^ c.toUInt32)) l = feed (eight (x ^^^ c.toUInt32)) l ^^^ _
    rw [show x ^^^ d ^^^ c.toUInt32 = (x ^^^ c.toUInt32) ^^^ d from by rw [UInt32.xor_assoc, UInt32.xor_comm d, ← UInt32.xor_assoc]]
    unfold eight
    rw [steps_xor, ih]
    congr 1
    rw [List.length_cons, show 8 * (l.length + 1) = 8 * l.length + 8 from by omega, steps_add]

theorem one_bit (k : Nat) (h : k < 32) : (UInt32.ofNat (2 ^ k)).toNat = 2 ^ k := by
  rw [UInt32.toNat_ofNat']
  exact Nat.mod_eq_of_lt (Nat.pow_lt_pow_right (by decide) h)
theorem steps_bit (k n : Nat) (h : k < 32) (hn : k ≤ n) : steps n (UInt32.ofNat (2 ^ k)) = steps (n - k) 1 := by
  have e : steps k (UInt32.ofNat (2 ^ k)) = 1 := by
    apply UInt32.toNat_inj.1
    rw [steps_high k h _ (by rw [one_bit k h, Nat.mod_self]), one_bit k h, Nat.div_self (Nat.two_pow_pos k)]
    rfl
  rw [show n = (n - k) + k from by omega, steps_add, e]
  congr 1
  omega

/-- bit number p turned -/
def flip (l : List UInt8) (p : Nat) : List UInt8 := l.set (p / 8) (l.getD (p / 8) 0 ^^^ 1 <<< UInt8.ofNat (p % 8))
theorem flip_length (l : List UInt8) (p : Nat) : (flip l p).length = l.length := by unfold flip; rw [List.length_set]
theorem bit8 (k : Nat) (h : k < 8) : ((1 : UInt8) <<< UInt8.ofNat k).toUInt32 = UInt32.ofNat (2 ^ k) := by
  have : ∀ k : Fin 8, ((1 : UInt8) <<< UInt8.ofNat k.val).toUInt32 = UInt32.ofNat (2 ^ k.val) := by decide
  exact this ⟨k, h⟩
theorem feed_set (l : List UInt8) : ∀ (j : Nat) (n : UInt32) (m : UInt8), j < l.length → feed n (l.set j (l.getD j 0 ^^^ m)) = feed n l ^^^ steps (8 * (l.length - j)) m.toUInt32 := by
  induction l with
  | nil => intro j n m h; simp at h
  | cons c l ih =>
    intro j n m h
    cases j with
    | zero =>
      show feed (eight (n ^^^ (c ^^^ m).toUInt32)) l = feed (eight (n ^^^ c.toUInt32)) l ^^^ _
      rw [UInt8.toUInt32_xor, ← UInt32.xor_assoc]
      unfold eight
      rw [steps_xor, feed_state]
      congr 1
      rw [List.length_cons, show 8 * (l.length + 1 - 0) = 8 * l.length + 8 from by omega, steps_add]
    | succ j =>
      show feed (eight (n ^^^ c.toUInt32)) (l.set j (l.getD j 0 ^^^ m)) = feed (eight (n ^^^ c.toUInt32)) l ^^^ _
      rw [ih j _ m (by simpa using h)]
      congr 2
      rw [List.length_cons]
      omega
theorem feed_flip (l : List UInt8) (p : Nat) (n : UInt32) (h : p < 8 * l.length) : feed n (flip l p) = feed n l ^^^ steps (8 * l.length - p) 1 := by
  unfold flip
  rw [feed_set l (p / 8) n _ (by omega), bit8 _ (by omega), steps_bit (p % 8) _ (by omega) (by omega)]
  congr 2
  omega

theorem step_inj {x : UInt32} (h : step x = 0) : x = 0 := by
  unfold step at h
  split at h
  · exfalso
    have h2 := congrArg (fun x : UInt32 => x.toNat.testBit 31) h
    simp only [UInt32.toNat_xor, Nat.testBit_xor, UInt32.toNat_shiftRight, Nat.testBit_shiftRight] at h2
    have e : x.toNat.testBit 32 = false := Nat.testBit_lt_two_pow x.toNat_lt
    have e2 : (0xEDB88320 : UInt32).toNat.testBit 31 = true := by decide
    rw [e2, show (1 : UInt32).toNat % 32 + 31 = 32 from by decide, e] at h2
    exact absurd h2 (by decide)
  · rename_i hb
    have hb' : x &&& 1 = 0 := by
      rcases and_one x with e | e
      · exact e
      · rw [e] at hb; exact absurd rfl hb
    apply UInt32.toNat_inj.1
    have h1 := congrArg UInt32.toNat h
    rw [UInt32.toNat_shiftRight] at h1
    have h1' : x.toNat / 2 = 0 := by
      have : x.toNat >>> 1 = 0 := h1
      rwa [Nat.shiftRight_eq_div_pow] at this
    have h2 := congrArg UInt32.toNat hb'
    rw [UInt32.toNat_and] at h2
    have h2' : x.toNat % 2 = 0 := by
      have : x.toNat &&& 1 = 0 := h2
      rwa [Nat.and_one_is_mod] at this
    show x.toNat = 0
    omega
theorem steps_inj (k : Nat) {x : UInt32} (h : steps k x = 0) : x = 0 := by
  induction k with
  | zero => exact h
  | succ k ih => exact ih (step_inj h)

/-- what the loop keeps: the bits turned so far, d, of which k were looked at; 'any': whether one was -/
def Turned (b l : List UInt8) (t k : Nat) (any : Bool) : Prop :=
  l.length = b.length ∧ ∃ d : UInt32, d.toNat < 2 ^ k ∧ any = (d != 0) ∧ ∀ n, feed n l = feed n b ^^^ steps (8 * b.length - t) d
theorem Turned.start (b : List UInt8) (t : Nat) : Turned b b t 0 false := ⟨rfl, 0, by decide, rfl, fun n => by rw [steps_zero, UInt32.xor_zero]⟩
theorem Turned.no {b l : List UInt8} {t k : Nat} {any : Bool} (h : Turned b l t k any) : Turned b l t (k + 1) any := by
  obtain ⟨h1, d, h2, h3, h4⟩ := h
  exact ⟨h1, d, Nat.lt_of_lt_of_le h2 (Nat.pow_le_pow_right (by decide) (by omega)), h3, h4⟩
theorem Turned.yes {b l : List UInt8} {t k : Nat} {any : Bool} (h : Turned b l t k any) (hk : k < 32) (ht : t + k < 8 * b.length) : Turned b (flip l (t + k)) t (k + 1) true := by
  obtain ⟨h1, d, h2, h3, h4⟩ := h
  have hd : (d ^^^ UInt32.ofNat (2 ^ k)).toNat = d.toNat ^^^ 2 ^ k := by rw [UInt32.toNat_xor, one_bit k hk]
  have hb : (d ^^^ UInt32.ofNat (2 ^ k)).toNat.testBit k = true := by
    rw [hd, Nat.testBit_xor, Nat.testBit_lt_two_pow h2, Nat.testBit_two_pow_self]; rfl
  refine ⟨by rw [flip_length, h1], d ^^^ UInt32.ofNat (2 ^ k), ?_, ?_, fun n => ?_⟩
  · rw [hd]
    exact Nat.xor_lt_two_pow (Nat.lt_of_lt_of_le h2 (Nat.pow_le_pow_right (by decide) (by omega))) (Nat.pow_lt_pow_right (by decide) (by omega))
  · symm
    rw [bne_iff_ne]
    intro h0
    rw [h0] at hb
    simp at hb
  · rw [feed_flip l (t + k) n (by rw [h1]; exact ht), h4 n, steps_xor, steps_bit k _ hk (by omega), UInt32.xor_assoc, h1]
    congr 3
    omega
theorem Turned.told {b l : List UInt8} {t k : Nat} {any : Bool} (h : Turned b l t k any) : (of l != of b) = any := by
  obtain ⟨_, d, _, h3, h4⟩ := h
  subst h3
  unfold of
  rw [h4]
  rw [Bool.eq_iff_iff, bne_iff_ne, bne_iff_ne]
  constructor
  · intro h h0
    subst h0
    rw [steps_zero, UInt32.xor_zero] at h
    exact h rfl
  · intro h h0
    refine h (steps_inj (8 * b.length - t) ?_)
    have h1 := congrArg (~~~ ·) h0
    simp only [UInt32.not_not] at h1
    have h2 := congrArg (feed 0xFFFFFFFF b ^^^ ·) h1
    simp only [UInt32.xor_self] at h2
    rwa [← UInt32.xor_assoc, UInt32.xor_self, UInt32.zero_xor] at h2
end Go.PK.Crc
