/-
  CRC-32 as plain functions on words; nothing of the program.
-/
namespace Go.PK.Crc

def step (n : UInt32) : UInt32 := if (n &&& 1 == 1) = true then n >>> 1 ^^^ 0xEDB88320 else n >>> 1
def steps : Nat → UInt32 → UInt32
  | 0, n => n
  | k + 1, n => step (steps k n)
def eight (n : UInt32) : UInt32 := steps 8 n
def feed (n : UInt32) (l : List UInt8) : UInt32 := l.foldl (fun n b => eight (n ^^^ b.toUInt32)) n
def of (l : List UInt8) : UInt32 := ~~~(feed 0xFFFFFFFF l)

theorem xor_comm4 (a b c d : UInt32) : (a ^^^ b) ^^^ (c ^^^ d) = (a ^^^ c) ^^^ (b ^^^ d) := by
  rw [UInt32.xor_assoc, UInt32.xor_assoc, ← UInt32.xor_assoc b, UInt32.xor_comm b c, UInt32.xor_assoc c]

theorem and_one (a : UInt32) : a &&& 1 = 0 ∨ a &&& 1 = 1 := by
  have h : (a &&& 1).toNat = a.toNat % 2 := by
    rw [UInt32.toNat_and]
    exact Nat.and_one_is_mod a.toNat
  rcases Nat.mod_two_eq_zero_or_one a.toNat with e | e
  · exact .inl (UInt32.toNat_inj.1 (by rw [h, e]; rfl))
  · exact .inr (UInt32.toNat_inj.1 (by rw [h, e]; rfl))

theorem bit_ext {a b : UInt32} (h : ∀ i, a.toNat.testBit i = b.toNat.testBit i) : a = b := UInt32.toNat_inj.1 (Nat.eq_of_testBit_eq h)
theorem shr_xor (a b c : UInt32) : (a ^^^ b) >>> c = a >>> c ^^^ b >>> c := by
  refine bit_ext fun i => ?_
  rw [UInt32.toNat_xor, UInt32.toNat_shiftRight, UInt32.toNat_shiftRight, UInt32.toNat_shiftRight, UInt32.toNat_xor]
  simp only [Nat.testBit_xor, Nat.testBit_shiftRight]
theorem and_xor (a b c : UInt32) : (a ^^^ b) &&& c = (a &&& c) ^^^ (b &&& c) := by
  refine bit_ext fun i => ?_
  simp only [UInt32.toNat_xor, UInt32.toNat_and, Nat.testBit_xor, Nat.testBit_and]
  cases a.toNat.testBit i <;> cases b.toNat.testBit i <;> cases c.toNat.testBit i <;> rfl

/-- a step is linear -/
theorem step_xor (a b : UInt32) : step (a ^^^ b) = step a ^^^ step b := by
  unfold step
  have e : (a ^^^ b) &&& 1 = (a &&& 1) ^^^ (b &&& 1) := and_xor a b 1
  rw [e, shr_xor]
  rcases and_one a with ha | ha <;> rcases and_one b with hb | hb <;> rw [ha, hb]
  · rfl
  · show (a >>> 1 ^^^ b >>> 1) ^^^ (0xEDB88320 : UInt32) = a >>> 1 ^^^ (b >>> 1 ^^^ (0xEDB88320 : UInt32))
    rw [UInt32.xor_assoc]
  · show (a >>> 1 ^^^ b >>> 1) ^^^ (0xEDB88320 : UInt32) = (a >>> 1 ^^^ (0xEDB88320 : UInt32)) ^^^ b >>> 1
    rw [UInt32.xor_assoc, UInt32.xor_assoc, UInt32.xor_comm (b >>> 1)]
  · show a >>> 1 ^^^ b >>> 1 = (a >>> 1 ^^^ (0xEDB88320 : UInt32)) ^^^ (b >>> 1 ^^^ (0xEDB88320 : UInt32))
    rw [xor_comm4, UInt32.xor_self, UInt32.xor_zero]
theorem steps_xor (k : Nat) (a b : UInt32) : steps k (a ^^^ b) = steps k a ^^^ steps k b := by
  induction k with
  | zero => rfl
  | succ k ih => rw [steps, ih, step_xor, steps, steps]
theorem steps_zero (k : Nat) : steps k 0 = 0 := by
  induction k with
  | zero => rfl
  | succ k ih => rw [steps, ih]; decide
theorem steps_add (j k : Nat) (a : UInt32) : steps (j + k) a = steps j (steps k a) := by
  induction j with
  | zero => rw [Nat.zero_add]; rfl
  | succ j ih => rw [Nat.succ_add, steps, ih, steps]

/-- a number without a one among its lowest k bits is but turned down -/
theorem steps_high (k : Nat) (hk : k < 32) (a : UInt32) (h : a.toNat % 2 ^ k = 0) : (steps k a).toNat = a.toNat / 2 ^ k := by
  induction k with
  | zero => simp [steps]
  | succ k ih =>
    have h1 : a.toNat % 2 ^ k = 0 := Nat.mod_eq_zero_of_dvd (Nat.dvd_trans (Nat.pow_dvd_pow 2 (Nat.le_succ k)) (Nat.dvd_of_mod_eq_zero h))
    have ih' := ih (by omega) h1
    rw [steps]
    have hb : (steps k a).toNat % 2 = 0 := by
      rw [ih']
      have := Nat.mod_mul (x := a.toNat) (a := 2 ^ k) (b := 2)
      rw [← Nat.pow_succ, h, h1] at this
      have h2 : 2 ^ k * (a.toNat / 2 ^ k % 2) = 0 := by omega
      rcases Nat.mul_eq_zero.1 h2 with h3 | h3
      · have := Nat.two_pow_pos k; omega
      · exact h3
    have e : steps k a &&& 1 = 0 := UInt32.toNat_inj.1 (by rw [UInt32.toNat_and]; show _ &&& 1 = 0; rw [Nat.and_one_is_mod, hb])
    unfold step
    rw [e]
    show (steps k a >>> 1).toNat = _
    rw [UInt32.toNat_shiftRight]
    show (steps k a).toNat >>> 1 = _
    rw [Nat.shiftRight_eq_div_pow, ih', Nat.div_div_eq_div_mul, Nat.pow_succ 2 k]

/-- the way of tables: the low byte by itself -/
theorem eight_split (n : UInt32) : eight n = eight (n.toUInt8.toUInt32) ^^^ n >>> 8 := by
  have hs : n = n.toUInt8.toUInt32 ^^^ (n &&& 0xFFFFFF00) := by
    apply UInt32.toNat_inj.1
    rw [UInt32.toNat_xor, UInt32.toNat_and]
    simp only [UInt8.toNat_toUInt32, UInt32.toNat_toUInt8]
    show n.toNat = n.toNat % 2 ^ 8 ^^^ (n.toNat &&& 0xFFFFFF00)
    apply Nat.eq_of_testBit_eq
    intro i
    rw [Nat.testBit_xor, Nat.testBit_mod_two_pow, Nat.testBit_and]
    by_cases hi : i < 32
    · by_cases h8 : i < 8
      · have : (0xFFFFFF00 : Nat).testBit i = false := by
          have : ∀ i : Fin 8, (0xFFFFFF00 : Nat).testBit i = false := by decide
          exact this ⟨i, h8⟩
        simp [h8, this]
      · have : (0xFFFFFF00 : Nat).testBit i = true := by
          have : ∀ i : Fin 24, (0xFFFFFF00 : Nat).testBit (8 + i) = true := by decide
          have := this ⟨i - 8, by omega⟩
          simpa [show 8 + (i - 8) = i by omega] using this
        simp [h8, this]
    · have hn : n.toNat.testBit i = false := Nat.testBit_lt_two_pow (Nat.lt_of_lt_of_le n.toNat_lt (Nat.pow_le_pow_right (by decide) (by omega)))
      simp [hn]
  have hh : steps 8 (n &&& 0xFFFFFF00) = n >>> 8 := by
    apply UInt32.toNat_inj.1
    have e : (n &&& 0xFFFFFF00).toNat = n.toNat &&& 0xFFFFFF00 := by rw [UInt32.toNat_and]; rfl
    have e2 : n.toNat &&& 0xFFFFFF00 = n.toNat / 2 ^ 8 * 2 ^ 8 := by
      apply Nat.eq_of_testBit_eq
      intro i
      rw [Nat.testBit_and, Nat.testBit_mul_two_pow, Nat.testBit_div_two_pow]
      by_cases h8 : i < 8
      · have : (0xFFFFFF00 : Nat).testBit i = false := by
          have : ∀ i : Fin 8, (0xFFFFFF00 : Nat).testBit i = false := by decide
          exact this ⟨i, h8⟩
        simp [this, show ¬ 8 ≤ i by omega]
      · by_cases hi : i < 32
        · have : (0xFFFFFF00 : Nat).testBit i = true := by
            have : ∀ i : Fin 24, (0xFFFFFF00 : Nat).testBit (8 + i) = true := by decide
            have := this ⟨i - 8, by omega⟩
            simpa [show 8 + (i - 8) = i by omega] using this
          simp [this, show 8 ≤ i by omega, show i - 8 + 8 = i by omega]
        · have hn : n.toNat.testBit i = false := Nat.testBit_lt_two_pow (Nat.lt_of_lt_of_le n.toNat_lt (Nat.pow_le_pow_right (by decide) (by omega)))
          simp [hn, show 8 ≤ i by omega, show i - 8 + 8 = i by omega]
    rw [steps_high 8 (by decide) _ (by rw [e, e2]; exact Nat.mul_mod_left _ _), e, e2, Nat.mul_div_cancel _ (by decide), UInt32.toNat_shiftRight]
    show _ = n.toNat >>> 8
    rw [Nat.shiftRight_eq_div_pow]
  unfold eight
  rw [← hh, ← steps_xor, ← hs]

theorem write_step (x : UInt32) (c : UInt8) : eight ((x.toUInt8 ^^^ c).toUInt32) ^^^ x >>> 8 = eight (x ^^^ c.toUInt32) := by
  rw [eight_split (x ^^^ c.toUInt32), shr_xor]
  have e1 : (x ^^^ c.toUInt32).toUInt8 = x.toUInt8 ^^^ c := by
    apply UInt8.toNat_inj.1
    simp only [UInt32.toNat_toUInt8, UInt32.toNat_xor, UInt8.toNat_toUInt32, UInt8.toNat_xor]
    rw [Nat.xor_mod_two_pow, Nat.mod_eq_of_lt c.toNat_lt]
  have e2 : c.toUInt32 >>> 8 = 0 := by
    apply UInt32.toNat_inj.1
    rw [UInt32.toNat_shiftRight]
    simp only [UInt8.toNat_toUInt32]
    show c.toNat >>> 8 = 0
    rw [Nat.shiftRight_eq_div_pow]
    exact Nat.div_eq_of_lt c.toNat_lt
  rw [e1, e2, UInt32.xor_zero]

theorem feed_append (n : UInt32) (l m : List UInt8) : feed n (l ++ m) = feed (feed n l) m := by
  unfold feed
  rw [List.foldl_append]
theorem feed_snoc (n : UInt32) (l : List UInt8) (b : UInt8) : feed n (l ++ [b]) = eight (feed n l ^^^ b.toUInt32) := by
  rw [feed_append]; rfl
end Go.PK.Crc
