/-
  Images (chapter 11) as plain functions: what is made of an image, what bytes say, what is wrong first; nothing of the program.
-/
import Derived.Test.YtejmbkljnhnklaaDoorMacSpec
namespace Go.PK.Img
/-- an image: slot, key, version, payload, tag -/
structure Im where
  slot : Int
  key : Int
  ver : Int
  pay : List UInt8
  tag : List UInt8
def im0 : Im := ⟨0, 0, 0, [], List.replicate 32 0⟩
def four (n : Nat) : List UInt8 := [UInt8.ofNat n, UInt8.ofNat (n / 256), UInt8.ofNat (n / 65536), UInt8.ofNat (n / 16777216)]
def number (l : List UInt8) : Nat := (gb l 0).toNat + 256 * (gb l 1).toNat + 65536 * (gb l 2).toNat + 16777216 * (gb l 3).toNat
/-- numbers that no image has -/
def Off (x : Im) : Prop := x.slot < 0 ∨ 7 < x.slot ∨ x.key < 0 ∨ 63 < x.key ∨ x.ver < 0 ∨ 4294967295 < x.ver
instance (x : Im) : Decidable (Off x) := by unfold Off; exact inferInstance
def may (x : Im) : Nat := if Off x then 2 else if 524240 < x.pay.length then 4 else 0
def head (x : Im) : List UInt8 := [80, 67, 85, 76, 1, UInt8.ofNat x.slot.toNat, UInt8.ofNat x.key.toNat, 0] ++ (four x.ver.toNat ++ four x.pay.length)
def cover (x : Im) : List UInt8 := head x ++ x.pay
def make (s : List UInt8) (x : Im) : List UInt8 × Nat := if may x = 0 then (cover x ++ Mac.tag s (cover x), 0) else ([], may x)
/-- may this byte stand at that place? -/
def must (k : Nat) (c : UInt8) : Bool :=
  match k with
  | 0 => c == 80
  | 1 => c == 67
  | 2 => c == 85
  | 3 => c == 76
  | 4 => c == 1
  | 5 => decide (c < 8)
  | 6 => decide (c < 64)
  | 7 => c == 0
  | _ => true
/-- what is wrong at a place of the head -/
def stop (b : List UInt8) (k : Nat) : Option (Nat × Nat) := if k = b.length then some (6, k) else if must k (gb b k) then none else some (5, k)
/-- what is wrong first, from a place on, in so many places -/
def first (b : List UInt8) : Nat → Nat → Option (Nat × Nat)
  | _, 0 => none
  | k, f + 1 => match stop b k with
    | some e => some e
    | none => first b (k + 1) f
def rest (b : List UInt8) (n : Nat) : Im × (Nat × Nat) :=
  if 524240 < n then (im0, (5, 12))
  else if b.length < n + 48 then (im0, (6, b.length))
  else if n + 48 < b.length then (im0, (7, n + 48))
  else (⟨((gb b 5).toNat : Int), ((gb b 6).toNat : Int), (number (b.drop 8) : Int), (b.drop 16).take n, b.drop (16 + n)⟩, (0, 0))
def parse (b : List UInt8) : Im × (Nat × Nat) :=
  if 524288 < b.length then (im0, (4, 524288))
  else match first b 0 16 with
    | some e => (im0, e)
    | none => rest b (number (b.drop 12))
def body (b : List UInt8) : List UInt8 := if b.length < 32 then [] else b.take (b.length - 32)

theorem first_step {b : List UInt8} {k f : Nat} (h : stop b k = none) : first b k (f + 1) = first b (k + 1) f := by
  rw [first, h]
theorem first_end {b : List UInt8} {k f : Nat} {e : Nat × Nat} (h : stop b k = some e) : first b k (f + 1) = some e := by
  rw [first, h]
theorem four_len (n : Nat) : (four n).length = 4 := rfl
theorem head_len (x : Im) : (head x).length = 16 := rfl
theorem cover_len (x : Im) : (cover x).length = 16 + x.pay.length := by rw [cover, List.length_append, head_len]
theorem number_four {n : Nat} (h : n < 4294967296) (R : List UInt8) : number (four n ++ R) = n := by
  unfold number four gb
  simp only [List.cons_append, List.getD_cons_zero, List.getD_cons_succ, UInt8.toNat_ofNat']
  omega
theorem list4 {l : List UInt8} (h : 4 ≤ l.length) : ∃ a b c d R, l = a :: b :: c :: d :: R := by
  match l, h with
  | a :: b :: c :: d :: R, _ => exact ⟨a, b, c, d, R, rfl⟩
theorem number_lt (l : List UInt8) : number l < 4294967296 := by
  unfold number
  have h0 := (gb l 0).toNat_lt
  have h1 := (gb l 1).toNat_lt
  have h2 := (gb l 2).toNat_lt
  have h3 := (gb l 3).toNat_lt
  omega
theorem u8_eq {n : Nat} {c : UInt8} (h : n % 256 = c.toNat) : UInt8.ofNat n = c := UInt8.toNat_inj.1 (by rw [UInt8.toNat_ofNat']; exact h)
theorem four_number {l : List UInt8} (h : 4 ≤ l.length) : four (number l) = l.take 4 := by
  obtain ⟨a, b, c, d, R, rfl⟩ := list4 h
  have h0 := a.toNat_lt
  have h1 := b.toNat_lt
  have h2 := c.toNat_lt
  have h3 := d.toNat_lt
  show [_, _, _, _] = [a, b, c, d]
  have hn : number (a :: b :: c :: d :: R) = a.toNat + 256 * b.toNat + 65536 * c.toNat + 16777216 * d.toNat := rfl
  rw [hn, u8_eq (c := a), u8_eq (c := b), u8_eq (c := c), u8_eq (c := d)] <;> omega
theorem stop_head {x : Im} (h : ¬ Off x) (R : List UInt8) {k : Nat} (hk : k < 16) : stop (head x ++ R) k = none := by
  unfold Off at h
  have hl : ¬ k = (head x ++ R).length := by rw [List.length_append, head_len]; omega
  have hs : UInt8.ofNat x.slot.toNat < 8 := by
    rw [UInt8.lt_iff_toNat_lt, UInt8.toNat_ofNat']
    show _ < 8
    omega
  have hkk : UInt8.ofNat x.key.toNat < 64 := by
    rw [UInt8.lt_iff_toNat_lt, UInt8.toNat_ofNat']
    show _ < 64
    omega
  unfold stop
  rw [if_neg hl]
  have : must k (gb (head x ++ R) k) = true := by
    match k, hk with
    | 0, _ => rfl
    | 1, _ => rfl
    | 2, _ => rfl
    | 3, _ => rfl
    | 4, _ => rfl
    | 5, _ => exact decide_eq_true hs
    | 6, _ => exact decide_eq_true hkk
    | 7, _ => rfl
    | 8, _ => rfl
    | 9, _ => rfl
    | 10, _ => rfl
    | 11, _ => rfl
    | 12, _ => rfl
    | 13, _ => rfl
    | 14, _ => rfl
    | 15, _ => rfl
    | k + 16, h => exact absurd h (by omega)
  rw [if_pos this]
theorem first_none {b : List UInt8} : ∀ (f k : Nat), (∀ j, k ≤ j → j < k + f → stop b j = none) → first b k f = none
  | 0, _, _ => rfl
  | f + 1, k, h => by
    rw [first_step (h k (Nat.le_refl _) (by omega))]
    exact first_none f (k + 1) fun j h1 h2 => h j (by omega) (by omega)
theorem none_first {b : List UInt8} : ∀ (f k : Nat), first b k f = none → ∀ j, k ≤ j → j < k + f → stop b j = none
  | 0, _, _ => fun j h1 h2 => by omega
  | f + 1, k, h => fun j h1 h2 => by
    cases hs : stop b k with
    | some e => rw [first_end hs] at h; cases h
    | none =>
      rw [first_step hs] at h
      rcases Nat.eq_or_lt_of_le h1 with rfl | h3
      · exact hs
      · exact none_first f (k + 1) h j h3 (by omega)
theorem some_first {b : List UInt8} : ∀ (f k : Nat) (e : Nat × Nat), first b k f = some e → k ≤ b.length → (e.1 = 5 ∨ e.1 = 6) ∧ e.2 ≤ b.length
  | 0, _, _, h, _ => by cases h
  | f + 1, k, e, h, hk => by
    cases hs : stop b k with
    | some e' =>
      rw [first_end hs] at h
      cases h
      unfold stop at hs
      split at hs
      · cases hs; exact ⟨.inr rfl, hk⟩
      · split at hs
        · cases hs
        · cases hs; exact ⟨.inl rfl, hk⟩
    | none =>
      rw [first_step hs] at h
      refine some_first f (k + 1) e h ?_
      unfold stop at hs
      split at hs
      · cases hs
      · omega
/-- what is made is taken apart as it was -/
theorem parse_made {x : Im} (h : may x = 0) {T : List UInt8} (hT : T.length = 32) : parse (cover x ++ T) = (⟨x.slot, x.key, x.ver, x.pay, T⟩, (0, 0)) := by
  have hO : ¬ Off x := fun ho => by rw [may, if_pos ho] at h; cases h
  have hP : ¬ 524240 < x.pay.length := fun ho => by rw [may, if_neg hO, if_pos ho] at h; cases h
  have hb : cover x ++ T = head x ++ (x.pay ++ T) := by rw [cover, List.append_assoc]
  have hl : (cover x ++ T).length = x.pay.length + 48 := by rw [List.length_append, cover_len, hT]; omega
  have hf : first (cover x ++ T) 0 16 = none := first_none 16 0 fun j _ h2 => by rw [hb]; exact stop_head hO _ (by omega)
  have hn : number ((cover x ++ T).drop 12) = x.pay.length := by
    rw [hb]
    exact number_four (n := x.pay.length) (by omega) (x.pay ++ T)
  have hO' := hO
  unfold Off at hO'
  have hv : number ((cover x ++ T).drop 8) = x.ver.toNat := by
    rw [hb]
    exact number_four (n := x.ver.toNat) (by omega) (four x.pay.length ++ (x.pay ++ T))
  have hd : (cover x ++ T).drop 16 = x.pay ++ T := by rw [hb]; exact List.drop_left' (head_len x)
  have hd2 : (cover x ++ T).drop (16 + x.pay.length) = T := List.drop_left' (cover_len x)
  have h5 : (gb (cover x ++ T) 5).toNat = x.slot.toNat := by
    rw [hb]
    show (UInt8.ofNat x.slot.toNat).toNat = _
    rw [UInt8.toNat_ofNat']
    omega
  have h6 : (gb (cover x ++ T) 6).toNat = x.key.toNat := by
    rw [hb]
    show (UInt8.ofNat x.key.toNat).toNat = _
    rw [UInt8.toNat_ofNat']
    omega
  unfold parse
  rw [if_neg (by rw [hl]; omega), hf]
  show rest _ _ = _
  rw [hn]
  unfold rest
  rw [if_neg hP, if_neg (by rw [hl]; omega), if_neg (by rw [hl]; omega), h5, h6, hv, hd, hd2, List.take_left' rfl, Int.toNat_of_nonneg (by omega), Int.toNat_of_nonneg (by omega), Int.toNat_of_nonneg (by omega)]
theorem u8_self (c : UInt8) : UInt8.ofNat c.toNat = c := UInt8.ofNat_toNat
/-- whatever is taken apart is what is made of it -/
theorem made_parse {b : List UInt8} {x : Im} (h : parse b = (x, (0, 0))) :
    may x = 0 ∧ b.length = x.pay.length + 48 ∧ cover x = b.take (b.length - 32) ∧ x.tag = b.drop (b.length - 32) ∧ x.tag.length = 32 := by
  unfold parse at h
  split at h
  · cases h
  rename_i hbl
  cases hf : first b 0 16 with
  | some e =>
    rw [hf] at h
    have h2 : e = (0, 0) := congrArg Prod.snd h
    have h3 := (some_first 16 0 e hf (by omega)).1
    rw [h2] at h3
    rcases h3 with h3 | h3 <;> cases h3
  | none =>
    rw [hf] at h
    replace h : rest b (number (b.drop 12)) = (x, (0, 0)) := h
    have hs := none_first 16 0 hf
    have h16 : 16 ≤ b.length := by
      rcases Nat.lt_or_ge b.length 16 with h1 | h1
      · have := hs b.length (by omega) (by omega)
        rw [stop, if_pos rfl] at this
        cases this
      · exact h1
    have hm : ∀ j, j < 16 → must j (gb b j) = true := fun j hj => by
      have := hs j (by omega) (by omega)
      rw [stop, if_neg (by omega)] at this
      split at this
      · assumption
      · cases this
    obtain ⟨n, hn⟩ : ∃ n, n = number (b.drop 12) := ⟨_, rfl⟩
    rw [← hn] at h
    unfold rest at h
    split at h
    · cases h
    rename_i h1
    split at h
    · cases h
    rename_i h2
    split at h
    · cases h
    rename_i h3
    cases h
    have hbn : b.length = n + 48 := by omega
    have hpl : ((b.drop 16).take n).length = n := by rw [List.length_take, List.length_drop]; omega
    have hc : ∀ k, k < 16 → ∃ c, b[k]? = some c ∧ gb b k = c := fun k hk => by
      obtain ⟨c, hc⟩ : ∃ c, b[k]? = some c := ⟨_, List.getElem?_eq_getElem (by omega)⟩
      exact ⟨c, hc, by rw [gb, List.getD_eq_getElem?_getD, hc]; rfl⟩
    have hv := number_lt (b.drop 8)
    have m5 : gb b 5 < 8 := of_decide_eq_true (hm 5 (by decide))
    have m6 : gb b 6 < 64 := of_decide_eq_true (hm 6 (by decide))
    rw [UInt8.lt_iff_toNat_lt] at m5 m6
    replace m5 : (gb b 5).toNat < 8 := m5
    replace m6 : (gb b 6).toNat < 64 := m6
    refine ⟨?_, ?_, ?_, ?_, ?_⟩
    · rw [may, if_neg, if_neg]
      · rw [hpl]; exact h1
      · unfold Off
        show ¬ (((gb b 5).toNat : Int) < 0 ∨ 7 < ((gb b 5).toNat : Int) ∨ ((gb b 6).toNat : Int) < 0 ∨ 63 < ((gb b 6).toNat : Int) ∨ (number (b.drop 8) : Int) < 0 ∨ 4294967295 < (number (b.drop 8) : Int))
        omega
    · show _ = ((b.drop 16).take n).length + 48
      rw [hpl, hbn]
    · show head _ ++ (b.drop 16).take n = _
      have e1 : b.take (b.length - 32) = b.take 16 ++ (b.drop 16).take n := by
        rw [show b.length - 32 = 16 + n from by omega, List.take_add]
      rw [e1]
      congr 1
      have e2 : b.take 16 = b.take 8 ++ ((b.drop 8).take 4 ++ (b.drop 12).take 4) := by
        rw [show (16 : Nat) = 8 + (4 + 4) from rfl, List.take_add, List.take_add, List.drop_drop]
      rw [e2, ← four_number (l := b.drop 8) (by rw [List.length_drop]; omega), ← four_number (l := b.drop 12) (by rw [List.length_drop]; omega), ← hn]
      show [80, 67, 85, 76, 1, UInt8.ofNat (((gb b 5).toNat : Int)).toNat, UInt8.ofNat (((gb b 6).toNat : Int)).toNat, 0] ++ (four ((number (b.drop 8) : Int)).toNat ++ four ((b.drop 16).take n).length) = _
      rw [hpl, Int.toNat_natCast, Int.toNat_natCast, Int.toNat_natCast, u8_self, u8_self]
      congr 1
      have hg : ∀ j, j < 16 → gb b j = b.getD j 0 := fun _ _ => rfl
      have m0 : gb b 0 = 80 := eq_of_beq (hm 0 (by decide))
      have m1 : gb b 1 = 67 := eq_of_beq (hm 1 (by decide))
      have m2 : gb b 2 = 85 := eq_of_beq (hm 2 (by decide))
      have m3 : gb b 3 = 76 := eq_of_beq (hm 3 (by decide))
      have m4 : gb b 4 = 1 := eq_of_beq (hm 4 (by decide))
      have m7 : gb b 7 = 0 := eq_of_beq (hm 7 (by decide))
      rw [← m0, ← m1, ← m2, ← m3, ← m4, ← m7]
      match b, h16 with
      | a0 :: a1 :: a2 :: a3 :: a4 :: a5 :: a6 :: a7 :: R, _ => rfl
    · show b.drop (16 + n) = _
      rw [show b.length - 32 = 16 + n from by omega]
    · show (b.drop (16 + n)).length = 32
      rw [List.length_drop]
      omega
/-- where it is wrong lies within the bytes -/
theorem wrong_at {b : List UInt8} (h : (parse b).2 ≠ (0, 0)) : (parse b).1 = im0 ∧ (parse b).2.2 ≤ b.length ∧ (parse b).2.1 ≠ 0 := by
  unfold parse at h ⊢
  split
  · exact ⟨rfl, by show 524288 ≤ b.length; omega, by decide⟩
  rename_i hbl
  rw [if_neg hbl] at h
  cases hf : first b 0 16 with
  | some e =>
    have h3 := some_first 16 0 e hf (by omega)
    refine ⟨rfl, h3.2, ?_⟩
    show e.1 ≠ 0
    omega
  | none =>
    rw [hf] at h
    replace h : (rest b (number (b.drop 12))).2 ≠ (0, 0) := h
    show (rest b (number (b.drop 12))).1 = im0 ∧ (rest b (number (b.drop 12))).2.2 ≤ b.length ∧ (rest b (number (b.drop 12))).2.1 ≠ 0
    have hs := none_first 16 0 hf
    have h16 : 16 ≤ b.length := by
      rcases Nat.lt_or_ge b.length 16 with h1 | h1
      · have := hs b.length (by omega) (by omega)
        rw [stop, if_pos rfl] at this
        cases this
      · exact h1
    unfold rest at h ⊢
    split
    · exact ⟨rfl, by show 12 ≤ b.length; omega, by show (5 : Nat) ≠ 0; decide⟩
    · split
      · exact ⟨rfl, Nat.le_refl _, by show (6 : Nat) ≠ 0; decide⟩
      · split
        · exact ⟨rfl, by show number (b.drop 12) + 48 ≤ b.length; omega, by show (7 : Nat) ≠ 0; decide⟩
        · rename_i h1 h2 h3
          rw [if_neg h1, if_neg h2, if_neg h3] at h
          exact absurd rfl h
theorem code_le (b : List UInt8) : (parse b).2.1 ≤ 7 := by
  unfold parse
  split
  · show (4 : Nat) ≤ 7; decide
  · rename_i hbl
    cases hf : first b 0 16 with
    | some e =>
      have h3 := (some_first 16 0 e hf (by omega)).1
      show e.1 ≤ 7
      omega
    | none =>
      show (rest b (number (b.drop 12))).2.1 ≤ 7
      unfold rest
      split
      · show (5 : Nat) ≤ 7; decide
      · split
        · show (6 : Nat) ≤ 7; decide
        · split
          · show (7 : Nat) ≤ 7; decide
          · show (0 : Nat) ≤ 7; decide
end Go.PK.Img
