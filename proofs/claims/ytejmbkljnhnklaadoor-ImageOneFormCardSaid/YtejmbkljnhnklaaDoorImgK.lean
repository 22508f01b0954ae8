/-
  Numbers of 64 bits, taken to bytes and out of bytes: shifts and bits of them; the walks of the small functions of image and of its reference.
-/
import Derived.Test.YtejmbkljnhnklaaDoorImgSpec
import Derived.Test.YtejmbkljnhnklaaDoorRd
import Derived.Test.YtejmbkljnhnklaaDoorT
namespace Go.PK
open Go.RowKit
theorem shr_i64 (t : TypeId) (k : IntKind) (n j : Nat) (hj : j < 64) : binOp .shr t (.int .i64 (n : Int)) (.int k (j : Int)) = pure (.int .i64 ((n / 2 ^ j : Nat) : Int)) := by
  rw [binOp_shr]
  simp only [Op.shift]
  rw [if_neg (by omega)]
  simp only [Int.toNat_natCast, IntKind.bits]
  congr 2
  rw [Nat.min_eq_left (by omega), Int.fdiv_eq_ediv_of_nonneg _ (Int.pow_nonneg (by decide))]
  simp
theorem shl_i64 (t : TypeId) (k : IntKind) (n j : Nat) (hj : j < 64) (h : n * 2 ^ j < 9223372036854775808) : binOp .shl t (.int .i64 (n : Int)) (.int k (j : Int)) = pure (.int .i64 ((n * 2 ^ j : Nat) : Int)) := by
  rw [binOp_shl]
  simp only [Op.shift]
  rw [if_neg (by omega)]
  simp only [Int.toNat_natCast, IntKind.bits]
  congr 2
  rw [Nat.min_eq_left (by omega), wrapP_i64]
  have e : (n : Int) * 2 ^ j = ((n * 2 ^ j : Nat) : Int) := by simp
  rw [e]
  omega
theorem or_i64 (t : TypeId) (a b : Nat) (ha : a < 9223372036854775808) (hb : b < 9223372036854775808) : binOp .or t (.int .i64 (a : Int)) (.int .i64 (b : Int)) = pure (.int .i64 ((a ||| b : Nat) : Int)) := by
  have hab : a ||| b < 2 ^ 63 := Nat.or_lt_two_pow (by omega) (by omega)
  rw [binOp_or, intBits_or]
  congr 2
  show IntKind.i64.wrap _ = _
  have e1 : (BitVec.ofInt 64 (a : Int)).toNat = a := by rw [BitVec.toNat_ofInt]; omega
  have e2 : (BitVec.ofInt 64 (b : Int)).toNat = b := by rw [BitVec.toNat_ofInt]; omega
  have e : ((BitVec.ofInt 64 (a : Int) ||| BitVec.ofInt 64 (b : Int)).toNat : Int) = ((a ||| b : Nat) : Int) := by rw [BitVec.toNat_or, e1, e2]
  show IntKind.i64.wrap (((BitVec.ofInt 64 (a : Int) ||| BitVec.ofInt 64 (b : Int)).toNat : Nat) : Int) = _
  rw [e, wrapP_i64]
  omega
theorem or_add (a c i : Nat) (h : a < 2 ^ i) : a ||| c * 2 ^ i = a + c * 2 ^ i := by
  rw [Nat.or_comm, Nat.mul_comm, ← Nat.two_pow_add_eq_or_of_lt h, Nat.add_comm]
namespace Img
theorem byte_int {z : Int} (h0 : 0 ≤ z) : UInt8.ofInt z = UInt8.ofNat z.toNat := by
  obtain ⟨n, rfl⟩ := Int.eq_ofNat_of_zero_le h0
  exact ofInt8_nat n
/-- the numbers on the way from four bytes to their number -/
theorem steps (l : List UInt8) (t : TypeId) : ∃ m1 m2 m3 s1 s2 : Nat,
    (∀ k, binOp .shl t (.int .i64 ((gb l 1).toNat : Int)) (.int k (8 : Int)) = pure (.int .i64 (m1 : Int))) ∧
    (∀ k, binOp .shl t (.int .i64 ((gb l 2).toNat : Int)) (.int k (16 : Int)) = pure (.int .i64 (m2 : Int))) ∧
    (∀ k, binOp .shl t (.int .i64 ((gb l 3).toNat : Int)) (.int k (24 : Int)) = pure (.int .i64 (m3 : Int))) ∧
    binOp .or t (.int .i64 ((gb l 0).toNat : Int)) (.int .i64 (m1 : Int)) = pure (.int .i64 (s1 : Int)) ∧
    binOp .or t (.int .i64 (s1 : Int)) (.int .i64 (m2 : Int)) = pure (.int .i64 (s2 : Int)) ∧
    binOp .or t (.int .i64 (s2 : Int)) (.int .i64 (m3 : Int)) = pure (.int .i64 (number l : Int)) ∧
    (∀ k, binOp .shl t (.int .i64 ((gb l 0).toNat : Int)) (.int k (0 : Int)) = pure (.int .i64 ((gb l 0).toNat : Int))) ∧
    binOp .or t (.int .i64 (0 : Int)) (.int .i64 ((gb l 0).toNat : Int)) = pure (.int .i64 ((gb l 0).toNat : Int)) := by
  have h0 := (gb l 0).toNat_lt
  have h1 := (gb l 1).toNat_lt
  have h2 := (gb l 2).toNat_lt
  have h3 := (gb l 3).toNat_lt
  have hn : number l = (gb l 0).toNat + 256 * (gb l 1).toNat + 65536 * (gb l 2).toNat + 16777216 * (gb l 3).toNat := rfl
  generalize (gb l 0).toNat = a at *
  generalize (gb l 1).toNat = b at *
  generalize (gb l 2).toNat = c at *
  generalize (gb l 3).toNat = d at *
  refine ⟨b * 2 ^ 8, c * 2 ^ 16, d * 2 ^ 24, a + b * 2 ^ 8, a + b * 2 ^ 8 + c * 2 ^ 16, fun k => shl_i64 t k b 8 (by decide) (by omega), fun k => shl_i64 t k c 16 (by decide) (by omega), fun k => shl_i64 t k d 24 (by decide) (by omega), ?_, ?_, ?_, fun k => ?_, ?_⟩
  · rw [or_i64 _ _ _ (by omega) (by omega), or_add _ _ _ (by omega)]
  · rw [or_i64 _ _ _ (by omega) (by omega), or_add _ _ _ (by omega)]
  · rw [or_i64 _ _ _ (by omega) (by omega), or_add _ _ _ (by omega), hn]
    congr 3
    omega
  · have := shl_i64 t k a 0 (by decide) (by omega)
    rw [Nat.pow_zero, Nat.mul_one] at this
    exact this
  · have := or_i64 t 0 a (by omega) (by omega)
    rw [Nat.zero_or] at this
    exact this
end Img
end Go.PK
namespace Go.Proofs.YtejmbkljnhnklaaDoor
open Go.RowKit Go.PK

set_option maxHeartbeats 4000000 in
theorem image_number (w : World) (ao : Option Addr) (n cap : Nat) (l : List UInt8) (hv : Bytes w (.slice ao n cap) l) (h4 : 4 ≤ n) :
    Calls Tryd.prog 29 #[.slice ao n cap] w fun e w' => e = .returned (.int .i64 (Img.number l : Int)) ∧ Below w.heap.size w w' := by
  obtain ⟨hnl, g1, g2⟩ := hv.form
  obtain ⟨b, off, rfl, -, c0⟩ := hv.at (k := 0) (by omega)
  obtain ⟨b', off', e1, -, c1⟩ := hv.at (k := 1) (by omega)
  cases e1
  obtain ⟨b', off', e1, -, c2⟩ := hv.at (k := 2) (by omega)
  cases e1
  obtain ⟨b', off', e1, -, c3⟩ := hv.at (k := 3) (by omega)
  cases e1
  obtain ⟨m1, m2, m3, s1, s2, f1, f2, f3, f4, f5, f6, -, -⟩ := Img.steps l 2
  have hi0 : (0 : Int) < (n : Int) := by omega
  have hi1 : (1 : Int) < (n : Int) := by omega
  have hi2 : (2 : Int) < (n : Int) := by omega
  have hi3 : (3 : Int) < (n : Int) := by omega
  replace c0 : w.cell? ⟨b, off, none⟩ = some (B8 (gb l 0)) := c0
  replace c1 : w.cell? ⟨b, off + 1, none⟩ = some (B8 (gb l 1)) := c1
  replace c2 : w.cell? ⟨b, off + 2, none⟩ = some (B8 (gb l 2)) := c2
  replace c3 : w.cell? ⟨b, off + 3, none⟩ = some (B8 (gb l 3)) := c3
  generalize Img.number l = N at *
  generalize gb l 0 = x0 at *
  generalize gb l 1 = x1 at *
  generalize gb l 2 = x2 at *
  generalize gb l 3 = x3 at *
  clear hv hnl
  go_enter Tryd.func29, Tryd.ntmps29
  go_wp2_with fail
  go_region
  all_goals
    go_wp2_with fail
    go_ret
    exact ⟨rfl, (Below.refl _ _).drew⟩

set_option maxHeartbeats 4000000 in
theorem ref11_number (w : World) (ao : Option Addr) (n cap : Nat) (l : List UInt8) (hv : Bytes w (.slice ao n cap) l) (h4 : 4 ≤ n) :
    Calls Tryd.prog 31 #[.slice ao n cap] w fun e w' => e = .returned (.int .i64 (Img.number l : Int)) ∧ w' = w := by
  obtain ⟨hnl, g1, g2⟩ := hv.form
  obtain ⟨b, off, rfl, -, c0⟩ := hv.at (k := 0) (by omega)
  obtain ⟨b', off', e1, -, c1⟩ := hv.at (k := 1) (by omega)
  cases e1
  obtain ⟨b', off', e1, -, c2⟩ := hv.at (k := 2) (by omega)
  cases e1
  obtain ⟨b', off', e1, -, c3⟩ := hv.at (k := 3) (by omega)
  cases e1
  obtain ⟨m1, m2, m3, s1, s2, f1, f2, f3, f4, f5, f6, f7, f8⟩ := Img.steps l 2
  have hi0 : (0 : Int) < (n : Int) := by omega
  have hi1 : (1 : Int) < (n : Int) := by omega
  have hi2 : (2 : Int) < (n : Int) := by omega
  have hi3 : (3 : Int) < (n : Int) := by omega
  replace c0 : w.cell? ⟨b, off, none⟩ = some (B8 (gb l 0)) := c0
  replace c1 : w.cell? ⟨b, off + 1, none⟩ = some (B8 (gb l 1)) := c1
  replace c2 : w.cell? ⟨b, off + 2, none⟩ = some (B8 (gb l 2)) := c2
  replace c3 : w.cell? ⟨b, off + 3, none⟩ = some (B8 (gb l 3)) := c3
  generalize Img.number l = N at *
  generalize gb l 0 = x0 at *
  generalize gb l 1 = x1 at *
  generalize gb l 2 = x2 at *
  generalize gb l 3 = x3 at *
  clear hv hnl
  go_enter Tryd.func31, Tryd.ntmps31
  go_wp2_with fail
  refine wp_loop_rounds 5 ?_
  rw [rounds_succ]
  go_wp2_with fail
  rw [rounds_succ]
  go_wp2_with fail
  rw [rounds_succ]
  go_wp2_with fail
  rw [rounds_succ]
  go_wp2_with fail
  rw [rounds_succ]
  go_wp2_with fail
  go_ret
  exact ⟨rfl, rfl⟩

theorem image_may (w : World) (k : Nat) (hk : k < 16) (c : UInt8) : Calls Tryd.prog 28 #[.int .i64 (k : Int), B8 c] w fun e w' => e = .returned (.bool (Img.must k c)) ∧ w' = w := by
  have hk2 : k = 0 ∨ k = 1 ∨ k = 2 ∨ k = 3 ∨ k = 4 ∨ k = 5 ∨ k = 6 ∨ k = 7 ∨ 8 ≤ k := by omega
  rcases hk2 with rfl | rfl | rfl | rfl | rfl | rfl | rfl | rfl | h8
  case inr.inr.inr.inr.inr.inr.inr.inr =>
    have e : Img.must k c = true := by
      match k, h8 with
      | k + 8, _ => rfl
    rw [e]
    have i1 : ¬ (k : Int) < 4 := by omega
    have i4 : ¬ (k : Int) = 4 := by omega
    have i5 : ¬ (k : Int) = 5 := by omega
    have i6 : ¬ (k : Int) = 6 := by omega
    have i7 : ¬ (k : Int) = 7 := by omega
    go_enter Tryd.func28, Tryd.ntmps28
    go_wp2
    go_ret
    exact ⟨rfl, rfl⟩
  all_goals
    have e0 : (Value.int .u8 (((⟨#[80, 67, 85, 76]⟩ : ByteArray)[0].toNat : Nat) : Int)) = B8 80 := rfl
    have e1 : (Value.int .u8 (((⟨#[80, 67, 85, 76]⟩ : ByteArray)[1].toNat : Nat) : Int)) = B8 67 := rfl
    have e2 : (Value.int .u8 (((⟨#[80, 67, 85, 76]⟩ : ByteArray)[2].toNat : Nat) : Int)) = B8 85 := rfl
    have e3 : (Value.int .u8 (((⟨#[80, 67, 85, 76]⟩ : ByteArray)[3].toNat : Nat) : Int)) = B8 76 := rfl
    go_enter Tryd.func28, Tryd.ntmps28
    go_wp2
    go_ret
    exact ⟨rfl, rfl⟩

theorem ref11_must (w : World) (k : Nat) (hk : k < 16) (c : UInt8) : Calls Tryd.prog 30 #[.int .i64 (k : Int), B8 c] w fun e w' => e = .returned (.bool (Img.must k c)) ∧ w' = w := by
  have hk2 : k = 0 ∨ k = 1 ∨ k = 2 ∨ k = 3 ∨ k = 4 ∨ k = 5 ∨ k = 6 ∨ k = 7 ∨ 8 ≤ k := by omega
  rcases hk2 with rfl | rfl | rfl | rfl | rfl | rfl | rfl | rfl | h8
  case inr.inr.inr.inr.inr.inr.inr.inr =>
    have e : Img.must k c = true := by
      match k, h8 with
      | k + 8, _ => rfl
    rw [e]
    have i0 : ¬ (k : Int) = 0 := by omega
    have i1 : ¬ (k : Int) = 1 := by omega
    have i2 : ¬ (k : Int) = 2 := by omega
    have i3 : ¬ (k : Int) = 3 := by omega
    have i4 : ¬ (k : Int) = 4 := by omega
    have i5 : ¬ (k : Int) = 5 := by omega
    have i6 : ¬ (k : Int) = 6 := by omega
    have i7 : ¬ (k : Int) = 7 := by omega
    go_enter Tryd.func30, Tryd.ntmps30
    go_wp2
    go_ret
    exact ⟨rfl, rfl⟩
  all_goals
    have e0 : (Value.int .u8 (((⟨#[80, 67, 85, 76]⟩ : ByteArray)[0].toNat : Nat) : Int)) = B8 80 := rfl
    have e1 : (Value.int .u8 (((⟨#[80, 67, 85, 76]⟩ : ByteArray)[1].toNat : Nat) : Int)) = B8 67 := rfl
    have e2 : (Value.int .u8 (((⟨#[80, 67, 85, 76]⟩ : ByteArray)[2].toNat : Nat) : Int)) = B8 85 := rfl
    have e3 : (Value.int .u8 (((⟨#[80, 67, 85, 76]⟩ : ByteArray)[3].toNat : Nat) : Int)) = B8 76 := rfl
    go_enter Tryd.func30, Tryd.ntmps30
    go_wp2
    go_ret
    exact ⟨rfl, rfl⟩

/-- bytes of a number -/
theorem four_facts (n : Nat) : (∀ t k, binOp .shr t (.int .i64 (n : Int)) (.int k (8 : Int)) = pure (.int .i64 ((n / 256 : Nat) : Int))) ∧ (∀ t k, binOp .shr t (.int .i64 (n : Int)) (.int k (16 : Int)) = pure (.int .i64 ((n / 65536 : Nat) : Int))) ∧
    (∀ t k, binOp .shr t (.int .i64 (n : Int)) (.int k (24 : Int)) = pure (.int .i64 ((n / 16777216 : Nat) : Int))) ∧ (∀ t k, binOp .shr t (.int .i64 (n : Int)) (.int k (0 : Int)) = pure (.int .i64 (n : Int))) := by
  refine ⟨fun t k => shr_i64 t k n 8 (by decide), fun t k => shr_i64 t k n 16 (by decide), fun t k => shr_i64 t k n 24 (by decide), fun t k => ?_⟩
  have := shr_i64 t k n 0 (by decide)
  rw [Nat.pow_zero, Nat.div_one] at this
  exact this
theorem four_ofInt (n : Nat) : [UInt8.ofInt (n : Int), UInt8.ofInt ((n / 256 : Nat) : Int), UInt8.ofInt ((n / 65536 : Nat) : Int), UInt8.ofInt ((n / 16777216 : Nat) : Int)] = Img.four n := by
  rw [ofInt8_nat, ofInt8_nat, ofInt8_nat, ofInt8_nat]
  rfl

set_option maxHeartbeats 4000000 in
theorem image_four {w0 w : World} {L : List Blk} (ob : Option Nat) (l : List UInt8) (m cap : Nat) (hl : Len l m) (hcap : cap ≤ maxLen) (hM : Mem [] w0 w (⟨ob, 5, l.map B8, cap⟩ :: L)) (n : Nat) (hm : m ≤ 140737488355000) :
    Calls Tryd.prog 24 #[sl ob m cap, .int .i64 (n : Int)] w fun e w' => ∃ ob' cap', e = .returned (sl ob' (m + 4) cap') ∧ m + 4 ≤ cap' ∧ cap' ≤ maxLen ∧ Mem [] w0 w' (⟨ob', 5, (l ++ Img.four n).map B8, cap'⟩ :: L) := by
  obtain ⟨f1, f2, f3, -⟩ := four_facts n
  have hF := four_ofInt n
  generalize n / 256 = n1 at *
  generalize n / 65536 = n2 at *
  generalize n / 16777216 = n3 at *
  have HF : ∀ _ : Unit, [UInt8.ofInt (n : Int), UInt8.ofInt (n1 : Int), UInt8.ofInt (n2 : Int), UInt8.ofInt (n3 : Int)] = Img.four n := fun _ => hF
  clear hF
  go_enter Tryd.func24, Tryd.ntmps24
  go_wp2_with (first
    | ((with_reducible refine gL_buildBytes (dst := some 17) hM ?_); refine ⟨_, _, (us_of rfl), (el_of rfl), (by decide), (by decide), rfl, (by (repeat (first | exact EvB.nil | apply EvB.cons rfl (by first | exact (rfl : B8 _ = B8 _) | exact lit8 _ (by decide)))); done), ?_⟩; intro g17 _ hM2; clear hM; have hM := hM2; clear hM2)
    | ((with_reducible refine gL_append_B (dst := some 18) hM ?_); have hx := hM.src (m := 4) (cap := 4) (.head _); refine ⟨_, _, ob, m, cap, 5, l, [UInt8.ofInt (n : Int), UInt8.ofInt (n1 : Int), UInt8.ofInt (n2 : Int), UInt8.ofInt (n3 : Int)], 4, _, rfl, rfl, rfl, (us_of rfl), (el_of rfl), hx, (fun _ _ => .there _ (.here _ _ _)), hl, rfl, hcap, (by omega), ?_⟩; clear hx; intro ob1 cap1 _ hM2 hd1 hd2; clear hM; have hM := hM2; clear hM2))
  replace hM := hM.drop
  rw [HF ()] at hM
  go_ret
  exact ⟨ob1, cap1, rfl, hd1, hd2, hM⟩

set_option maxHeartbeats 4000000 in
theorem ref11_four {w0 w : World} {L : List Blk} (ob : Option Nat) (l : List UInt8) (m cap : Nat) (hl : Len l m) (hcap : cap ≤ maxLen) (hM : Mem [] w0 w (⟨ob, 5, l.map B8, cap⟩ :: L)) (n : Nat) (hm : m ≤ 140737488355000) :
    Calls Tryd.prog 39 #[sl ob m cap, .int .i64 (n : Int)] w fun e w' => ∃ ob' cap', e = .returned (sl ob' (m + 4) cap') ∧ cap' ≤ maxLen ∧ Mem [] w0 w' (⟨ob', 5, (l ++ Img.four n).map B8, cap'⟩ :: L) := by
  have hsh : ∀ j : Nat, j < 4 → ∀ t, binOp .shr t (.int .i64 (n : Int)) (.int .i64 (8 * (j : Int))) = pure (.int .i64 ((n / 2 ^ (8 * j) : Nat) : Int)) := fun j hj t => by
    have := shr_i64 t .i64 n (8 * j) (by omega)
    rwa [show ((8 * j : Nat) : Int) = 8 * (j : Int) from by simp] at this
  have hst : ∀ j : Nat, j < 4 → (Img.four n).take j ++ [UInt8.ofInt ((n / 2 ^ (8 * j) : Nat) : Int)] = (Img.four n).take (j + 1) := fun j hj => by
    rw [ofInt8_nat]
    match j, hj with
    | 0, _ => simp [Img.four]
    | 1, _ => simp [Img.four]
    | 2, _ => simp [Img.four]
    | 3, _ => simp [Img.four]
    | j + 4, h => exact absurd h (by omega)
  have hend : (Img.four n).take 4 = Img.four n := rfl
  have hlen : ∀ j : Nat, j ≤ 4 → Len ((Img.four n).take j) j := fun j hj => Len.of (by rw [List.length_take, Img.four_len]; omega)
  have h00 : l ++ (Img.four n).take 0 = l := by simp
  generalize Img.four n = F4 at *
  have HEND : ∀ _ : Unit, F4.take 4 = F4 := fun _ => hend
  clear hend
  go_enter Tryd.func39, Tryd.ntmps39
  go_wp2_with fail
  go_loopw [0, 5] (fun p i wr => ∃ (j : Nat) (ob' : Option Nat) (cap' : Nat), j ≤ 4 ∧ i = .int .i64 j ∧ p = sl ob' (m + j) cap' ∧ cap' ≤ maxLen ∧ Mem [] w0 wr (⟨ob', 5, (l ++ F4.take j).map B8, cap'⟩ :: L)) (fun _ i _ => 4 - (intOf i).toNat)
  case atStart => exact ⟨0, ob, cap, by omega, rfl, rfl, hcap, by rw [h00]; exact hM⟩
  case round =>
    clear hM hcap h00
    obtain ⟨j, ob', cap', hj, rfl, rfl, hcap, hM⟩ := hrel
    have hl3 : Len (l ++ F4.take j) (m + j) := Len.of (by rw [List.length_append, hl.eq, (hlen j hj).eq])
    by_cases hlt : j < 4
    · have hti : (j : Int) < 4 := by omega
      have hs1 := hsh j hlt
      have hs2 : ∀ _ : Unit, l ++ F4.take j ++ [UInt8.ofInt ((n / 2 ^ (8 * j) : Nat) : Int)] = l ++ F4.take (j + 1) := fun _ => by rw [List.append_assoc, hst j hlt]
      clear hsh hst hlen HEND
      generalize n / 2 ^ (8 * j) = nj at *
      obtain ⟨A, hA⟩ : ∃ A, A = l ++ F4.take j := ⟨_, rfl⟩
      rw [← hA] at hM hl3 hs2
      clear hA
      go_wp2_with (first
        | ((with_reducible refine gL_buildBytes (dst := some 16) hM ?_); refine ⟨_, _, (us_of rfl), (el_of rfl), (by decide), (by decide), rfl, (by (repeat (first | exact EvB.nil | apply EvB.cons rfl (by first | exact (rfl : B8 _ = B8 _) | exact lit8 _ (by decide)))); done), ?_⟩; intro g16 _ hM2; clear hM; have hM := hM2; clear hM2)
        | ((with_reducible refine gL_append_B (dst := some 17) hM ?_); have hx := hM.src (m := 1) (cap := 1) (.head _); refine ⟨_, _, ob', m + j, cap', 5, A, [UInt8.ofInt (nj : Int)], 1, _, rfl, rfl, rfl, (us_of rfl), (el_of rfl), hx, (fun _ _ => .there _ (.here _ _ _)), hl3, rfl, hcap, (by omega), ?_⟩; clear hx; intro ob1 cap1 _ hM2 hd1 hd2; clear hM; have hM := hM2; clear hM2))
      replace hM := hM.drop
      rw [hs2 ()] at hM
      go_roundw
      case rel => exact ⟨j + 1, ob1, cap1, by omega, by go_num, rfl, hd2, hM⟩
      case measure => simp [intOf]; omega
    · have hje : j = 4 := by omega
      subst hje
      rw [HEND ()] at hM
      go_wp2_with fail
      go_ret
      exact ⟨ob', cap', rfl, hcap, hM⟩
end Go.Proofs.YtejmbkljnhnklaaDoor
