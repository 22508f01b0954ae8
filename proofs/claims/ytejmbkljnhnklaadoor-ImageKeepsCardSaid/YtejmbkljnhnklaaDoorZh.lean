/-
  Numbers of 64 bits, taken to bytes and out of bytes: shifts and bits of them; the walks of the small functions of image and of its reference.
  Append of a string within a slice's capacity; an entry of which less is known; the slice's make with room, as an entry.
  The walks of Make, and of the reference's Cover, Tagged and Make.
-/
import Derived.Test.YtejmbkljnhnklaaDoorZg
import Derived.Test.YtejmbkljnhnklaaDoorZa
import Derived.Test.YtejmbkljnhnklaaDoorZb
import Derived.Test.YtejmbkljnhnklaaDoorZe
namespace Go.PK
open Go.RowKit
theorem shr_i64 (t : TypeId) (k : IntKind) (n j : Nat) (hj : j < 64) : binOp .shr t (.int .i64 (n : Int)) (.int k (j : Int)) = pure (.int .i64 ((n / 2 ^ j : Nat) : Int)) := by
  rw [binOp_shr]
  simp only [Op.shift]
  rw [if_neg (by omega)]
  simp only [Int.toNat_natCast, IntKind.bits]
  congr 2
  rw [Nat.min_eq_left (by omega), Int.fdiv_eq_ediv_of_nonneg _ (Int.pow_nonneg (by decide))]
  simp
theorem shl_i64 (t : TypeId) (k : IntKind) (n j : Nat) (hj : j < 64) (h : n * 2 ^ j < 9223372036854775808) : binOp .shl t (.int .i64 (n : Int)) (.int k (j : Int)) = pure (.int .i64 ((n * 2 ^ j : Nat) : Int)) := by
  rw [binOp_shl]
  simp only [Op.shift]
  rw [if_neg (by omega)]
  simp only [Int.toNat_natCast, IntKind.bits]
  congr 2
  rw [Nat.min_eq_left (by omega), wrapP_i64]
  have e : (n : Int) * 2 ^ j = ((n * 2 ^ j : Nat) : Int) := by simp
  rw [e]
  omega
theorem or_i64 (t : TypeId) (a b : Nat) (ha : a < 9223372036854775808) (hb : b < 9223372036854775808) : binOp .or t (.int .i64 (a : Int)) (.int .i64 (b : Int)) = pure (.int .i64 ((a ||| b : Nat) : Int)) := by
  have hab : a ||| b < 2 ^ 63 := Nat.or_lt_two_pow (by omega) (by omega)
  rw [binOp_or, intBits_or]
  congr 2
  show IntKind.i64.wrap _ = _
  have e1 : (BitVec.ofInt 64 (a : Int)).toNat = a := by rw [BitVec.toNat_ofInt]; omega
  have e2 : (BitVec.ofInt 64 (b : Int)).toNat = b := by rw [BitVec.toNat_ofInt]; omega
  have e : ((BitVec.ofInt 64 (a : Int) ||| BitVec.ofInt 64 (b : Int)).toNat : Int) = ((a ||| b : Nat) : Int) := by rw [BitVec.toNat_or, e1, e2]
  show IntKind.i64.wrap (((BitVec.ofInt 64 (a : Int) ||| BitVec.ofInt 64 (b : Int)).toNat : Nat) : Int) = _
  rw [e, wrapP_i64]
  omega
theorem or_add (a c i : Nat) (h : a < 2 ^ i) : a ||| c * 2 ^ i = a + c * 2 ^ i := by
  rw [Nat.or_comm, Nat.mul_comm, ← Nat.two_pow_add_eq_or_of_lt h, Nat.add_comm]
namespace Img
theorem byte_int {z : Int} (h0 : 0 ≤ z) : UInt8.ofInt z = UInt8.ofNat z.toNat := by
  obtain ⟨n, rfl⟩ := Int.eq_ofNat_of_zero_le h0
  exact ofInt8_nat n
theorem steps (l : List UInt8) (t : TypeId) : ∃ m1 m2 m3 s1 s2 : Nat,
    (∀ k, binOp .shl t (.int .i64 ((gb l 1).toNat : Int)) (.int k (8 : Int)) = pure (.int .i64 (m1 : Int))) ∧
    (∀ k, binOp .shl t (.int .i64 ((gb l 2).toNat : Int)) (.int k (16 : Int)) = pure (.int .i64 (m2 : Int))) ∧
    (∀ k, binOp .shl t (.int .i64 ((gb l 3).toNat : Int)) (.int k (24 : Int)) = pure (.int .i64 (m3 : Int))) ∧
    binOp .or t (.int .i64 ((gb l 0).toNat : Int)) (.int .i64 (m1 : Int)) = pure (.int .i64 (s1 : Int)) ∧
    binOp .or t (.int .i64 (s1 : Int)) (.int .i64 (m2 : Int)) = pure (.int .i64 (s2 : Int)) ∧
    binOp .or t (.int .i64 (s2 : Int)) (.int .i64 (m3 : Int)) = pure (.int .i64 (number l : Int)) ∧
    (∀ k, binOp .shl t (.int .i64 ((gb l 0).toNat : Int)) (.int k (0 : Int)) = pure (.int .i64 ((gb l 0).toNat : Int))) ∧
    binOp .or t (.int .i64 (0 : Int)) (.int .i64 ((gb l 0).toNat : Int)) = pure (.int .i64 ((gb l 0).toNat : Int)) := by
  have h0 := (gb l 0).toNat_lt
  have h1 := (gb l 1).toNat_lt
  have h2 := (gb l 2).toNat_lt
  have h3 := (gb l 3).toNat_lt
  have hn : number l = (gb l 0).toNat + 256 * (gb l 1).toNat + 65536 * (gb l 2).toNat + 16777216 * (gb l 3).toNat := rfl
  generalize (gb l 0).toNat = a at *
  generalize (gb l 1).toNat = b at *
  generalize (gb l 2).toNat = c at *
  generalize (gb l 3).toNat = d at *
  refine ⟨b * 2 ^ 8, c * 2 ^ 16, d * 2 ^ 24, a + b * 2 ^ 8, a + b * 2 ^ 8 + c * 2 ^ 16, fun k => shl_i64 t k b 8 (by decide) (by omega), fun k => shl_i64 t k c 16 (by decide) (by omega), fun k => shl_i64 t k d 24 (by decide) (by omega), ?_, ?_, ?_, fun k => ?_, ?_⟩
  · rw [or_i64 _ _ _ (by omega) (by omega), or_add _ _ _ (by omega)]
  · rw [or_i64 _ _ _ (by omega) (by omega), or_add _ _ _ (by omega)]
  · rw [or_i64 _ _ _ (by omega) (by omega), or_add _ _ _ (by omega), hn]
    congr 3
    omega
  · have := shl_i64 t k a 0 (by decide) (by omega)
    rw [Nat.pow_zero, Nat.mul_one] at this
    exact this
  · have := or_i64 t 0 a (by omega) (by omega)
    rw [Nat.zero_or] at this
    exact this
end Img
end Go.PK
namespace Go.Proofs.YtejmbkljnhnklaaDoor
open Go.RowKit Go.PK
set_option maxHeartbeats 4000000 in
theorem image_number (w : World) (ao : Option Addr) (n cap : Nat) (l : List UInt8) (hv : Bytes w (.slice ao n cap) l) (h4 : 4 ≤ n) :
    Calls Tryd.prog 29 #[.slice ao n cap] w fun e w' => e = .returned (.int .i64 (Img.number l : Int)) ∧ Below w.heap.size w w' := by
  obtain ⟨hnl, g1, g2⟩ := hv.form
  obtain ⟨b, off, rfl, -, c0⟩ := hv.at (k := 0) (by omega)
  obtain ⟨b', off', e1, -, c1⟩ := hv.at (k := 1) (by omega)
  cases e1
  obtain ⟨b', off', e1, -, c2⟩ := hv.at (k := 2) (by omega)
  cases e1
  obtain ⟨b', off', e1, -, c3⟩ := hv.at (k := 3) (by omega)
  cases e1
  obtain ⟨m1, m2, m3, s1, s2, f1, f2, f3, f4, f5, f6, -, -⟩ := Img.steps l 2
  have hi0 : (0 : Int) < (n : Int) := by omega
  have hi1 : (1 : Int) < (n : Int) := by omega
  have hi2 : (2 : Int) < (n : Int) := by omega
  have hi3 : (3 : Int) < (n : Int) := by omega
  replace c0 : w.cell? ⟨b, off, none⟩ = some (B8 (gb l 0)) := c0
  replace c1 : w.cell? ⟨b, off + 1, none⟩ = some (B8 (gb l 1)) := c1
  replace c2 : w.cell? ⟨b, off + 2, none⟩ = some (B8 (gb l 2)) := c2
  replace c3 : w.cell? ⟨b, off + 3, none⟩ = some (B8 (gb l 3)) := c3
  generalize Img.number l = N at *
  generalize gb l 0 = x0 at *
  generalize gb l 1 = x1 at *
  generalize gb l 2 = x2 at *
  generalize gb l 3 = x3 at *
  clear hv hnl
  go_enter Tryd.func29, Tryd.ntmps29
  go_wp2_with fail
  go_region
  all_goals
    go_wp2_with fail
    go_ret
    exact ⟨rfl, (Below.refl _ _).drew⟩
set_option maxHeartbeats 4000000 in
theorem ref11_number (w : World) (ao : Option Addr) (n cap : Nat) (l : List UInt8) (hv : Bytes w (.slice ao n cap) l) (h4 : 4 ≤ n) :
    Calls Tryd.prog 31 #[.slice ao n cap] w fun e w' => e = .returned (.int .i64 (Img.number l : Int)) ∧ w' = w := by
  obtain ⟨hnl, g1, g2⟩ := hv.form
  obtain ⟨b, off, rfl, -, c0⟩ := hv.at (k := 0) (by omega)
  obtain ⟨b', off', e1, -, c1⟩ := hv.at (k := 1) (by omega)
  cases e1
  obtain ⟨b', off', e1, -, c2⟩ := hv.at (k := 2) (by omega)
  cases e1
  obtain ⟨b', off', e1, -, c3⟩ := hv.at (k := 3) (by omega)
  cases e1
  obtain ⟨m1, m2, m3, s1, s2, f1, f2, f3, f4, f5, f6, f7, f8⟩ := Img.steps l 2
  have hi0 : (0 : Int) < (n : Int) := by omega
  have hi1 : (1 : Int) < (n : Int) := by omega
  have hi2 : (2 : Int) < (n : Int) := by omega
  have hi3 : (3 : Int) < (n : Int) := by omega
  replace c0 : w.cell? ⟨b, off, none⟩ = some (B8 (gb l 0)) := c0
  replace c1 : w.cell? ⟨b, off + 1, none⟩ = some (B8 (gb l 1)) := c1
  replace c2 : w.cell? ⟨b, off + 2, none⟩ = some (B8 (gb l 2)) := c2
  replace c3 : w.cell? ⟨b, off + 3, none⟩ = some (B8 (gb l 3)) := c3
  generalize Img.number l = N at *
  generalize gb l 0 = x0 at *
  generalize gb l 1 = x1 at *
  generalize gb l 2 = x2 at *
  generalize gb l 3 = x3 at *
  clear hv hnl
  go_enter Tryd.func31, Tryd.ntmps31
  go_wp2_with fail
  refine wp_loop_rounds 5 ?_
  rw [rounds_succ]
  go_wp2_with fail
  rw [rounds_succ]
  go_wp2_with fail
  rw [rounds_succ]
  go_wp2_with fail
  rw [rounds_succ]
  go_wp2_with fail
  rw [rounds_succ]
  go_wp2_with fail
  go_ret
  exact ⟨rfl, rfl⟩
theorem image_may (w : World) (k : Nat) (hk : k < 16) (c : UInt8) : Calls Tryd.prog 28 #[.int .i64 (k : Int), B8 c] w fun e w' => e = .returned (.bool (Img.must k c)) ∧ w' = w := by
  have hk2 : k = 0 ∨ k = 1 ∨ k = 2 ∨ k = 3 ∨ k = 4 ∨ k = 5 ∨ k = 6 ∨ k = 7 ∨ 8 ≤ k := by omega
  rcases hk2 with rfl | rfl | rfl | rfl | rfl | rfl | rfl | rfl | h8
  case inr.inr.inr.inr.inr.inr.inr.inr =>
    have e : Img.must k c = true := by
      match k, h8 with
      | k + 8, _ => rfl
    rw [e]
    have i1 : ¬ (k : Int) < 4 := by omega
    have i4 : ¬ (k : Int) = 4 := by omega
    have i5 : ¬ (k : Int) = 5 := by omega
    have i6 : ¬ (k : Int) = 6 := by omega
    have i7 : ¬ (k : Int) = 7 := by omega
    go_enter Tryd.func28, Tryd.ntmps28
    go_wp2
    go_ret
    exact ⟨rfl, rfl⟩
  all_goals
    have e0 : (Value.int .u8 (((⟨#[80, 67, 85, 76]⟩ : ByteArray)[0].toNat : Nat) : Int)) = B8 80 := rfl
    have e1 : (Value.int .u8 (((⟨#[80, 67, 85, 76]⟩ : ByteArray)[1].toNat : Nat) : Int)) = B8 67 := rfl
    have e2 : (Value.int .u8 (((⟨#[80, 67, 85, 76]⟩ : ByteArray)[2].toNat : Nat) : Int)) = B8 85 := rfl
    have e3 : (Value.int .u8 (((⟨#[80, 67, 85, 76]⟩ : ByteArray)[3].toNat : Nat) : Int)) = B8 76 := rfl
    go_enter Tryd.func28, Tryd.ntmps28
    go_wp2
    go_ret
    exact ⟨rfl, rfl⟩
theorem ref11_must (w : World) (k : Nat) (hk : k < 16) (c : UInt8) : Calls Tryd.prog 30 #[.int .i64 (k : Int), B8 c] w fun e w' => e = .returned (.bool (Img.must k c)) ∧ w' = w := by
  have hk2 : k = 0 ∨ k = 1 ∨ k = 2 ∨ k = 3 ∨ k = 4 ∨ k = 5 ∨ k = 6 ∨ k = 7 ∨ 8 ≤ k := by omega
  rcases hk2 with rfl | rfl | rfl | rfl | rfl | rfl | rfl | rfl | h8
  case inr.inr.inr.inr.inr.inr.inr.inr =>
    have e : Img.must k c = true := by
      match k, h8 with
      | k + 8, _ => rfl
    rw [e]
    have i0 : ¬ (k : Int) = 0 := by omega
    have i1 : ¬ (k : Int) = 1 := by omega
    have i2 : ¬ (k : Int) = 2 := by omega
    have i3 : ¬ (k : Int) = 3 := by omega
    have i4 : ¬ (k : Int) = 4 := by omega
    have i5 : ¬ (k : Int) = 5 := by omega
    have i6 : ¬ (k : Int) = 6 := by omega
    have i7 : ¬ (k : Int) = 7 := by omega
    go_enter Tryd.func30, Tryd.ntmps30
    go_wp2
    go_ret
    exact ⟨rfl, rfl⟩
  all_goals
    have e0 : (Value.int .u8 (((⟨#[80, 67, 85, 76]⟩ : ByteArray)[0].toNat : Nat) : Int)) = B8 80 := rfl
    have e1 : (Value.int .u8 (((⟨#[80, 67, 85, 76]⟩ : ByteArray)[1].toNat : Nat) : Int)) = B8 67 := rfl
    have e2 : (Value.int .u8 (((⟨#[80, 67, 85, 76]⟩ : ByteArray)[2].toNat : Nat) : Int)) = B8 85 := rfl
    have e3 : (Value.int .u8 (((⟨#[80, 67, 85, 76]⟩ : ByteArray)[3].toNat : Nat) : Int)) = B8 76 := rfl
    go_enter Tryd.func30, Tryd.ntmps30
    go_wp2
    go_ret
    exact ⟨rfl, rfl⟩
theorem four_facts (n : Nat) : (∀ t k, binOp .shr t (.int .i64 (n : Int)) (.int k (8 : Int)) = pure (.int .i64 ((n / 256 : Nat) : Int))) ∧ (∀ t k, binOp .shr t (.int .i64 (n : Int)) (.int k (16 : Int)) = pure (.int .i64 ((n / 65536 : Nat) : Int))) ∧
    (∀ t k, binOp .shr t (.int .i64 (n : Int)) (.int k (24 : Int)) = pure (.int .i64 ((n / 16777216 : Nat) : Int))) ∧ (∀ t k, binOp .shr t (.int .i64 (n : Int)) (.int k (0 : Int)) = pure (.int .i64 (n : Int))) := by
  refine ⟨fun t k => shr_i64 t k n 8 (by decide), fun t k => shr_i64 t k n 16 (by decide), fun t k => shr_i64 t k n 24 (by decide), fun t k => ?_⟩
  have := shr_i64 t k n 0 (by decide)
  rw [Nat.pow_zero, Nat.div_one] at this
  exact this
theorem four_ofInt (n : Nat) : [UInt8.ofInt (n : Int), UInt8.ofInt ((n / 256 : Nat) : Int), UInt8.ofInt ((n / 65536 : Nat) : Int), UInt8.ofInt ((n / 16777216 : Nat) : Int)] = Img.four n := by
  rw [ofInt8_nat, ofInt8_nat, ofInt8_nat, ofInt8_nat]
  rfl
set_option maxHeartbeats 4000000 in
theorem image_four {w0 w : World} {L : List Blk} (ob : Option Nat) (l : List UInt8) (m cap : Nat) (hl : Len l m) (hcap : cap ≤ maxLen) (hM : Mem [] w0 w (⟨ob, 5, l.map B8, cap⟩ :: L)) (n : Nat) (hm : m ≤ 140737488355000) :
    Calls Tryd.prog 24 #[sl ob m cap, .int .i64 (n : Int)] w fun e w' => ∃ ob' cap', e = .returned (sl ob' (m + 4) cap') ∧ m + 4 ≤ cap' ∧ cap' ≤ maxLen ∧ Mem [] w0 w' (⟨ob', 5, (l ++ Img.four n).map B8, cap'⟩ :: L) := by
  obtain ⟨f1, f2, f3, -⟩ := four_facts n
  have hF := four_ofInt n
  generalize n / 256 = n1 at *
  generalize n / 65536 = n2 at *
  generalize n / 16777216 = n3 at *
  have HF : ∀ _ : Unit, [UInt8.ofInt (n : Int), UInt8.ofInt (n1 : Int), UInt8.ofInt (n2 : Int), UInt8.ofInt (n3 : Int)] = Img.four n := fun _ => hF
  clear hF
  go_enter Tryd.func24, Tryd.ntmps24
  go_wp2_with (first
    | ((with_reducible refine gL_buildBytes (dst := some 17) hM ?_); refine ⟨_, _, (us_of rfl), (el_of rfl), (by decide), (by decide), rfl, (by (repeat (first | exact EvB.nil | apply EvB.cons rfl (by first | exact (rfl : B8 _ = B8 _) | exact lit8 _ (by decide)))); done), ?_⟩; intro g17 _ hM2; clear hM; have hM := hM2; clear hM2)
    | ((with_reducible refine gL_append_B (dst := some 18) hM ?_); have hx := hM.src (m := 4) (cap := 4) (.head _); refine ⟨_, _, ob, m, cap, 5, l, [UInt8.ofInt (n : Int), UInt8.ofInt (n1 : Int), UInt8.ofInt (n2 : Int), UInt8.ofInt (n3 : Int)], 4, _, rfl, rfl, rfl, (us_of rfl), (el_of rfl), hx, (fun _ _ => .there _ (.here _ _ _)), hl, rfl, hcap, (by omega), ?_⟩; clear hx; intro ob1 cap1 _ hM2 hd1 hd2; clear hM; have hM := hM2; clear hM2))
  replace hM := hM.drop
  rw [HF ()] at hM
  go_ret
  exact ⟨ob1, cap1, rfl, hd1, hd2, hM⟩
set_option maxHeartbeats 4000000 in
theorem ref11_four {w0 w : World} {L : List Blk} (ob : Option Nat) (l : List UInt8) (m cap : Nat) (hl : Len l m) (hcap : cap ≤ maxLen) (hM : Mem [] w0 w (⟨ob, 5, l.map B8, cap⟩ :: L)) (n : Nat) (hm : m ≤ 140737488355000) :
    Calls Tryd.prog 39 #[sl ob m cap, .int .i64 (n : Int)] w fun e w' => ∃ ob' cap', e = .returned (sl ob' (m + 4) cap') ∧ cap' ≤ maxLen ∧ Mem [] w0 w' (⟨ob', 5, (l ++ Img.four n).map B8, cap'⟩ :: L) := by
  have hsh : ∀ j : Nat, j < 4 → ∀ t, binOp .shr t (.int .i64 (n : Int)) (.int .i64 (8 * (j : Int))) = pure (.int .i64 ((n / 2 ^ (8 * j) : Nat) : Int)) := fun j hj t => by
    have := shr_i64 t .i64 n (8 * j) (by omega)
    rwa [show ((8 * j : Nat) : Int) = 8 * (j : Int) from by simp] at this
  have hst : ∀ j : Nat, j < 4 → (Img.four n).take j ++ [UInt8.ofInt ((n / 2 ^ (8 * j) : Nat) : Int)] = (Img.four n).take (j + 1) := fun j hj => by
    rw [ofInt8_nat]
    match j, hj with
    | 0, _ => simp [Img.four]
    | 1, _ => simp [Img.four]
    | 2, _ => simp [Img.four]
    | 3, _ => simp [Img.four]
    | j + 4, h => exact absurd h (by omega)
  have hend : (Img.four n).take 4 = Img.four n := rfl
  have hlen : ∀ j : Nat, j ≤ 4 → Len ((Img.four n).take j) j := fun j hj => Len.of (by rw [List.length_take, Img.four_len]; omega)
  have h00 : l ++ (Img.four n).take 0 = l := by simp
  generalize Img.four n = F4 at *
  have HEND : ∀ _ : Unit, F4.take 4 = F4 := fun _ => hend
  clear hend
  go_enter Tryd.func39, Tryd.ntmps39
  go_wp2_with fail
  go_loopw [0, 5] (fun p i wr => ∃ (j : Nat) (ob' : Option Nat) (cap' : Nat), j ≤ 4 ∧ i = .int .i64 j ∧ p = sl ob' (m + j) cap' ∧ cap' ≤ maxLen ∧ Mem [] w0 wr (⟨ob', 5, (l ++ F4.take j).map B8, cap'⟩ :: L)) (fun _ i _ => 4 - (intOf i).toNat)
  case atStart => exact ⟨0, ob, cap, by omega, rfl, rfl, hcap, by rw [h00]; exact hM⟩
  case round =>
    clear hM hcap h00
    obtain ⟨j, ob', cap', hj, rfl, rfl, hcap, hM⟩ := hrel
    have hl3 : Len (l ++ F4.take j) (m + j) := Len.of (by rw [List.length_append, hl.eq, (hlen j hj).eq])
    by_cases hlt : j < 4
    · have hti : (j : Int) < 4 := by omega
      have hs1 := hsh j hlt
      have hs2 : ∀ _ : Unit, l ++ F4.take j ++ [UInt8.ofInt ((n / 2 ^ (8 * j) : Nat) : Int)] = l ++ F4.take (j + 1) := fun _ => by rw [List.append_assoc, hst j hlt]
      clear hsh hst hlen HEND
      generalize n / 2 ^ (8 * j) = nj at *
      obtain ⟨A, hA⟩ : ∃ A, A = l ++ F4.take j := ⟨_, rfl⟩
      rw [← hA] at hM hl3 hs2
      clear hA
      go_wp2_with (first
        | ((with_reducible refine gL_buildBytes (dst := some 16) hM ?_); refine ⟨_, _, (us_of rfl), (el_of rfl), (by decide), (by decide), rfl, (by (repeat (first | exact EvB.nil | apply EvB.cons rfl (by first | exact (rfl : B8 _ = B8 _) | exact lit8 _ (by decide)))); done), ?_⟩; intro g16 _ hM2; clear hM; have hM := hM2; clear hM2)
        | ((with_reducible refine gL_append_B (dst := some 17) hM ?_); have hx := hM.src (m := 1) (cap := 1) (.head _); refine ⟨_, _, ob', m + j, cap', 5, A, [UInt8.ofInt (nj : Int)], 1, _, rfl, rfl, rfl, (us_of rfl), (el_of rfl), hx, (fun _ _ => .there _ (.here _ _ _)), hl3, rfl, hcap, (by omega), ?_⟩; clear hx; intro ob1 cap1 _ hM2 hd1 hd2; clear hM; have hM := hM2; clear hM2))
      replace hM := hM.drop
      rw [hs2 ()] at hM
      go_roundw
      case rel => exact ⟨j + 1, ob1, cap1, by omega, by go_num, rfl, hd2, hM⟩
      case measure => simp [intOf]; omega
    · have hje : j = 4 := by omega
      subst hje
      rw [HEND ()] at hM
      go_wp2_with fail
      go_ret
      exact ⟨ob', cap', rfl, hcap, hM⟩
end Go.Proofs.YtejmbkljnhnklaaDoor
namespace Go.PK
open Go.RowKit
section
variable {P : Program} {Q : Exit → Act → World → Prop} {ops : Array Oper} {rest : List Oper} {a : Act} {w : World} {G : List Nat} {w0 : World} {L : List Blk} {dst : Option Tmp} {type : TypeId} {pos : String} {after : Array Edge} {K : Act → World → Prop} {o : Oper}
theorem Mem.fewer {id : Option Nat} {t : TypeId} {C D : List Value} {N : Nat} (hM : Mem G w0 w (⟨id, t, C ++ D, N⟩ :: L)) : Mem G w0 w (⟨id, t, C, N⟩ :: L) := by
  refine ⟨hM.touch, fun b hb => ?_, fun b hb g hg => ?_, hM.nodup⟩
  · rcases List.mem_cons.1 hb with rfl | hb
    · have := hM.holds _ (.head _)
      unfold Blk.holds at this ⊢
      cases id with
      | none =>
        simp only at this ⊢
        exact ⟨(List.append_eq_nil_iff.1 this.1).1, this.2⟩
      | some g =>
        obtain ⟨J, hJ, hN⟩ := this
        refine ⟨D ++ J, ?_, ?_⟩
        · simp only at hJ ⊢
          rw [← List.append_assoc]
          exact hJ
        · simp only [List.length_append] at hN ⊢
          omega
    · exact hM.holds b (.tail _ hb)
  · rcases List.mem_cons.1 hb with rfl | hb
    · exact hM.own _ (.head _) g hg
    · exact hM.own b (.tail _ hb) g hg
theorem Mem.wp_append_str (hM : Mem G w0 w L) {s x : Operand} {t u : TypeId} {g : Nat} {e : TypeId} {l bs : List UInt8} {n cap bytes : Nat} {L' : List Blk} (ho : o.op = .call { callee := .builtin .append, args := #[s, x], argTypes := #[t, u] })
    (hs : a.eval s = .slice (some ⟨g, 0, none⟩) n cap) (ht : P.underlying t = some (.slice e)) (hu : P.underlying u = some .string) (hel : El P e 1 bytes) (hb : Has L ⟨some g, e, l.map B8, cap⟩ ⟨some g, e, (l ++ bs).map B8, cap⟩ L') (hl : Len l n)
    (hx : a.eval x = .string ⟨bs.toArray⟩) (hroom : n + bs.length ≤ cap) (h : ∀ w', Mem G w0 w' L' → K (a.put o.dst (.slice (some ⟨g, 0, none⟩) (n + bs.length) cap)) w') : o.wp P a w K Q := by
  obtain ⟨z, hinfo, hzs, hsz⟩ := hel
  obtain ⟨i, hi, hz, hsize, hby⟩ := info_parts hinfo
  obtain ⟨J, hJ, hN⟩ := hM.holds _ hb.mem
  rw [List.length_map, hl.eq] at hN
  replace hN : n + J.length = cap := hN
  have hst := run_storeCells_at (P := P) g n e (bs.map B8) 0 (l.map B8 ++ J).toArray w hJ (by simp [hl.eq]; omega) (fun v hv => by obtain ⟨c, _, rfl⟩ := List.mem_map.1 hv; rfl)
  have he : (l.map B8 ++ J).take (n + 0) ++ bs.map B8 ++ (l.map B8 ++ J).drop (n + 0 + (bs.map B8).length) = (l ++ bs).map B8 ++ J.drop bs.length := by
    rw [Nat.add_zero, List.take_left' (by rw [List.length_map, hl.eq]), List.length_map, ← List.drop_drop, List.drop_left' (by rw [List.length_map, hl.eq]), List.map_append]
  simp only at hst
  rw [he] at hst
  have hM2 := hM.setRow hb hJ (J.drop bs.length) (by simp [hl.eq]; omega)
  have hf : (Builtin.firstCells 1 bs.length (.string ⟨bs.toArray⟩)).run P w = .ok (bs.map B8).toArray w := by
    have e1 : ((⟨bs.toArray⟩ : ByteArray).extract 0 bs.length).data = bs.toArray := by
      rw [ByteArray.data_extract]
      simp
    unfold Builtin.firstCells
    show Result.ok ((((⟨bs.toArray⟩ : ByteArray).extract 0 bs.length).data).map fun b => Value.int .u8 b.toNat) w = _
    rw [e1, List.map_toArray]
    rfl
  have hsize2 : (⟨bs.toArray⟩ : ByteArray).size = bs.length := by show bs.toArray.size = _; simp
  have hrun : (Builtin.append_ #[t, u] o.type #[.slice (some ⟨g, 0, none⟩) n cap, .string ⟨bs.toArray⟩]).run P w = .ok (.slice (some ⟨g, 0, none⟩) (n + bs.length) cap) (w.setRow g ((l ++ bs).map B8 ++ J.drop bs.length).toArray) := by
    have hst' : (storeCells ⟨g, n, none⟩ (bs.map B8)).run P w = _ := hst
    have hif : (if n = 0 then (⟨g, 0, none⟩ : Addr) else ⟨g, n, none⟩) = ⟨g, n, none⟩ := by split <;> simp_all
    simp [Builtin.append_, run_underlying ht, run_underlying hu, sizeOf, typeInfo, hi, hsize, Builtin.lenOf, hsize2, hroom, hf, Addr.add]
    rw [hif, hst']
    simp
  unfold Oper.wp execOp
  simp only [ho, resolve, invoke, builtin, Sem.run_bind, Sem.run_pure, Result.andThen_ok, List.map_toArray, List.map_cons, List.map_nil, hs, hx, hrun]
  exact h _ hM2
theorem gL_append_str (hM : Mem G w0 w L) {s x : Operand} {t u : TypeId} (h : ∃ (g : Nat) (e : TypeId) (l bs : List UInt8) (n cap bytes : Nat) (L' : List Blk), a.eval s = .slice (some ⟨g, 0, none⟩) n cap ∧ P.underlying t = some (.slice e) ∧ P.underlying u = some .string ∧ El P e 1 bytes ∧
    Has L ⟨some g, e, l.map B8, cap⟩ ⟨some g, e, (l ++ bs).map B8, cap⟩ L' ∧ Len l n ∧ a.eval x = .string ⟨bs.toArray⟩ ∧ n + bs.length ≤ cap ∧ ∀ w', Mem G w0 w' L' → wpList P ops Q rest (a.put dst (.slice (some ⟨g, 0, none⟩) (n + bs.length) cap)) w') :
    wpList P ops Q (Oper.mk dst (.call { callee := .builtin .append, args := #[s, x], argTypes := #[t, u] }) type pos after none :: rest) a w := by
  obtain ⟨g, e, l, bs, n, cap, bytes, L', h1, h2, h3, h4, h5, h6, h7, h8, h9⟩ := h
  exact wpList_plain rfl fun _ hk => hM.wp_append_str rfl h1 h2 h3 h4 h5 h6 h7 h8 fun w' g1 => hk _ _ (h9 w' g1)
end
end Go.PK
namespace Go.Proofs.YtejmbkljnhnklaaDoor
open Go.RowKit Go.PK
abbrev imC (x : Img.Im) (p : Value) : List Value := ([.int .i64 x.slot, .int .i64 x.key, .int .i64 x.ver, p] : List Value) ++ x.tag.map B8
theorem imC_len {x : Img.Im} (h : Len x.tag 32) (p : Value) : Len (imC x p) 36 := Len.of (by rw [List.length_append, List.length_map, h.eq]; rfl)
theorem im_ways (x : Img.Im) : (x.slot < 0) ∨ (¬ x.slot < 0 ∧ 8 ≤ x.slot) ∨ (¬ x.slot < 0 ∧ ¬ 8 ≤ x.slot ∧ x.key < 0) ∨ (¬ x.slot < 0 ∧ ¬ 8 ≤ x.slot ∧ ¬ x.key < 0 ∧ 64 ≤ x.key) ∨
    (¬ x.slot < 0 ∧ ¬ 8 ≤ x.slot ∧ ¬ x.key < 0 ∧ ¬ 64 ≤ x.key ∧ x.ver < 0) ∨ (¬ x.slot < 0 ∧ ¬ 8 ≤ x.slot ∧ ¬ x.key < 0 ∧ ¬ 64 ≤ x.key ∧ ¬ x.ver < 0 ∧ 4294967296 ≤ x.ver) ∨
    (¬ x.slot < 0 ∧ ¬ 8 ≤ x.slot ∧ ¬ x.key < 0 ∧ ¬ 64 ≤ x.key ∧ ¬ x.ver < 0 ∧ ¬ 4294967296 ≤ x.ver) := by omega
theorem may_off {x : Img.Im} (h : Img.Off x) : Img.may x = 2 := if_pos h
theorem may_long {x : Img.Im} (h : ¬ Img.Off x) (k : 524240 < x.pay.length) : Img.may x = 4 := by rw [Img.may, if_neg h, if_pos k]
theorem may_ok {x : Img.Im} (h : ¬ Img.Off x) (k : ¬ 524240 < x.pay.length) : Img.may x = 0 := by rw [Img.may, if_neg h, if_neg k]
set_option maxRecDepth 100000 in
set_option maxHeartbeats 4000000 in
theorem ref11_May (w : World) (x : Img.Im) (p : Value) (hp : Bytes w p x.pay) (hT : Len x.tag 32) :
    Calls Tryd.prog 25 #[.agg (imC x p).toArray] w fun e w' => e = .returned (.int .i64 (Img.may x : Int)) ∧ Below w.heap.size w w' := by
  have hM := Mem.start w
  have hC := imC_len hT p
  have hw := im_ways x
  have hOff : ∀ _ : Unit, Img.Off x ↔ (x.slot < 0 ∨ 7 < x.slot ∨ x.key < 0 ∨ 63 < x.key ∨ x.ver < 0 ∨ 4294967295 < x.ver) := fun _ => Iff.rfl
  obtain ⟨ao, cap, rfl, g1, g2, -⟩ := hp
  obtain ⟨k, hk⟩ : ∃ k, k = Img.may x := ⟨_, rfl⟩
  have HK : ∀ _ : Unit, k = Img.may x := fun _ => hk
  rw [← hk]
  clear hk
  obtain ⟨n, hn⟩ : ∃ n, n = x.pay.length := ⟨_, rfl⟩
  have HN : ∀ _ : Unit, n = x.pay.length := fun _ => hn
  rw [← hn] at g1 hC ⊢
  clear hn
  have hoff : Img.Off x → k = 2 := fun h => (HK ()).trans (may_off h)
  have hlong : ¬ Img.Off x → 524240 < n → k = 4 := fun h h2 => (HK ()).trans (may_long h (by rw [← HN ()]; exact h2))
  have hok : ¬ Img.Off x → ¬ 524240 < n → k = 0 := fun h h2 => (HK ()).trans (may_ok h (by rw [← HN ()]; exact h2))
  rw [hOff ()] at hoff hlong hok
  clear hOff HK HN
  unfold imC at hC ⊢
  generalize x.tag.map B8 = TC at *
  generalize x.slot = s at *
  generalize x.key = y at *
  generalize x.ver = v at *
  go_enter Tryd.func25, Tryd.ntmps25
  rcases hw with h1 | ⟨h1, h2⟩ | ⟨h1, h2, h3⟩ | ⟨h1, h2, h3, h4⟩ | ⟨h1, h2, h3, h4, h5⟩ | ⟨h1, h2, h3, h4, h5, h6⟩ | ⟨h1, h2, h3, h4, h5, h6⟩
  case inr.inr.inr.inr.inr.inr =>
    have i2 : ¬ 7 < s := by omega
    have i4 : ¬ 63 < y := by omega
    have i6 : ¬ 4294967295 < v := by omega
    by_cases hl : 524240 < n
    · obtain rfl : k = 4 := hlong (by omega) hl
      have hli : (524240 : Int) < (n : Int) := by omega
      clear hoff hlong hok
      go_wp2_with (first | ((with_reducible refine gL_box hM ?_); refine ⟨_, _, _, rfl, rfl, hC, ?_⟩; intro _ _ hM2; clear hM; have hM := hM2; clear hM2) | go_skip | ((first | (with_reducible refine gL_load ?_) | ((with_reducible refine gG_load ?_ ?_); (exact wanted_of rfl rfl rfl rfl rfl))); refine ⟨_, _, rfl, (by (first | (assumption) | (exact hM.loads_B8 (by (repeat (first | exact .head _ | apply List.Mem.tail)); done) (on_of rfl) (by first | omega | (simp only [Len] at *; omega) | (simp; omega))) | (exact hM.loads_all (by (repeat (first | exact .head _ | apply List.Mem.tail)); done) (ag_of rfl) (by first | assumption | exact Len.map (by assumption) _ | rfl | exact Len.map (by rfl) _ | exact Len.of (by simp; done))) | (exact hM.loads_one (by (repeat (first | exact .head _ | apply List.Mem.tail)); done) (on_of rfl) rfl) | (exact hM.loads_W32 (by (repeat (first | exact .head _ | apply List.Mem.tail)); done) (on_of rfl) (by first | omega | (simp only [Len] at *; omega) | (simp; omega))) | (exact loads_cell (by assumption) (on_of rfl)))), ?_⟩) | ((with_reducible refine gL_store hM ?_); refine ⟨_, _, _, rfl, rfl, (by (first | (exact hM.stores_B8 (by first | exact (rfl : B8 _ = B8 _) | exact lit8 _ (by decide)) (by (repeat (first | exact .here _ _ _ | apply Has.there)); done) (on_of rfl) (by first | omega | (simp only [Len] at *; omega) | (simp; omega))) | (exact hM.stores_all (by (repeat (first | exact .here _ _ _ | apply Has.there)); done) (ag_of rfl) (by first | assumption | exact Len.map (by assumption) _ | rfl | exact Len.map (by rfl) _ | exact Len.of (by simp; done)) (by first | assumption | exact Len.map (by assumption) _ | rfl | exact Len.map (by rfl) _ | exact Len.of (by simp; done)) (by first | exact B8_one | exact W32_one | exact one_of_all rfl)) | (exact hM.stores_W32 rfl (by (repeat (first | exact .here _ _ _ | apply Has.there)); done) (on_of rfl) (by first | omega | (simp only [Len] at *; omega) | (simp; omega))) | (exact hM.stores_one (by (repeat (first | exact .here _ _ _ | apply Has.there)); done) (on_of rfl) (by first | omega | (simp only [Len] at *; omega) | (simp; omega)) rfl rfl))), ?_⟩; intro _ hM2; clear hM; have hM := hM2; clear hM2) | ((with_reducible refine gL_alloc hM ?_); refine ⟨_, _, (zr_of rfl), ?_⟩; intro _ _ hM2; clear hM; have hM := hM2; clear hM2) | ((with_reducible refine gL_box hM ?_); refine ⟨_, _, _, rfl, rfl, (by first | assumption | exact Len.map (by assumption) _ | rfl | exact Len.map (by rfl) _ | exact Len.of (by simp; done)), ?_⟩; intro _ _ hM2; clear hM; have hM := hM2; clear hM2) | ((with_reducible refine gL_build0 ?_); refine ⟨_, _, _, _, _, _, (zr_of rfl), (ua_of rfl), (ag_of rfl), (el_of rfl), ?_⟩) | ((with_reducible refine gL_buildBytes hM ?_); refine ⟨_, _, (us_of rfl), (el_of rfl), (by decide), (by decide), rfl, (by (repeat (first | exact EvB.nil | apply EvB.cons rfl (by first | exact (rfl : B8 _ = B8 _) | exact lit8 _ (by decide)))); done), ?_⟩; intro _ _ hM2; clear hM; have hM := hM2; clear hM2) | ((with_reducible refine gL_append_B hM ?_); refine ⟨_, _, _, _, _, _, _, _, _, _, rfl, rfl, (by first | exact (rfl : Value.slice (some ⟨_, 0, none⟩) _ _ = sl (some _) _ _) | exact (rfl : Value.slice none _ _ = sl none _ _) | rfl), (us_of rfl), (el_of rfl), (by first | exact hM.src (by (repeat (first | exact .head _ | apply List.Mem.tail)); done) | exact (hM.bytes0 (by assumption)).src), (fun _ _ => by (repeat (first | exact .here _ _ _ | apply Swap.there)); done), (by first | assumption | exact Len.map (by assumption) _ | rfl | exact Len.map (by rfl) _ | exact Len.of (by simp; done)), (by first | assumption | exact Len.map (by assumption) _ | rfl | exact Len.map (by rfl) _ | exact Len.of (by simp; done)), (by first | assumption | (simp [maxLen]; done) | omega | (simp [maxLen]; omega)), (by first | omega | (simp only [Len] at *; omega) | (simp; omega)), ?_⟩; intro _ _ _ hM2 _ _; clear hM; have hM := hM2; clear hM2) | ((first | (with_reducible refine gL_field ?_) | ((with_reducible refine gG_field ?_ ?_); (exact wanted_of rfl rfl rfl rfl rfl))); refine ⟨_, _, rfl, (by (first | (exact field_one (fb_of rfl) rfl) | (exact field_agg (fa_of rfl) rfl))), ?_⟩))
      go_ret
      exact ⟨rfl, hM.done⟩
    · obtain rfl : k = 0 := hok (by omega) hl
      have hli : ¬ (524240 : Int) < (n : Int) := by omega
      clear hoff hlong hok
      go_wp2_with (first | ((with_reducible refine gL_box hM ?_); refine ⟨_, _, _, rfl, rfl, hC, ?_⟩; intro _ _ hM2; clear hM; have hM := hM2; clear hM2) | go_skip | ((first | (with_reducible refine gL_load ?_) | ((with_reducible refine gG_load ?_ ?_); (exact wanted_of rfl rfl rfl rfl rfl))); refine ⟨_, _, rfl, (by (first | (assumption) | (exact hM.loads_B8 (by (repeat (first | exact .head _ | apply List.Mem.tail)); done) (on_of rfl) (by first | omega | (simp only [Len] at *; omega) | (simp; omega))) | (exact hM.loads_all (by (repeat (first | exact .head _ | apply List.Mem.tail)); done) (ag_of rfl) (by first | assumption | exact Len.map (by assumption) _ | rfl | exact Len.map (by rfl) _ | exact Len.of (by simp; done))) | (exact hM.loads_one (by (repeat (first | exact .head _ | apply List.Mem.tail)); done) (on_of rfl) rfl) | (exact hM.loads_W32 (by (repeat (first | exact .head _ | apply List.Mem.tail)); done) (on_of rfl) (by first | omega | (simp only [Len] at *; omega) | (simp; omega))) | (exact loads_cell (by assumption) (on_of rfl)))), ?_⟩) | ((with_reducible refine gL_store hM ?_); refine ⟨_, _, _, rfl, rfl, (by (first | (exact hM.stores_B8 (by first | exact (rfl : B8 _ = B8 _) | exact lit8 _ (by decide)) (by (repeat (first | exact .here _ _ _ | apply Has.there)); done) (on_of rfl) (by first | omega | (simp only [Len] at *; omega) | (simp; omega))) | (exact hM.stores_all (by (repeat (first | exact .here _ _ _ | apply Has.there)); done) (ag_of rfl) (by first | assumption | exact Len.map (by assumption) _ | rfl | exact Len.map (by rfl) _ | exact Len.of (by simp; done)) (by first | assumption | exact Len.map (by assumption) _ | rfl | exact Len.map (by rfl) _ | exact Len.of (by simp; done)) (by first | exact B8_one | exact W32_one | exact one_of_all rfl)) | (exact hM.stores_W32 rfl (by (repeat (first | exact .here _ _ _ | apply Has.there)); done) (on_of rfl) (by first | omega | (simp only [Len] at *; omega) | (simp; omega))) | (exact hM.stores_one (by (repeat (first | exact .here _ _ _ | apply Has.there)); done) (on_of rfl) (by first | omega | (simp only [Len] at *; omega) | (simp; omega)) rfl rfl))), ?_⟩; intro _ hM2; clear hM; have hM := hM2; clear hM2) | ((with_reducible refine gL_alloc hM ?_); refine ⟨_, _, (zr_of rfl), ?_⟩; intro _ _ hM2; clear hM; have hM := hM2; clear hM2) | ((with_reducible refine gL_box hM ?_); refine ⟨_, _, _, rfl, rfl, (by first | assumption | exact Len.map (by assumption) _ | rfl | exact Len.map (by rfl) _ | exact Len.of (by simp; done)), ?_⟩; intro _ _ hM2; clear hM; have hM := hM2; clear hM2) | ((with_reducible refine gL_build0 ?_); refine ⟨_, _, _, _, _, _, (zr_of rfl), (ua_of rfl), (ag_of rfl), (el_of rfl), ?_⟩) | ((with_reducible refine gL_buildBytes hM ?_); refine ⟨_, _, (us_of rfl), (el_of rfl), (by decide), (by decide), rfl, (by (repeat (first | exact EvB.nil | apply EvB.cons rfl (by first | exact (rfl : B8 _ = B8 _) | exact lit8 _ (by decide)))); done), ?_⟩; intro _ _ hM2; clear hM; have hM := hM2; clear hM2) | ((with_reducible refine gL_append_B hM ?_); refine ⟨_, _, _, _, _, _, _, _, _, _, rfl, rfl, (by first | exact (rfl : Value.slice (some ⟨_, 0, none⟩) _ _ = sl (some _) _ _) | exact (rfl : Value.slice none _ _ = sl none _ _) | rfl), (us_of rfl), (el_of rfl), (by first | exact hM.src (by (repeat (first | exact .head _ | apply List.Mem.tail)); done) | exact (hM.bytes0 (by assumption)).src), (fun _ _ => by (repeat (first | exact .here _ _ _ | apply Swap.there)); done), (by first | assumption | exact Len.map (by assumption) _ | rfl | exact Len.map (by rfl) _ | exact Len.of (by simp; done)), (by first | assumption | exact Len.map (by assumption) _ | rfl | exact Len.map (by rfl) _ | exact Len.of (by simp; done)), (by first | assumption | (simp [maxLen]; done) | omega | (simp [maxLen]; omega)), (by first | omega | (simp only [Len] at *; omega) | (simp; omega)), ?_⟩; intro _ _ _ hM2 _ _; clear hM; have hM := hM2; clear hM2) | ((first | (with_reducible refine gL_field ?_) | ((with_reducible refine gG_field ?_ ?_); (exact wanted_of rfl rfl rfl rfl rfl))); refine ⟨_, _, rfl, (by (first | (exact field_one (fb_of rfl) rfl) | (exact field_agg (fa_of rfl) rfl))), ?_⟩))
      go_ret
      exact ⟨rfl, hM.done⟩
  all_goals
    obtain rfl : k = 2 := hoff (by omega)
    try (have i2 : 7 < s := by omega)
    try (have i2 : ¬ 7 < s := by omega)
    try (have i4 : 63 < y := by omega)
    try (have i4 : ¬ 63 < y := by omega)
    try (have i6 : 4294967295 < v := by omega)
    clear hoff hlong hok
    go_wp2_with (first | ((with_reducible refine gL_box hM ?_); refine ⟨_, _, _, rfl, rfl, hC, ?_⟩; intro _ _ hM2; clear hM; have hM := hM2; clear hM2) | go_skip | ((first | (with_reducible refine gL_load ?_) | ((with_reducible refine gG_load ?_ ?_); (exact wanted_of rfl rfl rfl rfl rfl))); refine ⟨_, _, rfl, (by (first | (assumption) | (exact hM.loads_B8 (by (repeat (first | exact .head _ | apply List.Mem.tail)); done) (on_of rfl) (by first | omega | (simp only [Len] at *; omega) | (simp; omega))) | (exact hM.loads_all (by (repeat (first | exact .head _ | apply List.Mem.tail)); done) (ag_of rfl) (by first | assumption | exact Len.map (by assumption) _ | rfl | exact Len.map (by rfl) _ | exact Len.of (by simp; done))) | (exact hM.loads_one (by (repeat (first | exact .head _ | apply List.Mem.tail)); done) (on_of rfl) rfl) | (exact hM.loads_W32 (by (repeat (first | exact .head _ | apply List.Mem.tail)); done) (on_of rfl) (by first | omega | (simp only [Len] at *; omega) | (simp; omega))) | (exact loads_cell (by assumption) (on_of rfl)))), ?_⟩) | ((with_reducible refine gL_store hM ?_); refine ⟨_, _, _, rfl, rfl, (by (first | (exact hM.stores_B8 (by first | exact (rfl : B8 _ = B8 _) | exact lit8 _ (by decide)) (by (repeat (first | exact .here _ _ _ | apply Has.there)); done) (on_of rfl) (by first | omega | (simp only [Len] at *; omega) | (simp; omega))) | (exact hM.stores_all (by (repeat (first | exact .here _ _ _ | apply Has.there)); done) (ag_of rfl) (by first | assumption | exact Len.map (by assumption) _ | rfl | exact Len.map (by rfl) _ | exact Len.of (by simp; done)) (by first | assumption | exact Len.map (by assumption) _ | rfl | exact Len.map (by rfl) _ | exact Len.of (by simp; done)) (by first | exact B8_one | exact W32_one | exact one_of_all rfl)) | (exact hM.stores_W32 rfl (by (repeat (first | exact .here _ _ _ | apply Has.there)); done) (on_of rfl) (by first | omega | (simp only [Len] at *; omega) | (simp; omega))) | (exact hM.stores_one (by (repeat (first | exact .here _ _ _ | apply Has.there)); done) (on_of rfl) (by first | omega | (simp only [Len] at *; omega) | (simp; omega)) rfl rfl))), ?_⟩; intro _ hM2; clear hM; have hM := hM2; clear hM2) | ((with_reducible refine gL_alloc hM ?_); refine ⟨_, _, (zr_of rfl), ?_⟩; intro _ _ hM2; clear hM; have hM := hM2; clear hM2) | ((with_reducible refine gL_box hM ?_); refine ⟨_, _, _, rfl, rfl, (by first | assumption | exact Len.map (by assumption) _ | rfl | exact Len.map (by rfl) _ | exact Len.of (by simp; done)), ?_⟩; intro _ _ hM2; clear hM; have hM := hM2; clear hM2) | ((with_reducible refine gL_build0 ?_); refine ⟨_, _, _, _, _, _, (zr_of rfl), (ua_of rfl), (ag_of rfl), (el_of rfl), ?_⟩) | ((with_reducible refine gL_buildBytes hM ?_); refine ⟨_, _, (us_of rfl), (el_of rfl), (by decide), (by decide), rfl, (by (repeat (first | exact EvB.nil | apply EvB.cons rfl (by first | exact (rfl : B8 _ = B8 _) | exact lit8 _ (by decide)))); done), ?_⟩; intro _ _ hM2; clear hM; have hM := hM2; clear hM2) | ((with_reducible refine gL_append_B hM ?_); refine ⟨_, _, _, _, _, _, _, _, _, _, rfl, rfl, (by first | exact (rfl : Value.slice (some ⟨_, 0, none⟩) _ _ = sl (some _) _ _) | exact (rfl : Value.slice none _ _ = sl none _ _) | rfl), (us_of rfl), (el_of rfl), (by first | exact hM.src (by (repeat (first | exact .head _ | apply List.Mem.tail)); done) | exact (hM.bytes0 (by assumption)).src), (fun _ _ => by (repeat (first | exact .here _ _ _ | apply Swap.there)); done), (by first | assumption | exact Len.map (by assumption) _ | rfl | exact Len.map (by rfl) _ | exact Len.of (by simp; done)), (by first | assumption | exact Len.map (by assumption) _ | rfl | exact Len.map (by rfl) _ | exact Len.of (by simp; done)), (by first | assumption | (simp [maxLen]; done) | omega | (simp [maxLen]; omega)), (by first | omega | (simp only [Len] at *; omega) | (simp; omega)), ?_⟩; intro _ _ _ hM2 _ _; clear hM; have hM := hM2; clear hM2) | ((first | (with_reducible refine gL_field ?_) | ((with_reducible refine gG_field ?_ ?_); (exact wanted_of rfl rfl rfl rfl rfl))); refine ⟨_, _, rfl, (by (first | (exact field_one (fb_of rfl) rfl) | (exact field_agg (fa_of rfl) rfl))), ?_⟩))
    go_ret
    exact ⟨rfl, hM.done⟩
end Go.Proofs.YtejmbkljnhnklaaDoor
namespace Go.PK
open Go.RowKit
theorem Mem.addMem {G : List Nat} {w0 w w' : World} {L L' : List Blk} (h : Mem G w0 w L) (k : Mem [] w w' L') : Mem G w0 w' (L' ++ L) := by
  have h2 := h.adds k.done
  refine ⟨h2.touch, fun b hb => ?_, fun b hb g hg => ?_, ?_⟩
  · rcases List.mem_append.1 hb with hb | hb
    · exact k.holds b hb
    · exact h2.holds b hb
  · rcases List.mem_append.1 hb with hb | hb
    · exact .inr (Nat.le_trans h.touch.size ((k.own b hb g hg).resolve_left (by simp)))
    · exact h.own b hb g hg
  · rw [List.filterMap_append, List.nodup_append]
    refine ⟨k.nodup, h.nodup, fun a ha b hb hab => ?_⟩
    subst hab
    obtain ⟨x, hx, hxe⟩ := mem_ids.1 ha
    obtain ⟨y, hy, hye⟩ := mem_ids.1 hb
    have h3 := (k.own x hx a hxe).resolve_left (by simp)
    have h4 := (h.holds y hy).lt hye
    omega
section
variable {P : Program} {Q : Exit → Act → World → Prop} {ops : Array Oper} {rest : List Oper} {a : Act} {w : World} {G : List Nat} {w0 : World} {L : List Blk} {dst : Option Tmp} {type : TypeId} {pos : String} {after : Array Edge}
theorem gL_make0 (hM : Mem G w0 w L) {t : TypeId} {l c : Operand} (h : ∃ (e : TypeId) (m : Nat), P.underlying t = some (.slice e) ∧ (P.info? e).map (fun i => (i.zero, i.size, i.bytes)) = some (some (B8 0), 1, 1) ∧ a.eval l = .int .i64 ((0 : Nat) : Int) ∧ a.eval c = .int .i64 (m : Int) ∧ m ≤ 281474976710656 ∧
    ∀ g w', Mem G w0 w' (⟨some g, e, ([] : List UInt8).map B8, m⟩ :: L) → wpList P ops Q rest (a.put dst (.slice (some ⟨g, 0, none⟩) 0 m)) w') :
    wpList P ops Q (Oper.mk dst (.makeSlice t l c) type pos after none :: rest) a w := by
  obtain ⟨e, m, h1, h2, h3, h4, h5, h6⟩ := h
  refine wpList_make_one rfl l c t rfl e (B8 0) 1 h1 h2 rfl 0 m h3 h4 (Nat.zero_le _) (by omega) (by omega) (h6 _ _ ?_)
  have hM2 := hM.alloc ([] ++ List.replicate m (B8 0)) e
  rw [List.nil_append, List.length_replicate] at hM2
  exact Mem.fewer (C := []) (D := List.replicate m (B8 0)) hM2
end
theorem Mem.addMem1 {G : List Nat} {w0 w w' : World} {L : List Blk} {b : Blk} (h : Mem G w0 w L) (k : Mem [] w w' [b]) : Mem G w0 w' (b :: L) := h.addMem k
end Go.PK
namespace Go.Proofs.YtejmbkljnhnklaaDoor
open Go.RowKit Go.PK
theorem ref11_four' {w0 w : World} {L : List Blk} (ob : Option Nat) (l : List UInt8) (m m4 cap : Nat) (h4 : m + 4 = m4) (hl : Len l m) (hcap : cap ≤ maxLen) (hM : Mem [] w0 w (⟨ob, 5, l.map B8, cap⟩ :: L)) (n : Nat) (hm : m ≤ 140737488355000) :
    Calls Tryd.prog 39 #[sl ob m cap, .int .i64 (n : Int)] w fun e w' => ∃ ob' cap', e = .returned (sl ob' m4 cap') ∧ cap' ≤ maxLen ∧ Mem [] w0 w' (⟨ob', 5, (l ++ Img.four n).map B8, cap'⟩ :: L) := h4 ▸ ref11_four ob l m cap hl hcap hM n hm
theorem image_four' {w0 w : World} {L : List Blk} (ob : Option Nat) (l : List UInt8) (m m4 cap : Nat) (h4 : m + 4 = m4) (hl : Len l m) (hcap : cap ≤ maxLen) (hM : Mem [] w0 w (⟨ob, 5, l.map B8, cap⟩ :: L)) (n : Nat) (hm : m ≤ 140737488355000) :
    Calls Tryd.prog 24 #[sl ob m cap, .int .i64 (n : Int)] w fun e w' => ∃ ob' cap', e = .returned (sl ob' m4 cap') ∧ m4 ≤ cap' ∧ cap' ≤ maxLen ∧ Mem [] w0 w' (⟨ob', 5, (l ++ Img.four n).map B8, cap'⟩ :: L) := h4 ▸ image_four ob l m cap hl hcap hM n hm
theorem head8 {x : Img.Im} (h : ¬ Img.Off x) : [80, 67, 85, 76, 1, UInt8.ofInt x.slot, UInt8.ofInt x.key, 0] ++ Img.four x.ver.toNat ++ Img.four x.pay.length ++ x.pay = Img.cover x := by
  unfold Img.Off at h
  rw [Img.byte_int (by omega), Img.byte_int (by omega), Img.cover, Img.head, List.append_assoc, List.append_assoc, List.append_assoc, List.append_assoc]
set_option maxRecDepth 100000 in
set_option maxHeartbeats 4000000 in
theorem ref11_Cover (w : World) (x : Img.Im) (p : Value) (hp : Bytes w p x.pay) (hT : Len x.tag 32) (hO : ¬ Img.Off x) (n : Nat) (hn : Len x.pay n) (hl : n ≤ 524240) :
    Calls Tryd.prog 26 #[.agg (imC x p).toArray] w fun e w' => ∃ ob cap, e = .returned (sl ob (16 + n) cap) ∧ cap ≤ maxLen ∧ Mem [] w w' [⟨ob, 5, (Img.cover x).map B8, cap⟩] := by
  have hM := Mem.start w
  have hC := imC_len hT p
  have h8 := head8 hO
  have hO' := hO
  unfold Img.Off at hO'
  obtain ⟨vn, hv⟩ : ∃ vn : Nat, x.ver = vn := Int.eq_ofNat_of_zero_le (by omega)
  rw [hv, Int.toNat_natCast, hn.eq] at h8
  obtain ⟨R, hR⟩ : ∃ R, R = Img.cover x := ⟨_, rfl⟩
  rw [← hR] at h8 ⊢
  obtain ⟨ao, cap, rfl, g1, g2, -⟩ := id hp
  rw [hn.eq] at g1 hC ⊢
  rw [hn.eq] at hp
  obtain ⟨B, hB⟩ : ∃ B, B = x.pay := ⟨_, rfl⟩
  rw [← hB] at hn hp h8
  have HR : ∀ _ : Unit, [80, 67, 85, 76, 1, UInt8.ofInt x.slot, UInt8.ofInt x.key, 0] ++ Img.four vn ++ Img.four n ++ B = R := fun _ => h8
  clear hR h8 hB hO hO'
  unfold imC at hC ⊢
  rw [hv] at hC ⊢
  clear hv
  generalize x.tag.map B8 = TC at *
  generalize x.slot = s at *
  generalize x.key = y at *
  have hl1 : Len ([80, 67, 85, 76, 1, UInt8.ofInt s, UInt8.ofInt y, 0] : List UInt8) 8 := rfl
  have hl2 : Len ([80, 67, 85, 76, 1, UInt8.ofInt s, UInt8.ofInt y, 0] ++ Img.four vn) 12 := rfl
  have hl3 : Len ([80, 67, 85, 76, 1, UInt8.ofInt s, UInt8.ofInt y, 0] ++ Img.four vn ++ Img.four n) 16 := rfl
  generalize hH : ([80, 67, 85, 76, 1, UInt8.ofInt s, UInt8.ofInt y, 0] : List UInt8) = H at *
  have HH : ∀ _ : Unit, ([80, 67, 85, 76, 1, UInt8.ofInt s, UInt8.ofInt y, 0] : List UInt8) = H := fun _ => hH
  clear hH
  go_enter Tryd.func26, Tryd.ntmps26
  go_wp2_with (first
    | ((with_reducible refine gL_box hM ?_); refine ⟨_, _, _, rfl, rfl, hC, ?_⟩; intro gx _ hM2; clear hM; have hM := hM2; clear hM2)
    | ((with_reducible refine gL_buildBytes (dst := some 10) hM ?_); refine ⟨_, _, (us_of rfl), (el_of rfl), (by decide), (by decide), rfl, (by (repeat (first | exact EvB.nil | apply EvB.cons rfl (by first | exact (rfl : B8 _ = B8 _) | exact lit8 _ (by decide)))); done), ?_⟩; intro g10 _ hM2; clear hM; have hM := hM2; clear hM2)
    | go_skip | ((first | (with_reducible refine gL_load ?_) | ((with_reducible refine gG_load ?_ ?_); (exact wanted_of rfl rfl rfl rfl rfl))); refine ⟨_, _, rfl, (by (first | (assumption) | (exact hM.loads_B8 (by (repeat (first | exact .head _ | apply List.Mem.tail)); done) (on_of rfl) (by first | omega | (simp only [Len] at *; omega) | (simp; omega))) | (exact hM.loads_all (by (repeat (first | exact .head _ | apply List.Mem.tail)); done) (ag_of rfl) (by first | assumption | exact Len.map (by assumption) _ | rfl | exact Len.map (by rfl) _ | exact Len.of (by simp; done))) | (exact hM.loads_one (by (repeat (first | exact .head _ | apply List.Mem.tail)); done) (on_of rfl) rfl) | (exact hM.loads_W32 (by (repeat (first | exact .head _ | apply List.Mem.tail)); done) (on_of rfl) (by first | omega | (simp only [Len] at *; omega) | (simp; omega))) | (exact loads_cell (by assumption) (on_of rfl)))), ?_⟩) | ((with_reducible refine gL_store hM ?_); refine ⟨_, _, _, rfl, rfl, (by (first | (exact hM.stores_B8 (by first | exact (rfl : B8 _ = B8 _) | exact lit8 _ (by decide)) (by (repeat (first | exact .here _ _ _ | apply Has.there)); done) (on_of rfl) (by first | omega | (simp only [Len] at *; omega) | (simp; omega))) | (exact hM.stores_all (by (repeat (first | exact .here _ _ _ | apply Has.there)); done) (ag_of rfl) (by first | assumption | exact Len.map (by assumption) _ | rfl | exact Len.map (by rfl) _ | exact Len.of (by simp; done)) (by first | assumption | exact Len.map (by assumption) _ | rfl | exact Len.map (by rfl) _ | exact Len.of (by simp; done)) (by first | exact B8_one | exact W32_one | exact one_of_all rfl)) | (exact hM.stores_W32 rfl (by (repeat (first | exact .here _ _ _ | apply Has.there)); done) (on_of rfl) (by first | omega | (simp only [Len] at *; omega) | (simp; omega))) | (exact hM.stores_one (by (repeat (first | exact .here _ _ _ | apply Has.there)); done) (on_of rfl) (by first | omega | (simp only [Len] at *; omega) | (simp; omega)) rfl rfl))), ?_⟩; intro _ hM2; clear hM; have hM := hM2; clear hM2) | ((with_reducible refine gL_alloc hM ?_); refine ⟨_, _, (zr_of rfl), ?_⟩; intro _ _ hM2; clear hM; have hM := hM2; clear hM2) | ((with_reducible refine gL_box hM ?_); refine ⟨_, _, _, rfl, rfl, (by first | assumption | exact Len.map (by assumption) _ | rfl | exact Len.map (by rfl) _ | exact Len.of (by simp; done)), ?_⟩; intro _ _ hM2; clear hM; have hM := hM2; clear hM2) | ((with_reducible refine gL_build0 ?_); refine ⟨_, _, _, _, _, _, (zr_of rfl), (ua_of rfl), (ag_of rfl), (el_of rfl), ?_⟩) | ((with_reducible refine gL_buildBytes hM ?_); refine ⟨_, _, (us_of rfl), (el_of rfl), (by decide), (by decide), rfl, (by (repeat (first | exact EvB.nil | apply EvB.cons rfl (by first | exact (rfl : B8 _ = B8 _) | exact lit8 _ (by decide)))); done), ?_⟩; intro _ _ hM2; clear hM; have hM := hM2; clear hM2) | ((with_reducible refine gL_append_B hM ?_); refine ⟨_, _, _, _, _, _, _, _, _, _, rfl, rfl, (by first | exact (rfl : Value.slice (some ⟨_, 0, none⟩) _ _ = sl (some _) _ _) | exact (rfl : Value.slice none _ _ = sl none _ _) | rfl), (us_of rfl), (el_of rfl), (by first | exact hM.src (by (repeat (first | exact .head _ | apply List.Mem.tail)); done) | exact (hM.bytes0 (by assumption)).src), (fun _ _ => by (repeat (first | exact .here _ _ _ | apply Swap.there)); done), (by first | assumption | exact Len.map (by assumption) _ | rfl | exact Len.map (by rfl) _ | exact Len.of (by simp; done)), (by first | assumption | exact Len.map (by assumption) _ | rfl | exact Len.map (by rfl) _ | exact Len.of (by simp; done)), (by first | assumption | (simp [maxLen]; done) | omega | (simp [maxLen]; omega)), (by first | omega | (simp only [Len] at *; omega) | (simp; omega)), ?_⟩; intro _ _ _ hM2 _ _; clear hM; have hM := hM2; clear hM2) | ((first | (with_reducible refine gL_field ?_) | ((with_reducible refine gG_field ?_ ?_); (exact wanted_of rfl rfl rfl rfl rfl))); refine ⟨_, _, rfl, (by (first | (exact field_one (fb_of rfl) rfl) | (exact field_agg (fa_of rfl) rfl))), ?_⟩))
  rw [HH ()] at hM
  clear HH
  have hq := ref11_four' (some g10) H 8 12 8 rfl hl1 (by decide) hM vn (by decide)
  rw [sl_some] at hq
  refine hq.mono ?_
  clear hq hM
  rintro _ w1 ⟨ob1, cap1, rfl, hc1, hM⟩
  go_wp2_with (first | go_skip | ((first | (with_reducible refine gL_load ?_) | ((with_reducible refine gG_load ?_ ?_); (exact wanted_of rfl rfl rfl rfl rfl))); refine ⟨_, _, rfl, (by (first | (assumption) | (exact hM.loads_B8 (by (repeat (first | exact .head _ | apply List.Mem.tail)); done) (on_of rfl) (by first | omega | (simp only [Len] at *; omega) | (simp; omega))) | (exact hM.loads_all (by (repeat (first | exact .head _ | apply List.Mem.tail)); done) (ag_of rfl) (by first | assumption | exact Len.map (by assumption) _ | rfl | exact Len.map (by rfl) _ | exact Len.of (by simp; done))) | (exact hM.loads_one (by (repeat (first | exact .head _ | apply List.Mem.tail)); done) (on_of rfl) rfl) | (exact hM.loads_W32 (by (repeat (first | exact .head _ | apply List.Mem.tail)); done) (on_of rfl) (by first | omega | (simp only [Len] at *; omega) | (simp; omega))) | (exact loads_cell (by assumption) (on_of rfl)))), ?_⟩) | ((with_reducible refine gL_store hM ?_); refine ⟨_, _, _, rfl, rfl, (by (first | (exact hM.stores_B8 (by first | exact (rfl : B8 _ = B8 _) | exact lit8 _ (by decide)) (by (repeat (first | exact .here _ _ _ | apply Has.there)); done) (on_of rfl) (by first | omega | (simp only [Len] at *; omega) | (simp; omega))) | (exact hM.stores_all (by (repeat (first | exact .here _ _ _ | apply Has.there)); done) (ag_of rfl) (by first | assumption | exact Len.map (by assumption) _ | rfl | exact Len.map (by rfl) _ | exact Len.of (by simp; done)) (by first | assumption | exact Len.map (by assumption) _ | rfl | exact Len.map (by rfl) _ | exact Len.of (by simp; done)) (by first | exact B8_one | exact W32_one | exact one_of_all rfl)) | (exact hM.stores_W32 rfl (by (repeat (first | exact .here _ _ _ | apply Has.there)); done) (on_of rfl) (by first | omega | (simp only [Len] at *; omega) | (simp; omega))) | (exact hM.stores_one (by (repeat (first | exact .here _ _ _ | apply Has.there)); done) (on_of rfl) (by first | omega | (simp only [Len] at *; omega) | (simp; omega)) rfl rfl))), ?_⟩; intro _ hM2; clear hM; have hM := hM2; clear hM2) | ((with_reducible refine gL_alloc hM ?_); refine ⟨_, _, (zr_of rfl), ?_⟩; intro _ _ hM2; clear hM; have hM := hM2; clear hM2) | ((with_reducible refine gL_box hM ?_); refine ⟨_, _, _, rfl, rfl, (by first | assumption | exact Len.map (by assumption) _ | rfl | exact Len.map (by rfl) _ | exact Len.of (by simp; done)), ?_⟩; intro _ _ hM2; clear hM; have hM := hM2; clear hM2) | ((with_reducible refine gL_build0 ?_); refine ⟨_, _, _, _, _, _, (zr_of rfl), (ua_of rfl), (ag_of rfl), (el_of rfl), ?_⟩) | ((with_reducible refine gL_buildBytes hM ?_); refine ⟨_, _, (us_of rfl), (el_of rfl), (by decide), (by decide), rfl, (by (repeat (first | exact EvB.nil | apply EvB.cons rfl (by first | exact (rfl : B8 _ = B8 _) | exact lit8 _ (by decide)))); done), ?_⟩; intro _ _ hM2; clear hM; have hM := hM2; clear hM2) | ((with_reducible refine gL_append_B hM ?_); refine ⟨_, _, _, _, _, _, _, _, _, _, rfl, rfl, (by first | exact (rfl : Value.slice (some ⟨_, 0, none⟩) _ _ = sl (some _) _ _) | exact (rfl : Value.slice none _ _ = sl none _ _) | rfl), (us_of rfl), (el_of rfl), (by first | exact hM.src (by (repeat (first | exact .head _ | apply List.Mem.tail)); done) | exact (hM.bytes0 (by assumption)).src), (fun _ _ => by (repeat (first | exact .here _ _ _ | apply Swap.there)); done), (by first | assumption | exact Len.map (by assumption) _ | rfl | exact Len.map (by rfl) _ | exact Len.of (by simp; done)), (by first | assumption | exact Len.map (by assumption) _ | rfl | exact Len.map (by rfl) _ | exact Len.of (by simp; done)), (by first | assumption | (simp [maxLen]; done) | omega | (simp [maxLen]; omega)), (by first | omega | (simp only [Len] at *; omega) | (simp; omega)), ?_⟩; intro _ _ _ hM2 _ _; clear hM; have hM := hM2; clear hM2) | ((first | (with_reducible refine gL_field ?_) | ((with_reducible refine gG_field ?_ ?_); (exact wanted_of rfl rfl rfl rfl rfl))); refine ⟨_, _, rfl, (by (first | (exact field_one (fb_of rfl) rfl) | (exact field_agg (fa_of rfl) rfl))), ?_⟩))
  have hq := ref11_four' ob1 (H ++ Img.four vn) 12 16 cap1 rfl hl2 hc1 hM n (by decide)
  refine hq.mono ?_
  clear hq hM
  rintro _ w2 ⟨ob2, cap2, rfl, hc2, hM⟩
  have hs := (hM.bytes0 hp).src
  rw [hn.eq] at hs
  go_wp2_with (first
    | ((with_reducible refine gL_append_B (dst := some 23) hM ?_); refine ⟨_, _, ob2, 16, cap2, 5, H ++ Img.four vn ++ Img.four n, B, n, _, rfl, rfl, rfl, (us_of rfl), (el_of rfl), hs, (fun _ _ => .here _ _ _), hl3, hn, hc2, (by omega), ?_⟩; intro ob3 cap3 _ hM2 _ h32; clear hM hs; have hM := hM2; clear hM2)
    | go_skip | ((first | (with_reducible refine gL_load ?_) | ((with_reducible refine gG_load ?_ ?_); (exact wanted_of rfl rfl rfl rfl rfl))); refine ⟨_, _, rfl, (by (first | (assumption) | (exact hM.loads_B8 (by (repeat (first | exact .head _ | apply List.Mem.tail)); done) (on_of rfl) (by first | omega | (simp only [Len] at *; omega) | (simp; omega))) | (exact hM.loads_all (by (repeat (first | exact .head _ | apply List.Mem.tail)); done) (ag_of rfl) (by first | assumption | exact Len.map (by assumption) _ | rfl | exact Len.map (by rfl) _ | exact Len.of (by simp; done))) | (exact hM.loads_one (by (repeat (first | exact .head _ | apply List.Mem.tail)); done) (on_of rfl) rfl) | (exact hM.loads_W32 (by (repeat (first | exact .head _ | apply List.Mem.tail)); done) (on_of rfl) (by first | omega | (simp only [Len] at *; omega) | (simp; omega))) | (exact loads_cell (by assumption) (on_of rfl)))), ?_⟩) | ((with_reducible refine gL_store hM ?_); refine ⟨_, _, _, rfl, rfl, (by (first | (exact hM.stores_B8 (by first | exact (rfl : B8 _ = B8 _) | exact lit8 _ (by decide)) (by (repeat (first | exact .here _ _ _ | apply Has.there)); done) (on_of rfl) (by first | omega | (simp only [Len] at *; omega) | (simp; omega))) | (exact hM.stores_all (by (repeat (first | exact .here _ _ _ | apply Has.there)); done) (ag_of rfl) (by first | assumption | exact Len.map (by assumption) _ | rfl | exact Len.map (by rfl) _ | exact Len.of (by simp; done)) (by first | assumption | exact Len.map (by assumption) _ | rfl | exact Len.map (by rfl) _ | exact Len.of (by simp; done)) (by first | exact B8_one | exact W32_one | exact one_of_all rfl)) | (exact hM.stores_W32 rfl (by (repeat (first | exact .here _ _ _ | apply Has.there)); done) (on_of rfl) (by first | omega | (simp only [Len] at *; omega) | (simp; omega))) | (exact hM.stores_one (by (repeat (first | exact .here _ _ _ | apply Has.there)); done) (on_of rfl) (by first | omega | (simp only [Len] at *; omega) | (simp; omega)) rfl rfl))), ?_⟩; intro _ hM2; clear hM; have hM := hM2; clear hM2) | ((with_reducible refine gL_alloc hM ?_); refine ⟨_, _, (zr_of rfl), ?_⟩; intro _ _ hM2; clear hM; have hM := hM2; clear hM2) | ((with_reducible refine gL_box hM ?_); refine ⟨_, _, _, rfl, rfl, (by first | assumption | exact Len.map (by assumption) _ | rfl | exact Len.map (by rfl) _ | exact Len.of (by simp; done)), ?_⟩; intro _ _ hM2; clear hM; have hM := hM2; clear hM2) | ((with_reducible refine gL_build0 ?_); refine ⟨_, _, _, _, _, _, (zr_of rfl), (ua_of rfl), (ag_of rfl), (el_of rfl), ?_⟩) | ((with_reducible refine gL_buildBytes hM ?_); refine ⟨_, _, (us_of rfl), (el_of rfl), (by decide), (by decide), rfl, (by (repeat (first | exact EvB.nil | apply EvB.cons rfl (by first | exact (rfl : B8 _ = B8 _) | exact lit8 _ (by decide)))); done), ?_⟩; intro _ _ hM2; clear hM; have hM := hM2; clear hM2) | ((with_reducible refine gL_append_B hM ?_); refine ⟨_, _, _, _, _, _, _, _, _, _, rfl, rfl, (by first | exact (rfl : Value.slice (some ⟨_, 0, none⟩) _ _ = sl (some _) _ _) | exact (rfl : Value.slice none _ _ = sl none _ _) | rfl), (us_of rfl), (el_of rfl), (by first | exact hM.src (by (repeat (first | exact .head _ | apply List.Mem.tail)); done) | exact (hM.bytes0 (by assumption)).src), (fun _ _ => by (repeat (first | exact .here _ _ _ | apply Swap.there)); done), (by first | assumption | exact Len.map (by assumption) _ | rfl | exact Len.map (by rfl) _ | exact Len.of (by simp; done)), (by first | assumption | exact Len.map (by assumption) _ | rfl | exact Len.map (by rfl) _ | exact Len.of (by simp; done)), (by first | assumption | (simp [maxLen]; done) | omega | (simp [maxLen]; omega)), (by first | omega | (simp only [Len] at *; omega) | (simp; omega)), ?_⟩; intro _ _ _ hM2 _ _; clear hM; have hM := hM2; clear hM2) | ((first | (with_reducible refine gL_field ?_) | ((with_reducible refine gG_field ?_ ?_); (exact wanted_of rfl rfl rfl rfl rfl))); refine ⟨_, _, rfl, (by (first | (exact field_one (fb_of rfl) rfl) | (exact field_agg (fa_of rfl) rfl))), ?_⟩))
  rw [HR ()] at hM
  go_ret
  exact ⟨ob3, cap3, rfl, h32, hM.drop2⟩
set_option maxRecDepth 100000 in
set_option maxHeartbeats 4000000 in
theorem ref11_Tagged (w : World) (x : Img.Im) (p : Value) (hp : Bytes w p x.pay) (hT : Len x.tag 32) (hO : ¬ Img.Off x) (n : Nat) (hn : Len x.pay n) (hl : n ≤ 524240) :
    Calls Tryd.prog 27 #[.agg (imC x p).toArray] w fun e w' => ∃ ob cap, e = .returned (sl ob (n + 48) cap) ∧ cap ≤ maxLen ∧ Mem [] w w' [⟨ob, 5, (Img.cover x ++ x.tag).map B8, cap⟩] := by
  have hM := Mem.start w
  have hC := imC_len hT p
  have hcov : ∀ w', Adds w w' → _ := fun w' hb => ref11_Cover w' x p (hp.adds hb) hT hO n hn hl
  have hcl : Len (Img.cover x) (16 + n) := Len.of (by rw [Img.cover_len, hn.eq])
  have hget : ∀ j, j < 32 → (imC x p)[4 + j]? = some (B8 (gb x.tag j)) := fun j hj => by
    unfold imC
    rw [List.getElem?_append_right (by simp), show 4 + j - ([.int .i64 x.slot, .int .i64 x.key, .int .i64 x.ver, p] : List Value).length = j from by simp, List.getElem?_map, List.getElem?_eq_getElem (by rw [hT.eq]; exact hj)]
    unfold gb
    rw [List.getD_eq_getElem?_getD, List.getElem?_eq_getElem (by rw [hT.eq]; exact hj)]
    rfl
  generalize imC x p = C at *
  generalize Img.cover x = R at *
  generalize x.tag = T at *
  clear hO hp
  have htk : ∀ j : Nat, j < 32 → R ++ T.take j ++ [gb T j] = R ++ T.take (j + 1) := fun j hj => by
    rw [List.append_assoc, List.take_succ_eq_append_getElem (by rw [hT.eq]; exact hj)]
    unfold gb
    rw [List.getD_eq_getElem?_getD, List.getElem?_eq_getElem (by rw [hT.eq]; exact hj)]
    rfl
  have htl : ∀ j : Nat, j ≤ 32 → Len (R ++ T.take j) (16 + n + j) := fun j hj => Len.of (by rw [List.length_append, hcl.eq, List.length_take, hT.eq]; omega)
  have hend : R ++ T.take 32 = R ++ T := by rw [List.take_of_length_le (by rw [hT.eq]; omega)]
  have h00 : R ++ T.take 0 = R := by simp
  have HEND : ∀ _ : Unit, R ++ T.take 32 = R ++ T := fun _ => hend
  clear hend
  go_enter Tryd.func27, Tryd.ntmps27
  go_wp2_with (first
    | ((with_reducible refine gL_box hM ?_); refine ⟨_, _, _, rfl, rfl, hC, ?_⟩; intro gx _ hM2; clear hM; have hM := hM2; clear hM2)
    | ((with_reducible refine gL_load (dst := some 5) ?_); refine ⟨_, _, rfl, hM.loads_all (.head _) (ag_of rfl) hC, ?_⟩)
    | go_skip | ((first | (with_reducible refine gL_load ?_) | ((with_reducible refine gG_load ?_ ?_); (exact wanted_of rfl rfl rfl rfl rfl))); refine ⟨_, _, rfl, (by (first | (assumption) | (exact hM.loads_B8 (by (repeat (first | exact .head _ | apply List.Mem.tail)); done) (on_of rfl) (by first | omega | (simp only [Len] at *; omega) | (simp; omega))) | (exact hM.loads_all (by (repeat (first | exact .head _ | apply List.Mem.tail)); done) (ag_of rfl) (by first | assumption | exact Len.map (by assumption) _ | rfl | exact Len.map (by rfl) _ | exact Len.of (by simp; done))) | (exact hM.loads_one (by (repeat (first | exact .head _ | apply List.Mem.tail)); done) (on_of rfl) rfl) | (exact hM.loads_W32 (by (repeat (first | exact .head _ | apply List.Mem.tail)); done) (on_of rfl) (by first | omega | (simp only [Len] at *; omega) | (simp; omega))) | (exact loads_cell (by assumption) (on_of rfl)))), ?_⟩) | ((with_reducible refine gL_store hM ?_); refine ⟨_, _, _, rfl, rfl, (by (first | (exact hM.stores_B8 (by first | exact (rfl : B8 _ = B8 _) | exact lit8 _ (by decide)) (by (repeat (first | exact .here _ _ _ | apply Has.there)); done) (on_of rfl) (by first | omega | (simp only [Len] at *; omega) | (simp; omega))) | (exact hM.stores_all (by (repeat (first | exact .here _ _ _ | apply Has.there)); done) (ag_of rfl) (by first | assumption | exact Len.map (by assumption) _ | rfl | exact Len.map (by rfl) _ | exact Len.of (by simp; done)) (by first | assumption | exact Len.map (by assumption) _ | rfl | exact Len.map (by rfl) _ | exact Len.of (by simp; done)) (by first | exact B8_one | exact W32_one | exact one_of_all rfl)) | (exact hM.stores_W32 rfl (by (repeat (first | exact .here _ _ _ | apply Has.there)); done) (on_of rfl) (by first | omega | (simp only [Len] at *; omega) | (simp; omega))) | (exact hM.stores_one (by (repeat (first | exact .here _ _ _ | apply Has.there)); done) (on_of rfl) (by first | omega | (simp only [Len] at *; omega) | (simp; omega)) rfl rfl))), ?_⟩; intro _ hM2; clear hM; have hM := hM2; clear hM2) | ((with_reducible refine gL_alloc hM ?_); refine ⟨_, _, (zr_of rfl), ?_⟩; intro _ _ hM2; clear hM; have hM := hM2; clear hM2) | ((with_reducible refine gL_box hM ?_); refine ⟨_, _, _, rfl, rfl, (by first | assumption | exact Len.map (by assumption) _ | rfl | exact Len.map (by rfl) _ | exact Len.of (by simp; done)), ?_⟩; intro _ _ hM2; clear hM; have hM := hM2; clear hM2) | ((with_reducible refine gL_build0 ?_); refine ⟨_, _, _, _, _, _, (zr_of rfl), (ua_of rfl), (ag_of rfl), (el_of rfl), ?_⟩) | ((with_reducible refine gL_buildBytes hM ?_); refine ⟨_, _, (us_of rfl), (el_of rfl), (by decide), (by decide), rfl, (by (repeat (first | exact EvB.nil | apply EvB.cons rfl (by first | exact (rfl : B8 _ = B8 _) | exact lit8 _ (by decide)))); done), ?_⟩; intro _ _ hM2; clear hM; have hM := hM2; clear hM2) | ((with_reducible refine gL_append_B hM ?_); refine ⟨_, _, _, _, _, _, _, _, _, _, rfl, rfl, (by first | exact (rfl : Value.slice (some ⟨_, 0, none⟩) _ _ = sl (some _) _ _) | exact (rfl : Value.slice none _ _ = sl none _ _) | rfl), (us_of rfl), (el_of rfl), (by first | exact hM.src (by (repeat (first | exact .head _ | apply List.Mem.tail)); done) | exact (hM.bytes0 (by assumption)).src), (fun _ _ => by (repeat (first | exact .here _ _ _ | apply Swap.there)); done), (by first | assumption | exact Len.map (by assumption) _ | rfl | exact Len.map (by rfl) _ | exact Len.of (by simp; done)), (by first | assumption | exact Len.map (by assumption) _ | rfl | exact Len.map (by rfl) _ | exact Len.of (by simp; done)), (by first | assumption | (simp [maxLen]; done) | omega | (simp [maxLen]; omega)), (by first | omega | (simp only [Len] at *; omega) | (simp; omega)), ?_⟩; intro _ _ _ hM2 _ _; clear hM; have hM := hM2; clear hM2) | ((first | (with_reducible refine gL_field ?_) | ((with_reducible refine gG_field ?_ ?_); (exact wanted_of rfl rfl rfl rfl rfl))); refine ⟨_, _, rfl, (by (first | (exact field_one (fb_of rfl) rfl) | (exact field_agg (fa_of rfl) rfl))), ?_⟩))
  refine (hcov _ hM.done).mono ?_
  rintro _ w1 ⟨ob1, cap1, rfl, hc1, hM1⟩
  have hM2 := hM.addMem1 hM1
  clear hM hM1
  have hM := hM2
  clear hM2
  go_wp2_with fail
  go_loopw [3, 4] (fun p i wr => ∃ (j : Nat) (ob' : Option Nat) (cap' : Nat), j ≤ 32 ∧ i = .int .i64 j ∧ p = sl ob' (16 + n + j) cap' ∧ cap' ≤ maxLen ∧ Mem [] w wr (⟨ob', 5, (R ++ T.take j).map B8, cap'⟩ :: ⟨some gx, 27, C, 36⟩ :: [])) (fun _ i _ => 32 - (intOf i).toNat)
  case atStart => exact ⟨0, ob1, cap1, by omega, rfl, rfl, hc1, by rw [h00]; exact hM⟩
  case round =>
    clear hM hcov
    obtain ⟨j, ob', cap', hj, rfl, rfl, hcap, hM⟩ := hrel
    by_cases hlt : j < 32
    · have hti : (j : Int) < 32 := by omega
      have hg := hget j hlt
      have hs2 : ∀ _ : Unit, R ++ T.take j ++ [gb T j] = R ++ T.take (j + 1) := fun _ => htk j hlt
      have hl3 := htl j hj
      clear hget htk htl HEND h00
      obtain ⟨A, hA⟩ : ∃ A, A = R ++ T.take j := ⟨_, rfl⟩
      rw [← hA] at hM hl3 hs2
      clear hA
      generalize gb T j = c at *
      go_wp2_with (first
        | ((with_reducible refine gL_load (dst := some 15) ?_); refine ⟨_, _, rfl, hM.loads_one (.tail _ (.head _)) (on_of rfl) hg, ?_⟩)
        | ((with_reducible refine gL_buildBytes (dst := some 16) hM ?_); refine ⟨_, _, (us_of rfl), (el_of rfl), (by decide), (by decide), rfl, (by (repeat (first | exact EvB.nil | apply EvB.cons rfl (by first | exact (rfl : B8 _ = B8 _) | exact lit8 _ (by decide)))); done), ?_⟩; intro g16 _ hM2; clear hM; have hM := hM2; clear hM2)
        | ((with_reducible refine gL_append_B (dst := some 17) hM ?_); have hx := hM.src (m := 1) (cap := 1) (.head _); refine ⟨_, _, ob', 16 + n + j, cap', 5, A, [c], 1, _, rfl, rfl, rfl, (us_of rfl), (el_of rfl), hx, (fun _ _ => .there _ (.here _ _ _)), hl3, rfl, hcap, (by omega), ?_⟩; clear hx; intro ob2 cap2 _ hM2 _ hd2; clear hM; have hM := hM2; clear hM2))
      replace hM := hM.drop
      rw [hs2 ()] at hM
      go_roundw
      case rel => exact ⟨j + 1, ob2, cap2, by omega, by go_num, rfl, hd2, hM⟩
      case measure => simp [intOf]; omega
    · have hje : j = 32 := by omega
      subst hje
      rw [HEND ()] at hM
      go_wp2_with fail
      go_ret
      exact ⟨ob', cap', (by rw [show 16 + n + 32 = n + 48 from by omega]; rfl), hcap, hM.drop2⟩
theorem make_no {s : List UInt8} {x : Img.Im} {k : Nat} (h : Img.may x = k) (hk : ¬ k = 0) : Img.make s x = ([], k) := by rw [Img.make, if_neg (by rw [h]; exact hk), h]
theorem make_yes {s : List UInt8} {x : Img.Im} {T : List UInt8} (h : Img.may x = 0) (hT : Mac.tag s (Img.cover x) = T) : Img.make s x = (Img.cover x ++ T, 0) := by rw [Img.make, if_pos h, hT]
theorem may_zero {x : Img.Im} (h : Img.may x = 0) : ¬ Img.Off x ∧ x.pay.length ≤ 524240 := by
  refine ⟨fun ho => (by rw [may_off ho] at h; cases h), ?_⟩
  rcases Nat.lt_or_ge 524240 x.pay.length with hl | hl
  · by_cases ho : Img.Off x
    · rw [may_off ho] at h; cases h
    · rw [may_long ho hl] at h; cases h
  · exact hl
theorem tag_set (x : Img.Im) (p : Value) (T : List UInt8) (hT : Len x.tag 32) (_hT2 : Len T 32) : (imC x p).take 4 ++ T.map B8 ++ (imC x p).drop (4 + 32) = imC ⟨x.slot, x.key, x.ver, x.pay, T⟩ p := by
  show ([.int .i64 x.slot, .int .i64 x.key, .int .i64 x.ver, p] : List Value) ++ T.map B8 ++ (x.tag.map B8).drop 32 = _
  rw [List.drop_eq_nil_of_le (by rw [List.length_map, hT.eq]; exact Nat.le_refl _), List.append_nil]
set_option maxRecDepth 100000 in
set_option maxHeartbeats 4000000 in
theorem ref11_Make (w0 : World) (v : Value) (s : List UInt8) (hs : Bytes w0 v s) (hsl : s.length ≤ 140737488351232) (x : Img.Im) (p : Value) (hp : Bytes w0 p x.pay) (hT : Len x.tag 32) :
    Calls Tryd.prog 11 #[v, .agg (imC x p).toArray] w0 fun e w' => ∃ ob m cap, e = .returned (.tuple #[sl ob m cap, .int .i64 ((Img.make s x).2 : Int)]) ∧ Len (Img.make s x).1 m ∧ cap ≤ maxLen ∧ Mem [] w0 w' [⟨ob, 5, (Img.make s x).1.map B8, cap⟩] := by
  have hM := Mem.start w0
  have hC := imC_len hT p
  have hmay : ∀ w', Adds w0 w' → _ := fun w' hb => ref11_May w' x p (hp.adds hb) hT
  obtain ⟨k, hk⟩ : ∃ k, Img.may x = k := ⟨_, rfl⟩
  rw [hk] at hmay
  by_cases hk0 : k = 0
  · subst hk0
    obtain ⟨hO, hl⟩ := may_zero hk
    obtain ⟨T, hTT⟩ : ∃ T, Mac.tag s (Img.cover x) = T := ⟨_, rfl⟩
    have hT2 : Len T 32 := by rw [← hTT]; exact Len.of (Mac.tag_len _ _)
    rw [make_yes hk hTT]
    obtain ⟨n, hn⟩ : ∃ n, x.pay.length = n := ⟨_, rfl⟩
    rw [hn] at hl
    have hcl : Len (Img.cover x) (16 + n) := Len.of (by rw [Img.cover_len, hn])
    have hcov : ∀ w', Adds w0 w' → _ := fun w' hb => ref11_Cover w' x p (hp.adds hb) hT hO n (Len.of hn) hl
    have hof : ∀ w' v2, Adds w0 w' → Bytes w' v2 (Img.cover x) → _ := fun w' v2 hb h2 => ref03_Of w' v v2 s (Img.cover x) (hs.adds hb) h2 (by omega) (by rw [hcl.eq]; omega) T hTT
    have htag : ∀ w', Adds w0 w' → _ := fun w' hb => ref11_Tagged w' ⟨x.slot, x.key, x.ver, x.pay, T⟩ p (hp.adds hb) hT2 hO n (Len.of hn) hl
    rw [show Img.cover (⟨x.slot, x.key, x.ver, x.pay, T⟩ : Img.Im) = Img.cover x from rfl] at htag
    have hset := tag_set x p T hT hT2
    have hC2 := imC_len (x := ⟨x.slot, x.key, x.ver, x.pay, T⟩) hT2 p
    generalize imC ⟨x.slot, x.key, x.ver, x.pay, T⟩ p = C2 at *
    generalize imC x p = C at *
    generalize Img.cover x = R at *
    clear hO hk hn hp hTT
    have hRl : Len (R ++ T) (n + 48) := Len.of (by rw [List.length_append, hcl.eq, hT2.eq]; omega)
    go_enter Tryd.func11, Tryd.ntmps11
    go_wp2_with (first
      | ((with_reducible refine gL_box hM ?_); refine ⟨_, _, _, rfl, rfl, hC, ?_⟩; intro gx _ hM2; clear hM; have hM := hM2; clear hM2)
      | ((with_reducible refine gL_load (dst := some 7) ?_); refine ⟨_, _, rfl, hM.loads_all (.head _) (ag_of rfl) hC, ?_⟩))
    refine (hmay _ hM.done).mono ?_
    rintro _ w1 ⟨rfl, B1⟩
    replace hM := hM.adds B1
    clear B1
    go_wp2_with (first
      | ((with_reducible refine gL_load (dst := some 13) ?_); refine ⟨_, _, rfl, hM.loads_all (.head _) (ag_of rfl) hC, ?_⟩))
    refine (hcov _ hM.done).mono ?_
    rintro _ w2 ⟨ob1, cap1, rfl, hc1, hM1⟩
    have hM2 := hM.addMem1 hM1
    clear hM hM1
    have hM := hM2
    clear hM2
    go_wp2_with fail
    refine (hof _ _ hM.done (hM.whole (.head _) hcl (by simpa [maxLen] using hc1))).mono ?_
    rintro _ w3 ⟨rfl, B1⟩
    replace hM := (hM.adds B1).drop
    clear B1
    have hH : Has [⟨some gx, 27, C, 36⟩] ⟨some gx, 27, C, 36⟩ ⟨some gx, 27, C.take 4 ++ T.map B8 ++ C.drop (4 + 32), 36⟩ [⟨some gx, 27, C2, 36⟩] := by rw [hset]; exact .here _ _ _
    go_wp2_with (first
      | ((with_reducible refine gL_store hM ?_); refine ⟨_, _, _, rfl, rfl, hM.stores hH (ag_of rfl) (hT2.map B8) (by rw [hC.eq]; exact Nat.le_refl _) B8_one, ?_⟩; intro _ hM2; clear hM; have hM := hM2; clear hM2)
      | ((with_reducible refine gL_load (dst := some 17) ?_); refine ⟨_, _, rfl, hM.loads_all (.head _) (ag_of rfl) hC2, ?_⟩))
    refine (htag _ hM.done).mono ?_
    rintro _ w4 ⟨ob2, cap2, rfl, hc2, hM1⟩
    have hM2 := hM.addMem1 hM1
    clear hM hM1
    go_wp2_with fail
    go_ret2
    exact ⟨ob2, n + 48, cap2, rfl, hRl, hc2, hM2.drop2⟩
  · rw [make_no hk hk0]
    have hki : ¬ (k : Int) = 0 := by omega
    generalize imC x p = C at *
    clear hp hk
    go_enter Tryd.func11, Tryd.ntmps11
    go_wp2_with (first
      | ((with_reducible refine gL_box hM ?_); refine ⟨_, _, _, rfl, rfl, hC, ?_⟩; intro gx _ hM2; clear hM; have hM := hM2; clear hM2)
      | ((with_reducible refine gL_load (dst := some 7) ?_); refine ⟨_, _, rfl, hM.loads_all (.head _) (ag_of rfl) hC, ?_⟩))
    refine (hmay _ hM.done).mono ?_
    rintro _ w1 ⟨rfl, B1⟩
    replace hM := hM.adds B1
    clear B1
    go_wp2_with fail
    go_ret2
    exact ⟨none, 0, 0, rfl, rfl, by decide, (hM.drop.addNil 5)⟩
set_option maxRecDepth 100000 in
set_option maxHeartbeats 4000000 in
theorem image_Make (w0 : World) (v : Value) (s : List UInt8) (hs : Bytes w0 v s) (hsl : s.length ≤ 140737488351232) (x : Img.Im) (p : Value) (hp : Bytes w0 p x.pay) (hT : Len x.tag 32) :
    Calls Tryd.prog 10 #[v, .agg (imC x p).toArray] w0 fun e w' => ∃ ob m cap, e = .returned (.tuple #[sl ob m cap, .int .i64 ((Img.make s x).2 : Int)]) ∧ Len (Img.make s x).1 m ∧ cap ≤ maxLen ∧ Mem [] w0 w' [⟨ob, 5, (Img.make s x).1.map B8, cap⟩] := by
  have hM := Mem.start w0
  have hC := imC_len hT p
  have hw := im_ways x
  have hOff : ∀ _ : Unit, Img.Off x ↔ (x.slot < 0 ∨ 7 < x.slot ∨ x.key < 0 ∨ 63 < x.key ∨ x.ver < 0 ∨ 4294967295 < x.ver) := fun _ => Iff.rfl
  obtain ⟨ao, cap, rfl, g1, g2, -⟩ := id hp
  obtain ⟨n, hn⟩ : ∃ n, x.pay.length = n := ⟨_, rfl⟩
  have hbad : ∀ _ : Unit, (Img.Off x → Img.make s x = ([], 2)) ∧ (¬ Img.Off x → 524240 < n → Img.make s x = ([], 4)) := fun _ => ⟨fun h => make_no (may_off h) (by decide), fun h h2 => make_no (may_long h (by rw [hn]; exact h2)) (by decide)⟩
  rw [hn] at g1 hC ⊢
  by_cases hgood : ¬ Img.Off x ∧ ¬ 524240 < n
  · obtain ⟨hO, hl⟩ := hgood
    have hmay : Img.may x = 0 := may_ok hO (by rw [hn]; exact hl)
    obtain ⟨T, hTT⟩ : ∃ T, Mac.tag s (Img.cover x) = T := ⟨_, rfl⟩
    have hT2 : Len T 32 := by rw [← hTT]; exact Len.of (Mac.tag_len _ _)
    rw [make_yes hmay hTT]
    have hcl : Len (Img.cover x) (16 + n) := Len.of (by rw [Img.cover_len, hn])
    have hof : ∀ w' v2, Adds w0 w' → Bytes w' v2 (Img.cover x) → Calls Tryd.prog 19 #[v, v2] w' fun e w'' => e = .returned (.agg (T.map B8).toArray) ∧ Below w'.heap.size w' w'' := fun w' v2 hb h2 => hTT ▸ mac_Of w' v v2 s (Img.cover x) (hs.adds hb) h2 (by omega) (by rw [hcl.eq]; omega)
    have h8 := head8 hO
    have hO' := hO
    unfold Img.Off at hO'
    obtain ⟨vn, hv⟩ : ∃ vn : Nat, x.ver = vn := Int.eq_ofNat_of_zero_le (by omega)
    rw [hv, Int.toNat_natCast, hn] at h8
    replace hn : Len x.pay n := Len.of hn
    generalize Img.cover x = R at *
    have HR : ∀ _ : Unit, [80, 67, 85, 76] ++ [1, UInt8.ofInt x.slot, UInt8.ofInt x.key, 0] ++ Img.four vn ++ Img.four n ++ x.pay = R := fun _ => h8
    unfold imC at hC ⊢
    rw [hv] at hC hO' hw ⊢
    generalize x.pay = B at *
    generalize x.tag.map B8 = TC at *
    generalize x.slot = sl0 at *
    generalize x.key = ky at *
    clear hv h8 hO hmay hTT hbad hOff
    have i1 : ¬ sl0 < 0 := by omega
    have i2 : ¬ 8 ≤ sl0 := by omega
    have i3 : ¬ ky < 0 := by omega
    have i4 : ¬ 64 ≤ ky := by omega
    have i5 : ¬ (vn : Int) < 0 := by omega
    have i6 : ¬ 4294967296 ≤ (vn : Int) := by omega
    have hli : ¬ (524240 : Int) < (n : Int) := by omega
    clear hO' hw
    have hl1 : Len ([80, 67, 85, 76] : List UInt8) 4 := rfl
    have hl2 : Len ([80, 67, 85, 76] ++ [1, UInt8.ofInt sl0, UInt8.ofInt ky, 0]) 8 := rfl
    have hl3 : Len ([80, 67, 85, 76] ++ [1, UInt8.ofInt sl0, UInt8.ofInt ky, 0] ++ Img.four vn) 12 := rfl
    have hl4 : Len ([80, 67, 85, 76] ++ [1, UInt8.ofInt sl0, UInt8.ofInt ky, 0] ++ Img.four vn ++ Img.four n) 16 := rfl
    have hRl : Len (R ++ T) (n + 48) := Len.of (by rw [List.length_append, hcl.eq, hT2.eq]; omega)
    go_enter Tryd.func10, Tryd.ntmps10
    go_wp2_with (first
      | ((with_reducible refine gL_box hM ?_); refine ⟨_, _, _, rfl, rfl, hC, ?_⟩; intro gx _ hM2; clear hM; have hM := hM2; clear hM2)
      | ((with_reducible refine gL_make0 hM ?_); refine ⟨5, n + 48, (us_of rfl), rfl, rfl, (by show Value.int .i64 _ = Value.int .i64 _; congr 1; omega), (by omega), ?_⟩; intro gm _ hM2; clear hM; have hM := hM2; clear hM2)
      | ((with_reducible refine gL_append_str hM ?_); refine ⟨gm, 5, [], [80, 67, 85, 76], 0, n + 48, 1, _, rfl, (us_of rfl), Tryd.underlying9, (el_of rfl), .here _ _ _, rfl, rfl, (by show 0 + 4 ≤ _; omega), ?_⟩; intro _ hM2; clear hM; have hM := hM2; clear hM2)
      | ((with_reducible refine gL_buildBytes (dst := some 57) hM ?_); refine ⟨_, _, (us_of rfl), (el_of rfl), (by decide), (by decide), rfl, (by (repeat (first | exact EvB.nil | apply EvB.cons rfl (by first | exact (rfl : B8 _ = B8 _) | exact lit8 _ (by decide)))); done), ?_⟩; intro g57 _ hM2; clear hM; have hM := hM2; clear hM2)
      | ((with_reducible refine gL_append_B (dst := some 58) hM ?_); have hx := hM.src (m := 4) (cap := 4) (.head _); refine ⟨_, _, some gm, 4, n + 48, 5, [80, 67, 85, 76], [1, UInt8.ofInt sl0, UInt8.ofInt ky, 0], 4, _, rfl, rfl, rfl, (us_of rfl), (el_of rfl), hx, (fun _ _ => .there _ (.here _ _ _)), hl1, rfl, (by simp only [maxLen]; omega), (by omega), ?_⟩; clear hx; intro ob1 cap1 _ hM2 _ hc1; clear hM; have hM := hM2.drop; clear hM2)
      | go_skip | ((first | (with_reducible refine gL_load ?_) | ((with_reducible refine gG_load ?_ ?_); (exact wanted_of rfl rfl rfl rfl rfl))); refine ⟨_, _, rfl, (by (first | (assumption) | (exact hM.loads_B8 (by (repeat (first | exact .head _ | apply List.Mem.tail)); done) (on_of rfl) (by first | omega | (simp only [Len] at *; omega) | (simp; omega))) | (exact hM.loads_all (by (repeat (first | exact .head _ | apply List.Mem.tail)); done) (ag_of rfl) (by first | assumption | exact Len.map (by assumption) _ | rfl | exact Len.map (by rfl) _ | exact Len.of (by simp; done))) | (exact hM.loads_one (by (repeat (first | exact .head _ | apply List.Mem.tail)); done) (on_of rfl) rfl) | (exact hM.loads_W32 (by (repeat (first | exact .head _ | apply List.Mem.tail)); done) (on_of rfl) (by first | omega | (simp only [Len] at *; omega) | (simp; omega))) | (exact loads_cell (by assumption) (on_of rfl)))), ?_⟩) | ((with_reducible refine gL_store hM ?_); refine ⟨_, _, _, rfl, rfl, (by (first | (exact hM.stores_B8 (by first | exact (rfl : B8 _ = B8 _) | exact lit8 _ (by decide)) (by (repeat (first | exact .here _ _ _ | apply Has.there)); done) (on_of rfl) (by first | omega | (simp only [Len] at *; omega) | (simp; omega))) | (exact hM.stores_all (by (repeat (first | exact .here _ _ _ | apply Has.there)); done) (ag_of rfl) (by first | assumption | exact Len.map (by assumption) _ | rfl | exact Len.map (by rfl) _ | exact Len.of (by simp; done)) (by first | assumption | exact Len.map (by assumption) _ | rfl | exact Len.map (by rfl) _ | exact Len.of (by simp; done)) (by first | exact B8_one | exact W32_one | exact one_of_all rfl)) | (exact hM.stores_W32 rfl (by (repeat (first | exact .here _ _ _ | apply Has.there)); done) (on_of rfl) (by first | omega | (simp only [Len] at *; omega) | (simp; omega))) | (exact hM.stores_one (by (repeat (first | exact .here _ _ _ | apply Has.there)); done) (on_of rfl) (by first | omega | (simp only [Len] at *; omega) | (simp; omega)) rfl rfl))), ?_⟩; intro _ hM2; clear hM; have hM := hM2; clear hM2) | ((with_reducible refine gL_alloc hM ?_); refine ⟨_, _, (zr_of rfl), ?_⟩; intro _ _ hM2; clear hM; have hM := hM2; clear hM2) | ((with_reducible refine gL_box hM ?_); refine ⟨_, _, _, rfl, rfl, (by first | assumption | exact Len.map (by assumption) _ | rfl | exact Len.map (by rfl) _ | exact Len.of (by simp; done)), ?_⟩; intro _ _ hM2; clear hM; have hM := hM2; clear hM2) | ((with_reducible refine gL_build0 ?_); refine ⟨_, _, _, _, _, _, (zr_of rfl), (ua_of rfl), (ag_of rfl), (el_of rfl), ?_⟩) | ((with_reducible refine gL_buildBytes hM ?_); refine ⟨_, _, (us_of rfl), (el_of rfl), (by decide), (by decide), rfl, (by (repeat (first | exact EvB.nil | apply EvB.cons rfl (by first | exact (rfl : B8 _ = B8 _) | exact lit8 _ (by decide)))); done), ?_⟩; intro _ _ hM2; clear hM; have hM := hM2; clear hM2) | ((with_reducible refine gL_append_B hM ?_); refine ⟨_, _, _, _, _, _, _, _, _, _, rfl, rfl, (by first | exact (rfl : Value.slice (some ⟨_, 0, none⟩) _ _ = sl (some _) _ _) | exact (rfl : Value.slice none _ _ = sl none _ _) | rfl), (us_of rfl), (el_of rfl), (by first | exact hM.src (by (repeat (first | exact .head _ | apply List.Mem.tail)); done) | exact (hM.bytes0 (by assumption)).src), (fun _ _ => by (repeat (first | exact .here _ _ _ | apply Swap.there)); done), (by first | assumption | exact Len.map (by assumption) _ | rfl | exact Len.map (by rfl) _ | exact Len.of (by simp; done)), (by first | assumption | exact Len.map (by assumption) _ | rfl | exact Len.map (by rfl) _ | exact Len.of (by simp; done)), (by first | assumption | (simp [maxLen]; done) | omega | (simp [maxLen]; omega)), (by first | omega | (simp only [Len] at *; omega) | (simp; omega)), ?_⟩; intro _ _ _ hM2 _ _; clear hM; have hM := hM2; clear hM2) | ((first | (with_reducible refine gL_field ?_) | ((with_reducible refine gG_field ?_ ?_); (exact wanted_of rfl rfl rfl rfl rfl))); refine ⟨_, _, rfl, (by (first | (exact field_one (fb_of rfl) rfl) | (exact field_agg (fa_of rfl) rfl))), ?_⟩))
    rw [hn.eq] at hp
    have hq := image_four' ob1 _ 8 12 cap1 rfl hl2 hc1 hM vn (by decide)
    refine hq.mono ?_
    clear hq hM
    rintro _ w2 ⟨ob2, cap2, rfl, -, hc2, hM⟩
    go_wp2_with (first | go_skip | ((first | (with_reducible refine gL_load ?_) | ((with_reducible refine gG_load ?_ ?_); (exact wanted_of rfl rfl rfl rfl rfl))); refine ⟨_, _, rfl, (by (first | (assumption) | (exact hM.loads_B8 (by (repeat (first | exact .head _ | apply List.Mem.tail)); done) (on_of rfl) (by first | omega | (simp only [Len] at *; omega) | (simp; omega))) | (exact hM.loads_all (by (repeat (first | exact .head _ | apply List.Mem.tail)); done) (ag_of rfl) (by first | assumption | exact Len.map (by assumption) _ | rfl | exact Len.map (by rfl) _ | exact Len.of (by simp; done))) | (exact hM.loads_one (by (repeat (first | exact .head _ | apply List.Mem.tail)); done) (on_of rfl) rfl) | (exact hM.loads_W32 (by (repeat (first | exact .head _ | apply List.Mem.tail)); done) (on_of rfl) (by first | omega | (simp only [Len] at *; omega) | (simp; omega))) | (exact loads_cell (by assumption) (on_of rfl)))), ?_⟩) | ((with_reducible refine gL_store hM ?_); refine ⟨_, _, _, rfl, rfl, (by (first | (exact hM.stores_B8 (by first | exact (rfl : B8 _ = B8 _) | exact lit8 _ (by decide)) (by (repeat (first | exact .here _ _ _ | apply Has.there)); done) (on_of rfl) (by first | omega | (simp only [Len] at *; omega) | (simp; omega))) | (exact hM.stores_all (by (repeat (first | exact .here _ _ _ | apply Has.there)); done) (ag_of rfl) (by first | assumption | exact Len.map (by assumption) _ | rfl | exact Len.map (by rfl) _ | exact Len.of (by simp; done)) (by first | assumption | exact Len.map (by assumption) _ | rfl | exact Len.map (by rfl) _ | exact Len.of (by simp; done)) (by first | exact B8_one | exact W32_one | exact one_of_all rfl)) | (exact hM.stores_W32 rfl (by (repeat (first | exact .here _ _ _ | apply Has.there)); done) (on_of rfl) (by first | omega | (simp only [Len] at *; omega) | (simp; omega))) | (exact hM.stores_one (by (repeat (first | exact .here _ _ _ | apply Has.there)); done) (on_of rfl) (by first | omega | (simp only [Len] at *; omega) | (simp; omega)) rfl rfl))), ?_⟩; intro _ hM2; clear hM; have hM := hM2; clear hM2) | ((with_reducible refine gL_alloc hM ?_); refine ⟨_, _, (zr_of rfl), ?_⟩; intro _ _ hM2; clear hM; have hM := hM2; clear hM2) | ((with_reducible refine gL_box hM ?_); refine ⟨_, _, _, rfl, rfl, (by first | assumption | exact Len.map (by assumption) _ | rfl | exact Len.map (by rfl) _ | exact Len.of (by simp; done)), ?_⟩; intro _ _ hM2; clear hM; have hM := hM2; clear hM2) | ((with_reducible refine gL_build0 ?_); refine ⟨_, _, _, _, _, _, (zr_of rfl), (ua_of rfl), (ag_of rfl), (el_of rfl), ?_⟩) | ((with_reducible refine gL_buildBytes hM ?_); refine ⟨_, _, (us_of rfl), (el_of rfl), (by decide), (by decide), rfl, (by (repeat (first | exact EvB.nil | apply EvB.cons rfl (by first | exact (rfl : B8 _ = B8 _) | exact lit8 _ (by decide)))); done), ?_⟩; intro _ _ hM2; clear hM; have hM := hM2; clear hM2) | ((with_reducible refine gL_append_B hM ?_); refine ⟨_, _, _, _, _, _, _, _, _, _, rfl, rfl, (by first | exact (rfl : Value.slice (some ⟨_, 0, none⟩) _ _ = sl (some _) _ _) | exact (rfl : Value.slice none _ _ = sl none _ _) | rfl), (us_of rfl), (el_of rfl), (by first | exact hM.src (by (repeat (first | exact .head _ | apply List.Mem.tail)); done) | exact (hM.bytes0 (by assumption)).src), (fun _ _ => by (repeat (first | exact .here _ _ _ | apply Swap.there)); done), (by first | assumption | exact Len.map (by assumption) _ | rfl | exact Len.map (by rfl) _ | exact Len.of (by simp; done)), (by first | assumption | exact Len.map (by assumption) _ | rfl | exact Len.map (by rfl) _ | exact Len.of (by simp; done)), (by first | assumption | (simp [maxLen]; done) | omega | (simp [maxLen]; omega)), (by first | omega | (simp only [Len] at *; omega) | (simp; omega)), ?_⟩; intro _ _ _ hM2 _ _; clear hM; have hM := hM2; clear hM2) | ((first | (with_reducible refine gL_field ?_) | ((with_reducible refine gG_field ?_ ?_); (exact wanted_of rfl rfl rfl rfl rfl))); refine ⟨_, _, rfl, (by (first | (exact field_one (fb_of rfl) rfl) | (exact field_agg (fa_of rfl) rfl))), ?_⟩))
    have hq := image_four' ob2 _ 12 16 cap2 rfl hl3 hc2 hM n (by decide)
    refine hq.mono ?_
    clear hq hM
    rintro _ w3 ⟨ob3, cap3, rfl, -, hc3, hM⟩
    have hs2 := (hM.bytes0 hp).src
    rw [hn.eq] at hs2
    go_wp2_with (first
      | ((with_reducible refine gL_append_B (dst := some 71) hM ?_); refine ⟨_, _, ob3, 16, cap3, 5, [80, 67, 85, 76] ++ [1, UInt8.ofInt sl0, UInt8.ofInt ky, 0] ++ Img.four vn ++ Img.four n, B, n, _, rfl, rfl, rfl, (us_of rfl), (el_of rfl), hs2, (fun _ _ => .here _ _ _), hl4, hn, hc3, (by omega), ?_⟩; intro ob4 cap4 _ hM2 _ hc4; clear hM hs2; have hM := hM2; clear hM2; rw [HR ()] at hM)
      | go_skip | ((first | (with_reducible refine gL_load ?_) | ((with_reducible refine gG_load ?_ ?_); (exact wanted_of rfl rfl rfl rfl rfl))); refine ⟨_, _, rfl, (by (first | (assumption) | (exact hM.loads_B8 (by (repeat (first | exact .head _ | apply List.Mem.tail)); done) (on_of rfl) (by first | omega | (simp only [Len] at *; omega) | (simp; omega))) | (exact hM.loads_all (by (repeat (first | exact .head _ | apply List.Mem.tail)); done) (ag_of rfl) (by first | assumption | exact Len.map (by assumption) _ | rfl | exact Len.map (by rfl) _ | exact Len.of (by simp; done))) | (exact hM.loads_one (by (repeat (first | exact .head _ | apply List.Mem.tail)); done) (on_of rfl) rfl) | (exact hM.loads_W32 (by (repeat (first | exact .head _ | apply List.Mem.tail)); done) (on_of rfl) (by first | omega | (simp only [Len] at *; omega) | (simp; omega))) | (exact loads_cell (by assumption) (on_of rfl)))), ?_⟩) | ((with_reducible refine gL_store hM ?_); refine ⟨_, _, _, rfl, rfl, (by (first | (exact hM.stores_B8 (by first | exact (rfl : B8 _ = B8 _) | exact lit8 _ (by decide)) (by (repeat (first | exact .here _ _ _ | apply Has.there)); done) (on_of rfl) (by first | omega | (simp only [Len] at *; omega) | (simp; omega))) | (exact hM.stores_all (by (repeat (first | exact .here _ _ _ | apply Has.there)); done) (ag_of rfl) (by first | assumption | exact Len.map (by assumption) _ | rfl | exact Len.map (by rfl) _ | exact Len.of (by simp; done)) (by first | assumption | exact Len.map (by assumption) _ | rfl | exact Len.map (by rfl) _ | exact Len.of (by simp; done)) (by first | exact B8_one | exact W32_one | exact one_of_all rfl)) | (exact hM.stores_W32 rfl (by (repeat (first | exact .here _ _ _ | apply Has.there)); done) (on_of rfl) (by first | omega | (simp only [Len] at *; omega) | (simp; omega))) | (exact hM.stores_one (by (repeat (first | exact .here _ _ _ | apply Has.there)); done) (on_of rfl) (by first | omega | (simp only [Len] at *; omega) | (simp; omega)) rfl rfl))), ?_⟩; intro _ hM2; clear hM; have hM := hM2; clear hM2) | ((with_reducible refine gL_alloc hM ?_); refine ⟨_, _, (zr_of rfl), ?_⟩; intro _ _ hM2; clear hM; have hM := hM2; clear hM2) | ((with_reducible refine gL_box hM ?_); refine ⟨_, _, _, rfl, rfl, (by first | assumption | exact Len.map (by assumption) _ | rfl | exact Len.map (by rfl) _ | exact Len.of (by simp; done)), ?_⟩; intro _ _ hM2; clear hM; have hM := hM2; clear hM2) | ((with_reducible refine gL_build0 ?_); refine ⟨_, _, _, _, _, _, (zr_of rfl), (ua_of rfl), (ag_of rfl), (el_of rfl), ?_⟩) | ((with_reducible refine gL_buildBytes hM ?_); refine ⟨_, _, (us_of rfl), (el_of rfl), (by decide), (by decide), rfl, (by (repeat (first | exact EvB.nil | apply EvB.cons rfl (by first | exact (rfl : B8 _ = B8 _) | exact lit8 _ (by decide)))); done), ?_⟩; intro _ _ hM2; clear hM; have hM := hM2; clear hM2) | ((with_reducible refine gL_append_B hM ?_); refine ⟨_, _, _, _, _, _, _, _, _, _, rfl, rfl, (by first | exact (rfl : Value.slice (some ⟨_, 0, none⟩) _ _ = sl (some _) _ _) | exact (rfl : Value.slice none _ _ = sl none _ _) | rfl), (us_of rfl), (el_of rfl), (by first | exact hM.src (by (repeat (first | exact .head _ | apply List.Mem.tail)); done) | exact (hM.bytes0 (by assumption)).src), (fun _ _ => by (repeat (first | exact .here _ _ _ | apply Swap.there)); done), (by first | assumption | exact Len.map (by assumption) _ | rfl | exact Len.map (by rfl) _ | exact Len.of (by simp; done)), (by first | assumption | exact Len.map (by assumption) _ | rfl | exact Len.map (by rfl) _ | exact Len.of (by simp; done)), (by first | assumption | (simp [maxLen]; done) | omega | (simp [maxLen]; omega)), (by first | omega | (simp only [Len] at *; omega) | (simp; omega)), ?_⟩; intro _ _ _ hM2 _ _; clear hM; have hM := hM2; clear hM2) | ((first | (with_reducible refine gL_field ?_) | ((with_reducible refine gG_field ?_ ?_); (exact wanted_of rfl rfl rfl rfl rfl))); refine ⟨_, _, rfl, (by (first | (exact field_one (fb_of rfl) rfl) | (exact field_agg (fa_of rfl) rfl))), ?_⟩))
    refine (hof _ _ hM.done (hM.whole (.head _) hcl (by simpa [maxLen] using hc4))).mono ?_
    rintro _ w5 ⟨rfl, B1⟩
    replace hM := hM.adds B1
    clear B1
    go_wp2_with (first
      | ((with_reducible refine gL_append_B (dst := some 77) hM ?_); have hx := hM.src (m := 32) (cap := 32) (.head _); refine ⟨_, _, ob4, 16 + n, cap4, 5, R, T, 32, _, rfl, rfl, rfl, (us_of rfl), (el_of rfl), hx, (fun _ _ => .there _ (.here _ _ _)), hcl, hT2, hc4, (by omega), ?_⟩; clear hx; intro ob5 cap5 _ hM2 _ hc5; clear hM; have hM := hM2.drop; clear hM2)
      | go_skip | ((first | (with_reducible refine gL_load ?_) | ((with_reducible refine gG_load ?_ ?_); (exact wanted_of rfl rfl rfl rfl rfl))); refine ⟨_, _, rfl, (by (first | (assumption) | (exact hM.loads_B8 (by (repeat (first | exact .head _ | apply List.Mem.tail)); done) (on_of rfl) (by first | omega | (simp only [Len] at *; omega) | (simp; omega))) | (exact hM.loads_all (by (repeat (first | exact .head _ | apply List.Mem.tail)); done) (ag_of rfl) (by first | assumption | exact Len.map (by assumption) _ | rfl | exact Len.map (by rfl) _ | exact Len.of (by simp; done))) | (exact hM.loads_one (by (repeat (first | exact .head _ | apply List.Mem.tail)); done) (on_of rfl) rfl) | (exact hM.loads_W32 (by (repeat (first | exact .head _ | apply List.Mem.tail)); done) (on_of rfl) (by first | omega | (simp only [Len] at *; omega) | (simp; omega))) | (exact loads_cell (by assumption) (on_of rfl)))), ?_⟩) | ((with_reducible refine gL_store hM ?_); refine ⟨_, _, _, rfl, rfl, (by (first | (exact hM.stores_B8 (by first | exact (rfl : B8 _ = B8 _) | exact lit8 _ (by decide)) (by (repeat (first | exact .here _ _ _ | apply Has.there)); done) (on_of rfl) (by first | omega | (simp only [Len] at *; omega) | (simp; omega))) | (exact hM.stores_all (by (repeat (first | exact .here _ _ _ | apply Has.there)); done) (ag_of rfl) (by first | assumption | exact Len.map (by assumption) _ | rfl | exact Len.map (by rfl) _ | exact Len.of (by simp; done)) (by first | assumption | exact Len.map (by assumption) _ | rfl | exact Len.map (by rfl) _ | exact Len.of (by simp; done)) (by first | exact B8_one | exact W32_one | exact one_of_all rfl)) | (exact hM.stores_W32 rfl (by (repeat (first | exact .here _ _ _ | apply Has.there)); done) (on_of rfl) (by first | omega | (simp only [Len] at *; omega) | (simp; omega))) | (exact hM.stores_one (by (repeat (first | exact .here _ _ _ | apply Has.there)); done) (on_of rfl) (by first | omega | (simp only [Len] at *; omega) | (simp; omega)) rfl rfl))), ?_⟩; intro _ hM2; clear hM; have hM := hM2; clear hM2) | ((with_reducible refine gL_alloc hM ?_); refine ⟨_, _, (zr_of rfl), ?_⟩; intro _ _ hM2; clear hM; have hM := hM2; clear hM2) | ((with_reducible refine gL_box hM ?_); refine ⟨_, _, _, rfl, rfl, (by first | assumption | exact Len.map (by assumption) _ | rfl | exact Len.map (by rfl) _ | exact Len.of (by simp; done)), ?_⟩; intro _ _ hM2; clear hM; have hM := hM2; clear hM2) | ((with_reducible refine gL_build0 ?_); refine ⟨_, _, _, _, _, _, (zr_of rfl), (ua_of rfl), (ag_of rfl), (el_of rfl), ?_⟩) | ((with_reducible refine gL_buildBytes hM ?_); refine ⟨_, _, (us_of rfl), (el_of rfl), (by decide), (by decide), rfl, (by (repeat (first | exact EvB.nil | apply EvB.cons rfl (by first | exact (rfl : B8 _ = B8 _) | exact lit8 _ (by decide)))); done), ?_⟩; intro _ _ hM2; clear hM; have hM := hM2; clear hM2) | ((with_reducible refine gL_append_B hM ?_); refine ⟨_, _, _, _, _, _, _, _, _, _, rfl, rfl, (by first | exact (rfl : Value.slice (some ⟨_, 0, none⟩) _ _ = sl (some _) _ _) | exact (rfl : Value.slice none _ _ = sl none _ _) | rfl), (us_of rfl), (el_of rfl), (by first | exact hM.src (by (repeat (first | exact .head _ | apply List.Mem.tail)); done) | exact (hM.bytes0 (by assumption)).src), (fun _ _ => by (repeat (first | exact .here _ _ _ | apply Swap.there)); done), (by first | assumption | exact Len.map (by assumption) _ | rfl | exact Len.map (by rfl) _ | exact Len.of (by simp; done)), (by first | assumption | exact Len.map (by assumption) _ | rfl | exact Len.map (by rfl) _ | exact Len.of (by simp; done)), (by first | assumption | (simp [maxLen]; done) | omega | (simp [maxLen]; omega)), (by first | omega | (simp only [Len] at *; omega) | (simp; omega)), ?_⟩; intro _ _ _ hM2 _ _; clear hM; have hM := hM2; clear hM2) | ((first | (with_reducible refine gL_field ?_) | ((with_reducible refine gG_field ?_ ?_); (exact wanted_of rfl rfl rfl rfl rfl))); refine ⟨_, _, rfl, (by (first | (exact field_one (fb_of rfl) rfl) | (exact field_agg (fa_of rfl) rfl))), ?_⟩))
    go_ret2
    exact ⟨ob5, n + 48, cap5, (by rw [show 16 + n + 32 = n + 48 from by omega]; rfl), hRl, hc5, hM.drop2⟩
  · obtain ⟨hb1, hb2⟩ := hbad ()
    clear hbad hp
    obtain ⟨M, hMk⟩ : ∃ M, Img.make s x = M := ⟨_, rfl⟩
    rw [hMk] at hb1 hb2 ⊢
    rw [hOff ()] at hb1 hb2 hgood
    clear hOff hMk hn
    unfold imC at hC ⊢
    generalize x.tag.map B8 = TC at *
    generalize x.slot = sl0 at *
    generalize x.key = ky at *
    generalize x.ver = vr at *
    rcases hw with h1 | ⟨h1, h2⟩ | ⟨h1, h2, h3⟩ | ⟨h1, h2, h3, h4⟩ | ⟨h1, h2, h3, h4, h5⟩ | ⟨h1, h2, h3, h4, h5, h6⟩ | ⟨h1, h2, h3, h4, h5, h6⟩
    case inr.inr.inr.inr.inr.inr =>
      have hli : (524240 : Int) < (n : Int) := by omega
      obtain rfl := hb2 (by omega) (by omega)
      clear hb1 hb2 hgood
      go_enter Tryd.func10, Tryd.ntmps10
      go_wp2_with (first | ((with_reducible refine gL_box hM ?_); refine ⟨_, _, _, rfl, rfl, hC, ?_⟩; intro gx _ hM2; clear hM; have hM := hM2; clear hM2) | go_skip | ((first | (with_reducible refine gL_load ?_) | ((with_reducible refine gG_load ?_ ?_); (exact wanted_of rfl rfl rfl rfl rfl))); refine ⟨_, _, rfl, (by (first | (assumption) | (exact hM.loads_B8 (by (repeat (first | exact .head _ | apply List.Mem.tail)); done) (on_of rfl) (by first | omega | (simp only [Len] at *; omega) | (simp; omega))) | (exact hM.loads_all (by (repeat (first | exact .head _ | apply List.Mem.tail)); done) (ag_of rfl) (by first | assumption | exact Len.map (by assumption) _ | rfl | exact Len.map (by rfl) _ | exact Len.of (by simp; done))) | (exact hM.loads_one (by (repeat (first | exact .head _ | apply List.Mem.tail)); done) (on_of rfl) rfl) | (exact hM.loads_W32 (by (repeat (first | exact .head _ | apply List.Mem.tail)); done) (on_of rfl) (by first | omega | (simp only [Len] at *; omega) | (simp; omega))) | (exact loads_cell (by assumption) (on_of rfl)))), ?_⟩) | ((with_reducible refine gL_store hM ?_); refine ⟨_, _, _, rfl, rfl, (by (first | (exact hM.stores_B8 (by first | exact (rfl : B8 _ = B8 _) | exact lit8 _ (by decide)) (by (repeat (first | exact .here _ _ _ | apply Has.there)); done) (on_of rfl) (by first | omega | (simp only [Len] at *; omega) | (simp; omega))) | (exact hM.stores_all (by (repeat (first | exact .here _ _ _ | apply Has.there)); done) (ag_of rfl) (by first | assumption | exact Len.map (by assumption) _ | rfl | exact Len.map (by rfl) _ | exact Len.of (by simp; done)) (by first | assumption | exact Len.map (by assumption) _ | rfl | exact Len.map (by rfl) _ | exact Len.of (by simp; done)) (by first | exact B8_one | exact W32_one | exact one_of_all rfl)) | (exact hM.stores_W32 rfl (by (repeat (first | exact .here _ _ _ | apply Has.there)); done) (on_of rfl) (by first | omega | (simp only [Len] at *; omega) | (simp; omega))) | (exact hM.stores_one (by (repeat (first | exact .here _ _ _ | apply Has.there)); done) (on_of rfl) (by first | omega | (simp only [Len] at *; omega) | (simp; omega)) rfl rfl))), ?_⟩; intro _ hM2; clear hM; have hM := hM2; clear hM2) | ((with_reducible refine gL_alloc hM ?_); refine ⟨_, _, (zr_of rfl), ?_⟩; intro _ _ hM2; clear hM; have hM := hM2; clear hM2) | ((with_reducible refine gL_box hM ?_); refine ⟨_, _, _, rfl, rfl, (by first | assumption | exact Len.map (by assumption) _ | rfl | exact Len.map (by rfl) _ | exact Len.of (by simp; done)), ?_⟩; intro _ _ hM2; clear hM; have hM := hM2; clear hM2) | ((with_reducible refine gL_build0 ?_); refine ⟨_, _, _, _, _, _, (zr_of rfl), (ua_of rfl), (ag_of rfl), (el_of rfl), ?_⟩) | ((with_reducible refine gL_buildBytes hM ?_); refine ⟨_, _, (us_of rfl), (el_of rfl), (by decide), (by decide), rfl, (by (repeat (first | exact EvB.nil | apply EvB.cons rfl (by first | exact (rfl : B8 _ = B8 _) | exact lit8 _ (by decide)))); done), ?_⟩; intro _ _ hM2; clear hM; have hM := hM2; clear hM2) | ((with_reducible refine gL_append_B hM ?_); refine ⟨_, _, _, _, _, _, _, _, _, _, rfl, rfl, (by first | exact (rfl : Value.slice (some ⟨_, 0, none⟩) _ _ = sl (some _) _ _) | exact (rfl : Value.slice none _ _ = sl none _ _) | rfl), (us_of rfl), (el_of rfl), (by first | exact hM.src (by (repeat (first | exact .head _ | apply List.Mem.tail)); done) | exact (hM.bytes0 (by assumption)).src), (fun _ _ => by (repeat (first | exact .here _ _ _ | apply Swap.there)); done), (by first | assumption | exact Len.map (by assumption) _ | rfl | exact Len.map (by rfl) _ | exact Len.of (by simp; done)), (by first | assumption | exact Len.map (by assumption) _ | rfl | exact Len.map (by rfl) _ | exact Len.of (by simp; done)), (by first | assumption | (simp [maxLen]; done) | omega | (simp [maxLen]; omega)), (by first | omega | (simp only [Len] at *; omega) | (simp; omega)), ?_⟩; intro _ _ _ hM2 _ _; clear hM; have hM := hM2; clear hM2) | ((first | (with_reducible refine gL_field ?_) | ((with_reducible refine gG_field ?_ ?_); (exact wanted_of rfl rfl rfl rfl rfl))); refine ⟨_, _, rfl, (by (first | (exact field_one (fb_of rfl) rfl) | (exact field_agg (fa_of rfl) rfl))), ?_⟩))
      go_ret2
      exact ⟨none, 0, 0, rfl, rfl, by decide, (hM.drop.addNil 5)⟩
    all_goals
      obtain rfl := hb1 (by omega)
      clear hb1 hb2 hgood
      go_enter Tryd.func10, Tryd.ntmps10
      go_wp2_with (first | ((with_reducible refine gL_box hM ?_); refine ⟨_, _, _, rfl, rfl, hC, ?_⟩; intro gx _ hM2; clear hM; have hM := hM2; clear hM2) | go_skip | ((first | (with_reducible refine gL_load ?_) | ((with_reducible refine gG_load ?_ ?_); (exact wanted_of rfl rfl rfl rfl rfl))); refine ⟨_, _, rfl, (by (first | (assumption) | (exact hM.loads_B8 (by (repeat (first | exact .head _ | apply List.Mem.tail)); done) (on_of rfl) (by first | omega | (simp only [Len] at *; omega) | (simp; omega))) | (exact hM.loads_all (by (repeat (first | exact .head _ | apply List.Mem.tail)); done) (ag_of rfl) (by first | assumption | exact Len.map (by assumption) _ | rfl | exact Len.map (by rfl) _ | exact Len.of (by simp; done))) | (exact hM.loads_one (by (repeat (first | exact .head _ | apply List.Mem.tail)); done) (on_of rfl) rfl) | (exact hM.loads_W32 (by (repeat (first | exact .head _ | apply List.Mem.tail)); done) (on_of rfl) (by first | omega | (simp only [Len] at *; omega) | (simp; omega))) | (exact loads_cell (by assumption) (on_of rfl)))), ?_⟩) | ((with_reducible refine gL_store hM ?_); refine ⟨_, _, _, rfl, rfl, (by (first | (exact hM.stores_B8 (by first | exact (rfl : B8 _ = B8 _) | exact lit8 _ (by decide)) (by (repeat (first | exact .here _ _ _ | apply Has.there)); done) (on_of rfl) (by first | omega | (simp only [Len] at *; omega) | (simp; omega))) | (exact hM.stores_all (by (repeat (first | exact .here _ _ _ | apply Has.there)); done) (ag_of rfl) (by first | assumption | exact Len.map (by assumption) _ | rfl | exact Len.map (by rfl) _ | exact Len.of (by simp; done)) (by first | assumption | exact Len.map (by assumption) _ | rfl | exact Len.map (by rfl) _ | exact Len.of (by simp; done)) (by first | exact B8_one | exact W32_one | exact one_of_all rfl)) | (exact hM.stores_W32 rfl (by (repeat (first | exact .here _ _ _ | apply Has.there)); done) (on_of rfl) (by first | omega | (simp only [Len] at *; omega) | (simp; omega))) | (exact hM.stores_one (by (repeat (first | exact .here _ _ _ | apply Has.there)); done) (on_of rfl) (by first | omega | (simp only [Len] at *; omega) | (simp; omega)) rfl rfl))), ?_⟩; intro _ hM2; clear hM; have hM := hM2; clear hM2) | ((with_reducible refine gL_alloc hM ?_); refine ⟨_, _, (zr_of rfl), ?_⟩; intro _ _ hM2; clear hM; have hM := hM2; clear hM2) | ((with_reducible refine gL_box hM ?_); refine ⟨_, _, _, rfl, rfl, (by first | assumption | exact Len.map (by assumption) _ | rfl | exact Len.map (by rfl) _ | exact Len.of (by simp; done)), ?_⟩; intro _ _ hM2; clear hM; have hM := hM2; clear hM2) | ((with_reducible refine gL_build0 ?_); refine ⟨_, _, _, _, _, _, (zr_of rfl), (ua_of rfl), (ag_of rfl), (el_of rfl), ?_⟩) | ((with_reducible refine gL_buildBytes hM ?_); refine ⟨_, _, (us_of rfl), (el_of rfl), (by decide), (by decide), rfl, (by (repeat (first | exact EvB.nil | apply EvB.cons rfl (by first | exact (rfl : B8 _ = B8 _) | exact lit8 _ (by decide)))); done), ?_⟩; intro _ _ hM2; clear hM; have hM := hM2; clear hM2) | ((with_reducible refine gL_append_B hM ?_); refine ⟨_, _, _, _, _, _, _, _, _, _, rfl, rfl, (by first | exact (rfl : Value.slice (some ⟨_, 0, none⟩) _ _ = sl (some _) _ _) | exact (rfl : Value.slice none _ _ = sl none _ _) | rfl), (us_of rfl), (el_of rfl), (by first | exact hM.src (by (repeat (first | exact .head _ | apply List.Mem.tail)); done) | exact (hM.bytes0 (by assumption)).src), (fun _ _ => by (repeat (first | exact .here _ _ _ | apply Swap.there)); done), (by first | assumption | exact Len.map (by assumption) _ | rfl | exact Len.map (by rfl) _ | exact Len.of (by simp; done)), (by first | assumption | exact Len.map (by assumption) _ | rfl | exact Len.map (by rfl) _ | exact Len.of (by simp; done)), (by first | assumption | (simp [maxLen]; done) | omega | (simp [maxLen]; omega)), (by first | omega | (simp only [Len] at *; omega) | (simp; omega)), ?_⟩; intro _ _ _ hM2 _ _; clear hM; have hM := hM2; clear hM2) | ((first | (with_reducible refine gL_field ?_) | ((with_reducible refine gG_field ?_ ?_); (exact wanted_of rfl rfl rfl rfl rfl))); refine ⟨_, _, rfl, (by (first | (exact field_one (fb_of rfl) rfl) | (exact field_agg (fa_of rfl) rfl))), ?_⟩))
      go_ret2
      exact ⟨none, 0, 0, rfl, rfl, by decide, (hM.drop.addNil 5)⟩
end Go.Proofs.YtejmbkljnhnklaaDoor
