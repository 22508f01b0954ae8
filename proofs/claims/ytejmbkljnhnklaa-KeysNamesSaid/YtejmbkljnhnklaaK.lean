/-
  Typed values (bytes and words as UInt8, UInt32, UInt64) and the walk's laws for them; readable byte slices. Generic over any program.
-/
import Derived.WalkKit
import Derived.Lib.Hide
import Derived.BigQuiet
import Derived.WalkSpells
import Derived.Deep.RegionWith
import Derived.Deep.RegionHeld3
import Derived.Deep.DeepCutAuto
namespace Go.PK
open Go.RowKit

def B8 (x : UInt8) : Value := .int .u8 x.toNat
def W32 (x : UInt32) : Value := .int .u32 x.toNat
def W64 (x : UInt64) : Value := .int .u64 x.toNat

theorem B8_inj {x y : UInt8} (h : B8 x = B8 y) : x = y := by
  simp only [B8, Value.int.injEq, true_and] at h
  exact UInt8.toNat_inj.1 (by omega)
theorem W32_inj {x y : UInt32} (h : W32 x = W32 y) : x = y := by
  simp only [W32, Value.int.injEq, true_and] at h
  exact UInt32.toNat_inj.1 (by omega)
theorem W64_inj {x y : UInt64} (h : W64 x = W64 y) : x = y := by
  simp only [W64, Value.int.injEq, true_and] at h
  exact UInt64.toNat_inj.1 (by omega)

theorem B8_of {z : Int} (h0 : 0 ≤ z) (h1 : z ≤ 255) : Value.int .u8 z = B8 (UInt8.ofNat z.toNat) := by
  simp only [B8, Value.int.injEq, true_and, UInt8.toNat_ofNat']
  omega
theorem W32_of {z : Int} (h0 : 0 ≤ z) (h1 : z ≤ 4294967295) : Value.int .u32 z = W32 (UInt32.ofNat z.toNat) := by
  simp only [W32, Value.int.injEq, true_and, UInt32.toNat_ofNat']
  omega
theorem W64_of {z : Int} (h0 : 0 ≤ z) (h1 : z ≤ 18446744073709551615) : Value.int .u64 z = W64 (UInt64.ofNat z.toNat) := by
  simp only [W64, Value.int.injEq, true_and, UInt64.toNat_ofNat']
  omega

theorem lit8 (k : Nat) (h : k < 256) : Value.int .u8 (no_index (OfNat.ofNat k)) = B8 (OfNat.ofNat k) := by
  show Value.int .u8 (k : Int) = Value.int .u8 (((UInt8.ofNat k).toNat : Nat) : Int)
  rw [UInt8.toNat_ofNat', Nat.mod_eq_of_lt (by omega)]
theorem lit32 (k : Nat) (h : k < 4294967296) : Value.int .u32 (no_index (OfNat.ofNat k)) = W32 (OfNat.ofNat k) := by
  show Value.int .u32 (k : Int) = Value.int .u32 (((UInt32.ofNat k).toNat : Nat) : Int)
  rw [UInt32.toNat_ofNat', Nat.mod_eq_of_lt (by omega)]
theorem lit64 (k : Nat) (h : k < 18446744073709551616) : Value.int .u64 (no_index (OfNat.ofNat k)) = W64 (OfNat.ofNat k) := by
  show Value.int .u64 (k : Int) = Value.int .u64 (((UInt64.ofNat k).toNat : Nat) : Int)
  rw [UInt64.toNat_ofNat', Nat.mod_eq_of_lt (by omega)]

@[go_sem high] theorem oneCell'_B8 (x : UInt8) : (B8 x).oneCell' = true := rfl
@[go_sem high] theorem oneCell'_W32 (x : UInt32) : (W32 x).oneCell' = true := rfl
@[go_sem high] theorem oneCell'_W64 (x : UInt64) : (W64 x).oneCell' = true := rfl
@[go_sem] theorem cells_match_B8 (x : UInt8) (f : Array Value → Array Value) (g : Value → Array Value) : Value.cells.match_1 (fun _ => Array Value) (B8 x) f g = g (B8 x) := rfl
@[go_sem high] theorem cells_B8 (x : UInt8) : (B8 x).cells = #[B8 x] := rfl
@[go_sem] theorem cells_match_W32 (x : UInt32) (f : Array Value → Array Value) (g : Value → Array Value) : Value.cells.match_1 (fun _ => Array Value) (W32 x) f g = g (W32 x) := rfl
@[go_sem high] theorem cells_W32 (x : UInt32) : (W32 x).cells = #[W32 x] := rfl
@[go_sem] theorem cells_match_W64 (x : UInt64) (f : Array Value → Array Value) (g : Value → Array Value) : Value.cells.match_1 (fun _ => Array Value) (W64 x) f g = g (W64 x) := rfl
@[go_sem high] theorem cells_W64 (x : UInt64) : (W64 x).cells = #[W64 x] := rfl

section
variable (op : BinOp) (t : TypeId) (x y : Operand) (v : Value)
@[go_sem] theorem eqGuard_B8 (a : UInt8) : eqGuard op t x y (B8 a) v = pure () := eqGuard_at_int op t x y v .u8 _
@[go_sem] theorem eqGuard_W32 (a : UInt32) : eqGuard op t x y (W32 a) v = pure () := eqGuard_at_int op t x y v .u32 _
@[go_sem] theorem eqGuard_W64 (a : UInt64) : eqGuard op t x y (W64 a) v = pure () := eqGuard_at_int op t x y v .u64 _
end
section
variable (P : Program) (w : World) (a : Addr) (m : Mode)
@[go_sem high] theorem run_store_B8 (n : UInt8) : (store a (B8 n) m).run P w = stored P w a (B8 n) m := run_store P w a _ m rfl
@[go_sem high] theorem run_store_W32 (n : UInt32) : (store a (W32 n) m).run P w = stored P w a (W32 n) m := run_store P w a _ m rfl
@[go_sem high] theorem run_store_W64 (n : UInt64) : (store a (W64 n) m).run P w = stored P w a (W64 n) m := run_store P w a _ m rfl
end

theorem wrapP_u8 (n : Int) : IntKind.u8.wrap n = n % 256 := by simp [IntKind.wrap, IntKind.bits, IntKind.signed]
theorem wrapP_u32 (n : Int) : IntKind.u32.wrap n = n % 4294967296 := by simp [IntKind.wrap, IntKind.bits, IntKind.signed]
theorem wrapP_u64 (n : Int) : IntKind.u64.wrap n = n % 18446744073709551616 := by simp [IntKind.wrap, IntKind.bits, IntKind.signed]
theorem wrapP_i64 (n : Int) : IntKind.i64.wrap n = (n + 9223372036854775808) % 18446744073709551616 - 9223372036854775808 := by
  simp [IntKind.wrap, IntKind.bits, IntKind.signed]
  split <;> omega
theorem nat_beq_cast (a b : Nat) : ((a : Int) == (b : Int)) = (a == b) := by
  rw [Bool.eq_iff_iff]; simp; omega
theorem nat_bne_cast (a b : Nat) : ((a : Int) != (b : Int)) = (a != b) := by
  simp only [bne, nat_beq_cast]


section
variable (t : TypeId) (x y : UInt8)
theorem ofInt8 : BitVec.ofInt 8 (x.toNat : Int) = x.toBitVec := by
  apply BitVec.eq_of_toNat_eq
  rw [BitVec.toNat_ofInt]
  have := x.toNat_lt
  show ((x.toNat : Int) % 256).toNat = x.toNat
  omega
theorem wrap8 (n : Nat) (h : n < 256) : IntKind.u8.wrap (n : Int) = n := by
  simp only [wrapP_u8]
  omega
theorem bits8 (op : BinOp) (z : UInt8) (h : z.toBitVec = (match op with | .and => x.toBitVec &&& y.toBitVec | .or => x.toBitVec ||| y.toBitVec | .xor => x.toBitVec ^^^ y.toBitVec | _ => x.toBitVec &&& ~~~y.toBitVec)) :
    bits op .u8 x.toNat y.toNat = (z.toNat : Int) := by
  show IntKind.u8.wrap _ = _
  have e : (BitVec.ofInt IntKind.u8.bits (x.toNat : Int)) = x.toBitVec := ofInt8 x
  have e' : (BitVec.ofInt IntKind.u8.bits (y.toNat : Int)) = y.toBitVec := ofInt8 y
  rw [e, e']
  have := z.toNat_lt
  rw [← wrap8 z.toNat this]
  show IntKind.u8.wrap _ = IntKind.u8.wrap ((z.toBitVec.toNat : Nat) : Int)
  rw [h]
  cases op <;> rfl
@[go_sem] theorem bin_and_B8 : binOp .and t (B8 x) (B8 y) = pure (B8 (x &&& y)) := by
  unfold B8; rw [binOp_and, intBits_and, bits8 x y .and (x &&& y) rfl]
@[go_sem] theorem bin_or_B8 : binOp .or t (B8 x) (B8 y) = pure (B8 (x ||| y)) := by
  unfold B8; rw [binOp_or, intBits_or, bits8 x y .or (x ||| y) rfl]
@[go_sem] theorem bin_xor_B8 : binOp .xor t (B8 x) (B8 y) = pure (B8 (x ^^^ y)) := by
  unfold B8; rw [binOp_xor, intBits_xor, bits8 x y .xor (x ^^^ y) rfl]
@[go_sem] theorem bin_andNot_B8 : binOp .andNot t (B8 x) (B8 y) = pure (B8 (x &&& ~~~y)) := by
  unfold B8; rw [binOp_andNot, intBits_andNot, bits8 x y .andNot (x &&& ~~~y) rfl]
@[go_sem] theorem un_xor_B8 : Op.unary .xor (B8 x) = pure (B8 (~~~x)) := by
  have h : bits .xor .u8 (((UInt8.ofNat 255).toNat : Nat) : Int) x.toNat = ((~~~x).toNat : Int) := by
    refine bits8 _ x .xor (~~~x) ?_
    show ~~~x.toBitVec = BitVec.ofNat 8 255 ^^^ x.toBitVec
    have e : BitVec.ofNat 8 255 = BitVec.allOnes 8 := by decide
    rw [e, BitVec.allOnes_xor]
  exact congrArg (fun z => (pure (Value.int .u8 z) : Sem Value)) h
@[go_sem] theorem bin_add_B8 : binOp .add t (B8 x) (B8 y) = pure (B8 (x + y)) := by
  unfold B8; rw [binOp_add]
  simp only [Op.intArith, wrapP_u8, UInt8.toNat_add]
  congr 2
@[go_sem] theorem bin_sub_B8 : binOp .sub t (B8 x) (B8 y) = pure (B8 (x - y)) := by
  unfold B8; rw [binOp_sub]
  simp only [Op.intArith, wrapP_u8, UInt8.toNat_sub]
  congr 2
  have := x.toNat_lt
  have := y.toNat_lt
  omega
@[go_sem] theorem bin_mul_B8 : binOp .mul t (B8 x) (B8 y) = pure (B8 (x * y)) := by
  unfold B8; rw [binOp_mul]
  simp only [Op.intArith, wrapP_u8, UInt8.toNat_mul]
  congr 2
@[go_sem] theorem bin_eql_B8 : binOp .eql t (B8 x) (B8 y) = pure (.bool (x == y)) := by
  unfold B8; rw [binOp_eql, nat_beq_cast]
  congr 2
  rw [Bool.eq_iff_iff]; simp [UInt8.toNat_inj]
@[go_sem] theorem bin_neq_B8 : binOp .neq t (B8 x) (B8 y) = pure (.bool (x != y)) := by
  unfold B8; rw [binOp_neq, nat_bne_cast]
  congr 2
  rw [Bool.eq_iff_iff]; simp [UInt8.toNat_inj]
@[go_sem] theorem bin_lss_B8 : binOp .lss t (B8 x) (B8 y) = pure (.bool (x < y)) := by
  unfold B8; rw [binOp_lss]
  congr 2
  rw [Bool.eq_iff_iff]; simp [UInt8.lt_iff_toNat_lt]
@[go_sem] theorem bin_leq_B8 : binOp .leq t (B8 x) (B8 y) = pure (.bool (x ≤ y)) := by
  unfold B8; rw [binOp_leq]
  congr 2
  rw [Bool.eq_iff_iff]; simp [UInt8.le_iff_toNat_le]
@[go_sem] theorem bin_gtr_B8 : binOp .gtr t (B8 x) (B8 y) = pure (.bool (y < x)) := by
  unfold B8; rw [binOp_gtr]
  congr 2
  rw [Bool.eq_iff_iff]; simp [UInt8.lt_iff_toNat_lt]
@[go_sem] theorem bin_geq_B8 : binOp .geq t (B8 x) (B8 y) = pure (.bool (y ≤ x)) := by
  unfold B8; rw [binOp_geq]
  congr 2
  rw [Bool.eq_iff_iff]; simp [UInt8.le_iff_toNat_le]
/-- x >> n, for a count that is not negative -/
def shr8 (x : UInt8) (n : Nat) : UInt8 := if n < 8 then x >>> UInt8.ofNat n else 0
def shl8 (x : UInt8) (n : Nat) : UInt8 := if n < 8 then x <<< UInt8.ofNat n else 0
theorem shr8_toNat (n : Nat) : (shr8 x n).toNat = x.toNat / 2 ^ (min n 8) := by
  unfold shr8
  split
  · rename_i h
    rw [UInt8.toNat_shiftRight, UInt8.toNat_ofNat', Nat.shiftRight_eq_div_pow, Nat.mod_eq_of_lt (show n < 2 ^ 8 by omega), Nat.mod_eq_of_lt h, Nat.min_eq_left (by omega)]
  · rename_i h
    rw [Nat.min_eq_right (by omega)]
    have := x.toNat_lt
    show 0 = _
    rw [Nat.div_eq_of_lt this]
theorem shl8_toNat (n : Nat) : (shl8 x n).toNat = x.toNat * 2 ^ (min n 8) % 256 := by
  unfold shl8
  split
  · rename_i h
    rw [UInt8.toNat_shiftLeft, UInt8.toNat_ofNat', Nat.shiftLeft_eq, Nat.mod_eq_of_lt (show n < 2 ^ 8 by omega), Nat.mod_eq_of_lt h, Nat.min_eq_left (by omega)]
  · rename_i h
    rw [Nat.min_eq_right (by omega)]
    show 0 = x.toNat * 256 % 256
    rw [Nat.mul_mod_left]
theorem bin_shr_B8_nat (yk : IntKind) (n : Nat) : binOp .shr t (B8 x) (.int yk (n : Int)) = pure (B8 (shr8 x n)) := by
  unfold B8; rw [binOp_shr]
  simp only [Op.shift]
  rw [if_neg (by omega)]
  simp only [Int.toNat_natCast, IntKind.bits]
  congr 2
  rw [shr8_toNat, Int.fdiv_eq_ediv_of_nonneg _ (Int.pow_nonneg (by decide))]
  simp
theorem bin_shl_B8_nat (yk : IntKind) (n : Nat) : binOp .shl t (B8 x) (.int yk (n : Int)) = pure (B8 (shl8 x n)) := by
  unfold B8; rw [binOp_shl]
  simp only [Op.shift]
  rw [if_neg (by omega)]
  simp only [Int.toNat_natCast, IntKind.bits]
  congr 2
  rw [shl8_toNat, wrapP_u8]
  simp
@[go_sem low] theorem bin_shr_B8_i64 (n : Int) (h : 0 ≤ n) : binOp .shr t (B8 x) (.int .i64 n) = pure (B8 (shr8 x n.toNat)) := by
  obtain ⟨n, rfl⟩ := Int.eq_ofNat_of_zero_le h
  exact bin_shr_B8_nat t x .i64 n
@[go_sem low] theorem bin_shl_B8_i64 (n : Int) (h : 0 ≤ n) : binOp .shl t (B8 x) (.int .i64 n) = pure (B8 (shl8 x n.toNat)) := by
  obtain ⟨n, rfl⟩ := Int.eq_ofNat_of_zero_le h
  exact bin_shl_B8_nat t x .i64 n
@[go_sem high] theorem bin_shr_B8_lit (k : Nat) (h : k < 8) : binOp .shr t (B8 x) (.int .u64 (no_index (OfNat.ofNat k))) = pure (B8 (x >>> OfNat.ofNat k)) := by
  have := bin_shr_B8_nat t x .u64 k
  rw [shr8, if_pos h] at this
  exact this
@[go_sem] theorem bin_shr_B8_u64 (n : UInt64) (h : n < 8) : binOp .shr t (B8 x) (W64 n) = pure (B8 (x >>> UInt8.ofNat n.toNat)) := by
  have hn : n.toNat < 8 := UInt64.lt_iff_toNat_lt.1 h
  rw [show W64 n = Value.int .u64 (n.toNat : Int) from rfl, bin_shr_B8_nat, shr8, if_pos hn]
@[go_sem high] theorem bin_shl_B8_lit (k : Nat) (h : k < 8) : binOp .shl t (B8 x) (.int .u64 (no_index (OfNat.ofNat k))) = pure (B8 (x <<< OfNat.ofNat k)) := by
  have := bin_shl_B8_nat t x .u64 k
  rw [shl8, if_pos h] at this
  exact this
@[go_sem] theorem bin_shl_B8_u64 (n : UInt64) (h : n < 8) : binOp .shl t (B8 x) (W64 n) = pure (B8 (x <<< UInt8.ofNat n.toNat)) := by
  have hn : n.toNat < 8 := UInt64.lt_iff_toNat_lt.1 h
  rw [show W64 n = Value.int .u64 (n.toNat : Int) from rfl, bin_shl_B8_nat, shl8, if_pos hn]
end

section
variable (t : TypeId) (x y : UInt32)
theorem ofInt32 : BitVec.ofInt 32 (x.toNat : Int) = x.toBitVec := by
  apply BitVec.eq_of_toNat_eq
  rw [BitVec.toNat_ofInt]
  have := x.toNat_lt
  show ((x.toNat : Int) % 4294967296).toNat = x.toNat
  omega
theorem wrap32 (n : Nat) (h : n < 4294967296) : IntKind.u32.wrap (n : Int) = n := by
  simp only [wrapP_u32]
  omega
theorem bits32 (op : BinOp) (z : UInt32) (h : z.toBitVec = (match op with | .and => x.toBitVec &&& y.toBitVec | .or => x.toBitVec ||| y.toBitVec | .xor => x.toBitVec ^^^ y.toBitVec | _ => x.toBitVec &&& ~~~y.toBitVec)) :
    bits op .u32 x.toNat y.toNat = (z.toNat : Int) := by
  show IntKind.u32.wrap _ = _
  have e : (BitVec.ofInt IntKind.u32.bits (x.toNat : Int)) = x.toBitVec := ofInt32 x
  have e' : (BitVec.ofInt IntKind.u32.bits (y.toNat : Int)) = y.toBitVec := ofInt32 y
  rw [e, e']
  have := z.toNat_lt
  rw [← wrap32 z.toNat this]
  show IntKind.u32.wrap _ = IntKind.u32.wrap ((z.toBitVec.toNat : Nat) : Int)
  rw [h]
  cases op <;> rfl
@[go_sem] theorem bin_and_W32 : binOp .and t (W32 x) (W32 y) = pure (W32 (x &&& y)) := by
  unfold W32; rw [binOp_and, intBits_and, bits32 x y .and (x &&& y) rfl]
@[go_sem] theorem bin_or_W32 : binOp .or t (W32 x) (W32 y) = pure (W32 (x ||| y)) := by
  unfold W32; rw [binOp_or, intBits_or, bits32 x y .or (x ||| y) rfl]
@[go_sem] theorem bin_xor_W32 : binOp .xor t (W32 x) (W32 y) = pure (W32 (x ^^^ y)) := by
  unfold W32; rw [binOp_xor, intBits_xor, bits32 x y .xor (x ^^^ y) rfl]
@[go_sem] theorem bin_andNot_W32 : binOp .andNot t (W32 x) (W32 y) = pure (W32 (x &&& ~~~y)) := by
  unfold W32; rw [binOp_andNot, intBits_andNot, bits32 x y .andNot (x &&& ~~~y) rfl]
@[go_sem] theorem un_xor_W32 : Op.unary .xor (W32 x) = pure (W32 (~~~x)) := by
  have h : bits .xor .u32 (((UInt32.ofNat 4294967295).toNat : Nat) : Int) x.toNat = ((~~~x).toNat : Int) := by
    refine bits32 _ x .xor (~~~x) ?_
    show ~~~x.toBitVec = BitVec.ofNat 32 4294967295 ^^^ x.toBitVec
    have e : BitVec.ofNat 32 4294967295 = BitVec.allOnes 32 := by decide
    rw [e, BitVec.allOnes_xor]
  exact congrArg (fun z => (pure (Value.int .u32 z) : Sem Value)) h
@[go_sem] theorem bin_add_W32 : binOp .add t (W32 x) (W32 y) = pure (W32 (x + y)) := by
  unfold W32; rw [binOp_add]
  simp only [Op.intArith, wrapP_u32, UInt32.toNat_add]
  congr 2
@[go_sem] theorem bin_sub_W32 : binOp .sub t (W32 x) (W32 y) = pure (W32 (x - y)) := by
  unfold W32; rw [binOp_sub]
  simp only [Op.intArith, wrapP_u32, UInt32.toNat_sub]
  congr 2
  have := x.toNat_lt
  have := y.toNat_lt
  omega
@[go_sem] theorem bin_mul_W32 : binOp .mul t (W32 x) (W32 y) = pure (W32 (x * y)) := by
  unfold W32; rw [binOp_mul]
  simp only [Op.intArith, wrapP_u32, UInt32.toNat_mul]
  congr 2
@[go_sem] theorem bin_eql_W32 : binOp .eql t (W32 x) (W32 y) = pure (.bool (x == y)) := by
  unfold W32; rw [binOp_eql, nat_beq_cast]
  congr 2
  rw [Bool.eq_iff_iff]; simp [UInt32.toNat_inj]
@[go_sem] theorem bin_neq_W32 : binOp .neq t (W32 x) (W32 y) = pure (.bool (x != y)) := by
  unfold W32; rw [binOp_neq, nat_bne_cast]
  congr 2
  rw [Bool.eq_iff_iff]; simp [UInt32.toNat_inj]
@[go_sem] theorem bin_lss_W32 : binOp .lss t (W32 x) (W32 y) = pure (.bool (x < y)) := by
  unfold W32; rw [binOp_lss]
  congr 2
  rw [Bool.eq_iff_iff]; simp [UInt32.lt_iff_toNat_lt]
@[go_sem] theorem bin_leq_W32 : binOp .leq t (W32 x) (W32 y) = pure (.bool (x ≤ y)) := by
  unfold W32; rw [binOp_leq]
  congr 2
  rw [Bool.eq_iff_iff]; simp [UInt32.le_iff_toNat_le]
@[go_sem] theorem bin_gtr_W32 : binOp .gtr t (W32 x) (W32 y) = pure (.bool (y < x)) := by
  unfold W32; rw [binOp_gtr]
  congr 2
  rw [Bool.eq_iff_iff]; simp [UInt32.lt_iff_toNat_lt]
@[go_sem] theorem bin_geq_W32 : binOp .geq t (W32 x) (W32 y) = pure (.bool (y ≤ x)) := by
  unfold W32; rw [binOp_geq]
  congr 2
  rw [Bool.eq_iff_iff]; simp [UInt32.le_iff_toNat_le]
/-- x >> n, for a count that is not negative -/
def shr32 (x : UInt32) (n : Nat) : UInt32 := if n < 32 then x >>> UInt32.ofNat n else 0
def shl32 (x : UInt32) (n : Nat) : UInt32 := if n < 32 then x <<< UInt32.ofNat n else 0
theorem shr32_toNat (n : Nat) : (shr32 x n).toNat = x.toNat / 2 ^ (min n 32) := by
  unfold shr32
  split
  · rename_i h
    rw [UInt32.toNat_shiftRight, UInt32.toNat_ofNat', Nat.shiftRight_eq_div_pow, Nat.mod_eq_of_lt (show n < 2 ^ 32 by omega), Nat.mod_eq_of_lt h, Nat.min_eq_left (by omega)]
  · rename_i h
    rw [Nat.min_eq_right (by omega)]
    have := x.toNat_lt
    show 0 = _
    rw [Nat.div_eq_of_lt this]
theorem shl32_toNat (n : Nat) : (shl32 x n).toNat = x.toNat * 2 ^ (min n 32) % 4294967296 := by
  unfold shl32
  split
  · rename_i h
    rw [UInt32.toNat_shiftLeft, UInt32.toNat_ofNat', Nat.shiftLeft_eq, Nat.mod_eq_of_lt (show n < 2 ^ 32 by omega), Nat.mod_eq_of_lt h, Nat.min_eq_left (by omega)]
  · rename_i h
    rw [Nat.min_eq_right (by omega)]
    show 0 = x.toNat * 4294967296 % 4294967296
    rw [Nat.mul_mod_left]
theorem bin_shr_W32_nat (yk : IntKind) (n : Nat) : binOp .shr t (W32 x) (.int yk (n : Int)) = pure (W32 (shr32 x n)) := by
  unfold W32; rw [binOp_shr]
  simp only [Op.shift]
  rw [if_neg (by omega)]
  simp only [Int.toNat_natCast, IntKind.bits]
  congr 2
  rw [shr32_toNat, Int.fdiv_eq_ediv_of_nonneg _ (Int.pow_nonneg (by decide))]
  simp
theorem bin_shl_W32_nat (yk : IntKind) (n : Nat) : binOp .shl t (W32 x) (.int yk (n : Int)) = pure (W32 (shl32 x n)) := by
  unfold W32; rw [binOp_shl]
  simp only [Op.shift]
  rw [if_neg (by omega)]
  simp only [Int.toNat_natCast, IntKind.bits]
  congr 2
  rw [shl32_toNat, wrapP_u32]
  simp
@[go_sem low] theorem bin_shr_W32_i64 (n : Int) (h : 0 ≤ n) : binOp .shr t (W32 x) (.int .i64 n) = pure (W32 (shr32 x n.toNat)) := by
  obtain ⟨n, rfl⟩ := Int.eq_ofNat_of_zero_le h
  exact bin_shr_W32_nat t x .i64 n
@[go_sem low] theorem bin_shl_W32_i64 (n : Int) (h : 0 ≤ n) : binOp .shl t (W32 x) (.int .i64 n) = pure (W32 (shl32 x n.toNat)) := by
  obtain ⟨n, rfl⟩ := Int.eq_ofNat_of_zero_le h
  exact bin_shl_W32_nat t x .i64 n
@[go_sem high] theorem bin_shr_W32_lit (k : Nat) (h : k < 32) : binOp .shr t (W32 x) (.int .u64 (no_index (OfNat.ofNat k))) = pure (W32 (x >>> OfNat.ofNat k)) := by
  have := bin_shr_W32_nat t x .u64 k
  rw [shr32, if_pos h] at this
  exact this
@[go_sem] theorem bin_shr_W32_u64 (n : UInt64) (h : n < 32) : binOp .shr t (W32 x) (W64 n) = pure (W32 (x >>> UInt32.ofNat n.toNat)) := by
  have hn : n.toNat < 32 := UInt64.lt_iff_toNat_lt.1 h
  rw [show W64 n = Value.int .u64 (n.toNat : Int) from rfl, bin_shr_W32_nat, shr32, if_pos hn]
@[go_sem high] theorem bin_shl_W32_lit (k : Nat) (h : k < 32) : binOp .shl t (W32 x) (.int .u64 (no_index (OfNat.ofNat k))) = pure (W32 (x <<< OfNat.ofNat k)) := by
  have := bin_shl_W32_nat t x .u64 k
  rw [shl32, if_pos h] at this
  exact this
@[go_sem] theorem bin_shl_W32_u64 (n : UInt64) (h : n < 32) : binOp .shl t (W32 x) (W64 n) = pure (W32 (x <<< UInt32.ofNat n.toNat)) := by
  have hn : n.toNat < 32 := UInt64.lt_iff_toNat_lt.1 h
  rw [show W64 n = Value.int .u64 (n.toNat : Int) from rfl, bin_shl_W32_nat, shl32, if_pos hn]
end

section
variable (t : TypeId) (x y : UInt64)
theorem ofInt64 : BitVec.ofInt 64 (x.toNat : Int) = x.toBitVec := by
  apply BitVec.eq_of_toNat_eq
  rw [BitVec.toNat_ofInt]
  have := x.toNat_lt
  show ((x.toNat : Int) % 18446744073709551616).toNat = x.toNat
  omega
theorem wrap64 (n : Nat) (h : n < 18446744073709551616) : IntKind.u64.wrap (n : Int) = n := by
  simp only [wrapP_u64]
  omega
theorem bits64 (op : BinOp) (z : UInt64) (h : z.toBitVec = (match op with | .and => x.toBitVec &&& y.toBitVec | .or => x.toBitVec ||| y.toBitVec | .xor => x.toBitVec ^^^ y.toBitVec | _ => x.toBitVec &&& ~~~y.toBitVec)) :
    bits op .u64 x.toNat y.toNat = (z.toNat : Int) := by
  show IntKind.u64.wrap _ = _
  have e : (BitVec.ofInt IntKind.u64.bits (x.toNat : Int)) = x.toBitVec := ofInt64 x
  have e' : (BitVec.ofInt IntKind.u64.bits (y.toNat : Int)) = y.toBitVec := ofInt64 y
  rw [e, e']
  have := z.toNat_lt
  rw [← wrap64 z.toNat this]
  show IntKind.u64.wrap _ = IntKind.u64.wrap ((z.toBitVec.toNat : Nat) : Int)
  rw [h]
  cases op <;> rfl
@[go_sem] theorem bin_and_W64 : binOp .and t (W64 x) (W64 y) = pure (W64 (x &&& y)) := by
  unfold W64; rw [binOp_and, intBits_and, bits64 x y .and (x &&& y) rfl]
@[go_sem] theorem bin_or_W64 : binOp .or t (W64 x) (W64 y) = pure (W64 (x ||| y)) := by
  unfold W64; rw [binOp_or, intBits_or, bits64 x y .or (x ||| y) rfl]
@[go_sem] theorem bin_xor_W64 : binOp .xor t (W64 x) (W64 y) = pure (W64 (x ^^^ y)) := by
  unfold W64; rw [binOp_xor, intBits_xor, bits64 x y .xor (x ^^^ y) rfl]
@[go_sem] theorem bin_andNot_W64 : binOp .andNot t (W64 x) (W64 y) = pure (W64 (x &&& ~~~y)) := by
  unfold W64; rw [binOp_andNot, intBits_andNot, bits64 x y .andNot (x &&& ~~~y) rfl]
@[go_sem] theorem un_xor_W64 : Op.unary .xor (W64 x) = pure (W64 (~~~x)) := by
  have h : bits .xor .u64 (((UInt64.ofNat 18446744073709551615).toNat : Nat) : Int) x.toNat = ((~~~x).toNat : Int) := by
    refine bits64 _ x .xor (~~~x) ?_
    show ~~~x.toBitVec = BitVec.ofNat 64 18446744073709551615 ^^^ x.toBitVec
    have e : BitVec.ofNat 64 18446744073709551615 = BitVec.allOnes 64 := by decide
    rw [e, BitVec.allOnes_xor]
  exact congrArg (fun z => (pure (Value.int .u64 z) : Sem Value)) h
@[go_sem] theorem bin_add_W64 : binOp .add t (W64 x) (W64 y) = pure (W64 (x + y)) := by
  unfold W64; rw [binOp_add]
  simp only [Op.intArith, wrapP_u64, UInt64.toNat_add]
  congr 2
@[go_sem] theorem bin_sub_W64 : binOp .sub t (W64 x) (W64 y) = pure (W64 (x - y)) := by
  unfold W64; rw [binOp_sub]
  simp only [Op.intArith, wrapP_u64, UInt64.toNat_sub]
  congr 2
  have := x.toNat_lt
  have := y.toNat_lt
  omega
@[go_sem] theorem bin_mul_W64 : binOp .mul t (W64 x) (W64 y) = pure (W64 (x * y)) := by
  unfold W64; rw [binOp_mul]
  simp only [Op.intArith, wrapP_u64, UInt64.toNat_mul]
  congr 2
@[go_sem] theorem bin_eql_W64 : binOp .eql t (W64 x) (W64 y) = pure (.bool (x == y)) := by
  unfold W64; rw [binOp_eql, nat_beq_cast]
  congr 2
  rw [Bool.eq_iff_iff]; simp [UInt64.toNat_inj]
@[go_sem] theorem bin_neq_W64 : binOp .neq t (W64 x) (W64 y) = pure (.bool (x != y)) := by
  unfold W64; rw [binOp_neq, nat_bne_cast]
  congr 2
  rw [Bool.eq_iff_iff]; simp [UInt64.toNat_inj]
@[go_sem] theorem bin_lss_W64 : binOp .lss t (W64 x) (W64 y) = pure (.bool (x < y)) := by
  unfold W64; rw [binOp_lss]
  congr 2
  rw [Bool.eq_iff_iff]; simp [UInt64.lt_iff_toNat_lt]
@[go_sem] theorem bin_leq_W64 : binOp .leq t (W64 x) (W64 y) = pure (.bool (x ≤ y)) := by
  unfold W64; rw [binOp_leq]
  congr 2
  rw [Bool.eq_iff_iff]; simp [UInt64.le_iff_toNat_le]
@[go_sem] theorem bin_gtr_W64 : binOp .gtr t (W64 x) (W64 y) = pure (.bool (y < x)) := by
  unfold W64; rw [binOp_gtr]
  congr 2
  rw [Bool.eq_iff_iff]; simp [UInt64.lt_iff_toNat_lt]
@[go_sem] theorem bin_geq_W64 : binOp .geq t (W64 x) (W64 y) = pure (.bool (y ≤ x)) := by
  unfold W64; rw [binOp_geq]
  congr 2
  rw [Bool.eq_iff_iff]; simp [UInt64.le_iff_toNat_le]
/-- x >> n, for a count that is not negative -/
def shr64 (x : UInt64) (n : Nat) : UInt64 := if n < 64 then x >>> UInt64.ofNat n else 0
def shl64 (x : UInt64) (n : Nat) : UInt64 := if n < 64 then x <<< UInt64.ofNat n else 0
theorem shr64_toNat (n : Nat) : (shr64 x n).toNat = x.toNat / 2 ^ (min n 64) := by
  unfold shr64
  split
  · rename_i h
    rw [UInt64.toNat_shiftRight, UInt64.toNat_ofNat', Nat.shiftRight_eq_div_pow, Nat.mod_eq_of_lt (show n < 2 ^ 64 by omega), Nat.mod_eq_of_lt h, Nat.min_eq_left (by omega)]
  · rename_i h
    rw [Nat.min_eq_right (by omega)]
    have := x.toNat_lt
    show 0 = _
    rw [Nat.div_eq_of_lt this]
theorem shl64_toNat (n : Nat) : (shl64 x n).toNat = x.toNat * 2 ^ (min n 64) % 18446744073709551616 := by
  unfold shl64
  split
  · rename_i h
    rw [UInt64.toNat_shiftLeft, UInt64.toNat_ofNat', Nat.shiftLeft_eq, Nat.mod_eq_of_lt (show n < 2 ^ 64 by omega), Nat.mod_eq_of_lt h, Nat.min_eq_left (by omega)]
  · rename_i h
    rw [Nat.min_eq_right (by omega)]
    show 0 = x.toNat * 18446744073709551616 % 18446744073709551616
    rw [Nat.mul_mod_left]
theorem bin_shr_W64_nat (yk : IntKind) (n : Nat) : binOp .shr t (W64 x) (.int yk (n : Int)) = pure (W64 (shr64 x n)) := by
  unfold W64; rw [binOp_shr]
  simp only [Op.shift]
  rw [if_neg (by omega)]
  simp only [Int.toNat_natCast, IntKind.bits]
  congr 2
  rw [shr64_toNat, Int.fdiv_eq_ediv_of_nonneg _ (Int.pow_nonneg (by decide))]
  simp
theorem bin_shl_W64_nat (yk : IntKind) (n : Nat) : binOp .shl t (W64 x) (.int yk (n : Int)) = pure (W64 (shl64 x n)) := by
  unfold W64; rw [binOp_shl]
  simp only [Op.shift]
  rw [if_neg (by omega)]
  simp only [Int.toNat_natCast, IntKind.bits]
  congr 2
  rw [shl64_toNat, wrapP_u64]
  simp
@[go_sem low] theorem bin_shr_W64_i64 (n : Int) (h : 0 ≤ n) : binOp .shr t (W64 x) (.int .i64 n) = pure (W64 (shr64 x n.toNat)) := by
  obtain ⟨n, rfl⟩ := Int.eq_ofNat_of_zero_le h
  exact bin_shr_W64_nat t x .i64 n
@[go_sem low] theorem bin_shl_W64_i64 (n : Int) (h : 0 ≤ n) : binOp .shl t (W64 x) (.int .i64 n) = pure (W64 (shl64 x n.toNat)) := by
  obtain ⟨n, rfl⟩ := Int.eq_ofNat_of_zero_le h
  exact bin_shl_W64_nat t x .i64 n
@[go_sem high] theorem bin_shr_W64_lit (k : Nat) (h : k < 64) : binOp .shr t (W64 x) (.int .u64 (no_index (OfNat.ofNat k))) = pure (W64 (x >>> OfNat.ofNat k)) := by
  have := bin_shr_W64_nat t x .u64 k
  rw [shr64, if_pos h] at this
  exact this
@[go_sem] theorem bin_shr_W64_u64 (n : UInt64) (h : n < 64) : binOp .shr t (W64 x) (W64 n) = pure (W64 (x >>> UInt64.ofNat n.toNat)) := by
  have hn : n.toNat < 64 := UInt64.lt_iff_toNat_lt.1 h
  rw [show W64 n = Value.int .u64 (n.toNat : Int) from rfl, bin_shr_W64_nat, shr64, if_pos hn]
@[go_sem high] theorem bin_shl_W64_lit (k : Nat) (h : k < 64) : binOp .shl t (W64 x) (.int .u64 (no_index (OfNat.ofNat k))) = pure (W64 (x <<< OfNat.ofNat k)) := by
  have := bin_shl_W64_nat t x .u64 k
  rw [shl64, if_pos h] at this
  exact this
@[go_sem] theorem bin_shl_W64_u64 (n : UInt64) (h : n < 64) : binOp .shl t (W64 x) (W64 n) = pure (W64 (x <<< UInt64.ofNat n.toNat)) := by
  have hn : n.toNat < 64 := UInt64.lt_iff_toNat_lt.1 h
  rw [show W64 n = Value.int .u64 (n.toNat : Int) from rfl, bin_shl_W64_nat, shl64, if_pos hn]
end

section
variable (op : BinOp) (t : TypeId) (k : Nat)
@[go_sem] theorem bin_lit8_r (x : UInt8) (h : k < 256) : binOp op t (B8 x) (.int .u8 (no_index (OfNat.ofNat k))) = binOp op t (B8 x) (B8 (OfNat.ofNat k)) := by rw [lit8 k h]
@[go_sem] theorem bin_lit8_l (x : UInt8) (h : k < 256) : binOp op t (.int .u8 (no_index (OfNat.ofNat k))) (B8 x) = binOp op t (B8 (OfNat.ofNat k)) (B8 x) := by rw [lit8 k h]
@[go_sem] theorem bin_lit32_r (x : UInt32) (h : k < 4294967296) : binOp op t (W32 x) (.int .u32 (no_index (OfNat.ofNat k))) = binOp op t (W32 x) (W32 (OfNat.ofNat k)) := by rw [lit32 k h]
@[go_sem] theorem bin_lit32_l (x : UInt32) (h : k < 4294967296) : binOp op t (.int .u32 (no_index (OfNat.ofNat k))) (W32 x) = binOp op t (W32 (OfNat.ofNat k)) (W32 x) := by rw [lit32 k h]
@[go_sem] theorem bin_lit64_r (x : UInt64) (h : k < 18446744073709551616) : binOp op t (W64 x) (.int .u64 (no_index (OfNat.ofNat k))) = binOp op t (W64 x) (W64 (OfNat.ofNat k)) := by rw [lit64 k h]
@[go_sem] theorem bin_lit64_l (x : UInt64) (h : k < 18446744073709551616) : binOp op t (.int .u64 (no_index (OfNat.ofNat k))) (W64 x) = binOp op t (W64 (OfNat.ofNat k)) (W64 x) := by rw [lit64 k h]
end

/-- the value of a byte | word at another kind of integer -/
def ofB8 : IntKind → UInt8 → Value
  | .u8, x => B8 x
  | .u32, x => W32 x.toUInt32
  | .u64, x => W64 x.toUInt64
  | k, x => .int k (k.wrap x.toNat)
def ofW32 : IntKind → UInt32 → Value
  | .u8, x => B8 x.toUInt8
  | .u32, x => W32 x
  | .u64, x => W64 x.toUInt64
  | k, x => .int k (k.wrap x.toNat)
def ofW64 : IntKind → UInt64 → Value
  | .u8, x => B8 x.toUInt8
  | .u32, x => W32 x.toUInt32
  | .u64, x => W64 x
  | k, x => .int k (k.wrap x.toNat)
def ofI64 : IntKind → Int → Value
  | .u8, n => B8 (UInt8.ofInt n)
  | .u32, n => W32 (UInt32.ofInt n)
  | .u64, n => W64 (UInt64.ofInt n)
  | k, n => .int k (k.wrap n)
section
variable {P : Program} (w : World) (src dst : TypeId)
@[go_sem] theorem ofB8_u8 (x : UInt8) : ofB8 .u8 x = B8 x := rfl
@[go_sem] theorem ofB8_u32 (x : UInt8) : ofB8 .u32 x = W32 x.toUInt32 := rfl
@[go_sem] theorem ofB8_u64 (x : UInt8) : ofB8 .u64 x = W64 x.toUInt64 := rfl
@[go_sem] theorem ofB8_i64 (x : UInt8) : ofB8 .i64 x = .int .i64 x.toNat := by
  show Value.int .i64 (IntKind.i64.wrap _) = _
  have := x.toNat_lt
  rw [wrapP_i64]
  refine congrArg (Value.int .i64) ?_
  omega
@[go_sem] theorem ofW32_u8 (x : UInt32) : ofW32 .u8 x = B8 x.toUInt8 := rfl
@[go_sem] theorem ofW32_u32 (x : UInt32) : ofW32 .u32 x = W32 x := rfl
@[go_sem] theorem ofW32_u64 (x : UInt32) : ofW32 .u64 x = W64 x.toUInt64 := rfl
@[go_sem] theorem ofW32_i64 (x : UInt32) : ofW32 .i64 x = .int .i64 x.toNat := by
  show Value.int .i64 (IntKind.i64.wrap _) = _
  have := x.toNat_lt
  rw [wrapP_i64]
  refine congrArg (Value.int .i64) ?_
  omega
@[go_sem] theorem ofW64_u8 (x : UInt64) : ofW64 .u8 x = B8 x.toUInt8 := rfl
@[go_sem] theorem ofW64_u32 (x : UInt64) : ofW64 .u32 x = W32 x.toUInt32 := rfl
@[go_sem] theorem ofW64_u64 (x : UInt64) : ofW64 .u64 x = W64 x := rfl
@[go_sem] theorem ofW64_i64 (x : UInt64) : ofW64 .i64 x = .int .i64 x.toInt64.toInt := by
  show Value.int .i64 (IntKind.i64.wrap _) = _
  rw [wrapP_i64]
  refine congrArg (Value.int .i64) ?_
  show _ = x.toBitVec.toInt
  rw [BitVec.toInt_eq_toNat_bmod]
  show ((x.toNat : Int) + 9223372036854775808) % 18446744073709551616 - 9223372036854775808 = (x.toNat : Int).bmod 18446744073709551616
  have := x.toNat_lt
  have hx : (x.toNat : Int) % ((18446744073709551616 : Nat) : Int) = x.toNat := by omega
  by_cases h : (x.toNat : Int) < 9223372036854775808
  · rw [Int.bmod, hx]
    rw [if_pos (by omega)]
    omega
  · rw [Int.bmod, hx]
    rw [if_neg (by omega)]
    omega
@[go_sem] theorem ofI64_u8 (n : Int) : ofI64 .u8 n = B8 (UInt8.ofInt n) := rfl
@[go_sem] theorem ofI64_u32 (n : Int) : ofI64 .u32 n = W32 (UInt32.ofInt n) := rfl
@[go_sem] theorem ofI64_u64 (n : Int) : ofI64 .u64 n = W64 (UInt64.ofInt n) := rfl
@[go_sem] theorem ofI64_i64 (n : Int) : ofI64 .i64 n = .int .i64 (IntKind.i64.wrap n) := rfl
@[go_sem] theorem ofI64_i32 (n : Int) : ofI64 .i32 n = .int .i32 (IntKind.i32.wrap n) := rfl

theorem convert_int (k : IntKind) (n : Int) (hs : (P.underlying src).isSome = true) (hd : P.underlying dst = some (.int (P.intKind dst))) :
    (convert src dst (.int k n)).run P w = .ok (.int (P.intKind dst) ((P.intKind dst).wrap n)) w := run_convert_int w src dst k n hs hd
theorem wrapB8 (n : Int) : Value.int .u8 (IntKind.u8.wrap n) = B8 (UInt8.ofInt n) := by
  unfold B8
  congr 1
  rw [wrapP_u8]
  rw [show UInt8.ofInt n = UInt8.ofNat (n % 256).toNat from rfl, UInt8.toNat_ofNat']
  omega
theorem wrapW32 (n : Int) : Value.int .u32 (IntKind.u32.wrap n) = W32 (UInt32.ofInt n) := by
  unfold W32
  congr 1
  rw [wrapP_u32]
  rw [show UInt32.ofInt n = UInt32.ofNat (n % 4294967296).toNat from rfl, UInt32.toNat_ofNat']
  omega
theorem wrapW64 (n : Int) : Value.int .u64 (IntKind.u64.wrap n) = W64 (UInt64.ofInt n) := by
  unfold W64
  congr 1
  rw [wrapP_u64]
  rw [show UInt64.ofInt n = UInt64.ofNat (n % 18446744073709551616).toNat from rfl, UInt64.toNat_ofNat']
  omega
theorem ofInt8_nat (n : Nat) : UInt8.ofInt (n : Int) = UInt8.ofNat n := by
  apply UInt8.toNat_inj.1
  rw [show UInt8.ofInt n = UInt8.ofNat ((n : Int) % 256).toNat from rfl, UInt8.toNat_ofNat', UInt8.toNat_ofNat']
  omega
theorem ofInt32_nat (n : Nat) : UInt32.ofInt (n : Int) = UInt32.ofNat n := by
  apply UInt32.toNat_inj.1
  rw [show UInt32.ofInt n = UInt32.ofNat ((n : Int) % 4294967296).toNat from rfl, UInt32.toNat_ofNat', UInt32.toNat_ofNat']
  omega
theorem ofInt64_nat (n : Nat) : UInt64.ofInt (n : Int) = UInt64.ofNat n := by
  apply UInt64.toNat_inj.1
  rw [show UInt64.ofInt n = UInt64.ofNat ((n : Int) % 18446744073709551616).toNat from rfl, UInt64.toNat_ofNat', UInt64.toNat_ofNat']
  omega

@[go_sem high] theorem run_convert_B8 (x : UInt8) (hs : (P.underlying src).isSome = true) (hd : P.underlying dst = some (.int (P.intKind dst))) :
    (convert src dst (B8 x)).run P w = .ok (ofB8 (P.intKind dst) x) w := by
  rw [show B8 x = Value.int .u8 (x.toNat : Int) from rfl, run_convert_int w src dst .u8 _ hs hd]
  cases P.intKind dst
  all_goals first
    | rfl
    | (show Result.ok (Value.int .u8 (IntKind.u8.wrap _)) w = _
       rw [wrapB8, ofInt8_nat]; congr 2; simp; done)
    | (show Result.ok (Value.int .u32 (IntKind.u32.wrap _)) w = _
       rw [wrapW32, ofInt32_nat]; congr 2; simp; done)
    | (show Result.ok (Value.int .u64 (IntKind.u64.wrap _)) w = _
       rw [wrapW64, ofInt64_nat]; congr 2; simp; done)
@[go_sem high] theorem run_convert_W32 (x : UInt32) (hs : (P.underlying src).isSome = true) (hd : P.underlying dst = some (.int (P.intKind dst))) :
    (convert src dst (W32 x)).run P w = .ok (ofW32 (P.intKind dst) x) w := by
  rw [show W32 x = Value.int .u32 (x.toNat : Int) from rfl, run_convert_int w src dst .u32 _ hs hd]
  cases P.intKind dst
  all_goals first
    | rfl
    | (show Result.ok (Value.int .u8 (IntKind.u8.wrap _)) w = _
       rw [wrapB8, ofInt8_nat]; congr 2; simp; done)
    | (show Result.ok (Value.int .u32 (IntKind.u32.wrap _)) w = _
       rw [wrapW32, ofInt32_nat]; congr 2; simp; done)
    | (show Result.ok (Value.int .u64 (IntKind.u64.wrap _)) w = _
       rw [wrapW64, ofInt64_nat]; congr 2; simp; done)
@[go_sem high] theorem run_convert_W64 (x : UInt64) (hs : (P.underlying src).isSome = true) (hd : P.underlying dst = some (.int (P.intKind dst))) :
    (convert src dst (W64 x)).run P w = .ok (ofW64 (P.intKind dst) x) w := by
  rw [show W64 x = Value.int .u64 (x.toNat : Int) from rfl, run_convert_int w src dst .u64 _ hs hd]
  cases P.intKind dst
  all_goals first
    | rfl
    | (show Result.ok (Value.int .u8 (IntKind.u8.wrap _)) w = _
       rw [wrapB8, ofInt8_nat]; congr 2; simp; done)
    | (show Result.ok (Value.int .u32 (IntKind.u32.wrap _)) w = _
       rw [wrapW32, ofInt32_nat]; congr 2; simp; done)
    | (show Result.ok (Value.int .u64 (IntKind.u64.wrap _)) w = _
       rw [wrapW64, ofInt64_nat]; congr 2; simp; done)
@[go_sem high] theorem run_convert_i64 (n : Int) (hs : (P.underlying src).isSome = true) (hd : P.underlying dst = some (.int (P.intKind dst))) :
    (convert src dst (.int .i64 n)).run P w = .ok (ofI64 (P.intKind dst) n) w := by
  rw [run_convert_int w src dst .i64 _ hs hd]
  cases P.intKind dst
  all_goals first
    | rfl
    | (show Result.ok (Value.int .u8 (IntKind.u8.wrap _)) w = _
       rw [wrapB8]; rfl; done)
    | (show Result.ok (Value.int .u32 (IntKind.u32.wrap _)) w = _
       rw [wrapW32]; rfl; done)
    | (show Result.ok (Value.int .u64 (IntKind.u64.wrap _)) w = _
       rw [wrapW64]; rfl; done)
end
end Go.PK
