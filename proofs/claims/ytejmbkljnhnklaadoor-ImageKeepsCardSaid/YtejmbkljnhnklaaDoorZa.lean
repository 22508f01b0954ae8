/-
  Typed values (bytes and words as UInt8, UInt32, UInt64) and the walk's laws for them; readable byte slices. Generic over any program.
  Readable byte slices, and what becomes of them where memory is added.
  A region that draws its order, walked once in the order of the text: of each operation it is shown, out of what the operations that it follows have left, what it leaves; whatever the order.
  Arrays and structs in one block: whole, in part, cell by cell.
  '==' and '!=' of arrays of bytes and of words.
  What came in, opened: slices of bytes and whole numbers, with the bounds of the form's reach.
  Readers: what cells say, put together: bytes, numbers, strings, byte arrays, pairs (structs), slices; and what came in, opened by them.
-/
import Derived.WalkKit
import Derived.Lib.Hide
import Derived.BigQuiet
import Derived.WalkSpells
import Derived.Deep.RegionWith
import Derived.Deep.RegionHeld3
import Derived.Deep.DeepCutAuto
import Derived.ProofKit
import Derived.OpenShut
import Derived.SizedLaws
namespace Go.PK
open Go.RowKit
def B8 (x : UInt8) : Value := .int .u8 x.toNat
def W32 (x : UInt32) : Value := .int .u32 x.toNat
def W64 (x : UInt64) : Value := .int .u64 x.toNat
theorem B8_of {z : Int} (h0 : 0 ≤ z) (h1 : z ≤ 255) : Value.int .u8 z = B8 (UInt8.ofNat z.toNat) := by
  simp only [B8, Value.int.injEq, true_and, UInt8.toNat_ofNat']
  omega
theorem lit8 (k : Nat) (h : k < 256) : Value.int .u8 (no_index (OfNat.ofNat k)) = B8 (OfNat.ofNat k) := by
  show Value.int .u8 (k : Int) = Value.int .u8 (((UInt8.ofNat k).toNat : Nat) : Int)
  rw [UInt8.toNat_ofNat', Nat.mod_eq_of_lt (by omega)]
theorem lit32 (k : Nat) (h : k < 4294967296) : Value.int .u32 (no_index (OfNat.ofNat k)) = W32 (OfNat.ofNat k) := by
  show Value.int .u32 (k : Int) = Value.int .u32 (((UInt32.ofNat k).toNat : Nat) : Int)
  rw [UInt32.toNat_ofNat', Nat.mod_eq_of_lt (by omega)]
theorem lit64 (k : Nat) (h : k < 18446744073709551616) : Value.int .u64 (no_index (OfNat.ofNat k)) = W64 (OfNat.ofNat k) := by
  show Value.int .u64 (k : Int) = Value.int .u64 (((UInt64.ofNat k).toNat : Nat) : Int)
  rw [UInt64.toNat_ofNat', Nat.mod_eq_of_lt (by omega)]
@[go_sem high] theorem oneCell'_B8 (x : UInt8) : (B8 x).oneCell' = true := rfl
@[go_sem high] theorem oneCell'_W32 (x : UInt32) : (W32 x).oneCell' = true := rfl
@[go_sem high] theorem oneCell'_W64 (x : UInt64) : (W64 x).oneCell' = true := rfl
@[go_sem] theorem cells_match_B8 (x : UInt8) (f : Array Value → Array Value) (g : Value → Array Value) : Value.cells.match_1 (fun _ => Array Value) (B8 x) f g = g (B8 x) := rfl
@[go_sem high] theorem cells_B8 (x : UInt8) : (B8 x).cells = #[B8 x] := rfl
@[go_sem] theorem cells_match_W32 (x : UInt32) (f : Array Value → Array Value) (g : Value → Array Value) : Value.cells.match_1 (fun _ => Array Value) (W32 x) f g = g (W32 x) := rfl
@[go_sem high] theorem cells_W32 (x : UInt32) : (W32 x).cells = #[W32 x] := rfl
@[go_sem] theorem cells_match_W64 (x : UInt64) (f : Array Value → Array Value) (g : Value → Array Value) : Value.cells.match_1 (fun _ => Array Value) (W64 x) f g = g (W64 x) := rfl
@[go_sem high] theorem cells_W64 (x : UInt64) : (W64 x).cells = #[W64 x] := rfl
section
variable (op : BinOp) (t : TypeId) (x y : Operand) (v : Value)
@[go_sem] theorem eqGuard_B8 (a : UInt8) : eqGuard op t x y (B8 a) v = pure () := eqGuard_at_int op t x y v .u8 _
@[go_sem] theorem eqGuard_W32 (a : UInt32) : eqGuard op t x y (W32 a) v = pure () := eqGuard_at_int op t x y v .u32 _
@[go_sem] theorem eqGuard_W64 (a : UInt64) : eqGuard op t x y (W64 a) v = pure () := eqGuard_at_int op t x y v .u64 _
end
section
variable (P : Program) (w : World) (a : Addr) (m : Mode)
@[go_sem high] theorem run_store_B8 (n : UInt8) : (store a (B8 n) m).run P w = stored P w a (B8 n) m := run_store P w a _ m rfl
@[go_sem high] theorem run_store_W32 (n : UInt32) : (store a (W32 n) m).run P w = stored P w a (W32 n) m := run_store P w a _ m rfl
@[go_sem high] theorem run_store_W64 (n : UInt64) : (store a (W64 n) m).run P w = stored P w a (W64 n) m := run_store P w a _ m rfl
end
theorem wrapP_u8 (n : Int) : IntKind.u8.wrap n = n % 256 := by simp [IntKind.wrap, IntKind.bits, IntKind.signed]
theorem wrapP_u32 (n : Int) : IntKind.u32.wrap n = n % 4294967296 := by simp [IntKind.wrap, IntKind.bits, IntKind.signed]
theorem wrapP_u64 (n : Int) : IntKind.u64.wrap n = n % 18446744073709551616 := by simp [IntKind.wrap, IntKind.bits, IntKind.signed]
theorem wrapP_i64 (n : Int) : IntKind.i64.wrap n = (n + 9223372036854775808) % 18446744073709551616 - 9223372036854775808 := by
  simp [IntKind.wrap, IntKind.bits, IntKind.signed]
  split <;> omega
theorem nat_beq_cast (a b : Nat) : ((a : Int) == (b : Int)) = (a == b) := by
  rw [Bool.eq_iff_iff]; simp; omega
theorem nat_bne_cast (a b : Nat) : ((a : Int) != (b : Int)) = (a != b) := by
  simp only [bne, nat_beq_cast]
section
variable (t : TypeId) (x y : UInt8)
theorem ofInt8 : BitVec.ofInt 8 (x.toNat : Int) = x.toBitVec := by
  apply BitVec.eq_of_toNat_eq
  rw [BitVec.toNat_ofInt]
  have := x.toNat_lt
  show ((x.toNat : Int) % 256).toNat = x.toNat
  omega
theorem wrap8 (n : Nat) (h : n < 256) : IntKind.u8.wrap (n : Int) = n := by
  simp only [wrapP_u8]
  omega
theorem bits8 (op : BinOp) (z : UInt8) (h : z.toBitVec = (match op with | .and => x.toBitVec &&& y.toBitVec | .or => x.toBitVec ||| y.toBitVec | .xor => x.toBitVec ^^^ y.toBitVec | _ => x.toBitVec &&& ~~~y.toBitVec)) :
    bits op .u8 x.toNat y.toNat = (z.toNat : Int) := by
  show IntKind.u8.wrap _ = _
  have e : (BitVec.ofInt IntKind.u8.bits (x.toNat : Int)) = x.toBitVec := ofInt8 x
  have e' : (BitVec.ofInt IntKind.u8.bits (y.toNat : Int)) = y.toBitVec := ofInt8 y
  rw [e, e']
  have := z.toNat_lt
  rw [← wrap8 z.toNat this]
  show IntKind.u8.wrap _ = IntKind.u8.wrap ((z.toBitVec.toNat : Nat) : Int)
  rw [h]
  cases op <;> rfl
@[go_sem] theorem bin_and_B8 : binOp .and t (B8 x) (B8 y) = pure (B8 (x &&& y)) := by
  unfold B8; rw [binOp_and, intBits_and, bits8 x y .and (x &&& y) rfl]
@[go_sem] theorem bin_or_B8 : binOp .or t (B8 x) (B8 y) = pure (B8 (x ||| y)) := by
  unfold B8; rw [binOp_or, intBits_or, bits8 x y .or (x ||| y) rfl]
@[go_sem] theorem bin_xor_B8 : binOp .xor t (B8 x) (B8 y) = pure (B8 (x ^^^ y)) := by
  unfold B8; rw [binOp_xor, intBits_xor, bits8 x y .xor (x ^^^ y) rfl]
@[go_sem] theorem bin_andNot_B8 : binOp .andNot t (B8 x) (B8 y) = pure (B8 (x &&& ~~~y)) := by
  unfold B8; rw [binOp_andNot, intBits_andNot, bits8 x y .andNot (x &&& ~~~y) rfl]
@[go_sem] theorem un_xor_B8 : Op.unary .xor (B8 x) = pure (B8 (~~~x)) := by
  have h : bits .xor .u8 (((UInt8.ofNat 255).toNat : Nat) : Int) x.toNat = ((~~~x).toNat : Int) := by
    refine bits8 _ x .xor (~~~x) ?_
    show ~~~x.toBitVec = BitVec.ofNat 8 255 ^^^ x.toBitVec
    have e : BitVec.ofNat 8 255 = BitVec.allOnes 8 := by decide
    rw [e, BitVec.allOnes_xor]
  exact congrArg (fun z => (pure (Value.int .u8 z) : Sem Value)) h
@[go_sem] theorem bin_add_B8 : binOp .add t (B8 x) (B8 y) = pure (B8 (x + y)) := by
  unfold B8; rw [binOp_add]
  simp only [Op.intArith, wrapP_u8, UInt8.toNat_add]
  congr 2
@[go_sem] theorem bin_sub_B8 : binOp .sub t (B8 x) (B8 y) = pure (B8 (x - y)) := by
  unfold B8; rw [binOp_sub]
  simp only [Op.intArith, wrapP_u8, UInt8.toNat_sub]
  congr 2
  have := x.toNat_lt
  have := y.toNat_lt
  omega
@[go_sem] theorem bin_mul_B8 : binOp .mul t (B8 x) (B8 y) = pure (B8 (x * y)) := by
  unfold B8; rw [binOp_mul]
  simp only [Op.intArith, wrapP_u8, UInt8.toNat_mul]
  congr 2
@[go_sem] theorem bin_eql_B8 : binOp .eql t (B8 x) (B8 y) = pure (.bool (x == y)) := by
  unfold B8; rw [binOp_eql, nat_beq_cast]
  congr 2
  rw [Bool.eq_iff_iff]; simp [UInt8.toNat_inj]
@[go_sem] theorem bin_neq_B8 : binOp .neq t (B8 x) (B8 y) = pure (.bool (x != y)) := by
  unfold B8; rw [binOp_neq, nat_bne_cast]
  congr 2
  rw [Bool.eq_iff_iff]; simp [UInt8.toNat_inj]
@[go_sem] theorem bin_lss_B8 : binOp .lss t (B8 x) (B8 y) = pure (.bool (x < y)) := by
  unfold B8; rw [binOp_lss]
  congr 2
  rw [Bool.eq_iff_iff]; simp [UInt8.lt_iff_toNat_lt]
@[go_sem] theorem bin_leq_B8 : binOp .leq t (B8 x) (B8 y) = pure (.bool (x ≤ y)) := by
  unfold B8; rw [binOp_leq]
  congr 2
  rw [Bool.eq_iff_iff]; simp [UInt8.le_iff_toNat_le]
@[go_sem] theorem bin_gtr_B8 : binOp .gtr t (B8 x) (B8 y) = pure (.bool (y < x)) := by
  unfold B8; rw [binOp_gtr]
  congr 2
  rw [Bool.eq_iff_iff]; simp [UInt8.lt_iff_toNat_lt]
@[go_sem] theorem bin_geq_B8 : binOp .geq t (B8 x) (B8 y) = pure (.bool (y ≤ x)) := by
  unfold B8; rw [binOp_geq]
  congr 2
  rw [Bool.eq_iff_iff]; simp [UInt8.le_iff_toNat_le]
def shr8 (x : UInt8) (n : Nat) : UInt8 := if n < 8 then x >>> UInt8.ofNat n else 0
def shl8 (x : UInt8) (n : Nat) : UInt8 := if n < 8 then x <<< UInt8.ofNat n else 0
theorem shr8_toNat (n : Nat) : (shr8 x n).toNat = x.toNat / 2 ^ (min n 8) := by
  unfold shr8
  split
  · rename_i h
    rw [UInt8.toNat_shiftRight, UInt8.toNat_ofNat', Nat.shiftRight_eq_div_pow, Nat.mod_eq_of_lt (show n < 2 ^ 8 by omega), Nat.mod_eq_of_lt h, Nat.min_eq_left (by omega)]
  · rename_i h
    rw [Nat.min_eq_right (by omega)]
    have := x.toNat_lt
    show 0 = _
    rw [Nat.div_eq_of_lt this]
theorem shl8_toNat (n : Nat) : (shl8 x n).toNat = x.toNat * 2 ^ (min n 8) % 256 := by
  unfold shl8
  split
  · rename_i h
    rw [UInt8.toNat_shiftLeft, UInt8.toNat_ofNat', Nat.shiftLeft_eq, Nat.mod_eq_of_lt (show n < 2 ^ 8 by omega), Nat.mod_eq_of_lt h, Nat.min_eq_left (by omega)]
  · rename_i h
    rw [Nat.min_eq_right (by omega)]
    show 0 = x.toNat * 256 % 256
    rw [Nat.mul_mod_left]
theorem bin_shr_B8_nat (yk : IntKind) (n : Nat) : binOp .shr t (B8 x) (.int yk (n : Int)) = pure (B8 (shr8 x n)) := by
  unfold B8; rw [binOp_shr]
  simp only [Op.shift]
  rw [if_neg (by omega)]
  simp only [Int.toNat_natCast, IntKind.bits]
  congr 2
  rw [shr8_toNat, Int.fdiv_eq_ediv_of_nonneg _ (Int.pow_nonneg (by decide))]
  simp
theorem bin_shl_B8_nat (yk : IntKind) (n : Nat) : binOp .shl t (B8 x) (.int yk (n : Int)) = pure (B8 (shl8 x n)) := by
  unfold B8; rw [binOp_shl]
  simp only [Op.shift]
  rw [if_neg (by omega)]
  simp only [Int.toNat_natCast, IntKind.bits]
  congr 2
  rw [shl8_toNat, wrapP_u8]
  simp
@[go_sem low] theorem bin_shr_B8_i64 (n : Int) (h : 0 ≤ n) : binOp .shr t (B8 x) (.int .i64 n) = pure (B8 (shr8 x n.toNat)) := by
  obtain ⟨n, rfl⟩ := Int.eq_ofNat_of_zero_le h
  exact bin_shr_B8_nat t x .i64 n
@[go_sem low] theorem bin_shl_B8_i64 (n : Int) (h : 0 ≤ n) : binOp .shl t (B8 x) (.int .i64 n) = pure (B8 (shl8 x n.toNat)) := by
  obtain ⟨n, rfl⟩ := Int.eq_ofNat_of_zero_le h
  exact bin_shl_B8_nat t x .i64 n
@[go_sem high] theorem bin_shr_B8_lit (k : Nat) (h : k < 8) : binOp .shr t (B8 x) (.int .u64 (no_index (OfNat.ofNat k))) = pure (B8 (x >>> OfNat.ofNat k)) := by
  have := bin_shr_B8_nat t x .u64 k
  rw [shr8, if_pos h] at this
  exact this
@[go_sem] theorem bin_shr_B8_u64 (n : UInt64) (h : n < 8) : binOp .shr t (B8 x) (W64 n) = pure (B8 (x >>> UInt8.ofNat n.toNat)) := by
  have hn : n.toNat < 8 := UInt64.lt_iff_toNat_lt.1 h
  rw [show W64 n = Value.int .u64 (n.toNat : Int) from rfl, bin_shr_B8_nat, shr8, if_pos hn]
@[go_sem high] theorem bin_shl_B8_lit (k : Nat) (h : k < 8) : binOp .shl t (B8 x) (.int .u64 (no_index (OfNat.ofNat k))) = pure (B8 (x <<< OfNat.ofNat k)) := by
  have := bin_shl_B8_nat t x .u64 k
  rw [shl8, if_pos h] at this
  exact this
@[go_sem] theorem bin_shl_B8_u64 (n : UInt64) (h : n < 8) : binOp .shl t (B8 x) (W64 n) = pure (B8 (x <<< UInt8.ofNat n.toNat)) := by
  have hn : n.toNat < 8 := UInt64.lt_iff_toNat_lt.1 h
  rw [show W64 n = Value.int .u64 (n.toNat : Int) from rfl, bin_shl_B8_nat, shl8, if_pos hn]
end
section
variable (t : TypeId) (x y : UInt32)
theorem ofInt32 : BitVec.ofInt 32 (x.toNat : Int) = x.toBitVec := by
  apply BitVec.eq_of_toNat_eq
  rw [BitVec.toNat_ofInt]
  have := x.toNat_lt
  show ((x.toNat : Int) % 4294967296).toNat = x.toNat
  omega
theorem wrap32 (n : Nat) (h : n < 4294967296) : IntKind.u32.wrap (n : Int) = n := by
  simp only [wrapP_u32]
  omega
theorem bits32 (op : BinOp) (z : UInt32) (h : z.toBitVec = (match op with | .and => x.toBitVec &&& y.toBitVec | .or => x.toBitVec ||| y.toBitVec | .xor => x.toBitVec ^^^ y.toBitVec | _ => x.toBitVec &&& ~~~y.toBitVec)) :
    bits op .u32 x.toNat y.toNat = (z.toNat : Int) := by
  show IntKind.u32.wrap _ = _
  have e : (BitVec.ofInt IntKind.u32.bits (x.toNat : Int)) = x.toBitVec := ofInt32 x
  have e' : (BitVec.ofInt IntKind.u32.bits (y.toNat : Int)) = y.toBitVec := ofInt32 y
  rw [e, e']
  have := z.toNat_lt
  rw [← wrap32 z.toNat this]
  show IntKind.u32.wrap _ = IntKind.u32.wrap ((z.toBitVec.toNat : Nat) : Int)
  rw [h]
  cases op <;> rfl
@[go_sem] theorem bin_and_W32 : binOp .and t (W32 x) (W32 y) = pure (W32 (x &&& y)) := by
  unfold W32; rw [binOp_and, intBits_and, bits32 x y .and (x &&& y) rfl]
@[go_sem] theorem bin_or_W32 : binOp .or t (W32 x) (W32 y) = pure (W32 (x ||| y)) := by
  unfold W32; rw [binOp_or, intBits_or, bits32 x y .or (x ||| y) rfl]
@[go_sem] theorem bin_xor_W32 : binOp .xor t (W32 x) (W32 y) = pure (W32 (x ^^^ y)) := by
  unfold W32; rw [binOp_xor, intBits_xor, bits32 x y .xor (x ^^^ y) rfl]
@[go_sem] theorem bin_andNot_W32 : binOp .andNot t (W32 x) (W32 y) = pure (W32 (x &&& ~~~y)) := by
  unfold W32; rw [binOp_andNot, intBits_andNot, bits32 x y .andNot (x &&& ~~~y) rfl]
@[go_sem] theorem un_xor_W32 : Op.unary .xor (W32 x) = pure (W32 (~~~x)) := by
  have h : bits .xor .u32 (((UInt32.ofNat 4294967295).toNat : Nat) : Int) x.toNat = ((~~~x).toNat : Int) := by
    refine bits32 _ x .xor (~~~x) ?_
    show ~~~x.toBitVec = BitVec.ofNat 32 4294967295 ^^^ x.toBitVec
    have e : BitVec.ofNat 32 4294967295 = BitVec.allOnes 32 := by decide
    rw [e, BitVec.allOnes_xor]
  exact congrArg (fun z => (pure (Value.int .u32 z) : Sem Value)) h
@[go_sem] theorem bin_add_W32 : binOp .add t (W32 x) (W32 y) = pure (W32 (x + y)) := by
  unfold W32; rw [binOp_add]
  simp only [Op.intArith, wrapP_u32, UInt32.toNat_add]
  congr 2
@[go_sem] theorem bin_sub_W32 : binOp .sub t (W32 x) (W32 y) = pure (W32 (x - y)) := by
  unfold W32; rw [binOp_sub]
  simp only [Op.intArith, wrapP_u32, UInt32.toNat_sub]
  congr 2
  have := x.toNat_lt
  have := y.toNat_lt
  omega
@[go_sem] theorem bin_mul_W32 : binOp .mul t (W32 x) (W32 y) = pure (W32 (x * y)) := by
  unfold W32; rw [binOp_mul]
  simp only [Op.intArith, wrapP_u32, UInt32.toNat_mul]
  congr 2
@[go_sem] theorem bin_eql_W32 : binOp .eql t (W32 x) (W32 y) = pure (.bool (x == y)) := by
  unfold W32; rw [binOp_eql, nat_beq_cast]
  congr 2
  rw [Bool.eq_iff_iff]; simp [UInt32.toNat_inj]
@[go_sem] theorem bin_neq_W32 : binOp .neq t (W32 x) (W32 y) = pure (.bool (x != y)) := by
  unfold W32; rw [binOp_neq, nat_bne_cast]
  congr 2
  rw [Bool.eq_iff_iff]; simp [UInt32.toNat_inj]
@[go_sem] theorem bin_lss_W32 : binOp .lss t (W32 x) (W32 y) = pure (.bool (x < y)) := by
  unfold W32; rw [binOp_lss]
  congr 2
  rw [Bool.eq_iff_iff]; simp [UInt32.lt_iff_toNat_lt]
@[go_sem] theorem bin_leq_W32 : binOp .leq t (W32 x) (W32 y) = pure (.bool (x ≤ y)) := by
  unfold W32; rw [binOp_leq]
  congr 2
  rw [Bool.eq_iff_iff]; simp [UInt32.le_iff_toNat_le]
@[go_sem] theorem bin_gtr_W32 : binOp .gtr t (W32 x) (W32 y) = pure (.bool (y < x)) := by
  unfold W32; rw [binOp_gtr]
  congr 2
  rw [Bool.eq_iff_iff]; simp [UInt32.lt_iff_toNat_lt]
@[go_sem] theorem bin_geq_W32 : binOp .geq t (W32 x) (W32 y) = pure (.bool (y ≤ x)) := by
  unfold W32; rw [binOp_geq]
  congr 2
  rw [Bool.eq_iff_iff]; simp [UInt32.le_iff_toNat_le]
def shr32 (x : UInt32) (n : Nat) : UInt32 := if n < 32 then x >>> UInt32.ofNat n else 0
def shl32 (x : UInt32) (n : Nat) : UInt32 := if n < 32 then x <<< UInt32.ofNat n else 0
theorem shr32_toNat (n : Nat) : (shr32 x n).toNat = x.toNat / 2 ^ (min n 32) := by
  unfold shr32
  split
  · rename_i h
    rw [UInt32.toNat_shiftRight, UInt32.toNat_ofNat', Nat.shiftRight_eq_div_pow, Nat.mod_eq_of_lt (show n < 2 ^ 32 by omega), Nat.mod_eq_of_lt h, Nat.min_eq_left (by omega)]
  · rename_i h
    rw [Nat.min_eq_right (by omega)]
    have := x.toNat_lt
    show 0 = _
    rw [Nat.div_eq_of_lt this]
theorem shl32_toNat (n : Nat) : (shl32 x n).toNat = x.toNat * 2 ^ (min n 32) % 4294967296 := by
  unfold shl32
  split
  · rename_i h
    rw [UInt32.toNat_shiftLeft, UInt32.toNat_ofNat', Nat.shiftLeft_eq, Nat.mod_eq_of_lt (show n < 2 ^ 32 by omega), Nat.mod_eq_of_lt h, Nat.min_eq_left (by omega)]
  · rename_i h
    rw [Nat.min_eq_right (by omega)]
    show 0 = x.toNat * 4294967296 % 4294967296
    rw [Nat.mul_mod_left]
theorem bin_shr_W32_nat (yk : IntKind) (n : Nat) : binOp .shr t (W32 x) (.int yk (n : Int)) = pure (W32 (shr32 x n)) := by
  unfold W32; rw [binOp_shr]
  simp only [Op.shift]
  rw [if_neg (by omega)]
  simp only [Int.toNat_natCast, IntKind.bits]
  congr 2
  rw [shr32_toNat, Int.fdiv_eq_ediv_of_nonneg _ (Int.pow_nonneg (by decide))]
  simp
theorem bin_shl_W32_nat (yk : IntKind) (n : Nat) : binOp .shl t (W32 x) (.int yk (n : Int)) = pure (W32 (shl32 x n)) := by
  unfold W32; rw [binOp_shl]
  simp only [Op.shift]
  rw [if_neg (by omega)]
  simp only [Int.toNat_natCast, IntKind.bits]
  congr 2
  rw [shl32_toNat, wrapP_u32]
  simp
@[go_sem low] theorem bin_shr_W32_i64 (n : Int) (h : 0 ≤ n) : binOp .shr t (W32 x) (.int .i64 n) = pure (W32 (shr32 x n.toNat)) := by
  obtain ⟨n, rfl⟩ := Int.eq_ofNat_of_zero_le h
  exact bin_shr_W32_nat t x .i64 n
@[go_sem low] theorem bin_shl_W32_i64 (n : Int) (h : 0 ≤ n) : binOp .shl t (W32 x) (.int .i64 n) = pure (W32 (shl32 x n.toNat)) := by
  obtain ⟨n, rfl⟩ := Int.eq_ofNat_of_zero_le h
  exact bin_shl_W32_nat t x .i64 n
@[go_sem high] theorem bin_shr_W32_lit (k : Nat) (h : k < 32) : binOp .shr t (W32 x) (.int .u64 (no_index (OfNat.ofNat k))) = pure (W32 (x >>> OfNat.ofNat k)) := by
  have := bin_shr_W32_nat t x .u64 k
  rw [shr32, if_pos h] at this
  exact this
@[go_sem] theorem bin_shr_W32_u64 (n : UInt64) (h : n < 32) : binOp .shr t (W32 x) (W64 n) = pure (W32 (x >>> UInt32.ofNat n.toNat)) := by
  have hn : n.toNat < 32 := UInt64.lt_iff_toNat_lt.1 h
  rw [show W64 n = Value.int .u64 (n.toNat : Int) from rfl, bin_shr_W32_nat, shr32, if_pos hn]
@[go_sem high] theorem bin_shl_W32_lit (k : Nat) (h : k < 32) : binOp .shl t (W32 x) (.int .u64 (no_index (OfNat.ofNat k))) = pure (W32 (x <<< OfNat.ofNat k)) := by
  have := bin_shl_W32_nat t x .u64 k
  rw [shl32, if_pos h] at this
  exact this
@[go_sem] theorem bin_shl_W32_u64 (n : UInt64) (h : n < 32) : binOp .shl t (W32 x) (W64 n) = pure (W32 (x <<< UInt32.ofNat n.toNat)) := by
  have hn : n.toNat < 32 := UInt64.lt_iff_toNat_lt.1 h
  rw [show W64 n = Value.int .u64 (n.toNat : Int) from rfl, bin_shl_W32_nat, shl32, if_pos hn]
end
section
variable (t : TypeId) (x y : UInt64)
theorem ofInt64 : BitVec.ofInt 64 (x.toNat : Int) = x.toBitVec := by
  apply BitVec.eq_of_toNat_eq
  rw [BitVec.toNat_ofInt]
  have := x.toNat_lt
  show ((x.toNat : Int) % 18446744073709551616).toNat = x.toNat
  omega
theorem wrap64 (n : Nat) (h : n < 18446744073709551616) : IntKind.u64.wrap (n : Int) = n := by
  simp only [wrapP_u64]
  omega
theorem bits64 (op : BinOp) (z : UInt64) (h : z.toBitVec = (match op with | .and => x.toBitVec &&& y.toBitVec | .or => x.toBitVec ||| y.toBitVec | .xor => x.toBitVec ^^^ y.toBitVec | _ => x.toBitVec &&& ~~~y.toBitVec)) :
    bits op .u64 x.toNat y.toNat = (z.toNat : Int) := by
  show IntKind.u64.wrap _ = _
  have e : (BitVec.ofInt IntKind.u64.bits (x.toNat : Int)) = x.toBitVec := ofInt64 x
  have e' : (BitVec.ofInt IntKind.u64.bits (y.toNat : Int)) = y.toBitVec := ofInt64 y
  rw [e, e']
  have := z.toNat_lt
  rw [← wrap64 z.toNat this]
  show IntKind.u64.wrap _ = IntKind.u64.wrap ((z.toBitVec.toNat : Nat) : Int)
  rw [h]
  cases op <;> rfl
@[go_sem] theorem bin_and_W64 : binOp .and t (W64 x) (W64 y) = pure (W64 (x &&& y)) := by
  unfold W64; rw [binOp_and, intBits_and, bits64 x y .and (x &&& y) rfl]
@[go_sem] theorem bin_or_W64 : binOp .or t (W64 x) (W64 y) = pure (W64 (x ||| y)) := by
  unfold W64; rw [binOp_or, intBits_or, bits64 x y .or (x ||| y) rfl]
@[go_sem] theorem bin_xor_W64 : binOp .xor t (W64 x) (W64 y) = pure (W64 (x ^^^ y)) := by
  unfold W64; rw [binOp_xor, intBits_xor, bits64 x y .xor (x ^^^ y) rfl]
@[go_sem] theorem bin_andNot_W64 : binOp .andNot t (W64 x) (W64 y) = pure (W64 (x &&& ~~~y)) := by
  unfold W64; rw [binOp_andNot, intBits_andNot, bits64 x y .andNot (x &&& ~~~y) rfl]
@[go_sem] theorem un_xor_W64 : Op.unary .xor (W64 x) = pure (W64 (~~~x)) := by
  have h : bits .xor .u64 (((UInt64.ofNat 18446744073709551615).toNat : Nat) : Int) x.toNat = ((~~~x).toNat : Int) := by
    refine bits64 _ x .xor (~~~x) ?_
    show ~~~x.toBitVec = BitVec.ofNat 64 18446744073709551615 ^^^ x.toBitVec
    have e : BitVec.ofNat 64 18446744073709551615 = BitVec.allOnes 64 := by decide
    rw [e, BitVec.allOnes_xor]
  exact congrArg (fun z => (pure (Value.int .u64 z) : Sem Value)) h
@[go_sem] theorem bin_add_W64 : binOp .add t (W64 x) (W64 y) = pure (W64 (x + y)) := by
  unfold W64; rw [binOp_add]
  simp only [Op.intArith, wrapP_u64, UInt64.toNat_add]
  congr 2
@[go_sem] theorem bin_sub_W64 : binOp .sub t (W64 x) (W64 y) = pure (W64 (x - y)) := by
  unfold W64; rw [binOp_sub]
  simp only [Op.intArith, wrapP_u64, UInt64.toNat_sub]
  congr 2
  have := x.toNat_lt
  have := y.toNat_lt
  omega
@[go_sem] theorem bin_mul_W64 : binOp .mul t (W64 x) (W64 y) = pure (W64 (x * y)) := by
  unfold W64; rw [binOp_mul]
  simp only [Op.intArith, wrapP_u64, UInt64.toNat_mul]
  congr 2
@[go_sem] theorem bin_eql_W64 : binOp .eql t (W64 x) (W64 y) = pure (.bool (x == y)) := by
  unfold W64; rw [binOp_eql, nat_beq_cast]
  congr 2
  rw [Bool.eq_iff_iff]; simp [UInt64.toNat_inj]
@[go_sem] theorem bin_neq_W64 : binOp .neq t (W64 x) (W64 y) = pure (.bool (x != y)) := by
  unfold W64; rw [binOp_neq, nat_bne_cast]
  congr 2
  rw [Bool.eq_iff_iff]; simp [UInt64.toNat_inj]
@[go_sem] theorem bin_lss_W64 : binOp .lss t (W64 x) (W64 y) = pure (.bool (x < y)) := by
  unfold W64; rw [binOp_lss]
  congr 2
  rw [Bool.eq_iff_iff]; simp [UInt64.lt_iff_toNat_lt]
@[go_sem] theorem bin_leq_W64 : binOp .leq t (W64 x) (W64 y) = pure (.bool (x ≤ y)) := by
  unfold W64; rw [binOp_leq]
  congr 2
  rw [Bool.eq_iff_iff]; simp [UInt64.le_iff_toNat_le]
@[go_sem] theorem bin_gtr_W64 : binOp .gtr t (W64 x) (W64 y) = pure (.bool (y < x)) := by
  unfold W64; rw [binOp_gtr]
  congr 2
  rw [Bool.eq_iff_iff]; simp [UInt64.lt_iff_toNat_lt]
@[go_sem] theorem bin_geq_W64 : binOp .geq t (W64 x) (W64 y) = pure (.bool (y ≤ x)) := by
  unfold W64; rw [binOp_geq]
  congr 2
  rw [Bool.eq_iff_iff]; simp [UInt64.le_iff_toNat_le]
def shr64 (x : UInt64) (n : Nat) : UInt64 := if n < 64 then x >>> UInt64.ofNat n else 0
def shl64 (x : UInt64) (n : Nat) : UInt64 := if n < 64 then x <<< UInt64.ofNat n else 0
theorem shr64_toNat (n : Nat) : (shr64 x n).toNat = x.toNat / 2 ^ (min n 64) := by
  unfold shr64
  split
  · rename_i h
    rw [UInt64.toNat_shiftRight, UInt64.toNat_ofNat', Nat.shiftRight_eq_div_pow, Nat.mod_eq_of_lt (show n < 2 ^ 64 by omega), Nat.mod_eq_of_lt h, Nat.min_eq_left (by omega)]
  · rename_i h
    rw [Nat.min_eq_right (by omega)]
    have := x.toNat_lt
    show 0 = _
    rw [Nat.div_eq_of_lt this]
theorem shl64_toNat (n : Nat) : (shl64 x n).toNat = x.toNat * 2 ^ (min n 64) % 18446744073709551616 := by
  unfold shl64
  split
  · rename_i h
    rw [UInt64.toNat_shiftLeft, UInt64.toNat_ofNat', Nat.shiftLeft_eq, Nat.mod_eq_of_lt (show n < 2 ^ 64 by omega), Nat.mod_eq_of_lt h, Nat.min_eq_left (by omega)]
  · rename_i h
    rw [Nat.min_eq_right (by omega)]
    show 0 = x.toNat * 18446744073709551616 % 18446744073709551616
    rw [Nat.mul_mod_left]
theorem bin_shr_W64_nat (yk : IntKind) (n : Nat) : binOp .shr t (W64 x) (.int yk (n : Int)) = pure (W64 (shr64 x n)) := by
  unfold W64; rw [binOp_shr]
  simp only [Op.shift]
  rw [if_neg (by omega)]
  simp only [Int.toNat_natCast, IntKind.bits]
  congr 2
  rw [shr64_toNat, Int.fdiv_eq_ediv_of_nonneg _ (Int.pow_nonneg (by decide))]
  simp
theorem bin_shl_W64_nat (yk : IntKind) (n : Nat) : binOp .shl t (W64 x) (.int yk (n : Int)) = pure (W64 (shl64 x n)) := by
  unfold W64; rw [binOp_shl]
  simp only [Op.shift]
  rw [if_neg (by omega)]
  simp only [Int.toNat_natCast, IntKind.bits]
  congr 2
  rw [shl64_toNat, wrapP_u64]
  simp
@[go_sem low] theorem bin_shr_W64_i64 (n : Int) (h : 0 ≤ n) : binOp .shr t (W64 x) (.int .i64 n) = pure (W64 (shr64 x n.toNat)) := by
  obtain ⟨n, rfl⟩ := Int.eq_ofNat_of_zero_le h
  exact bin_shr_W64_nat t x .i64 n
@[go_sem low] theorem bin_shl_W64_i64 (n : Int) (h : 0 ≤ n) : binOp .shl t (W64 x) (.int .i64 n) = pure (W64 (shl64 x n.toNat)) := by
  obtain ⟨n, rfl⟩ := Int.eq_ofNat_of_zero_le h
  exact bin_shl_W64_nat t x .i64 n
@[go_sem high] theorem bin_shr_W64_lit (k : Nat) (h : k < 64) : binOp .shr t (W64 x) (.int .u64 (no_index (OfNat.ofNat k))) = pure (W64 (x >>> OfNat.ofNat k)) := by
  have := bin_shr_W64_nat t x .u64 k
  rw [shr64, if_pos h] at this
  exact this
@[go_sem] theorem bin_shr_W64_u64 (n : UInt64) (h : n < 64) : binOp .shr t (W64 x) (W64 n) = pure (W64 (x >>> UInt64.ofNat n.toNat)) := by
  have hn : n.toNat < 64 := UInt64.lt_iff_toNat_lt.1 h
  rw [show W64 n = Value.int .u64 (n.toNat : Int) from rfl, bin_shr_W64_nat, shr64, if_pos hn]
@[go_sem high] theorem bin_shl_W64_lit (k : Nat) (h : k < 64) : binOp .shl t (W64 x) (.int .u64 (no_index (OfNat.ofNat k))) = pure (W64 (x <<< OfNat.ofNat k)) := by
  have := bin_shl_W64_nat t x .u64 k
  rw [shl64, if_pos h] at this
  exact this
@[go_sem] theorem bin_shl_W64_u64 (n : UInt64) (h : n < 64) : binOp .shl t (W64 x) (W64 n) = pure (W64 (x <<< UInt64.ofNat n.toNat)) := by
  have hn : n.toNat < 64 := UInt64.lt_iff_toNat_lt.1 h
  rw [show W64 n = Value.int .u64 (n.toNat : Int) from rfl, bin_shl_W64_nat, shl64, if_pos hn]
end
section
variable (op : BinOp) (t : TypeId) (k : Nat)
@[go_sem] theorem bin_lit8_r (x : UInt8) (h : k < 256) : binOp op t (B8 x) (.int .u8 (no_index (OfNat.ofNat k))) = binOp op t (B8 x) (B8 (OfNat.ofNat k)) := by rw [lit8 k h]
@[go_sem] theorem bin_lit8_l (x : UInt8) (h : k < 256) : binOp op t (.int .u8 (no_index (OfNat.ofNat k))) (B8 x) = binOp op t (B8 (OfNat.ofNat k)) (B8 x) := by rw [lit8 k h]
@[go_sem] theorem bin_lit32_r (x : UInt32) (h : k < 4294967296) : binOp op t (W32 x) (.int .u32 (no_index (OfNat.ofNat k))) = binOp op t (W32 x) (W32 (OfNat.ofNat k)) := by rw [lit32 k h]
@[go_sem] theorem bin_lit32_l (x : UInt32) (h : k < 4294967296) : binOp op t (.int .u32 (no_index (OfNat.ofNat k))) (W32 x) = binOp op t (W32 (OfNat.ofNat k)) (W32 x) := by rw [lit32 k h]
@[go_sem] theorem bin_lit64_r (x : UInt64) (h : k < 18446744073709551616) : binOp op t (W64 x) (.int .u64 (no_index (OfNat.ofNat k))) = binOp op t (W64 x) (W64 (OfNat.ofNat k)) := by rw [lit64 k h]
@[go_sem] theorem bin_lit64_l (x : UInt64) (h : k < 18446744073709551616) : binOp op t (.int .u64 (no_index (OfNat.ofNat k))) (W64 x) = binOp op t (W64 (OfNat.ofNat k)) (W64 x) := by rw [lit64 k h]
end
def ofB8 : IntKind → UInt8 → Value
  | .u8, x => B8 x
  | .u32, x => W32 x.toUInt32
  | .u64, x => W64 x.toUInt64
  | k, x => .int k (k.wrap x.toNat)
def ofW32 : IntKind → UInt32 → Value
  | .u8, x => B8 x.toUInt8
  | .u32, x => W32 x
  | .u64, x => W64 x.toUInt64
  | k, x => .int k (k.wrap x.toNat)
def ofW64 : IntKind → UInt64 → Value
  | .u8, x => B8 x.toUInt8
  | .u32, x => W32 x.toUInt32
  | .u64, x => W64 x
  | k, x => .int k (k.wrap x.toNat)
def ofI64 : IntKind → Int → Value
  | .u8, n => B8 (UInt8.ofInt n)
  | .u32, n => W32 (UInt32.ofInt n)
  | .u64, n => W64 (UInt64.ofInt n)
  | k, n => .int k (k.wrap n)
section
variable {P : Program} (w : World) (src dst : TypeId)
@[go_sem] theorem ofB8_u8 (x : UInt8) : ofB8 .u8 x = B8 x := rfl
@[go_sem] theorem ofB8_u32 (x : UInt8) : ofB8 .u32 x = W32 x.toUInt32 := rfl
@[go_sem] theorem ofB8_u64 (x : UInt8) : ofB8 .u64 x = W64 x.toUInt64 := rfl
@[go_sem] theorem ofB8_i64 (x : UInt8) : ofB8 .i64 x = .int .i64 x.toNat := by
  show Value.int .i64 (IntKind.i64.wrap _) = _
  have := x.toNat_lt
  rw [wrapP_i64]
  refine congrArg (Value.int .i64) ?_
  omega
@[go_sem] theorem ofW32_u8 (x : UInt32) : ofW32 .u8 x = B8 x.toUInt8 := rfl
@[go_sem] theorem ofW32_u32 (x : UInt32) : ofW32 .u32 x = W32 x := rfl
@[go_sem] theorem ofW32_u64 (x : UInt32) : ofW32 .u64 x = W64 x.toUInt64 := rfl
@[go_sem] theorem ofW32_i64 (x : UInt32) : ofW32 .i64 x = .int .i64 x.toNat := by
  show Value.int .i64 (IntKind.i64.wrap _) = _
  have := x.toNat_lt
  rw [wrapP_i64]
  refine congrArg (Value.int .i64) ?_
  omega
@[go_sem] theorem ofW64_u8 (x : UInt64) : ofW64 .u8 x = B8 x.toUInt8 := rfl
@[go_sem] theorem ofW64_u32 (x : UInt64) : ofW64 .u32 x = W32 x.toUInt32 := rfl
@[go_sem] theorem ofW64_u64 (x : UInt64) : ofW64 .u64 x = W64 x := rfl
@[go_sem] theorem ofW64_i64 (x : UInt64) : ofW64 .i64 x = .int .i64 x.toInt64.toInt := by
  show Value.int .i64 (IntKind.i64.wrap _) = _
  rw [wrapP_i64]
  refine congrArg (Value.int .i64) ?_
  show _ = x.toBitVec.toInt
  rw [BitVec.toInt_eq_toNat_bmod]
  show ((x.toNat : Int) + 9223372036854775808) % 18446744073709551616 - 9223372036854775808 = (x.toNat : Int).bmod 18446744073709551616
  have := x.toNat_lt
  have hx : (x.toNat : Int) % ((18446744073709551616 : Nat) : Int) = x.toNat := by omega
  by_cases h : (x.toNat : Int) < 9223372036854775808
  · rw [Int.bmod, hx]
    rw [if_pos (by omega)]
    omega
  · rw [Int.bmod, hx]
    rw [if_neg (by omega)]
    omega
@[go_sem] theorem ofI64_u8 (n : Int) : ofI64 .u8 n = B8 (UInt8.ofInt n) := rfl
@[go_sem] theorem ofI64_u32 (n : Int) : ofI64 .u32 n = W32 (UInt32.ofInt n) := rfl
@[go_sem] theorem ofI64_u64 (n : Int) : ofI64 .u64 n = W64 (UInt64.ofInt n) := rfl
@[go_sem] theorem ofI64_i64 (n : Int) : ofI64 .i64 n = .int .i64 (IntKind.i64.wrap n) := rfl
@[go_sem] theorem ofI64_i32 (n : Int) : ofI64 .i32 n = .int .i32 (IntKind.i32.wrap n) := rfl
theorem wrapB8 (n : Int) : Value.int .u8 (IntKind.u8.wrap n) = B8 (UInt8.ofInt n) := by
  unfold B8
  congr 1
  rw [wrapP_u8]
  rw [show UInt8.ofInt n = UInt8.ofNat (n % 256).toNat from rfl, UInt8.toNat_ofNat']
  omega
theorem wrapW32 (n : Int) : Value.int .u32 (IntKind.u32.wrap n) = W32 (UInt32.ofInt n) := by
  unfold W32
  congr 1
  rw [wrapP_u32]
  rw [show UInt32.ofInt n = UInt32.ofNat (n % 4294967296).toNat from rfl, UInt32.toNat_ofNat']
  omega
theorem wrapW64 (n : Int) : Value.int .u64 (IntKind.u64.wrap n) = W64 (UInt64.ofInt n) := by
  unfold W64
  congr 1
  rw [wrapP_u64]
  rw [show UInt64.ofInt n = UInt64.ofNat (n % 18446744073709551616).toNat from rfl, UInt64.toNat_ofNat']
  omega
theorem ofInt8_nat (n : Nat) : UInt8.ofInt (n : Int) = UInt8.ofNat n := by
  apply UInt8.toNat_inj.1
  rw [show UInt8.ofInt n = UInt8.ofNat ((n : Int) % 256).toNat from rfl, UInt8.toNat_ofNat', UInt8.toNat_ofNat']
  omega
theorem ofInt32_nat (n : Nat) : UInt32.ofInt (n : Int) = UInt32.ofNat n := by
  apply UInt32.toNat_inj.1
  rw [show UInt32.ofInt n = UInt32.ofNat ((n : Int) % 4294967296).toNat from rfl, UInt32.toNat_ofNat', UInt32.toNat_ofNat']
  omega
theorem ofInt64_nat (n : Nat) : UInt64.ofInt (n : Int) = UInt64.ofNat n := by
  apply UInt64.toNat_inj.1
  rw [show UInt64.ofInt n = UInt64.ofNat ((n : Int) % 18446744073709551616).toNat from rfl, UInt64.toNat_ofNat', UInt64.toNat_ofNat']
  omega
@[go_sem high] theorem run_convert_B8 (x : UInt8) (hs : (P.underlying src).isSome = true) (hd : P.underlying dst = some (.int (P.intKind dst))) :
    (convert src dst (B8 x)).run P w = .ok (ofB8 (P.intKind dst) x) w := by
  rw [show B8 x = Value.int .u8 (x.toNat : Int) from rfl, run_convert_int w src dst .u8 _ hs hd]
  cases P.intKind dst
  all_goals first
    | rfl
    | (show Result.ok (Value.int .u8 (IntKind.u8.wrap _)) w = _
       rw [wrapB8, ofInt8_nat]; congr 2; simp; done)
    | (show Result.ok (Value.int .u32 (IntKind.u32.wrap _)) w = _
       rw [wrapW32, ofInt32_nat]; congr 2; simp; done)
    | (show Result.ok (Value.int .u64 (IntKind.u64.wrap _)) w = _
       rw [wrapW64, ofInt64_nat]; congr 2; simp; done)
@[go_sem high] theorem run_convert_W32 (x : UInt32) (hs : (P.underlying src).isSome = true) (hd : P.underlying dst = some (.int (P.intKind dst))) :
    (convert src dst (W32 x)).run P w = .ok (ofW32 (P.intKind dst) x) w := by
  rw [show W32 x = Value.int .u32 (x.toNat : Int) from rfl, run_convert_int w src dst .u32 _ hs hd]
  cases P.intKind dst
  all_goals first
    | rfl
    | (show Result.ok (Value.int .u8 (IntKind.u8.wrap _)) w = _
       rw [wrapB8, ofInt8_nat]; congr 2; simp; done)
    | (show Result.ok (Value.int .u32 (IntKind.u32.wrap _)) w = _
       rw [wrapW32, ofInt32_nat]; congr 2; simp; done)
    | (show Result.ok (Value.int .u64 (IntKind.u64.wrap _)) w = _
       rw [wrapW64, ofInt64_nat]; congr 2; simp; done)
@[go_sem high] theorem run_convert_W64 (x : UInt64) (hs : (P.underlying src).isSome = true) (hd : P.underlying dst = some (.int (P.intKind dst))) :
    (convert src dst (W64 x)).run P w = .ok (ofW64 (P.intKind dst) x) w := by
  rw [show W64 x = Value.int .u64 (x.toNat : Int) from rfl, run_convert_int w src dst .u64 _ hs hd]
  cases P.intKind dst
  all_goals first
    | rfl
    | (show Result.ok (Value.int .u8 (IntKind.u8.wrap _)) w = _
       rw [wrapB8, ofInt8_nat]; congr 2; simp; done)
    | (show Result.ok (Value.int .u32 (IntKind.u32.wrap _)) w = _
       rw [wrapW32, ofInt32_nat]; congr 2; simp; done)
    | (show Result.ok (Value.int .u64 (IntKind.u64.wrap _)) w = _
       rw [wrapW64, ofInt64_nat]; congr 2; simp; done)
@[go_sem high] theorem run_convert_i64 (n : Int) (hs : (P.underlying src).isSome = true) (hd : P.underlying dst = some (.int (P.intKind dst))) :
    (convert src dst (.int .i64 n)).run P w = .ok (ofI64 (P.intKind dst) n) w := by
  rw [run_convert_int w src dst .i64 _ hs hd]
  cases P.intKind dst
  all_goals first
    | rfl
    | (show Result.ok (Value.int .u8 (IntKind.u8.wrap _)) w = _
       rw [wrapB8]; rfl; done)
    | (show Result.ok (Value.int .u32 (IntKind.u32.wrap _)) w = _
       rw [wrapW32]; rfl; done)
    | (show Result.ok (Value.int .u64 (IntKind.u64.wrap _)) w = _
       rw [wrapW64]; rfl; done)
end
end Go.PK
namespace Go.PK
open Go.RowKit
def Bytes (w : World) (v : Value) (l : List UInt8) : Prop :=
  ∃ ao cap, v = .slice ao l.length cap ∧ l.length ≤ cap ∧ cap ≤ 9223372036854775807 ∧ (ao = none → cap = 0) ∧
    ∀ j, j < l.length → ∃ b off, ao = some ⟨b, off, none⟩ ∧ b < w.heap.size ∧ w.cell? ⟨b, off + j, none⟩ = some (B8 (l.getD j 0))
theorem Bytes.nil (w : World) : Bytes w (.slice none 0 0) [] := ⟨none, 0, rfl, Nat.le_refl _, by omega, fun _ => rfl, fun _ h => by cases h⟩
theorem cell_below {w w' : World} {B : Nat} (hb : Below B w w') {a : Addr} (h : a.block < B) : w'.cell? a = w.cell? a := hb.cell h
theorem Bytes.below {w w' : World} {v : Value} {l : List UInt8} {B : Nat} (h : Bytes w v l) (hb : Below B w w') (hB : w.heap.size ≤ B) : Bytes w' v l := by
  obtain ⟨ao, cap, hv, h1, h2, h3, h4⟩ := h
  refine ⟨ao, cap, hv, h1, h2, h3, fun j hj => ?_⟩
  obtain ⟨b, off, g1, g2, g3⟩ := h4 j hj
  refine ⟨b, off, g1, Nat.lt_of_lt_of_le g2 hb.size, ?_⟩
  rw [cell_below hb (by show b < B; omega)]
  exact g3
theorem Bytes.form {w : World} {ao : Option Addr} {n cap : Nat} {l : List UInt8} (h : Bytes w (.slice ao n cap) l) : n = l.length ∧ n ≤ cap ∧ cap ≤ 9223372036854775807 := by
  obtain ⟨ao', cap', hv, h1, h2, h3, h4⟩ := h
  cases hv
  exact ⟨rfl, h1, h2⟩
theorem Bytes.at {w : World} {ao : Option Addr} {n cap : Nat} {l : List UInt8} (h : Bytes w (.slice ao n cap) l) {k : Nat} (hk : k < l.length) :
    ∃ b off, ao = some ⟨b, off, none⟩ ∧ b < w.heap.size ∧ w.cell? ⟨b, off + k, none⟩ = some (B8 (l.getD k 0)) := by
  obtain ⟨ao', cap', hv, h1, h2, h3, h4⟩ := h
  cases hv
  exact h4 k hk
theorem Bytes.sub {w : World} {ao : Option Addr} {n cap : Nat} {l : List UInt8} (h : Bytes w (.slice ao n cap) l) {lo hi mx : Nat} (h1 : lo ≤ hi) (h2 : hi ≤ l.length) (h3 : hi ≤ mx) (h4 : mx ≤ cap) :
    Bytes w (.slice (if mx = lo then ao else ao.map (fun x => x.add (lo * 1))) (hi - lo) (mx - lo)) ((l.drop lo).take (hi - lo)) := by
  obtain ⟨ao', cap', hv, e1, e2, e3, e4⟩ := h
  cases hv
  have hl : ((l.drop lo).take (hi - lo)).length = hi - lo := by simp; omega
  refine ⟨if mx = lo then ao else ao.map (fun x => x.add (lo * 1)), mx - lo, by rw [hl], by rw [hl]; omega, by omega, ?_, ?_⟩
  · intro ha
    by_cases hm : mx = lo
    · omega
    · rw [if_neg hm] at ha
      have : ao = none := by simpa using ha
      have := e3 this
      omega
  · intro j hj
    rw [hl] at hj
    rw [if_neg (by omega)]
    obtain ⟨b, off, rfl, g2, g3⟩ := e4 (lo + j) (by omega)
    refine ⟨b, off + lo, by simp only [Option.map_some, Addr.add_lit, Nat.mul_one], g2, ?_⟩
    rw [show off + lo + j = off + (lo + j) from by omega, g3]
    congr 2
    rw [List.getD_eq_getElem?_getD, List.getD_eq_getElem?_getD, List.getElem?_take, if_pos hj, List.getElem?_drop]
theorem cell_row {w : World} {g : Nat} {cs : Array Value} {t : TypeId} {fr : Nat × Nat} (hg : w.heap[g]? = some (.cells cs t fr)) (j : Nat) : w.cell? ⟨g, j, none⟩ = cs[j]? := cell_of_row w g j cs t fr hg
theorem Bytes.of_block {w : World} {g off cap : Nat} {t : TypeId} {fr : Nat × Nat} {cs : Array Value} {l : List UInt8} (hg : w.heap[g]? = some (.cells cs t fr))
    (h : ∀ j, j < l.length → cs[off + j]? = some (B8 (l.getD j 0))) (h1 : l.length ≤ cap) (h2 : cap ≤ 9223372036854775807) : Bytes w (.slice (some ⟨g, off, none⟩) l.length cap) l :=
  ⟨some ⟨g, off, none⟩, cap, rfl, h1, h2, (fun h => by cases h), fun j hj =>
    ⟨g, off, rfl, (Array.getElem?_eq_some_iff.1 hg).1, by rw [cell_row hg]; exact h j hj⟩⟩
theorem block_below {w w' : World} {B g : Nat} {o : Obj} (hb : Below B w w') (h : w.heap[g]? = some o) (hB : g < B) : w'.heap[g]? = some o := by
  rw [hb.block g hB]; exact h
theorem madeCells_one (z : Value) (n : Nat) : madeCells #[z] n = (List.replicate n z).toArray := by
  unfold madeCells
  apply Array.ext
  · simp
  · intro i h1 h2
    simp [Nat.mod_one]
theorem wpList_make_one {P : Program} {w : World} {ops : Array Oper} {rest : List Oper} {o : Oper} {a : Act} {Q : Exit → Act → World → Prop}
    (hg : o.guard = none) (l c : Operand) (t : TypeId) (hop : o.op = Op.makeSlice t l c) (e : TypeId) (z : Value) (bytes : Nat) (h1 : P.underlying t = some (.slice e))
    (h2 : (P.info? e).map (fun i => (i.zero, i.size, i.bytes)) = some (some z, 1, bytes)) (hz : z.cells = #[z])
    (n m : Nat) (hl : a.eval l = .int .i64 (n : Int)) (hc : a.eval c = .int .i64 (m : Int)) (hnm : n ≤ m) (hm : bytes * m ≤ 281474976710656) (hm' : m ≤ 9223372036854775807)
    (hK : wpList P ops Q rest (a.put o.dst (.slice (some ⟨w.heap.size, 0, none⟩) n m)) (w.alloc (.cells (List.replicate m z).toArray e))) : wpList P ops Q (o :: rest) a w := by
  refine wpList_plain hg fun K hK' => ?_
  obtain ⟨i, hi, hz0, hz1, hz2⟩ := info_parts h2
  have hb : (i.bytes : Int) * (m : Int) ≤ 281474976710656 := by
    rw [hz2]
    have : ((bytes * m : Nat) : Int) ≤ 281474976710656 := by omega
    rwa [Int.natCast_mul] at this
  have hrun := run_make (P := P) w t e i z h1 hi hz0 .i64 .i64 n m (by omega) (by omega) hb (by omega)
  rw [hz1, hz, Nat.mul_one, Int.toNat_natCast, Int.toNat_natCast, madeCells_one] at hrun
  unfold Oper.wp
  simp only [execOp, hop, hl, hc, hrun, Sem.run_bind, Result.andThen]
  exact hK' _ _ hK
theorem get_map_B8 (l : List UInt8) (j : Nat) : ((l.map B8).toArray)[j]? = (l[j]?).map B8 := by simp
theorem set_map_B8 (l : List UInt8) (j : Nat) (x : UInt8) : ((l.map B8).toArray).setIfInBounds j (B8 x) = ((l.set j x).map B8).toArray := by
  rw [List.setIfInBounds_toArray, List.map_set]
def RowB (w : World) (b : Nat) (t : TypeId) (l : List UInt8) : Prop := w.heap[b]? = some (.cells (l.map B8).toArray t)
theorem RowB.cell {w : World} {b : Nat} {t : TypeId} {l : List UInt8} (h : RowB w b t l) {j : Nat} (hj : j < l.length) : w.cell? ⟨b, j, none⟩ = some (B8 (l.getD j 0)) := by
  rw [cell_row h, get_map_B8, List.getElem?_eq_getElem hj, List.getD_eq_getElem?_getD, List.getElem?_eq_getElem hj]
  rfl
theorem RowB.free {w : World} {b : Nat} {t : TypeId} {l : List UInt8} (h : RowB w b t l) (j : Nat) : w.frozen? ⟨b, j, none⟩ = false := frozen_of_row w b j _ _ h
theorem RowB.set {w : World} {b : Nat} {t : TypeId} {l : List UInt8} (h : RowB w b t l) (j : Nat) (x : UInt8) : RowB (w.setCell ⟨b, j, none⟩ (B8 x)) b t (l.set j x) := by
  unfold RowB
  rw [heap_setCell_same w b j _ _ _ h, set_map_B8]
theorem RowB.below {w w' : World} {b B : Nat} {t : TypeId} {l : List UInt8} (h : RowB w b t l) (hb : Below B w w') (hB : b < B) : RowB w' b t l := block_below hb h hB
theorem RowB.lt {w : World} {b : Nat} {t : TypeId} {l : List UInt8} (h : RowB w b t l) : b < w.heap.size := (Array.getElem?_eq_some_iff.1 h).1
theorem RowB.new (w : World) (t : TypeId) (n : Nat) : RowB (w.alloc (.cells (List.replicate n (B8 0)).toArray t)) w.heap.size t (List.replicate n 0) := by
  unfold RowB
  rw [List.map_replicate]
  exact heap_alloc_new w _
theorem RowB.other {w : World} {b c j : Nat} {t : TypeId} {l : List UInt8} (h : RowB w b t l) (hc : b ≠ c) (v : Value) : RowB (w.setCell ⟨c, j, none⟩ v) b t l := by
  unfold RowB
  rw [heap_setCell_other w ⟨c, j, none⟩ b v hc]
  exact h
theorem RowB.drew {w : World} {b : Nat} {t : TypeId} {l : List UInt8} (h : RowB w b t l) : RowB w.drew b t l := h
theorem RowB.owns {w : World} {b base : Nat} {t : TypeId} {l : List UInt8} (h : RowB w b t l) (hb : base ≤ b) (hl : l.length ≤ 9223372036854775807) : w.ownsRow base t 1 (.slice (some ⟨b, 0, none⟩) l.length l.length) l.length (l.map B8) :=
  ⟨by simp, .inr ⟨b, l.length, _, rfl, hb, h, Nat.le_refl _, by simpa [maxLen] using hl, by simp, by simp [List.take_of_length_le]⟩⟩
theorem RowB.bytes {w : World} {b : Nat} {t : TypeId} {l : List UInt8} (h : RowB w b t l) {off n cap : Nat} (h1 : off + n ≤ l.length) (h2 : n ≤ cap) (h3 : cap ≤ 9223372036854775807) :
    Bytes w (.slice (some ⟨b, off, none⟩) n cap) ((l.drop off).take n) := by
  have hl : ((l.drop off).take n).length = n := by simp; omega
  have := Bytes.of_block (w := w) (g := b) (off := off) (cap := cap) (l := (l.drop off).take n) h (fun j hj => by
    rw [hl] at hj
    rw [get_map_B8, List.getD_eq_getElem?_getD, List.getElem?_take, if_pos hj, List.getElem?_drop, List.getElem?_eq_getElem (show off + j < l.length by omega)]
    rfl) (by omega) h3
  rwa [hl] at this
theorem Bytes.pre {w : World} {ao : Option Addr} {n cap : Nat} {l : List UInt8} (h : Bytes w (.slice ao n cap) l) {hi mx : Nat} (h2 : hi ≤ l.length) (h3 : hi ≤ mx) (h4 : mx ≤ cap) :
    Bytes w (.slice ao hi mx) (l.take hi) := by
  obtain ⟨ao', cap', hv, e1, e2, e3, e4⟩ := h
  cases hv
  have hl : (l.take hi).length = hi := by simp; omega
  refine ⟨ao, mx, by rw [hl], by rw [hl]; omega, by omega, fun ha => ?_, fun j hj => ?_⟩
  · have := e3 ha; omega
  · rw [hl] at hj
    obtain ⟨b, off, g1, g2, g3⟩ := e4 j (by omega)
    refine ⟨b, off, g1, g2, ?_⟩
    rw [g3, List.getD_eq_getElem?_getD, List.getD_eq_getElem?_getD, List.getElem?_take, if_pos hj]
theorem Bytes.one (w : World) (t : TypeId) (c : UInt8) : Bytes (w.alloc (.cells #[B8 c] t)) (.slice (some ⟨w.heap.size, 0, none⟩) 1 1) [c] := by
  refine Bytes.of_block (l := [c]) (heap_alloc_new w _) (fun j hj => ?_) (by simp) (by omega)
  have : j = 0 := by simpa using hj
  subst this
  rfl
theorem foldl_push_B8 : ∀ (l : List UInt8) (s : ByteArray), (l.map fun c => (c.toNat : Int)).foldl (fun r n => r.push (UInt8.ofNat n.toNat)) s = ⟨s.data ++ l.toArray⟩
  | [], s => by simp
  | c :: l, s => by
    rw [List.map_cons, List.foldl_cons, foldl_push_B8 l]
    simp [ByteArray.push]
theorem run_str {P : Program} {w : World} {v : Value} {l : List UInt8} (src dst e : TypeId) (hs : P.underlying src = some (.slice e)) (he : P.underlying e = some (.int .u8)) (hd : P.underlying dst = some .string)
    (h : Bytes w v l) : (convert src dst v).run P w = .ok (.string ⟨l.toArray⟩) w := by
  obtain ⟨ao, cap, rfl, e1, e2, e3, e4⟩ := h
  cases ao with
  | none =>
    have hc := e3 rfl
    have hl : l = [] := List.eq_nil_of_length_eq_zero (by omega)
    subst hl
    rw [run_convert_bytes_string w src dst e none _ _ hs he hd]
    rfl
  | some a =>
    rw [run_convert_bytes_string w src dst e _ _ _ hs he hd]
    have hl : (loadCells a l.length).run P w = .ok ((l.map fun c => (c.toNat : Int)).map (Value.int .u8)).toArray w := by
      have := run_loadCells_list (P := P) w a (l.map B8) (fun j v hv => by
        have hj : j < l.length := by simpa using (List.getElem?_eq_some_iff.1 hv).1
        obtain ⟨b, off, he, -, g3⟩ := e4 j hj
        cases he
        rw [Addr.add_lit, g3, ← hv, List.getElem?_map, List.getElem?_eq_getElem hj, List.getD_eq_getElem?_getD, List.getElem?_eq_getElem hj]
        rfl)
      rw [List.length_map] at this
      rw [this, List.map_map]
      rfl
    rw [run_bytesToString (P := P) w a l.length cap _ hl, foldl_push_B8]
    simp
theorem Bytes.new (w : World) (t : TypeId) (C : Array Value) (l : List UInt8) (h : C = (l.map B8).toArray) (hl : l.length ≤ 9223372036854775807) : Bytes (w.alloc (.cells C t)) (.slice (some ⟨w.heap.size, 0, none⟩) l.length l.length) l := by
  subst h
  refine Bytes.of_block (heap_alloc_new w _) (fun j hj => ?_) (Nat.le_refl _) hl
  rw [get_map_B8, Nat.zero_add, List.getElem?_eq_getElem hj, List.getD_eq_getElem?_getD, List.getElem?_eq_getElem hj]
  rfl
end Go.PK
namespace Go.PK
open Go.RowKit
def upd (vals : Nat → Value) (k : Nat) (v : Value) : Nat → Value := fun j => if j = k then v else vals j
section
variable {P : Program} {Q : Exit → Act → World → Prop}
def unlisted (listed : Array Bool) : Nat := listed.toList.countP (! ·)
theorem unlisted_set {listed : Array Bool} {i : Nat} (h : listed[i]? = some false) : unlisted (listed.setIfInBounds i true) + 1 = unlisted listed := by
  unfold unlisted
  rw [Array.toList_setIfInBounds]
  have h' : listed.toList[i]? = some false := by rw [Array.getElem?_toList]; exact h
  generalize listed.toList = l at *
  clear h
  induction l generalizing i with
  | nil => simp at h'
  | cons b l ih =>
    cases i with
    | zero =>
      simp at h'
      subst h'
      simp
    | succ i =>
      simp at h'
      rw [List.set_cons_succ, List.countP_cons, List.countP_cons]
      have := ih (i := i) (by simpa using h')
      omega
theorem unlisted_zero {listed : Array Bool} (h : unlisted listed = 0) (i : Nat) : listed.getD i true = true := by
  unfold unlisted at h
  rw [List.countP_eq_zero] at h
  by_cases hi : i < listed.size
  · have := h listed[i] (by simp)
    simpa [Array.getD, hi] using this
  · simp [Array.getD, hi]
theorem mem_ready {md : Region.Mode} {ops : Array Oper} {listed : Array Bool} {i : Nat} (h : i ∈ Region.ready md ops listed) :
    listed.getD i true = false ∧ ∃ o, ops[i]? = some o ∧ ∀ e ∈ o.after.toList, Region.binds md e = true → listed.getD e.on false = true := by
  unfold Region.ready at h
  rw [List.mem_filter] at h
  obtain ⟨h1, h2⟩ := h
  rw [Bool.and_eq_true] at h2
  obtain ⟨h2, h3⟩ := h2
  refine ⟨by simpa using h2, ?_⟩
  cases ho : ops[i]? with
  | none => simp [ho] at h3
  | some o =>
    refine ⟨o, rfl, fun e he hb => ?_⟩
    rw [ho] at h3
    simp only [Option.map_some, Option.getD_some] at h3
    rw [Array.all_eq_true'] at h3
    have := h3 e (Array.mem_toList_iff.1 he)
    rw [hb] at this
    simpa using this
theorem wpAny_inv {md : Region.Mode} {ops : Array Oper} (I : Array Bool → Act → World → Prop)
    (hend : ∀ listed a w, I listed a w → Region.ready md ops listed = [] → Q .normal a w)
    (hstep : ∀ listed a w i, I listed a w → i ∈ Region.ready md ops listed → wpOp P ops Q i (I (listed.setIfInBounds i true)) a w) :
    ∀ (fuel : Nat) (listed : Array Bool) (a : Act) (w : World), unlisted listed ≤ fuel → I listed a w → wpAny P md ops Q fuel listed a w := by
  intro fuel
  induction fuel with
  | zero =>
    intro listed a w hf hI
    have hr : Region.ready md ops listed = [] := by
      apply List.eq_nil_iff_forall_not_mem.2
      intro i hi
      have := (mem_ready hi).1
      rw [unlisted_zero (by omega)] at this
      cases this
    exact ⟨hr, hend _ _ _ hI hr⟩
  | succ fuel ih =>
    intro listed a w hf hI
    refine ⟨fun hr => hend _ _ _ hI hr, fun i hi => ?_⟩
    refine wpOp_mono (fun a' w' hI' => ih _ a' w' ?_ hI') (hstep listed a w i hI hi)
    have h1 := (mem_ready hi).1
    have h2 : listed[i]? = some false := by
      by_cases hs : i < listed.size
      · simp [Array.getD, hs] at h1
        simp [hs, h1]
      · simp [Array.getD, hs] at h1
    have := unlisted_set h2
    omega
def bound (o : Oper) : List Nat := (o.after.toList.filter (Region.binds .any)).map (·.on)
def aheadOk (ops : List Oper) (D : List (List Nat)) : Bool :=
  ops.zipIdx.all fun (o, i) => (bound o).all (· < i) && (D.getD i []).all fun j => (bound o).contains j || (bound o).any fun k => (D.getD k []).contains j
def Shows (P : Program) (ops : Array Oper) (Q : Exit → Act → World → Prop) (fr : (Nat → Value) → (Nat → Value) → Act) (X : (Nat → Value) → Prop) (R : World → World → Prop) (C : World → Prop) (Φs : List (Value → World → Prop)) (D : List (List Nat)) :
    Nat → List Oper → Prop
  | _, [] => True
  | k, o :: rest =>
    ((∀ c vals v, (fr c vals).put o.dst v = fr c (upd vals k v)) ∧
     ∀ c, X c → ∀ vals w, C w → (∀ j, (D.getD k []).contains j = true → Φs.getD j (fun _ _ => True) (vals j) w) →
      ∀ K : Act → World → Prop, (∀ v w', R w w' → Φs.getD k (fun _ _ => True) v w' → K (fr c (upd vals k v)) w') →
       if Region.wanted o (yielded ops (fr c vals).tmps) = true then o.wp P (fr c vals) w K Q else K ((fr c vals).put o.dst undef) w) ∧
    Shows P ops Q fr X R C Φs D (k + 1) rest
theorem Shows.get {ops : Array Oper} {fr : (Nat → Value) → (Nat → Value) → Act} {X : (Nat → Value) → Prop} {R : World → World → Prop} {C : World → Prop} {Φs : List (Value → World → Prop)} {D : List (List Nat)} :
    ∀ (l : List Oper) (k : Nat), Shows P ops Q fr X R C Φs D k l → ∀ i o, l[i]? = some o →
    ((∀ c vals v, (fr c vals).put o.dst v = fr c (upd vals (k + i) v)) ∧
     ∀ c, X c → ∀ vals w, C w → (∀ j, (D.getD (k + i) []).contains j = true → Φs.getD j (fun _ _ => True) (vals j) w) →
      ∀ K : Act → World → Prop, (∀ v w', R w w' → Φs.getD (k + i) (fun _ _ => True) v w' → K (fr c (upd vals (k + i) v)) w') →
       if Region.wanted o (yielded ops (fr c vals).tmps) = true then o.wp P (fr c vals) w K Q else K ((fr c vals).put o.dst undef) w) := by
  intro l
  induction l with
  | nil => intro k _ i o h; simp at h
  | cons x l ih =>
    intro k h i o hi
    obtain ⟨h1, h2⟩ := h
    cases i with
    | zero =>
      simp at hi
      subst hi
      exact h1
    | succ i =>
      have := ih (k + 1) h2 i o (by simpa using hi)
      rwa [show k + 1 + i = k + (i + 1) from by omega] at this
def RelInv (l : List Oper) (fr : (Nat → Value) → (Nat → Value) → Act) (c : Nat → Value) (C : World → Prop) (Φs : List (Value → World → Prop)) (D : List (List Nat)) (listed : Array Bool) (a : Act) (w' : World) : Prop :=
  listed.size = l.length ∧ C w' ∧ (∃ vals, a = fr c vals ∧ ∀ i, listed[i]? = some true → Φs.getD i (fun _ _ => True) (vals i) w') ∧
    ∀ i o, listed[i]? = some true → l[i]? = some o → (∀ k ∈ bound o, listed[k]? = some true) ∧ ∀ j, (D.getD i []).contains j = true → listed[j]? = some true
theorem tuple_undef : Value.tuple #[] = undef := rfl
abbrev Adds (w w' : World) : Prop := Below w.heap.size w w'
theorem Adds.trans {a b c : World} (h : Adds a b) (k : Adds b c) : Adds a c := Below.trans h (k.mono h.size)
theorem Adds.refl (w : World) : Adds w w := Below.refl _ _
theorem Bytes.adds {w w' : World} {v : Value} {l : List UInt8} (h : Bytes w v l) (hb : Adds w w') : Bytes w' v l := h.below hb (Nat.le_refl _)
def StableAll : List (Value → World → Prop) → Prop
  | [] => True
  | Φ :: rest => (∀ x w w', Φ x w → Adds w w' → Φ x w') ∧ StableAll rest
theorem StableAll.get : ∀ (l : List (Value → World → Prop)), StableAll l → ∀ i x w w', l.getD i (fun _ _ => True) x w → Adds w w' → l.getD i (fun _ _ => True) x w'
  | [], _, i, x, w, w', _, _ => by simp
  | Φ :: rest, h, 0, x, w, w', hx, hb => h.1 x w w' hx hb
  | Φ :: rest, h, i + 1, x, w, w', hx, hb => StableAll.get rest h.2 i x w w' hx hb
theorem wpList_wanted {ops : Array Oper} {rest : List Oper} {o : Oper} {a : Act} {w : World} (hw : Region.wanted o (yielded ops a.tmps) = true) (h : o.wp P a w (wpList P ops Q rest) Q) : wpList P ops Q (o :: rest) a w := by
  unfold wpList
  rw [if_pos hw]
  exact .inl h
theorem wanted_of {ops : Array Oper} {tmps : Array Value} {o oj : Oper} {j : Nat} {want : Bool} {d : Nat} {x : Value} (hg : o.guard = some (j, want)) (hj : ops[j]? = some oj) (hd : oj.dst = some d) (hv : tmps[d]? = some x) (hx : x = .bool want) :
    Region.wanted o (yielded ops tmps) = true := by
  subst hx
  simp [Region.wanted, hg, yielded, hj, hd, hv]
theorem wanted_none {y : Nat → Option Bool} {o : Oper} (hg : o.guard = none) : Region.wanted o y = true := by simp [Region.wanted, hg]
end
end Go.PK
namespace Go.PK
open Go.RowKit
def Row (w : World) (b : Nat) (t : TypeId) (L : List Value) : Prop := w.heap[b]? = some (.cells L.toArray t)
theorem Row.lt {w : World} {b : Nat} {t : TypeId} {L : List Value} (h : Row w b t L) : b < w.heap.size := (Array.getElem?_eq_some_iff.1 h).1
theorem Row.cell? {w : World} {b : Nat} {t : TypeId} {L : List Value} (h : Row w b t L) (j : Nat) : w.cell? ⟨b, j, none⟩ = L[j]? := by
  rw [cell_row h, List.getElem?_toArray]
theorem Row.cell {w : World} {b : Nat} {t : TypeId} {L : List Value} (h : Row w b t L) {j : Nat} {v : Value} (hj : L[j]? = some v) : w.cell? ⟨b, j, none⟩ = some v := by
  rw [h.cell?, hj]
theorem Row.at {α : Type} {f : α → Value} {w : World} {b : Nat} {t : TypeId} {l : List α} (h : Row w b t (l.map f)) {j : Nat} (hj : j < l.length) (d : α) : w.cell? ⟨b, j, none⟩ = some (f (l.getD j d)) := by
  rw [h.cell?, List.getElem?_map, List.getElem?_eq_getElem hj, List.getD_eq_getElem?_getD, List.getElem?_eq_getElem hj]
  rfl
theorem Row.free {w : World} {b : Nat} {t : TypeId} {L : List Value} (h : Row w b t L) (j : Nat) : w.frozen? ⟨b, j, none⟩ = false := frozen_of_row w b j _ _ h
theorem Row.set {w : World} {b : Nat} {t : TypeId} {L : List Value} (h : Row w b t L) (j : Nat) (v : Value) : Row (w.setCell ⟨b, j, none⟩ v) b t (L.set j v) := by
  unfold Row
  rw [heap_setCell_same w b j _ _ _ h, List.setIfInBounds_toArray]
theorem Row.other {w : World} {b c j : Nat} {t : TypeId} {L : List Value} (h : Row w b t L) (hc : b ≠ c) (v : Value) : Row (w.setCell ⟨c, j, none⟩ v) b t L := by
  unfold Row
  rw [heap_setCell_other w ⟨c, j, none⟩ b v hc]
  exact h
theorem Row.below {w w' : World} {b B : Nat} {t : TypeId} {L : List Value} (h : Row w b t L) (hb : Below B w w') (hB : b < B) : Row w' b t L := block_below hb h hB
theorem Row.adds {w w' : World} {b : Nat} {t : TypeId} {L : List Value} (h : Row w b t L) (hb : Adds w w') : Row w' b t L := h.below hb h.lt
theorem Row.drew {w : World} {b : Nat} {t : TypeId} {L : List Value} (h : Row w b t L) : Row w.drew b t L := h
theorem Row.new (w : World) (t : TypeId) (L : List Value) : Row (w.alloc (.cells L.toArray t)) w.heap.size t L := heap_alloc_new w _
theorem Row.alloc {w : World} {b : Nat} {t : TypeId} {L : List Value} (h : Row w b t L) (o : Obj) : Row (w.alloc o) b t L := by
  unfold Row
  rw [Below.heap_alloc w o b h.lt]
  exact h
theorem Row.setRow {w : World} {b : Nat} {t : TypeId} {L : List Value} (h : Row w b t L) (L' : List Value) : Row (w.setRow b L'.toArray) b t L' := setRow_heap w b _ _ t _ h
theorem _root_.Go.RowKit.Below.setRow {B : Nat} {a w : World} (h : Below B a w) {g : Nat} (hg : B ≤ g) (cs : Array Value) : Below B a (w.setRow g cs) :=
  h.trans ⟨rfl, rfl, rfl, by simp, fun k hk => setRow_other w g k cs (by omega)⟩
theorem Row.bytes {w : World} {b : Nat} {t : TypeId} {l : List UInt8} (h : Row w b t (l.map B8)) {off n cap : Nat} (h1 : off + n ≤ l.length) (h2 : n ≤ cap) (h3 : cap ≤ 9223372036854775807) :
    Bytes w (.slice (some ⟨b, off, none⟩) n cap) ((l.drop off).take n) := RowB.bytes (w := w) h h1 h2 h3
def isAggDesc : TypeDesc → Bool
  | .struct _ | .array _ _ => true
  | _ => false
section
variable {P : Program}
theorem run_isAgg {ty : TypeId} {d : TypeDesc} (hu : P.underlying ty = some d) (w : World) : (isAgg ty).run P w = .ok (isAggDesc d) w := by
  unfold isAgg
  rw [Sem.run_bind, run_underlying hu w]
  cases d <;> rfl
theorem run_loadVar_part {w : World} {g o n : Nat} {t ty : TypeId} {L : List Value} {d : TypeDesc} (hR : Row w g t L) (hn : o + n ≤ L.length) (hu : P.underlying ty = some d) (hd : isAggDesc d = true)
    (hi : (P.info? ty).map (·.size) = some n) : (loadVar ty ⟨g, o, none⟩).run P w = .ok (.agg ((L.drop o).take n).toArray) w := by
  have hlen : ((L.drop o).take n).length = n := by simp; omega
  have hl : (loadCells ⟨g, o, none⟩ n).run P w = .ok ((L.drop o).take n).toArray w := by
    have := run_loadCells_list (P := P) w ⟨g, o, none⟩ ((L.drop o).take n) (fun j v hv => by
      have hj : j < n := by have := (List.getElem?_eq_some_iff.1 hv).1; omega
      rw [Addr.add_lit, hR.cell?, ← hv, List.getElem?_take, if_pos hj, List.getElem?_drop])
    rwa [hlen] at this
  cases hq : P.info? ty with
  | none => simp [hq] at hi
  | some i =>
    have hs : i.size = n := by simpa [hq] using hi
    have hagg := run_isAgg (P := P) hu w
    rw [hd] at hagg
    simp [loadVar, Sem.run_bind, hagg, sizeOf, typeInfo, hq, hs, hl]
theorem run_storeVar_part {w : World} {g o : Nat} {t ty : TypeId} {L C : List Value} (hR : Row w g t L) (hn : o + C.length ≤ L.length)
    (hi : (P.info? ty).map (·.size) = some C.length) (h1 : ∀ v ∈ C, v.oneCell' = true) :
    (storeVar ty ⟨g, o, none⟩ (.agg C.toArray)).run P w = .ok () (w.setRow g (L.take o ++ C ++ L.drop (o + C.length)).toArray) := by
  have := run_storeCells_at (P := P) g o t C 0 L.toArray w hR (by simpa using hn) h1
  simp only [Nat.add_zero] at this
  cases hq : P.info? ty with
  | none => simp [hq] at hi
  | some i =>
    have hs : i.size = C.length := by simpa [hq] using hi
    simp [storeVar, Sem.run_bind, sizeOf, typeInfo, hq, hs, Value.cells, this]
variable {w : World} {o : Oper} {a : Act} {K : Act → World → Prop} {Q : Exit → Act → World → Prop}
variable {ops : Array Oper} {rest : List Oper}
theorem wp_copy_row (s x : Operand) (dT sT elem : TypeId) (ho : o.op = .call { callee := .builtin .copy, args := #[s, x], argTypes := #[dT, sT] })
    (hu : P.underlying dT = some (.slice elem)) (he : (P.info? elem).map (·.size) = some 1)
    (g off dLen dCap : Nat) (hs : a.eval s = .slice (some ⟨g, off, none⟩) dLen dCap) {t : TypeId} {L : List Value} (hR : Row w g t L)
    (ad : Addr) (sLen sCap : Nat) (hx : a.eval x = .slice (some ad) sLen sCap) (cs : List Value) (hn : cs.length = Nat.min sLen dLen) (hsrc : ∀ j v, cs[j]? = some v → w.cell? (ad.add j) = some v)
    (hfit : off + cs.length ≤ L.length) (h1 : ∀ v ∈ cs, v.oneCell' = true)
    (h : K (a.put o.dst (.int .i64 (cs.length : Int))) (w.setRow g (L.take off ++ cs ++ L.drop (off + cs.length)).toArray)) : o.wp P a w K Q := by
  have hrun := run_copy_row (P := P) w dT sT o.type elem g off dLen dCap ad sLen sCap L.toArray t cs hu he hR hn hsrc (by simpa using hfit) h1
  unfold Oper.wp execOp
  simp only [ho, resolve, invoke, builtin, Sem.run_bind, Sem.run_pure, Result.andThen_ok, List.map_toArray, List.map_cons, List.map_nil, hs, hx, hrun]
  exact h
theorem bodyPost_cell {fn : Func} {R : Ending → World → Prop} {p : Tmp} {ty : TypeId} (hres : fn.results = #[.cell p ty]) {g n : Nat} {t : TypeId} {L : List Value} {d : TypeDesc}
    (hp : a.tmps.getD p undef = .pointer (some ⟨g, 0, none⟩)) (hd : a.defers = []) (hR : Row w g t L) (hn : n = L.length) (hu : P.underlying ty = some d) (hdd : isAggDesc d = true) (hi : (P.info? ty).map (·.size) = some n)
    (h : R (.returned (.agg L.toArray)) w) : bodyPost P fn R .ret a w := by
  have hp' : a.tmps[p]?.getD undef = .pointer (some ⟨g, 0, none⟩) := by simpa using hp
  have hl := run_loadVar_part (P := P) (o := 0) hR (n := n) (by omega) hu hdd hi
  rw [List.drop_zero, hn, List.take_length] at hl
  exact ⟨hd, .agg L.toArray, by simp [results, hres, hp', asAddr, hl], h⟩
theorem bodyPost_cell_tmp {fn : Func} {R : Ending → World → Prop} {p q : Tmp} {ty : TypeId} (hres : fn.results = #[.cell p ty, .tmp q]) {g n : Nat} {t : TypeId} {L : List Value} {d : TypeDesc} {v : Value}
    (hp : a.tmps.getD p undef = .pointer (some ⟨g, 0, none⟩)) (hq : a.tmps.getD q undef = v) (hd : a.defers = []) (hR : Row w g t L) (hn : n = L.length) (hu : P.underlying ty = some d) (hdd : isAggDesc d = true) (hi : (P.info? ty).map (·.size) = some n)
    (h : R (.returned (.tuple #[.agg L.toArray, v])) w) : bodyPost P fn R .ret a w := by
  have hp' : a.tmps[p]?.getD undef = .pointer (some ⟨g, 0, none⟩) := by simpa using hp
  have hq' : a.tmps[q]?.getD undef = v := by simpa using hq
  have hl := run_loadVar_part (P := P) (o := 0) hR (n := n) (by omega) hu hdd hi
  rw [List.drop_zero, hn, List.take_length] at hl
  exact ⟨hd, .tuple #[.agg L.toArray, v], by simp [results, hres, hp', hq', asAddr, hl], h⟩
end
end Go.PK
namespace Go.PK
open Go.RowKit
theorem all_range_beq {α : Type} [BEq α] (d : α) : ∀ (xs ys : List α), xs.length = ys.length → ((List.range xs.length).all fun i => xs.getD i d == ys.getD i d) = (xs == ys)
  | [], [], _ => rfl
  | x :: xs, y :: ys, h => by
    have ih := all_range_beq d xs ys (by simpa using h)
    rw [List.length_cons, List.range_succ_eq_map, List.all_cons, List.all_map]
    simp only [List.getD_cons_zero, Function.comp_def, List.getD_cons_succ, ih]
    simp [List.cons_beq_cons]
  | [], _ :: _, h => by simp at h
  | _ :: _, [], h => by simp at h
section
variable {P : Program} {w : World}
theorem run_equalIn_arr {α : Type} [BEq α] (f : α → Value) (z : α) {t e : TypeId} {n : Nat} {k : IntKind} (ht : P.underlying t = some (.array n e)) (he : P.underlying e = some (.int k)) (hsz : (P.info? e).map (·.size) = some 1)
    (hf : ∀ d x y (w : World), (Op.equalIn (d + 1) e (f x) (f y)).run P w = .ok (x == y) w) (d : Nat) (xs ys : List α) (hx : xs.length = n) (hy : ys.length = n) :
    (Op.equalIn (d + 2) t (.agg (xs.map f).toArray) (.agg (ys.map f).toArray)).run P w = .ok (xs == ys) w := by
  have hsz' : ∀ w, (sizeOf e).run P w = .ok 1 w := by
    intro w
    cases hq : P.info? e with
    | none => simp [hq] at hsz
    | some i =>
      have : i.size = 1 := by simpa [hq] using hsz
      simp [sizeOf, typeInfo, hq, this]
  rw [← all_range_beq z xs ys (hx.trans hy.symm), hx, List.range_eq_range', Op.equalIn]
  simp only [Sem.run_bind, run_underlying ht, Result.andThen_ok, hsz', Std.Legacy.Range.forIn_eq_forIn_range', Std.Legacy.Range.size, Nat.sub_zero, Nat.add_sub_cancel, Nat.div_one]
  have hl : ∀ i ∈ List.range' 0 n 1, i < n := fun i hi => by simpa using (List.mem_range'_1.1 hi).2
  generalize List.range' 0 n 1 = l at hl ⊢
  induction l with
  | nil => simp
  | cons i l ih =>
    have hi : i < n := hl i (by simp)
    have px : (part e (xs.map f).toArray (i * 1)).run P w = .ok (f (xs.getD i z)) w := by
      simp [part, isAgg, run_underlying he, List.getD, List.getElem?_eq_getElem (show i < xs.length by omega)]
    have py : (part e (ys.map f).toArray (i * 1)).run P w = .ok (f (ys.getD i z)) w := by
      simp [part, isAgg, run_underlying he, List.getD, List.getElem?_eq_getElem (show i < ys.length by omega)]
    have pe := hf d (xs.getD i z) (ys.getD i z) w
    simp only [List.forIn_cons, Sem.run_bind, px, py, pe, Result.andThen_ok, List.all_cons]
    cases hb : (xs.getD i z == ys.getD i z)
    · simp
    · simp only [Bool.not_true, Bool.false_eq_true, if_false, Sem.run_pure, Result.andThen_ok, Bool.true_and]
      exact ih fun j hj => hl j (by simp [hj])
theorem equalIn_B8 {e : TypeId} (he : P.underlying e = some (.int .u8)) (d : Nat) (x y : UInt8) (w : World) : (Op.equalIn (d + 1) e (B8 x) (B8 y)).run P w = .ok (x == y) w := by
  unfold B8
  rw [run_equalIn_int w d e .u8 .u8 _ _ he, nat_beq_cast]
  congr 1
  rw [Bool.eq_iff_iff]; simp [UInt8.toNat_inj]
theorem wp_eql_agg {o : Oper} {a : Act} {K : Act → World → Prop} {Q : Exit → Act → World → Prop} (ty yt : TypeId) (x y : Operand) (ho : o.op = .binOp .eql ty x y yt) (A B : Array Value) (hx : a.eval x = .agg A) (hy : a.eval y = .agg B)
    (hg : P.eqGuardType P.depth ty = false) (b : Bool) (h : (Op.equalIn 10000 ty (.agg A) (.agg B)).run P w = .ok b w) (hK : K (a.put o.dst (.bool b)) w) : o.wp P a w K Q := by
  unfold Oper.wp execOp
  simp only [ho, hx, hy, Sem.run_bind, Sem.run_pure, Result.andThen_ok, run_eqGuard_agg w .eql ty x y A B hg, run_eql_struct, h]
  exact hK
theorem wp_neq_agg {o : Oper} {a : Act} {K : Act → World → Prop} {Q : Exit → Act → World → Prop} (ty yt : TypeId) (x y : Operand) (ho : o.op = .binOp .neq ty x y yt) (A B : Array Value) (hx : a.eval x = .agg A) (hy : a.eval y = .agg B)
    (hg : P.eqGuardType P.depth ty = false) (b : Bool) (h : (Op.equalIn 10000 ty (.agg A) (.agg B)).run P w = .ok b w) (hK : K (a.put o.dst (.bool (!b))) w) : o.wp P a w K Q := by
  unfold Oper.wp execOp
  simp only [ho, hx, hy, Sem.run_bind, Sem.run_pure, Result.andThen_ok, run_eqGuard_agg w .neq ty x y A B hg, run_neq_struct, h]
  exact hK
end
end Go.PK
namespace Go.PK
open Go.RowKit Go.ChangeShapes Go.WideShapes Go.ChangeAt
section
variable {H : Type} {enc : TypeId × Value → H} {P : Program} {w : World}
def dataLen : DataW H → Nat
  | .slice elems spare => elems.length + spare.length
  | .lit (.string s) => s.length
  | _ => 0
theorem open_bytes {r : Reach} {b0 : Nat} {t e : TypeId} {v : Value} {d : DataW H} {ps : List MemPlace} (ht : P.underlying t = some (.slice e)) (he : P.underlying e = some (.int .u8)) (hc : P.cellsOf e = 1)
    (hval : Value.okWide P w r b0 t v) (h : DataW.Trod enc P w 0 (fun _ => true) true t v d ps) : ∃ l, Bytes w v l ∧ l.length ≤ dataLen d := by
  obtain ⟨a0, len0, cap0, rfl⟩ := okWide_slice ht hval
  obtain ⟨fuel, hf⟩ := h
  rcases open_ints ht he hc hf with ⟨hcs, -⟩ | ⟨x, l, c, zs, hcs, -, hl, hm, hz, hd, hcell, hwz⟩
  · simp [Value.cells] at hcs
    obtain ⟨rfl, rfl, rfl⟩ := hcs
    exact ⟨[], Bytes.nil w, Nat.zero_le _⟩
  · simp [Value.cells] at hcs
    obtain ⟨rfl, rfl, rfl⟩ := hcs
    have hz' : zs.length = cap0 := by simpa using hz
    have hll : (((zs.take len0).map fun z => UInt8.ofNat z.toNat)).length = len0 := by simp; omega
    refine ⟨(zs.take len0).map fun z => UInt8.ofNat z.toNat, ⟨some x, cap0, by rw [hll], by rw [hll]; exact hl, by simpa [maxLen] using hm, (fun h => by cases h), fun j hj => ?_⟩, ?_⟩
    · rw [hll] at hj
      obtain ⟨b, off, spot⟩ := x
      have h0 := hcell j (by omega)
      have hsp : spot = none ∨ j ≠ 0 := by
        by_cases hj0 : j = 0
        · subst hj0
          left
          simp only [Addr.add, if_true] at h0
          cases spot with
          | none => rfl
          | some s => simp [World.cell?] at h0; split at h0 <;> simp_all
        · exact .inr hj0
      have h00 := hcell 0 (by omega)
      have hs0 : spot = none := by
        simp only [Addr.add, if_true] at h00
        cases spot with
        | none => rfl
        | some s => simp [World.cell?] at h00; split at h00 <;> simp_all
      subst hs0
      refine ⟨b, off, rfl, block_lt_of_cell h00, ?_⟩
      rw [Addr.add_lit] at h0
      rw [h0]
      have hw := hwz (zs.getD j 0) (by
        rw [List.getD_eq_getElem?_getD, List.getElem?_eq_getElem (show j < zs.length by omega)]
        exact List.getElem_mem _)
      have hb : 0 ≤ zs.getD j 0 ∧ zs.getD j 0 ≤ 255 := by simpa [Lit.wf, IntKind.min, IntKind.max, IntKind.signed, IntKind.bits] using hw
      rw [B8_of hb.1 hb.2]
      congr 2
      simp [List.getD, hj, show j < zs.length by omega]
    · have hd' : d = .slice (lits .u8 (zs.take len0)) (lits .u8 (zs.drop len0)) := (Prod.mk.inj hd).1
      rw [hll, hd']
      simp only [dataLen, lits, List.length_map, List.length_take, List.length_drop]
      omega
theorem weights_of {ts : List TypeId} {ds : List (DataW H)} (h : (DataW.weightsEach P ts ds).all (· ≤ reachBytes) = true) {j : Nat} {t : TypeId} {d : DataW H} (ht : ts[j]? = some t) (hd : ds[j]? = some d) :
    ∀ n ∈ d.weights P t, n ≤ reachBytes := by
  intro n hn
  have := List.all_eq_true.1 h n (DataW.weights_mem_each ht hd n hn)
  simpa using this
theorem len_of_weights {t e : TypeId} {d : DataW H} (hu : P.underlying t = some (.slice e)) (hb : P.bytesOf e = 1) (h : ∀ n ∈ d.weights P t, n ≤ reachBytes) : dataLen d ≤ 140737488351232 := by
  cases d with
  | slice elems spare =>
    have := h ((elems.length + spare.length) * P.bytesOf e) (by simp [DataW.weights, hu])
    rw [hb, Nat.mul_one] at this
    exact this
  | lit l =>
    cases l with
    | string s =>
      have := h s.length (by simp [DataW.weights])
      exact this
    | _ => exact Nat.zero_le _
  | _ => exact Nat.zero_le _
end
end Go.PK
namespace Go.PK
open Go.RowKit Go.ChangeShapes Go.WideShapes Go.ChangeAt
structure Rd (α : Type) where
  sz : Nat
  K : World → List Value → α → Prop
  ok : α → Prop
  len : ∀ {w cs a}, K w cs a → cs.length = sz
  adds : ∀ {w w' cs a}, K w cs a → Adds w w' → K w' cs a
  one : ∀ {w cs a}, K w cs a → ∀ v ∈ cs, v.oneCell' = true
def rByte : Rd UInt8 where
  sz := 1
  K _ cs a := cs = [B8 a]
  ok _ := True
  len h := by rw [h]; rfl
  adds h _ := h
  one h := by rw [h]; intro v hv; simp at hv; subst hv; rfl
def rU32 : Rd UInt32 where
  sz := 1
  K _ cs a := cs = [W32 a]
  ok _ := True
  len h := by rw [h]; rfl
  adds h _ := h
  one h := by rw [h]; intro v hv; simp at hv; subst hv; rfl
def rInt : Rd Int where
  sz := 1
  K _ cs a := cs = [.int .i64 a]
  ok a := -9223372036854775808 ≤ a ∧ a ≤ 9223372036854775807
  len h := by rw [h]; rfl
  adds h _ := h
  one h := by rw [h]; intro v hv; simp at hv; subst hv; rfl
def rStr : Rd (List UInt8) where
  sz := 1
  K _ cs l := cs = [.string ⟨l.toArray⟩]
  ok l := l.length ≤ 140737488351232
  len h := by rw [h]; rfl
  adds h _ := h
  one h := by rw [h]; intro v hv; simp at hv; subst hv; rfl
def rArr (n : Nat) : Rd (List UInt8) where
  sz := n
  K _ cs l := cs = l.map B8 ∧ l.length = n
  ok l := l.length = n
  len h := by rw [h.1, List.length_map, h.2]
  adds h _ := h
  one h := by
    rw [h.1]; intro v hv
    obtain ⟨x, _, rfl⟩ := List.mem_map.1 hv
    rfl
def rPair {α β : Type} (r : Rd α) (s : Rd β) : Rd (α × β) where
  sz := r.sz + s.sz
  K w cs x := ∃ c1 c2, cs = c1 ++ c2 ∧ r.K w c1 x.1 ∧ s.K w c2 x.2
  ok x := r.ok x.1 ∧ s.ok x.2
  len h := by obtain ⟨c1, c2, rfl, h1, h2⟩ := h; rw [List.length_append, r.len h1, s.len h2]
  adds h b := by obtain ⟨c1, c2, e, h1, h2⟩ := h; exact ⟨c1, c2, e, r.adds h1 b, s.adds h2 b⟩
  one h := by
    obtain ⟨c1, c2, rfl, h1, h2⟩ := h
    intro v hv
    rcases List.mem_append.1 hv with hv | hv
    · exact r.one h1 v hv
    · exact s.one h2 v hv
def Elems {α : Type} (r : Rd α) (w : World) (ao : Option Addr) (l : List α) : Prop :=
  ∀ j a, l[j]? = some a → ∃ b off, ao = some ⟨b, off, none⟩ ∧ b < w.heap.size ∧ ∃ cells, r.K w cells a ∧ ∀ i, i < r.sz → w.cell? ⟨b, off + (j * r.sz + i), none⟩ = cells[i]?
theorem Elems.adds {α : Type} {r : Rd α} {w w' : World} {ao : Option Addr} {l : List α} (h : Elems r w ao l) (hb : Adds w w') : Elems r w' ao l := by
  intro j a ha
  obtain ⟨b, off, h1, h2, cells, h3, h4⟩ := h j a ha
  exact ⟨b, off, h1, Nat.lt_of_lt_of_le h2 hb.size, cells, r.adds h3 hb, fun i hi => by rw [cell_below hb (by exact h2)]; exact h4 i hi⟩
def rSlice {α : Type} (r : Rd α) : Rd (List α) where
  sz := 1
  K w cs l := ∃ ao cap, cs = [.slice ao l.length cap] ∧ l.length ≤ cap ∧ cap ≤ 9223372036854775807 ∧ (ao = none → cap = 0) ∧ Elems r w ao l
  ok l := l.length ≤ 140737488351232 ∧ ∀ a ∈ l, r.ok a
  len h := by obtain ⟨ao, cap, rfl, _⟩ := h; rfl
  adds h b := by obtain ⟨ao, cap, e, h1, h2, h3, h4⟩ := h; exact ⟨ao, cap, e, h1, h2, h3, h4.adds b⟩
  one h := by obtain ⟨ao, cap, rfl, _⟩ := h; intro v hv; simp at hv; subst hv; rfl
theorem Bytes.of_K {w : World} {v : Value} {l : List UInt8} (h : (rSlice rByte).K w [v] l) : Bytes w v l := by
  obtain ⟨ao, cap, e, h1, h2, h3, h4⟩ := h
  refine ⟨ao, cap, by simpa using e, h1, h2, h3, fun j hj => ?_⟩
  obtain ⟨b, off, g1, g2, cells, g3, g4⟩ := h4 j _ (List.getElem?_eq_getElem hj)
  refine ⟨b, off, g1, g2, ?_⟩
  have := g4 0 (by decide)
  rw [show cells = [B8 _] from g3] at this
  simp only [rByte, Nat.mul_one, Nat.add_zero] at this
  rw [this, List.getD_eq_getElem?_getD, List.getElem?_eq_getElem hj]
  rfl
section
variable {H : Type} {enc : TypeId × Value → H} {P : Program} {w : World}
def Opens (P : Program) (t : TypeId) {α : Type} (r : Rd α) : Prop :=
  ∀ (H : Type) (enc : TypeId × Value → H) (w : World) (fuel : Nat) (cs : List Value) (x : DataW H × List MemPlace), DataW.trod enc P w 0 (fun _ => true) true fuel t cs = some x → (∀ n ∈ x.1.weights P t, n ≤ reachBytes) → ∃ a, r.K w cs a ∧ r.ok a
theorem opens_byte {t : TypeId} (ht : P.underlying t = some (.int .u8)) : Opens P t rByte := by
  intro H enc w fuel cs x h _
  obtain ⟨m, rfl, _, hw⟩ := DataW.trod_int ht h
  have hb : 0 ≤ m ∧ m ≤ 255 := by simpa [Lit.wf, IntKind.min, IntKind.max, IntKind.signed, IntKind.bits] using hw
  exact ⟨UInt8.ofNat m.toNat, by show _ = _; rw [B8_of hb.1 hb.2], trivial⟩
theorem opens_int {t : TypeId} (ht : P.underlying t = some (.int .i64)) : Opens P t rInt := by
  intro H enc w fuel cs x h _
  obtain ⟨m, rfl, _, hw⟩ := DataW.trod_int ht h
  have hb : -9223372036854775808 ≤ m ∧ m ≤ 9223372036854775807 := by simpa [Lit.wf, IntKind.min, IntKind.max, IntKind.signed, IntKind.bits] using hw
  exact ⟨m, rfl, hb⟩
theorem all_B8 : ∀ (cs : List Value), (∀ i, i < cs.length → ∃ b, cs[i]? = some (B8 b)) → ∃ l : List UInt8, cs = l.map B8
  | [], _ => ⟨[], rfl⟩
  | c :: cs, h => by
    obtain ⟨l, hl⟩ := all_B8 cs fun i hi => by
      have := h (i + 1) (by simpa using hi)
      simpa using this
    obtain ⟨b, hb⟩ := h 0 (by simp)
    refine ⟨b :: l, ?_⟩
    simp at hb
    rw [hb, hl]
    rfl
theorem opens_arr {t e : TypeId} {n : Nat} (ht : P.underlying t = some (.array n e)) (he : P.underlying e = some (.int .u8)) (hc : P.cellsOf e = 1) (hn : P.cellsOf t = n) : Opens P t (rArr n) := by
  intro H enc w fuel cs x h _
  obtain ⟨xs, m, _, _, hl, _, hf⟩ := DataW.trod_array ht h
  have key : ∀ i, i < n → ∃ b, cs[i]? = some (B8 b) := by
    intro i hi
    have h1 := hf i hi
    rw [hc, Nat.mul_one] at h1
    have hxi : i < xs.length := by omega
    rw [List.getElem?_eq_getElem hxi] at h1
    obtain ⟨z, hz, _, hw⟩ := DataW.trod_int he h1
    have hb : 0 ≤ z ∧ z ≤ 255 := by simpa [Lit.wf, IntKind.min, IntKind.max, IntKind.signed, IntKind.bits] using hw
    refine ⟨UInt8.ofNat z.toNat, ?_⟩
    have : ((cs.drop i).take 1)[0]? = some (Value.int .u8 z) := by rw [hz]; rfl
    rw [List.getElem?_take, if_pos (by omega), List.getElem?_drop, Nat.add_zero] at this
    rw [this, B8_of hb.1 hb.2]
  have : ∃ l : List UInt8, cs = l.map B8 := all_B8 cs fun i hi => key i (by omega)
  obtain ⟨l, rfl⟩ := this
  have hln : l.length = n := by rw [List.length_map] at hl; omega
  exact ⟨l, ⟨rfl, hln⟩, hln⟩
theorem weightsAll_mem {e : TypeId} : ∀ {ds : List (DataW H)} {j : Nat} {d : DataW H}, ds[j]? = some d → ∀ n ∈ d.weights P e, n ∈ DataW.weightsAll P e ds
  | [], j, d, hd, _, _ => by simp at hd
  | x :: ds, 0, d, hd, n, hn => by
    simp at hd
    subst hd
    simp only [DataW.weightsAll, List.mem_append]
    exact .inl hn
  | x :: ds, j + 1, d, hd, n, hn => by
    simp only [DataW.weightsAll, List.mem_append]
    exact .inr (weightsAll_mem (by simpa using hd) n hn)
theorem opens_slice {α : Type} {r : Rd α} {t e : TypeId} (ht : P.underlying t = some (.slice e)) (hr : Opens P e r) (hc : P.cellsOf e = r.sz) (hsz : 0 < r.sz) (hb : 1 ≤ P.bytesOf e) : Opens P t (rSlice r) := by
  intro H enc w fuel cs x h hw
  rcases DataW.trod_slice ht h with ⟨rfl, rfl⟩ | ⟨a, len, cap, elems, rest, n, _, rfl, rfl, -, hl, hm, hlen, hel, hsp, -⟩
  · exact ⟨[], ⟨none, 0, rfl, Nat.le_refl _, by omega, fun _ => rfl, fun j a h => by simp at h⟩, Nat.zero_le _, fun a h => by cases h⟩
  · have hwl : len ≤ 140737488351232 := by
      have := hw (((elems.map (·.1)).length + (rest.map (·.1)).length) * P.bytesOf e) (by simp [DataW.weights, ht])
      rw [List.length_map, List.length_map, hlen] at this
      have h2 : len ≤ (len + rest.length) * P.bytesOf e := Nat.le_trans (Nat.le_add_right _ _) (Nat.le_mul_of_pos_right _ (by omega))
      exact Nat.le_trans h2 this
    have each : ∀ j, j < len → ∃ y cs', elems[j]? = some y ∧ w.cells? 0 (a.add (j * r.sz)) r.sz = some cs' ∧ ∃ v, r.K w cs' v ∧ r.ok v := by
      intro j hj
      have h1 := hel j hj
      rw [hc, List.getElem?_eq_getElem (by omega)] at h1
      obtain ⟨cs', h2, h3⟩ := Option.bind_eq_some_iff.1 h1
      refine ⟨_, cs', List.getElem?_eq_getElem (by omega), h2, hr H enc w n cs' _ h3 fun m hm' => ?_⟩
      refine hw m ?_
      simp only [DataW.weights, ht, List.mem_cons, List.mem_append]
      exact .inr (.inl (weightsAll_mem (j := j) (d := elems[j].1) (by simp [List.getElem?_map, List.getElem?_eq_getElem (show j < elems.length by omega)]) m hm'))
    obtain ⟨f, hf⟩ : ∃ f : Nat → Option α, ∀ j, j < len → ∃ v y cs', f j = some v ∧ elems[j]? = some y ∧ w.cells? 0 (a.add (j * r.sz)) r.sz = some cs' ∧ r.K w cs' v ∧ r.ok v := by
      refine ⟨fun j => if hj : j < len then some (Classical.choose (Classical.choose_spec (Classical.choose_spec (each j hj))).2.2) else none, fun j hj => ?_⟩
      obtain ⟨h1, h2, h3⟩ := Classical.choose_spec (Classical.choose_spec (each j hj))
      exact ⟨_, _, _, by simp only [dif_pos hj], h1, h2, (Classical.choose_spec h3).1, (Classical.choose_spec h3).2⟩
    have hall : ∀ j, j < len → (f j).isSome = true := fun j hj => by obtain ⟨v, _, _, h, _⟩ := hf j hj; rw [h]; rfl
    have hL : ∃ l : List α, l.length = len ∧ ∀ j, j < len → l[j]? = f j := by
      clear hwl each hf hw hel hsp h hl hlen
      induction len with
      | zero => exact ⟨[], rfl, fun j hj => by omega⟩
      | succ m ih =>
        obtain ⟨l, h1, h2⟩ := ih (fun j hj => hall j (by omega))
        obtain ⟨v, hv⟩ := Option.isSome_iff_exists.1 (hall m (by omega))
        refine ⟨l ++ [v], by simp [h1], fun j hj => ?_⟩
        by_cases hjm : j < m
        · rw [List.getElem?_append_left (by omega), h2 j hjm]
        · have : j = m := by omega
          subst this
          rw [List.getElem?_append_right (by omega), h1, Nat.sub_self, hv]
          rfl
    obtain ⟨l, h1, h2⟩ := hL
    refine ⟨l, ⟨some a, cap, by rw [h1], by omega, by simpa [maxLen] using hm, (fun h => by cases h), fun j v hv => ?_⟩, by omega, fun v hv => ?_⟩
    · have hj : j < len := by have := (List.getElem?_eq_some_iff.1 hv).1; omega
      obtain ⟨v', y, cs', e1, e2, e3, e4, e5⟩ := hf j hj
      rw [h2 j hj, e1] at hv
      cases hv
      obtain ⟨-, hcl, hcell⟩ := World.cells?_some e3
      obtain ⟨b, off, spot⟩ := a
      have hblk : ((⟨b, off, spot⟩ : Addr).add (j * r.sz)).block = b := by unfold Addr.add; split <;> rfl
      have hspot : spot = none := by
        obtain ⟨_, _, cs0, _, _, e30, e40, _⟩ := hf 0 (by omega)
        obtain ⟨-, hcl0, hcell0⟩ := World.cells?_some e30
        have := hcell0 0 hsz
        rw [Nat.zero_mul] at this
        rw [show ((⟨b, off, spot⟩ : Addr).add 0).add 0 = ⟨b, off, spot⟩ from rfl, List.getElem?_eq_getElem (by omega)] at this
        cases spot with
        | none => rfl
        | some s => simp [World.cell?] at this; split at this <;> simp_all
      subst hspot
      have hlt : b < w.heap.size := by
        have := hcell 0 hsz
        rw [List.getElem?_eq_getElem (by omega)] at this
        have := block_lt_of_cell this
        rw [Addr.add_lit, Addr.add_lit] at this
        exact this
      refine ⟨b, off, rfl, hlt, cs', e4, fun i hi => ?_⟩
      rw [← hcell i hi, Addr.add_lit, Addr.add_lit, Nat.add_assoc]
    · obtain ⟨j, hj⟩ := List.getElem?_of_mem hv
      have hj' : j < len := by have := (List.getElem?_eq_some_iff.1 hj).1; omega
      obtain ⟨v', y, cs', e1, _, _, _, e5⟩ := hf j hj'
      rw [h2 j hj', e1] at hj
      cases hj
      exact e5
theorem opens_struct5 {α0 α1 α2 α3 α4 : Type} {r0 : Rd α0} {r1 : Rd α1} {r2 : Rd α2} {r3 : Rd α3} {r4 : Rd α4} {t : TypeId} {f0 f1 f2 f3 f4 : Field} (ht : P.underlying t = some (.struct #[f0, f1, f2, f3, f4])) (hr0 : Opens P f0.type r0) (hr1 : Opens P f1.type r1) (hr2 : Opens P f2.type r2) (hr3 : Opens P f3.type r3) (hr4 : Opens P f4.type r4) (hc0 : P.cellsOf f0.type = r0.sz) (hc1 : P.cellsOf f1.type = r1.sz) (hc2 : P.cellsOf f2.type = r2.sz) (hc3 : P.cellsOf f3.type = r3.sz) (hc4 : P.cellsOf f4.type = r4.sz) (ho0 : f0.offset = 0) (ho1 : f1.offset = r0.sz) (ho2 : f2.offset = r0.sz + r1.sz) (ho3 : f3.offset = r0.sz + r1.sz + r2.sz) (ho4 : f4.offset = r0.sz + r1.sz + r2.sz + r3.sz) (hn : P.cellsOf t = r0.sz + r1.sz + r2.sz + r3.sz + r4.sz) : Opens P t (rPair r0 (rPair r1 (rPair r2 (rPair r3 r4)))) := by
  intro H enc w fuel cs x h hw
  obtain ⟨xs, n, _, rfl, hl, hlen, hf⟩ := DataW.trod_struct ht h
  have hlen' : xs.length = 5 := by simpa using hlen
  have g0 := hf 0 f0 rfl
  rw [hc0, ho0, List.getElem?_eq_getElem (by omega)] at g0
  obtain ⟨v0, K0, o0⟩ := hr0 H enc w n _ _ g0 (fun m hm => hw m (by
    simp only [DataW.weights, ht]
    exact DataW.weights_mem_each (j := 0) (t := f0.type) (d := xs[0].1) (by simp) (by simp [List.getElem?_eq_getElem (show 0 < xs.length by omega)]) m hm))
  have g1 := hf 1 f1 rfl
  rw [hc1, ho1, List.getElem?_eq_getElem (by omega)] at g1
  obtain ⟨v1, K1, o1⟩ := hr1 H enc w n _ _ g1 (fun m hm => hw m (by
    simp only [DataW.weights, ht]
    exact DataW.weights_mem_each (j := 1) (t := f1.type) (d := xs[1].1) (by simp) (by simp [List.getElem?_eq_getElem (show 1 < xs.length by omega)]) m hm))
  have g2 := hf 2 f2 rfl
  rw [hc2, ho2, List.getElem?_eq_getElem (by omega)] at g2
  obtain ⟨v2, K2, o2⟩ := hr2 H enc w n _ _ g2 (fun m hm => hw m (by
    simp only [DataW.weights, ht]
    exact DataW.weights_mem_each (j := 2) (t := f2.type) (d := xs[2].1) (by simp) (by simp [List.getElem?_eq_getElem (show 2 < xs.length by omega)]) m hm))
  have g3 := hf 3 f3 rfl
  rw [hc3, ho3, List.getElem?_eq_getElem (by omega)] at g3
  obtain ⟨v3, K3, o3⟩ := hr3 H enc w n _ _ g3 (fun m hm => hw m (by
    simp only [DataW.weights, ht]
    exact DataW.weights_mem_each (j := 3) (t := f3.type) (d := xs[3].1) (by simp) (by simp [List.getElem?_eq_getElem (show 3 < xs.length by omega)]) m hm))
  have g4 := hf 4 f4 rfl
  rw [hc4, ho4, List.getElem?_eq_getElem (by omega)] at g4
  obtain ⟨v4, K4, o4⟩ := hr4 H enc w n _ _ g4 (fun m hm => hw m (by
    simp only [DataW.weights, ht]
    exact DataW.weights_mem_each (j := 4) (t := f4.type) (d := xs[4].1) (by simp) (by simp [List.getElem?_eq_getElem (show 4 < xs.length by omega)]) m hm))
  refine ⟨(v0, (v1, (v2, (v3, v4)))), ?_, ⟨o0, ⟨o1, ⟨o2, ⟨o3, o4⟩⟩⟩⟩⟩
  rw [hn] at hl
  have e3 : cs.drop (r0.sz+r1.sz+r2.sz) = ((cs.drop (r0.sz+r1.sz+r2.sz)).take r3.sz) ++ ((cs.drop (r0.sz+r1.sz+r2.sz+r3.sz)).take r4.sz) := by rw [List.take_of_length_le (l := cs.drop (r0.sz+r1.sz+r2.sz+r3.sz)) (by rw [List.length_drop]; omega), show cs.drop (r0.sz+r1.sz+r2.sz+r3.sz) = (cs.drop (r0.sz+r1.sz+r2.sz)).drop r3.sz from by rw [List.drop_drop], List.take_append_drop]
  have e2 : cs.drop (r0.sz+r1.sz) = ((cs.drop (r0.sz+r1.sz)).take r2.sz) ++ (cs.drop (r0.sz+r1.sz+r2.sz)) := by rw [show cs.drop (r0.sz+r1.sz+r2.sz) = (cs.drop (r0.sz+r1.sz)).drop r2.sz from by rw [List.drop_drop], List.take_append_drop]
  have e1 : cs.drop (r0.sz) = ((cs.drop (r0.sz)).take r1.sz) ++ (cs.drop (r0.sz+r1.sz)) := by rw [show cs.drop (r0.sz+r1.sz) = (cs.drop (r0.sz)).drop r1.sz from by rw [List.drop_drop], List.take_append_drop]
  have e0 : cs.drop (0) = ((cs.drop (0)).take r0.sz) ++ (cs.drop (r0.sz)) := by rw [show cs.drop (r0.sz) = (cs.drop (0)).drop r0.sz from by rw [List.drop_drop]; congr 1; omega, List.take_append_drop]
  have := show (rPair r0 (rPair r1 (rPair r2 (rPair r3 r4)))).K w (cs.drop (0)) (v0, (v1, (v2, (v3, v4)))) from ⟨_, _, e0, K0, ⟨_, _, e1, K1, ⟨_, _, e2, K2, ⟨_, _, e3, K3, K4⟩⟩⟩⟩
  simpa using this
theorem open_rd {α : Type} {r : Rd α} {t : TypeId} {v : Value} {d : DataW H} {ps : List MemPlace} (hr : Opens P t r) (h : DataW.Trod enc P w 0 (fun _ => true) true t v d ps) (hw : ∀ n ∈ d.weights P t, n ≤ reachBytes) :
    ∃ a, r.K w v.cells.toList a ∧ r.ok a := by
  obtain ⟨fuel, hf⟩ := h
  exact hr H enc w fuel _ _ hf hw
theorem open_agg {α : Type} {r : Rd α} {r' : Reach} {b0 : Nat} {t : TypeId} {v : Value} {d : DataW H} {ps : List MemPlace} {D : TypeDesc} (hr : Opens P t r) (hu : P.underlying t = some D) (hD : isAggDesc D = true) (hval : Value.okWide P w r' b0 t v)
    (h : DataW.Trod enc P w 0 (fun _ => true) true t v d ps) (hw : ∀ n ∈ d.weights P t, n ≤ reachBytes) : ∃ cs a, v = .agg (List.toArray cs) ∧ r.K w cs a ∧ r.ok a := by
  obtain ⟨a, hK, ho⟩ := open_rd hr h hw
  have : ∃ cs, v = .agg cs := by
    unfold Value.okWide at hval
    rw [hu] at hval
    cases D <;> simp only [isAggDesc] at hD <;> first | exact absurd hD Bool.false_ne_true | (obtain ⟨cs, h, _⟩ := hval; exact ⟨cs, h⟩)
  obtain ⟨cs, rfl⟩ := this
  exact ⟨cs.toList, a, by simp, by simpa [Value.cells] using hK, ho⟩
end
end Go.PK
