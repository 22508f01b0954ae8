/-
  The walks of package cell.
-/
import Derived.Test.YtmeialegemhlhaaCellSpec
import Derived.Test.YtmeialegemhlhaaCrcW3
import Derived.Test.YtmeialegemhlhaaRailW
import Derived.Test.YtmeialegemhlhaaE
namespace Go.Proofs.Ytmeialegemhlhaa
open Go.RowKit Go.PK

theorem shr64_8 (n : UInt64) (k : Nat) (t : TypeId) : binOp .shr t (W64 n) (.int .i64 (8 * (k : Int))) = pure (W64 (shr64 n (8 * k))) := by exact_mod_cast bin_shr_W64_nat t n .i64 (8 * k)
theorem shl64_8 (n : UInt64) (k : Nat) (t : TypeId) : binOp .shl t (W64 n) (.int .i64 (8 * (k : Int))) = pure (W64 (shl64 n (8 * k))) := by exact_mod_cast bin_shl_W64_nat t n .i64 (8 * k)
theorem shr64_byte (n : UInt64) (k : Nat) (hk : k < 8) : (shr64 n (8 * k)).toUInt8 = UInt8.ofNat (n.toNat / 2 ^ (8 * k)) := by
  apply UInt8.toNat_inj.1
  rw [UInt64.toNat_toUInt8, shr64_toNat, Nat.min_eq_left (by omega), UInt8.toNat_ofNat']

theorem cell_put (w : World) (g off m cap : Nat) (t : TypeId) (l : List UInt8) (n : UInt64) (hR : Row w g t (l.map B8)) (ho : off + m ≤ l.length) (hm : m ≤ 8) :
    Calls Try.prog 55 #[.slice (some ⟨g, off, none⟩) m cap, W64 n] w fun e w' => e = .returned (.tuple #[]) ∧ Row w' g t ((over l off (le m n.toNat)).map B8) ∧ Only g w w' := by
  go_enter Try.func55, Try.ntmps55
  go_wp2_with fail
  go_loopw [4, 7] (fun _ i wr => ∃ k : Nat, k ≤ m ∧ i = .int .i64 k ∧ Row wr g t ((over l off (le k n.toNat)).map B8) ∧ Only g w wr) (fun _ i _ => m - (intOf i).toNat)
  case atStart => exact ⟨0, by omega, rfl, by rw [show le 0 n.toNat = [] from rfl, over_nil]; exact hR, Only.refl _ _⟩
  case round =>
    clear hR
    obtain ⟨k, hk, rfl, hR, hO⟩ := hrel
    by_cases hlt : k < m
    · have hlen := over_length l off (le k n.toNat) (by rw [le_length]; omega)
      have c1 := hR.at (j := off + k) (by rw [hlen]; omega) 0
      have f1 := hR.free (off + k)
      have hs := over_snoc l off (le k n.toNat) (UInt8.ofNat (n.toNat / 2 ^ (8 * k))) (by rw [le_length]; omega)
      rw [le_length, ← le_succ] at hs
      have HS := Lib.hid hs
      clear hs hlen
      have hsh := shr64_8 n k
      have HB := Lib.hid (shr64_byte n k (by omega))
      generalize (over l off (le k n.toNat)).getD (off + k) 0 = old at *
      go_wp2_with fail
      go_roundw
      case rel =>
        refine ⟨k + 1, by omega, by go_num, ?_, hO.setCell _ _⟩
        rw [← HS.out, ← HB.out]
        simpa using hR.set_map (off + k) (shr64 n (8 * k)).toUInt8
      case measure => simp [intOf]; omega
    · have : k = m := by omega
      subst this
      go_wp2_with fail
      go_end0
      exact ⟨rfl, hR, hO⟩

theorem or_shl (a k : Nat) (x : UInt8) (hk : k < 8) (ha : a < 2 ^ (8 * k)) : UInt64.ofNat a ||| shl64 x.toUInt64 (8 * k) = UInt64.ofNat (a + x.toNat * 2 ^ (8 * k)) := by
  have hx := x.toNat_lt
  have hp : 2 ^ (8 * k) ≤ 2 ^ 56 := Nat.pow_le_pow_right (by decide) (by omega)
  have h1 : x.toNat * 2 ^ (8 * k) ≤ 255 * 2 ^ (8 * k) := Nat.mul_le_mul_right _ (by omega)
  apply UInt64.toNat_inj.1
  rw [UInt64.toNat_or, shl64_toNat, Nat.min_eq_left (by omega), UInt64.toNat_ofNat', UInt64.toNat_ofNat', UInt8.toNat_toUInt64, Nat.mod_eq_of_lt (a := a) (by omega), Nat.mod_eq_of_lt (a := x.toNat * 2 ^ (8 * k)) (by omega), Nat.mod_eq_of_lt (by omega)]
  rw [Nat.mul_comm x.toNat, Nat.add_comm a, Nat.two_pow_add_eq_or_of_lt ha, Nat.or_comm]

theorem cell_got (w : World) (v : Value) (l : List UInt8) (hv : Bytes w v l) (hl : l.length ≤ 8) :
    Calls Try.prog 53 #[v] w fun e w' => e = .returned (W64 (UInt64.ofNat (num l))) ∧ w' = w := by
  obtain ⟨ao, cap, rfl, h1, h2, -⟩ := id hv
  go_enter Try.func53, Try.ntmps53
  go_wp2_with fail
  go_loop [3, 4, 5, 8] (fun y _ _ i => ∃ k : Nat, k ≤ l.length ∧ i = .int .i64 k ∧ y = W64 (UInt64.ofNat (num (l.take k)))) (fun _ _ _ i => l.length - (intOf i).toNat)
  case atStart => exact ⟨0, by omega, rfl, rfl⟩
  case round =>
    obtain ⟨k, hk, rfl, rfl⟩ := hrel
    by_cases hlt : k < l.length
    · obtain ⟨bb, off, rfl, hbb, hcell⟩ := hv.at hlt
      have hs := Lib.hid (or_shl (num (l.take k)) k (l.getD k 0) (by omega) (by have := num_lt (l.take k); rwa [List.length_take, Nat.min_eq_left hk] at this))
      have ht := Lib.hid (take_succ_getD l k hlt)
      have hn := Lib.hid (num_snoc (l.take k) (l.getD k 0))
      have hsh := shl64_8 ((l.getD k 0).toUInt64) k
      generalize UInt64.ofNat (num (l.take k)) = y at *
      generalize l.getD k 0 = x at *
      clear hv
      go_wp2_with fail
      go_round
      case rel =>
        refine ⟨k + 1, by omega, by go_num, ?_⟩
        rw [ht.out, hn.out, List.length_take, Nat.min_eq_left hk, ← hs.out]
      case measure => simp [intOf]; omega
    · have : k = l.length := by omega
      subst this
      rw [List.take_length]
      go_wp2_with fail
      go_ret
      exact ⟨rfl, rfl⟩
end Go.Proofs.Ytmeialegemhlhaa
