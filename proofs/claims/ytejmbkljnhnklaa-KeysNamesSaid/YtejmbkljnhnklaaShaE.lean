/-
  Equality of two hashes.
-/
import Derived.Test.YtejmbkljnhnklaaShaO
import Derived.Test.YtejmbkljnhnklaaRg2
namespace Go.Proofs.Ytejmbkljnhnklaa
open Go.RowKit Go.PK

theorem hash_eq (a b : List UInt8) (ha : Len a 32) (hb : Len b 32) : EqTo Try.prog 24 (a.map B8).toArray (b.map B8).toArray (a == b) :=
  ⟨by kernel_rfl, fun w => run_equalIn_arr (P := Try.prog) B8 0 Try.underlying24 Try.underlying5 (by kernel_rfl) (fun d x y w => equalIn_B8 Try.underlying5 d x y w) 9998 a b ha hb (w := w)⟩
theorem hash_self (a : List UInt8) (ha : Len a 32) : EqTo Try.prog 24 (a.map B8).toArray (a.map B8).toArray true := by
  have := hash_eq a a ha ha
  rwa [beq_self_eq_true] at this
end Go.Proofs.Ytejmbkljnhnklaa
