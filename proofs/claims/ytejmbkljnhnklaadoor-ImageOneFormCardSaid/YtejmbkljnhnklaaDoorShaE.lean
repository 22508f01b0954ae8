/-
  Equality of two hashes.
-/
import Derived.Test.YtejmbkljnhnklaaDoorShaO
import Derived.Test.YtejmbkljnhnklaaDoorRg2
namespace Go.Proofs.YtejmbkljnhnklaaDoor
open Go.RowKit Go.PK

theorem hash_eq (a b : List UInt8) (ha : Len a 32) (hb : Len b 32) : EqTo Tryd.prog 25 (a.map B8).toArray (b.map B8).toArray (a == b) :=
  ⟨by kernel_rfl, fun w => run_equalIn_arr (P := Tryd.prog) B8 0 Tryd.underlying25 Tryd.underlying5 (by kernel_rfl) (fun d x y w => equalIn_B8 Tryd.underlying5 d x y w) 9998 a b ha hb (w := w)⟩
theorem hash_self (a : List UInt8) (ha : Len a 32) : EqTo Tryd.prog 25 (a.map B8).toArray (a.map B8).toArray true := by
  have := hash_eq a a ha ha
  rwa [beq_self_eq_true] at this
end Go.Proofs.YtejmbkljnhnklaaDoor
