/-
  The walk of CellTears, its arguments in the row's order.
-/
import Derived.Test.YtmeialegemhlhaaCellL5
namespace Go.Proofs.Ytmeialegemhlhaa
open Go.RowKit Go.PK
theorem CellTears_row (w0 : World) (r1 r2 r3 : Int) (_h1 : -9223372036854775808 ≤ r1 ∧ r1 ≤ 9223372036854775807) (_h2 : -9223372036854775808 ≤ r2 ∧ r2 ≤ 9223372036854775807) (_h3 : -9223372036854775808 ≤ r3 ∧ r3 ≤ 9223372036854775807)
    (v1 : Value) (m1 : List UInt8) (hb1 : Bytes w0 v1 m1) (_z1 : m1.length ≤ 140737488351232) (v2 : Value) (m2 : List UInt8) (hb2 : Bytes w0 v2 m2) (_z2 : m2.length ≤ 140737488351232) :
    Calls Try.prog 16 #[.agg #[.int .i64 r1, .int .i64 r2, .int .i64 r3], v1, v2] w0 fun e w' => e = .returned (.bool true) ∧ Below w0.heap.size w0 w' := CellTears_walk w0 r1 r2 r3 v1 m1 hb1 v2 m2 hb2
end Go.Proofs.Ytmeialegemhlhaa
