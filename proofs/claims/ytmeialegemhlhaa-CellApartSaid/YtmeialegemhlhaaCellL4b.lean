/-
  The walk of CellApart, its arguments in the row's order.
-/
import Derived.Test.YtmeialegemhlhaaCellL4
namespace Go.Proofs.Ytmeialegemhlhaa
open Go.RowKit Go.PK
theorem CellApart_row (w0 : World) (ca : List UInt8) (hca : ca.length = 32) (cb : List UInt8) (hcb : cb.length = 32) :
    Calls Try.prog 17 #[.agg (ca.map B8).toArray, .agg (cb.map B8).toArray] w0 fun e w' => e = .returned (.bool true) ∧ Below w0.heap.size w0 w' := CellApart_walk w0 ca cb hca hcb
end Go.Proofs.Ytmeialegemhlhaa
