/-
  MacPieces' walk, its arguments in the row's order.
-/
import Derived.Test.YtejmbkljnhnklaaMacPi
namespace Go.Proofs.Ytejmbkljnhnklaa
open Go.RowKit Go.PK
theorem MacPieces_row (w0 : World) (v0 : Value) (key : List UInt8) (hv : Bytes w0 v0 key) (hkl : key.length ≤ 140737488351232) (v : Value) (l : List Step) (hK : (rSlice rOp).K w0 [v] l) (ho : (rSlice rOp).ok l) :
    Calls Try.prog 6 #[v0, v] w0 fun e w' => e = .returned (.bool true) ∧ Below w0.heap.size w0 w' := MacPieces_walk w0 v0 v key l hv hkl hK ho
end Go.Proofs.Ytejmbkljnhnklaa
