/-
  Facts on this program's types.
-/
import Derived.Test.YtmeialegemhlhaaProg
import Derived.Test.YtmeialegemhlhaaM
namespace Go.Proofs.Ytmeialegemhlhaa
open Go.RowKit Go.PK
theorem u8info : (Try.prog.info? 5).map (fun i => (i.zero, i.size, i.bytes)) = some (some (B8 0), 1, 1) := by kernel_rfl
end Go.Proofs.Ytmeialegemhlhaa
