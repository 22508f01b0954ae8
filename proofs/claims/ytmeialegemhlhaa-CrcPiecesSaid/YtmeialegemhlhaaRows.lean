/-
  No cell of these rows narrows 'for every input' (looked for: loops, veiled, ifaces, maps, wideKeys, modest, calm, conditions, laid).
  DERIVED. THE GIVEN ROWS OF THIS SEAT. 15 by the template 'for every input the law returns true; each argument reads behind the call as it read before'; 0 by the template 'total and deterministic' (their statements: YtmeialegemhlhaaTotals.lean).
  GIVEN WITH THE SEED: the statements are not yours to turn. If you find one false, say at which input.
  Laid BY PROGRAM, IN A SANDBOX (cutbox-rows.mjs): the forced cells as the released guide's own fill.sh prints them over the translation 752b28b20e0bdb41… (all of the seat's roots in one cut). By AI agents, Wed Nov 11 2026. No macro, syntax, notation, axiom, sorry.
-/
import Derived.Test.YtmeialegemhlhaaChecked
import GoSem.Claim
import GoSem.ClaimJoined
import GoSem.ClaimMapViews
import Derived.JoinedTies
import Derived.KernelRfl
namespace Go.Proofs.Ytmeialegemhlhaa
/- THE CELL 'sum', in the pinned program and in every row, IS THE sha256 OF THE DUMP (.gsa) THAT YtmeialegemhlhaaProg.lean LOADS. Nothing in Lean hashes anything: it is a label: what it is worth is what the hold of that sum in a sandbox is worth. -/
noncomputable def Try.pinned : Pinned := { name := "ytmeialegemhlhaa", sum := "752b28b20e0bdb41bfc928edaea7c1549f9c1ea2f212dbf82aefd1a780f9dfa4", checked := Try.checked }
namespace Rows
def none {H : Type} : Left H := { results := [], args := [] }

/-- 'portcullislaw05.RailNames': WHATEVER THE INPUT: true; the input reads as it did. -/
def railNamesSpec : ChangeSpec := { name := "railNames", fn := fun _ => fun
  | [] => { results := [.lit (.bool true)], args := [] }
  | _ => none }
def railNamesRow : OpenClaim := { program := "ytmeialegemhlhaa", sum := "752b28b20e0bdb41bfc928edaea7c1549f9c1ea2f212dbf82aefd1a780f9dfa4", func := "portcullis/portcullislaw05.RailNames", spec := "railNames", apart := false }
def RailNamesSaid : Prop := railNamesRow.holds Try.pinned (OpenSpec.ofChange railNamesSpec)

/-- ITS FALSE NEIGHBOUR: 'it returns false'. Refute it at one input. -/
def railNamesWrong : ChangeSpec := { name := "railNames", fn := fun _ => fun
  | [] => { results := [.lit (.bool false)], args := [] }
  | _ => none }
def RailNamesWrongFalsely : Prop := railNamesRow.holds Try.pinned (OpenSpec.ofChange railNamesWrong)

/-- 'portcullislaw05.RailBack': WHATEVER THE INPUT: true; the input reads as it did. -/
def railBackSpec : ChangeSpec := { name := "railBack", fn := fun _ => fun
  | [d] => { results := [.lit (.bool true)], args := [d] }
  | _ => none }
def railBackRow : OpenClaim := { program := "ytmeialegemhlhaa", sum := "752b28b20e0bdb41bfc928edaea7c1549f9c1ea2f212dbf82aefd1a780f9dfa4", func := "portcullis/portcullislaw05.RailBack", spec := "railBack", apart := false }
def RailBackSaid : Prop := railBackRow.holds Try.pinned (OpenSpec.ofChange railBackSpec)

/-- ITS FALSE NEIGHBOUR: 'it returns false'. Refute it at one input. -/
def railBackWrong : ChangeSpec := { name := "railBack", fn := fun _ => fun
  | [d] => { results := [.lit (.bool false)], args := [d] }
  | _ => none }
def RailBackWrongFalsely : Prop := railBackRow.holds Try.pinned (OpenSpec.ofChange railBackWrong)

/-- 'portcullislaw05.RailKeeps': WHATEVER THE INPUT: true; the input reads as it did. -/
def railKeepsSpec : ChangeSpec := { name := "railKeeps", fn := fun _ => fun
  | [d] => { results := [.lit (.bool true)], args := [d] }
  | _ => none }
def railKeepsRow : OpenClaim := { program := "ytmeialegemhlhaa", sum := "752b28b20e0bdb41bfc928edaea7c1549f9c1ea2f212dbf82aefd1a780f9dfa4", func := "portcullis/portcullislaw05.RailKeeps", spec := "railKeeps", unfollowed := true, recurses := true, apart := false }
def RailKeepsSaid : Prop := railKeepsRow.holds Try.pinned (OpenSpec.ofChange railKeepsSpec)

/-- ITS FALSE NEIGHBOUR: 'it returns false'. Refute it at one input. -/
def railKeepsWrong : ChangeSpec := { name := "railKeeps", fn := fun _ => fun
  | [d] => { results := [.lit (.bool false)], args := [d] }
  | _ => none }
def RailKeepsWrongFalsely : Prop := railKeepsRow.holds Try.pinned (OpenSpec.ofChange railKeepsWrong)

/-- 'portcullislaw01.CrcSums': WHATEVER THE INPUT: true; the input reads as it did. -/
def crcSumsSpec : ChangeSpec := { name := "crcSums", fn := fun _ => fun
  | [d] => { results := [.lit (.bool true)], args := [d] }
  | _ => none }
def crcSumsRow : OpenClaim := { program := "ytmeialegemhlhaa", sum := "752b28b20e0bdb41bfc928edaea7c1549f9c1ea2f212dbf82aefd1a780f9dfa4", func := "portcullis/portcullislaw01.CrcSums", spec := "crcSums", apart := false }
def CrcSumsSaid : Prop := crcSumsRow.holds Try.pinned (OpenSpec.ofChange crcSumsSpec)

/-- ITS FALSE NEIGHBOUR: 'it returns false'. Refute it at one input. -/
def crcSumsWrong : ChangeSpec := { name := "crcSums", fn := fun _ => fun
  | [d] => { results := [.lit (.bool false)], args := [d] }
  | _ => none }
def CrcSumsWrongFalsely : Prop := crcSumsRow.holds Try.pinned (OpenSpec.ofChange crcSumsWrong)

/-- 'portcullislaw01.CrcPieces': WHATEVER THE INPUT: true; the input reads as it did. -/
def crcPiecesSpec : ChangeSpec := { name := "crcPieces", fn := fun _ => fun
  | [d] => { results := [.lit (.bool true)], args := [d] }
  | _ => none }
def crcPiecesRow : OpenClaim := { program := "ytmeialegemhlhaa", sum := "752b28b20e0bdb41bfc928edaea7c1549f9c1ea2f212dbf82aefd1a780f9dfa4", func := "portcullis/portcullislaw01.CrcPieces", spec := "crcPieces", apart := false }
def CrcPiecesSaid : Prop := crcPiecesRow.holds Try.pinned (OpenSpec.ofChange crcPiecesSpec)

/-- ITS FALSE NEIGHBOUR: 'it returns false'. Refute it at one input. -/
def crcPiecesWrong : ChangeSpec := { name := "crcPieces", fn := fun _ => fun
  | [d] => { results := [.lit (.bool false)], args := [d] }
  | _ => none }
def CrcPiecesWrongFalsely : Prop := crcPiecesRow.holds Try.pinned (OpenSpec.ofChange crcPiecesWrong)

/-- 'portcullislaw01.CrcLinear': WHATEVER THE INPUT: true; the input reads as it did. -/
def crcLinearSpec : ChangeSpec := { name := "crcLinear", fn := fun _ => fun
  | [d1, d2, d3] => { results := [.lit (.bool true)], args := [d1, d2, d3] }
  | _ => none }
def crcLinearRow : OpenClaim := { program := "ytmeialegemhlhaa", sum := "752b28b20e0bdb41bfc928edaea7c1549f9c1ea2f212dbf82aefd1a780f9dfa4", func := "portcullis/portcullislaw01.CrcLinear", spec := "crcLinear", apart := false }
def CrcLinearSaid : Prop := crcLinearRow.holds Try.pinned (OpenSpec.ofChange crcLinearSpec)

/-- ITS FALSE NEIGHBOUR: 'it returns false'. Refute it at one input. -/
def crcLinearWrong : ChangeSpec := { name := "crcLinear", fn := fun _ => fun
  | [d1, d2, d3] => { results := [.lit (.bool false)], args := [d1, d2, d3] }
  | _ => none }
def CrcLinearWrongFalsely : Prop := crcLinearRow.holds Try.pinned (OpenSpec.ofChange crcLinearWrong)

/-- 'portcullislaw01.CrcTells': WHATEVER THE INPUT: true; the input reads as it did. -/
def crcTellsSpec : ChangeSpec := { name := "crcTells", fn := fun _ => fun
  | [d1, d2, d3] => { results := [.lit (.bool true)], args := [d1, d2, d3] }
  | _ => none }
def crcTellsRow : OpenClaim := { program := "ytmeialegemhlhaa", sum := "752b28b20e0bdb41bfc928edaea7c1549f9c1ea2f212dbf82aefd1a780f9dfa4", func := "portcullis/portcullislaw01.CrcTells", spec := "crcTells", apart := false }
def CrcTellsSaid : Prop := crcTellsRow.holds Try.pinned (OpenSpec.ofChange crcTellsSpec)

/-- ITS FALSE NEIGHBOUR: 'it returns false'. Refute it at one input. -/
def crcTellsWrong : ChangeSpec := { name := "crcTells", fn := fun _ => fun
  | [d1, d2, d3] => { results := [.lit (.bool false)], args := [d1, d2, d3] }
  | _ => none }
def CrcTellsWrongFalsely : Prop := crcTellsRow.holds Try.pinned (OpenSpec.ofChange crcTellsWrong)

/-- 'portcullislaw05.RailDoes': WHATEVER THE INPUT: true; the input reads as it did. -/
def railDoesSpec : ChangeSpec := { name := "railDoes", fn := fun _ => fun
  | [d1, d2] => { results := [.lit (.bool true)], args := [d1, d2] }
  | _ => none }
def railDoesRow : OpenClaim := { program := "ytmeialegemhlhaa", sum := "752b28b20e0bdb41bfc928edaea7c1549f9c1ea2f212dbf82aefd1a780f9dfa4", func := "portcullis/portcullislaw05.RailDoes", spec := "railDoes", apart := false }
def RailDoesSaid : Prop := railDoesRow.holds Try.pinned (OpenSpec.ofChange railDoesSpec)

/-- ITS FALSE NEIGHBOUR: 'it returns false'. Refute it at one input. -/
def railDoesWrong : ChangeSpec := { name := "railDoes", fn := fun _ => fun
  | [d1, d2] => { results := [.lit (.bool false)], args := [d1, d2] }
  | _ => none }
def RailDoesWrongFalsely : Prop := railDoesRow.holds Try.pinned (OpenSpec.ofChange railDoesWrong)

/-- 'portcullislaw05.RailTells': WHATEVER THE INPUT: true; the input reads as it did. -/
def railTellsSpec : ChangeSpec := { name := "railTells", fn := fun _ => fun
  | [d1, d2, d3] => { results := [.lit (.bool true)], args := [d1, d2, d3] }
  | _ => none }
def railTellsRow : OpenClaim := { program := "ytmeialegemhlhaa", sum := "752b28b20e0bdb41bfc928edaea7c1549f9c1ea2f212dbf82aefd1a780f9dfa4", func := "portcullis/portcullislaw05.RailTells", spec := "railTells", apart := false }
def RailTellsSaid : Prop := railTellsRow.holds Try.pinned (OpenSpec.ofChange railTellsSpec)

/-- ITS FALSE NEIGHBOUR: 'it returns false'. Refute it at one input. -/
def railTellsWrong : ChangeSpec := { name := "railTells", fn := fun _ => fun
  | [d1, d2, d3] => { results := [.lit (.bool false)], args := [d1, d2, d3] }
  | _ => none }
def RailTellsWrongFalsely : Prop := railTellsRow.holds Try.pinned (OpenSpec.ofChange railTellsWrong)

/-- 'portcullislaw06.CellNames': WHATEVER THE INPUT: true; the input reads as it did. -/
def cellNamesSpec : ChangeSpec := { name := "cellNames", fn := fun _ => fun
  | [] => { results := [.lit (.bool true)], args := [] }
  | _ => none }
def cellNamesRow : OpenClaim := { program := "ytmeialegemhlhaa", sum := "752b28b20e0bdb41bfc928edaea7c1549f9c1ea2f212dbf82aefd1a780f9dfa4", func := "portcullis/portcullislaw06.CellNames", spec := "cellNames", apart := false }
def CellNamesSaid : Prop := cellNamesRow.holds Try.pinned (OpenSpec.ofChange cellNamesSpec)

/-- ITS FALSE NEIGHBOUR: 'it returns false'. Refute it at one input. -/
def cellNamesWrong : ChangeSpec := { name := "cellNames", fn := fun _ => fun
  | [] => { results := [.lit (.bool false)], args := [] }
  | _ => none }
def CellNamesWrongFalsely : Prop := cellNamesRow.holds Try.pinned (OpenSpec.ofChange cellNamesWrong)

/-- 'portcullislaw06.CellMakes': WHATEVER THE INPUT: true; the input reads as it did. -/
def cellMakesSpec : ChangeSpec := { name := "cellMakes", fn := fun _ => fun
  | [d1, d2] => { results := [.lit (.bool true)], args := [d1, d2] }
  | _ => none }
def cellMakesRow : OpenClaim := { program := "ytmeialegemhlhaa", sum := "752b28b20e0bdb41bfc928edaea7c1549f9c1ea2f212dbf82aefd1a780f9dfa4", func := "portcullis/portcullislaw06.CellMakes", spec := "cellMakes", apart := false }
def CellMakesSaid : Prop := cellMakesRow.holds Try.pinned (OpenSpec.ofChange cellMakesSpec)

/-- ITS FALSE NEIGHBOUR: 'it returns false'. Refute it at one input. -/
def cellMakesWrong : ChangeSpec := { name := "cellMakes", fn := fun _ => fun
  | [d1, d2] => { results := [.lit (.bool false)], args := [d1, d2] }
  | _ => none }
def CellMakesWrongFalsely : Prop := cellMakesRow.holds Try.pinned (OpenSpec.ofChange cellMakesWrong)

/-- 'portcullislaw06.CellReads': WHATEVER THE INPUT: true; the input reads as it did. -/
def cellReadsSpec : ChangeSpec := { name := "cellReads", fn := fun _ => fun
  | [d] => { results := [.lit (.bool true)], args := [d] }
  | _ => none }
def cellReadsRow : OpenClaim := { program := "ytmeialegemhlhaa", sum := "752b28b20e0bdb41bfc928edaea7c1549f9c1ea2f212dbf82aefd1a780f9dfa4", func := "portcullis/portcullislaw06.CellReads", spec := "cellReads", apart := false }
def CellReadsSaid : Prop := cellReadsRow.holds Try.pinned (OpenSpec.ofChange cellReadsSpec)

/-- ITS FALSE NEIGHBOUR: 'it returns false'. Refute it at one input. -/
def cellReadsWrong : ChangeSpec := { name := "cellReads", fn := fun _ => fun
  | [d] => { results := [.lit (.bool false)], args := [d] }
  | _ => none }
def CellReadsWrongFalsely : Prop := cellReadsRow.holds Try.pinned (OpenSpec.ofChange cellReadsWrong)

/-- 'portcullislaw06.CellReturns': WHATEVER THE INPUT: true; the input reads as it did. -/
def cellReturnsSpec : ChangeSpec := { name := "cellReturns", fn := fun _ => fun
  | [d1, d2, d3] => { results := [.lit (.bool true)], args := [d1, d2, d3] }
  | _ => none }
def cellReturnsRow : OpenClaim := { program := "ytmeialegemhlhaa", sum := "752b28b20e0bdb41bfc928edaea7c1549f9c1ea2f212dbf82aefd1a780f9dfa4", func := "portcullis/portcullislaw06.CellReturns", spec := "cellReturns", apart := false }
def CellReturnsSaid : Prop := cellReturnsRow.holds Try.pinned (OpenSpec.ofChange cellReturnsSpec)

/-- ITS FALSE NEIGHBOUR: 'it returns false'. Refute it at one input. -/
def cellReturnsWrong : ChangeSpec := { name := "cellReturns", fn := fun _ => fun
  | [d1, d2, d3] => { results := [.lit (.bool false)], args := [d1, d2, d3] }
  | _ => none }
def CellReturnsWrongFalsely : Prop := cellReturnsRow.holds Try.pinned (OpenSpec.ofChange cellReturnsWrong)

/-- 'portcullislaw06.CellTears': WHATEVER THE INPUT: true; the input reads as it did. -/
def cellTearsSpec : ChangeSpec := { name := "cellTears", fn := fun _ => fun
  | [d1, d2, d3] => { results := [.lit (.bool true)], args := [d1, d2, d3] }
  | _ => none }
def cellTearsRow : OpenClaim := { program := "ytmeialegemhlhaa", sum := "752b28b20e0bdb41bfc928edaea7c1549f9c1ea2f212dbf82aefd1a780f9dfa4", func := "portcullis/portcullislaw06.CellTears", spec := "cellTears", apart := false }
def CellTearsSaid : Prop := cellTearsRow.holds Try.pinned (OpenSpec.ofChange cellTearsSpec)

/-- ITS FALSE NEIGHBOUR: 'it returns false'. Refute it at one input. -/
def cellTearsWrong : ChangeSpec := { name := "cellTears", fn := fun _ => fun
  | [d1, d2, d3] => { results := [.lit (.bool false)], args := [d1, d2, d3] }
  | _ => none }
def CellTearsWrongFalsely : Prop := cellTearsRow.holds Try.pinned (OpenSpec.ofChange cellTearsWrong)

/-- 'portcullislaw06.CellApart': WHATEVER THE INPUT: true; the input reads as it did. -/
def cellApartSpec : ChangeSpec := { name := "cellApart", fn := fun _ => fun
  | [d1, d2] => { results := [.lit (.bool true)], args := [d1, d2] }
  | _ => none }
def cellApartRow : OpenClaim := { program := "ytmeialegemhlhaa", sum := "752b28b20e0bdb41bfc928edaea7c1549f9c1ea2f212dbf82aefd1a780f9dfa4", func := "portcullis/portcullislaw06.CellApart", spec := "cellApart", apart := false }
def CellApartSaid : Prop := cellApartRow.holds Try.pinned (OpenSpec.ofChange cellApartSpec)

/-- ITS FALSE NEIGHBOUR: 'it returns false'. Refute it at one input. -/
def cellApartWrong : ChangeSpec := { name := "cellApart", fn := fun _ => fun
  | [d1, d2] => { results := [.lit (.bool false)], args := [d1, d2] }
  | _ => none }
def CellApartWrongFalsely : Prop := cellApartRow.holds Try.pinned (OpenSpec.ofChange cellApartWrong)

/- THE SECOND FORM. 'bulk': how many values and letters a reading holds, each counted each time it is reached (what is shared counts as often as it is met; a slice's spare places count too). A statement '..UptoSaid' is the law's where the arguments, and the package variables that the reading takes, are together of bulk at most 1048576: NARROWER than '..Said'. Prove '..Said' where nothing that the law and all that it calls make is longer than what came in: it says more and counts as full. Else prove '..UptoSaid'. A law counts once. -/
mutual
def uptoBulk {H : Type} : DataW H → Nat
  | .lit (.string bytes) => bytes.length + 1
  | .lit _ => 1
  | .nil => 1
  | .ptr d => uptoBulk d + 1
  | .slice elems spare => uptoBulkAll elems + uptoBulkAll spare + 1
  | .agg parts => uptoBulkAll parts + 1
  | .iface _ d => uptoBulk d + 1
  | .map entries => uptoBulkEntries entries + 1
  | .held _ => 1
def uptoBulkAll {H : Type} : List (DataW H) → Nat
  | [] => 0
  | d :: r => uptoBulk d + uptoBulkAll r
def uptoBulkEntries {H : Type} : List (Lit × DataW H) → Nat
  | [] => 0
  | x :: r => uptoBulkEntry x + uptoBulkEntries r
def uptoBulkEntry {H : Type} : Lit × DataW H → Nat
  | (.string bytes, d) => bytes.length + uptoBulk d + 1
  | (_, d) => uptoBulk d + 1
 end
def uptoSmall : (H : Type) → List (DataW H) → Bool := fun _ ds => decide (uptoBulkAll ds ≤ 1048576)
def OpenSpec.upto (s : _root_.Go.ChangeSpec) : _root_.Go.OpenSpec := { _root_.Go.OpenSpec.ofChange s with cond := some uptoSmall }

/-- 'portcullislaw05.RailNames', WHERE WHAT IT READS IS OF BULK AT MOST 1048576: true; the input reads as it did. -/
def railNamesUptoRow : OpenClaim := { program := "ytmeialegemhlhaa", sum := "752b28b20e0bdb41bfc928edaea7c1549f9c1ea2f212dbf82aefd1a780f9dfa4", func := "portcullis/portcullislaw05.RailNames", spec := "railNames", apart := false, narrowed := true }
def RailNamesUptoSaid : Prop := railNamesUptoRow.holds Try.pinned (OpenSpec.upto railNamesSpec)

/-- 'portcullislaw05.RailBack', WHERE WHAT IT READS IS OF BULK AT MOST 1048576: true; the input reads as it did. -/
def railBackUptoRow : OpenClaim := { program := "ytmeialegemhlhaa", sum := "752b28b20e0bdb41bfc928edaea7c1549f9c1ea2f212dbf82aefd1a780f9dfa4", func := "portcullis/portcullislaw05.RailBack", spec := "railBack", apart := false, narrowed := true }
def RailBackUptoSaid : Prop := railBackUptoRow.holds Try.pinned (OpenSpec.upto railBackSpec)

/-- 'portcullislaw05.RailKeeps', WHERE WHAT IT READS IS OF BULK AT MOST 1048576: true; the input reads as it did. -/
def railKeepsUptoRow : OpenClaim := { program := "ytmeialegemhlhaa", sum := "752b28b20e0bdb41bfc928edaea7c1549f9c1ea2f212dbf82aefd1a780f9dfa4", func := "portcullis/portcullislaw05.RailKeeps", spec := "railKeeps", unfollowed := true, recurses := true, apart := false, narrowed := true }
def RailKeepsUptoSaid : Prop := railKeepsUptoRow.holds Try.pinned (OpenSpec.upto railKeepsSpec)

/-- 'portcullislaw01.CrcSums', WHERE WHAT IT READS IS OF BULK AT MOST 1048576: true; the input reads as it did. -/
def crcSumsUptoRow : OpenClaim := { program := "ytmeialegemhlhaa", sum := "752b28b20e0bdb41bfc928edaea7c1549f9c1ea2f212dbf82aefd1a780f9dfa4", func := "portcullis/portcullislaw01.CrcSums", spec := "crcSums", apart := false, narrowed := true }
def CrcSumsUptoSaid : Prop := crcSumsUptoRow.holds Try.pinned (OpenSpec.upto crcSumsSpec)

/-- 'portcullislaw01.CrcPieces', WHERE WHAT IT READS IS OF BULK AT MOST 1048576: true; the input reads as it did. -/
def crcPiecesUptoRow : OpenClaim := { program := "ytmeialegemhlhaa", sum := "752b28b20e0bdb41bfc928edaea7c1549f9c1ea2f212dbf82aefd1a780f9dfa4", func := "portcullis/portcullislaw01.CrcPieces", spec := "crcPieces", apart := false, narrowed := true }
def CrcPiecesUptoSaid : Prop := crcPiecesUptoRow.holds Try.pinned (OpenSpec.upto crcPiecesSpec)

/-- 'portcullislaw01.CrcLinear', WHERE WHAT IT READS IS OF BULK AT MOST 1048576: true; the input reads as it did. -/
def crcLinearUptoRow : OpenClaim := { program := "ytmeialegemhlhaa", sum := "752b28b20e0bdb41bfc928edaea7c1549f9c1ea2f212dbf82aefd1a780f9dfa4", func := "portcullis/portcullislaw01.CrcLinear", spec := "crcLinear", apart := false, narrowed := true }
def CrcLinearUptoSaid : Prop := crcLinearUptoRow.holds Try.pinned (OpenSpec.upto crcLinearSpec)

/-- 'portcullislaw01.CrcTells', WHERE WHAT IT READS IS OF BULK AT MOST 1048576: true; the input reads as it did. -/
def crcTellsUptoRow : OpenClaim := { program := "ytmeialegemhlhaa", sum := "752b28b20e0bdb41bfc928edaea7c1549f9c1ea2f212dbf82aefd1a780f9dfa4", func := "portcullis/portcullislaw01.CrcTells", spec := "crcTells", apart := false, narrowed := true }
def CrcTellsUptoSaid : Prop := crcTellsUptoRow.holds Try.pinned (OpenSpec.upto crcTellsSpec)

/-- 'portcullislaw05.RailDoes', WHERE WHAT IT READS IS OF BULK AT MOST 1048576: true; the input reads as it did. -/
def railDoesUptoRow : OpenClaim := { program := "ytmeialegemhlhaa", sum := "752b28b20e0bdb41bfc928edaea7c1549f9c1ea2f212dbf82aefd1a780f9dfa4", func := "portcullis/portcullislaw05.RailDoes", spec := "railDoes", apart := false, narrowed := true }
def RailDoesUptoSaid : Prop := railDoesUptoRow.holds Try.pinned (OpenSpec.upto railDoesSpec)

/-- 'portcullislaw05.RailTells', WHERE WHAT IT READS IS OF BULK AT MOST 1048576: true; the input reads as it did. -/
def railTellsUptoRow : OpenClaim := { program := "ytmeialegemhlhaa", sum := "752b28b20e0bdb41bfc928edaea7c1549f9c1ea2f212dbf82aefd1a780f9dfa4", func := "portcullis/portcullislaw05.RailTells", spec := "railTells", apart := false, narrowed := true }
def RailTellsUptoSaid : Prop := railTellsUptoRow.holds Try.pinned (OpenSpec.upto railTellsSpec)

/-- 'portcullislaw06.CellNames', WHERE WHAT IT READS IS OF BULK AT MOST 1048576: true; the input reads as it did. -/
def cellNamesUptoRow : OpenClaim := { program := "ytmeialegemhlhaa", sum := "752b28b20e0bdb41bfc928edaea7c1549f9c1ea2f212dbf82aefd1a780f9dfa4", func := "portcullis/portcullislaw06.CellNames", spec := "cellNames", apart := false, narrowed := true }
def CellNamesUptoSaid : Prop := cellNamesUptoRow.holds Try.pinned (OpenSpec.upto cellNamesSpec)

/-- 'portcullislaw06.CellMakes', WHERE WHAT IT READS IS OF BULK AT MOST 1048576: true; the input reads as it did. -/
def cellMakesUptoRow : OpenClaim := { program := "ytmeialegemhlhaa", sum := "752b28b20e0bdb41bfc928edaea7c1549f9c1ea2f212dbf82aefd1a780f9dfa4", func := "portcullis/portcullislaw06.CellMakes", spec := "cellMakes", apart := false, narrowed := true }
def CellMakesUptoSaid : Prop := cellMakesUptoRow.holds Try.pinned (OpenSpec.upto cellMakesSpec)

/-- 'portcullislaw06.CellReads', WHERE WHAT IT READS IS OF BULK AT MOST 1048576: true; the input reads as it did. -/
def cellReadsUptoRow : OpenClaim := { program := "ytmeialegemhlhaa", sum := "752b28b20e0bdb41bfc928edaea7c1549f9c1ea2f212dbf82aefd1a780f9dfa4", func := "portcullis/portcullislaw06.CellReads", spec := "cellReads", apart := false, narrowed := true }
def CellReadsUptoSaid : Prop := cellReadsUptoRow.holds Try.pinned (OpenSpec.upto cellReadsSpec)

/-- 'portcullislaw06.CellReturns', WHERE WHAT IT READS IS OF BULK AT MOST 1048576: true; the input reads as it did. -/
def cellReturnsUptoRow : OpenClaim := { program := "ytmeialegemhlhaa", sum := "752b28b20e0bdb41bfc928edaea7c1549f9c1ea2f212dbf82aefd1a780f9dfa4", func := "portcullis/portcullislaw06.CellReturns", spec := "cellReturns", apart := false, narrowed := true }
def CellReturnsUptoSaid : Prop := cellReturnsUptoRow.holds Try.pinned (OpenSpec.upto cellReturnsSpec)

/-- 'portcullislaw06.CellTears', WHERE WHAT IT READS IS OF BULK AT MOST 1048576: true; the input reads as it did. -/
def cellTearsUptoRow : OpenClaim := { program := "ytmeialegemhlhaa", sum := "752b28b20e0bdb41bfc928edaea7c1549f9c1ea2f212dbf82aefd1a780f9dfa4", func := "portcullis/portcullislaw06.CellTears", spec := "cellTears", apart := false, narrowed := true }
def CellTearsUptoSaid : Prop := cellTearsUptoRow.holds Try.pinned (OpenSpec.upto cellTearsSpec)

/-- 'portcullislaw06.CellApart', WHERE WHAT IT READS IS OF BULK AT MOST 1048576: true; the input reads as it did. -/
def cellApartUptoRow : OpenClaim := { program := "ytmeialegemhlhaa", sum := "752b28b20e0bdb41bfc928edaea7c1549f9c1ea2f212dbf82aefd1a780f9dfa4", func := "portcullis/portcullislaw06.CellApart", spec := "cellApart", apart := false, narrowed := true }
def CellApartUptoSaid : Prop := cellApartUptoRow.holds Try.pinned (OpenSpec.upto cellApartSpec)

end Rows
end Go.Proofs.Ytmeialegemhlhaa
