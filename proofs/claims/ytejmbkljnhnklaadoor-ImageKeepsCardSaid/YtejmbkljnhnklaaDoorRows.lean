/-
  NARROWER THAN 'FOR EVERY INPUT', by the rows' own cells (each row's printed sentence says how): ImageNames: laid · ImageMakes: laid · ImageParses: laid · ImageReturns: laid · ImageOneForm: laid · ImageKeeps: laid.
  DERIVED. THE GIVEN ROWS OF THIS SEAT. 6 by the template 'for every input the law returns true; each argument reads behind the call as it read before'; 0 by the template 'total and deterministic' (their statements: YtejmbkljnhnklaaDoorTotals.lean).
  GIVEN WITH THE SEED: the statements are not yours to turn. If you find one false, say at which input.
  Laid BY PROGRAM, IN A SANDBOX (cutbox-rows.mjs): the forced cells as the released guide's own fill.sh prints them over the translation 9e04d952c2f889a4… (all of the seat's roots in one cut). By AI agents, Wed Nov 11 2026. No macro, syntax, notation, axiom, sorry.
-/
import Derived.Test.YtejmbkljnhnklaaDoorChecked
import GoSem.Claim
import GoSem.ClaimJoined
import GoSem.ClaimMapViews
import Derived.JoinedTies
import Derived.KernelRfl
namespace Go.Proofs.YtejmbkljnhnklaaDoor
/- THE CELL 'sum', in the pinned program and in every row, IS THE sha256 OF THE DUMP (.gsa) THAT YtejmbkljnhnklaaDoorProg.lean LOADS. Nothing in Lean hashes anything: it is a label: what it is worth is what the hold of that sum in a sandbox is worth. -/
noncomputable def Tryd.pinned : Pinned := { name := "ytejmbkljnhnklaadoor", sum := "9e04d952c2f889a492c21a9d348fff6b1db0f58bcd9c6008b7ae2ea9124fbc6a", checked := Tryd.checked }
namespace Rows
def none {H : Type} : Left H := { results := [], args := [] }

/- WHAT THE LISTED PACKAGE-LEVEL VARIABLES READ AS WHEN THE CALL BEGINS. Each datum BY PROGRAM (the guide's laid-datum.mjs) off the statement by which the dump's own 'gosem.cut.vars' lays the variable. In a bare row this is a premise. The card (YtejmbkljnhnklaaDoorCards.lean) ties it to the program's text. -/
def laid_errors_errorType {H : Type} : DataW H := .iface "internal/reflectlite.rtype" (.agg [.ptr (.lit (.string [101, 114, 114, 111, 114]))])

/-- 'portcullislaw11.ImageNames': WHATEVER THE INPUT: true; the input reads as it did. -/
def imageNamesSpec : ChangeSpec := { name := "imageNames", fn := fun _ => fun
  | [] => { results := [.lit (.bool true)], args := [] }
  | _ => none }
def imageNamesRow : OpenClaim := { program := "ytejmbkljnhnklaadoor", sum := "9e04d952c2f889a492c21a9d348fff6b1db0f58bcd9c6008b7ae2ea9124fbc6a", func := "portcullis/portcullislaw11.ImageNames", spec := "imageNames", inPlace := ["internal/reflectlite.ValueOf", "(internal/reflectlite.Value).Type", "(internal/reflectlite.Value).IsNil", "internal/reflectlite.TypeOf", "(internal/reflectlite.Value).Elem", "(internal/reflectlite.Value).Set"], unfollowed := true, recurses := true, named := ["errors.errorType"], apart := false, laid := [("errors.errorType", laid_errors_errorType)] }
def ImageNamesSaid : Prop := imageNamesRow.holds Tryd.pinned (OpenSpec.ofChange imageNamesSpec)

/-- ITS FALSE NEIGHBOUR: 'it returns false'. Refute it at one input. -/
def imageNamesWrong : ChangeSpec := { name := "imageNames", fn := fun _ => fun
  | [] => { results := [.lit (.bool false)], args := [] }
  | _ => none }
def ImageNamesWrongFalsely : Prop := imageNamesRow.holds Tryd.pinned (OpenSpec.ofChange imageNamesWrong)

/-- 'portcullislaw11.ImageMakes': WHATEVER THE INPUT: true; the input reads as it did. -/
def imageMakesSpec : ChangeSpec := { name := "imageMakes", fn := fun _ => fun
  | [d1, d2] => { results := [.lit (.bool true)], args := [d1, d2] }
  | _ => none }
def imageMakesRow : OpenClaim := { program := "ytejmbkljnhnklaadoor", sum := "9e04d952c2f889a492c21a9d348fff6b1db0f58bcd9c6008b7ae2ea9124fbc6a", func := "portcullis/portcullislaw11.ImageMakes", spec := "imageMakes", inPlace := ["internal/reflectlite.ValueOf", "(internal/reflectlite.Value).Type", "(internal/reflectlite.Value).IsNil", "internal/reflectlite.TypeOf", "(internal/reflectlite.Value).Elem", "(internal/reflectlite.Value).Set"], unfollowed := true, recurses := true, named := ["errors.errorType"], apart := false, laid := [("errors.errorType", laid_errors_errorType)] }
def ImageMakesSaid : Prop := imageMakesRow.holds Tryd.pinned (OpenSpec.ofChange imageMakesSpec)

/-- ITS FALSE NEIGHBOUR: 'it returns false'. Refute it at one input. -/
def imageMakesWrong : ChangeSpec := { name := "imageMakes", fn := fun _ => fun
  | [d1, d2] => { results := [.lit (.bool false)], args := [d1, d2] }
  | _ => none }
def ImageMakesWrongFalsely : Prop := imageMakesRow.holds Tryd.pinned (OpenSpec.ofChange imageMakesWrong)

/-- 'portcullislaw11.ImageParses': WHATEVER THE INPUT: true; the input reads as it did. -/
def imageParsesSpec : ChangeSpec := { name := "imageParses", fn := fun _ => fun
  | [d] => { results := [.lit (.bool true)], args := [d] }
  | _ => none }
def imageParsesRow : OpenClaim := { program := "ytejmbkljnhnklaadoor", sum := "9e04d952c2f889a492c21a9d348fff6b1db0f58bcd9c6008b7ae2ea9124fbc6a", func := "portcullis/portcullislaw11.ImageParses", spec := "imageParses", inPlace := ["internal/reflectlite.ValueOf", "(internal/reflectlite.Value).Type", "(internal/reflectlite.Value).IsNil", "internal/reflectlite.TypeOf", "(internal/reflectlite.Value).Elem", "(internal/reflectlite.Value).Set"], unfollowed := true, recurses := true, named := ["errors.errorType"], apart := false, laid := [("errors.errorType", laid_errors_errorType)] }
def ImageParsesSaid : Prop := imageParsesRow.holds Tryd.pinned (OpenSpec.ofChange imageParsesSpec)

/-- ITS FALSE NEIGHBOUR: 'it returns false'. Refute it at one input. -/
def imageParsesWrong : ChangeSpec := { name := "imageParses", fn := fun _ => fun
  | [d] => { results := [.lit (.bool false)], args := [d] }
  | _ => none }
def ImageParsesWrongFalsely : Prop := imageParsesRow.holds Tryd.pinned (OpenSpec.ofChange imageParsesWrong)

/-- 'portcullislaw11.ImageReturns': WHATEVER THE INPUT: true; the input reads as it did. -/
def imageReturnsSpec : ChangeSpec := { name := "imageReturns", fn := fun _ => fun
  | [d1, d2] => { results := [.lit (.bool true)], args := [d1, d2] }
  | _ => none }
def imageReturnsRow : OpenClaim := { program := "ytejmbkljnhnklaadoor", sum := "9e04d952c2f889a492c21a9d348fff6b1db0f58bcd9c6008b7ae2ea9124fbc6a", func := "portcullis/portcullislaw11.ImageReturns", spec := "imageReturns", inPlace := ["internal/reflectlite.ValueOf", "(internal/reflectlite.Value).Type", "(internal/reflectlite.Value).IsNil", "internal/reflectlite.TypeOf", "(internal/reflectlite.Value).Elem", "(internal/reflectlite.Value).Set"], unfollowed := true, recurses := true, named := ["errors.errorType"], apart := false, laid := [("errors.errorType", laid_errors_errorType)] }
def ImageReturnsSaid : Prop := imageReturnsRow.holds Tryd.pinned (OpenSpec.ofChange imageReturnsSpec)

/-- ITS FALSE NEIGHBOUR: 'it returns false'. Refute it at one input. -/
def imageReturnsWrong : ChangeSpec := { name := "imageReturns", fn := fun _ => fun
  | [d1, d2] => { results := [.lit (.bool false)], args := [d1, d2] }
  | _ => none }
def ImageReturnsWrongFalsely : Prop := imageReturnsRow.holds Tryd.pinned (OpenSpec.ofChange imageReturnsWrong)

/-- 'portcullislaw11.ImageOneForm': WHATEVER THE INPUT: true; the input reads as it did. -/
def imageOneFormSpec : ChangeSpec := { name := "imageOneForm", fn := fun _ => fun
  | [d1, d2] => { results := [.lit (.bool true)], args := [d1, d2] }
  | _ => none }
def imageOneFormRow : OpenClaim := { program := "ytejmbkljnhnklaadoor", sum := "9e04d952c2f889a492c21a9d348fff6b1db0f58bcd9c6008b7ae2ea9124fbc6a", func := "portcullis/portcullislaw11.ImageOneForm", spec := "imageOneForm", inPlace := ["internal/reflectlite.ValueOf", "(internal/reflectlite.Value).Type", "(internal/reflectlite.Value).IsNil", "internal/reflectlite.TypeOf", "(internal/reflectlite.Value).Elem", "(internal/reflectlite.Value).Set"], unfollowed := true, recurses := true, named := ["errors.errorType"], apart := false, laid := [("errors.errorType", laid_errors_errorType)] }
def ImageOneFormSaid : Prop := imageOneFormRow.holds Tryd.pinned (OpenSpec.ofChange imageOneFormSpec)

/-- ITS FALSE NEIGHBOUR: 'it returns false'. Refute it at one input. -/
def imageOneFormWrong : ChangeSpec := { name := "imageOneForm", fn := fun _ => fun
  | [d1, d2] => { results := [.lit (.bool false)], args := [d1, d2] }
  | _ => none }
def ImageOneFormWrongFalsely : Prop := imageOneFormRow.holds Tryd.pinned (OpenSpec.ofChange imageOneFormWrong)

/-- 'portcullislaw11.ImageKeeps': WHATEVER THE INPUT: true; the input reads as it did. -/
def imageKeepsSpec : ChangeSpec := { name := "imageKeeps", fn := fun _ => fun
  | [d1, d2, d3] => { results := [.lit (.bool true)], args := [d1, d2, d3] }
  | _ => none }
def imageKeepsRow : OpenClaim := { program := "ytejmbkljnhnklaadoor", sum := "9e04d952c2f889a492c21a9d348fff6b1db0f58bcd9c6008b7ae2ea9124fbc6a", func := "portcullis/portcullislaw11.ImageKeeps", spec := "imageKeeps", inPlace := ["internal/reflectlite.ValueOf", "(internal/reflectlite.Value).Type", "(internal/reflectlite.Value).IsNil", "internal/reflectlite.TypeOf", "(internal/reflectlite.Value).Elem", "(internal/reflectlite.Value).Set"], unfollowed := true, recurses := true, named := ["errors.errorType"], apart := false, laid := [("errors.errorType", laid_errors_errorType)] }
def ImageKeepsSaid : Prop := imageKeepsRow.holds Tryd.pinned (OpenSpec.ofChange imageKeepsSpec)

/-- ITS FALSE NEIGHBOUR: 'it returns false'. Refute it at one input. -/
def imageKeepsWrong : ChangeSpec := { name := "imageKeeps", fn := fun _ => fun
  | [d1, d2, d3] => { results := [.lit (.bool false)], args := [d1, d2, d3] }
  | _ => none }
def ImageKeepsWrongFalsely : Prop := imageKeepsRow.holds Tryd.pinned (OpenSpec.ofChange imageKeepsWrong)

/- THE SECOND FORM. 'bulk': how many values and letters a reading holds, each counted each time it is reached (what is shared counts as often as it is met; a slice's spare places count too). A statement '..UptoSaid' is the law's where the arguments, and the package variables that the reading takes, are together of bulk at most 1048576: NARROWER than '..Said'. Prove '..Said' where nothing that the law and all that it calls make is longer than what came in: it says more and counts as full. Else prove '..UptoSaid'. A law counts once. -/
mutual
def uptoBulk {H : Type} : DataW H → Nat
  | .lit (.string bytes) => bytes.length + 1
  | .lit _ => 1
  | .nil => 1
  | .ptr d => uptoBulk d + 1
  | .slice elems spare => uptoBulkAll elems + uptoBulkAll spare + 1
  | .agg parts => uptoBulkAll parts + 1
  | .iface _ d => uptoBulk d + 1
  | .map entries => uptoBulkEntries entries + 1
  | .held _ => 1
def uptoBulkAll {H : Type} : List (DataW H) → Nat
  | [] => 0
  | d :: r => uptoBulk d + uptoBulkAll r
def uptoBulkEntries {H : Type} : List (Lit × DataW H) → Nat
  | [] => 0
  | x :: r => uptoBulkEntry x + uptoBulkEntries r
def uptoBulkEntry {H : Type} : Lit × DataW H → Nat
  | (.string bytes, d) => bytes.length + uptoBulk d + 1
  | (_, d) => uptoBulk d + 1
 end
def uptoSmall : (H : Type) → List (DataW H) → Bool := fun _ ds => decide (uptoBulkAll ds ≤ 1048576)
def OpenSpec.upto (s : _root_.Go.ChangeSpec) : _root_.Go.OpenSpec := { _root_.Go.OpenSpec.ofChange s with cond := some uptoSmall }

/-- 'portcullislaw11.ImageNames', WHERE WHAT IT READS IS OF BULK AT MOST 1048576: true; the input reads as it did. -/
def imageNamesUptoRow : OpenClaim := { program := "ytejmbkljnhnklaadoor", sum := "9e04d952c2f889a492c21a9d348fff6b1db0f58bcd9c6008b7ae2ea9124fbc6a", func := "portcullis/portcullislaw11.ImageNames", spec := "imageNames", inPlace := ["internal/reflectlite.ValueOf", "(internal/reflectlite.Value).Type", "(internal/reflectlite.Value).IsNil", "internal/reflectlite.TypeOf", "(internal/reflectlite.Value).Elem", "(internal/reflectlite.Value).Set"], unfollowed := true, recurses := true, named := ["errors.errorType"], apart := false, laid := [("errors.errorType", laid_errors_errorType)], narrowed := true }
def ImageNamesUptoSaid : Prop := imageNamesUptoRow.holds Tryd.pinned (OpenSpec.upto imageNamesSpec)

/-- 'portcullislaw11.ImageMakes', WHERE WHAT IT READS IS OF BULK AT MOST 1048576: true; the input reads as it did. -/
def imageMakesUptoRow : OpenClaim := { program := "ytejmbkljnhnklaadoor", sum := "9e04d952c2f889a492c21a9d348fff6b1db0f58bcd9c6008b7ae2ea9124fbc6a", func := "portcullis/portcullislaw11.ImageMakes", spec := "imageMakes", inPlace := ["internal/reflectlite.ValueOf", "(internal/reflectlite.Value).Type", "(internal/reflectlite.Value).IsNil", "internal/reflectlite.TypeOf", "(internal/reflectlite.Value).Elem", "(internal/reflectlite.Value).Set"], unfollowed := true, recurses := true, named := ["errors.errorType"], apart := false, laid := [("errors.errorType", laid_errors_errorType)], narrowed := true }
def ImageMakesUptoSaid : Prop := imageMakesUptoRow.holds Tryd.pinned (OpenSpec.upto imageMakesSpec)

/-- 'portcullislaw11.ImageParses', WHERE WHAT IT READS IS OF BULK AT MOST 1048576: true; the input reads as it did. -/
def imageParsesUptoRow : OpenClaim := { program := "ytejmbkljnhnklaadoor", sum := "9e04d952c2f889a492c21a9d348fff6b1db0f58bcd9c6008b7ae2ea9124fbc6a", func := "portcullis/portcullislaw11.ImageParses", spec := "imageParses", inPlace := ["internal/reflectlite.ValueOf", "(internal/reflectlite.Value).Type", "(internal/reflectlite.Value).IsNil", "internal/reflectlite.TypeOf", "(internal/reflectlite.Value).Elem", "(internal/reflectlite.Value).Set"], unfollowed := true, recurses := true, named := ["errors.errorType"], apart := false, laid := [("errors.errorType", laid_errors_errorType)], narrowed := true }
def ImageParsesUptoSaid : Prop := imageParsesUptoRow.holds Tryd.pinned (OpenSpec.upto imageParsesSpec)

/-- 'portcullislaw11.ImageReturns', WHERE WHAT IT READS IS OF BULK AT MOST 1048576: true; the input reads as it did. -/
def imageReturnsUptoRow : OpenClaim := { program := "ytejmbkljnhnklaadoor", sum := "9e04d952c2f889a492c21a9d348fff6b1db0f58bcd9c6008b7ae2ea9124fbc6a", func := "portcullis/portcullislaw11.ImageReturns", spec := "imageReturns", inPlace := ["internal/reflectlite.ValueOf", "(internal/reflectlite.Value).Type", "(internal/reflectlite.Value).IsNil", "internal/reflectlite.TypeOf", "(internal/reflectlite.Value).Elem", "(internal/reflectlite.Value).Set"], unfollowed := true, recurses := true, named := ["errors.errorType"], apart := false, laid := [("errors.errorType", laid_errors_errorType)], narrowed := true }
def ImageReturnsUptoSaid : Prop := imageReturnsUptoRow.holds Tryd.pinned (OpenSpec.upto imageReturnsSpec)

/-- 'portcullislaw11.ImageOneForm', WHERE WHAT IT READS IS OF BULK AT MOST 1048576: true; the input reads as it did. -/
def imageOneFormUptoRow : OpenClaim := { program := "ytejmbkljnhnklaadoor", sum := "9e04d952c2f889a492c21a9d348fff6b1db0f58bcd9c6008b7ae2ea9124fbc6a", func := "portcullis/portcullislaw11.ImageOneForm", spec := "imageOneForm", inPlace := ["internal/reflectlite.ValueOf", "(internal/reflectlite.Value).Type", "(internal/reflectlite.Value).IsNil", "internal/reflectlite.TypeOf", "(internal/reflectlite.Value).Elem", "(internal/reflectlite.Value).Set"], unfollowed := true, recurses := true, named := ["errors.errorType"], apart := false, laid := [("errors.errorType", laid_errors_errorType)], narrowed := true }
def ImageOneFormUptoSaid : Prop := imageOneFormUptoRow.holds Tryd.pinned (OpenSpec.upto imageOneFormSpec)

/-- 'portcullislaw11.ImageKeeps', WHERE WHAT IT READS IS OF BULK AT MOST 1048576: true; the input reads as it did. -/
def imageKeepsUptoRow : OpenClaim := { program := "ytejmbkljnhnklaadoor", sum := "9e04d952c2f889a492c21a9d348fff6b1db0f58bcd9c6008b7ae2ea9124fbc6a", func := "portcullis/portcullislaw11.ImageKeeps", spec := "imageKeeps", inPlace := ["internal/reflectlite.ValueOf", "(internal/reflectlite.Value).Type", "(internal/reflectlite.Value).IsNil", "internal/reflectlite.TypeOf", "(internal/reflectlite.Value).Elem", "(internal/reflectlite.Value).Set"], unfollowed := true, recurses := true, named := ["errors.errorType"], apart := false, laid := [("errors.errorType", laid_errors_errorType)], narrowed := true }
def ImageKeepsUptoSaid : Prop := imageKeepsUptoRow.holds Tryd.pinned (OpenSpec.upto imageKeepsSpec)

end Rows
end Go.Proofs.YtejmbkljnhnklaaDoor
