/-
  No cell of these rows narrows 'for every input' (looked for: loops, veiled, ifaces, maps, wideKeys, modest, calm, conditions, laid).
  DERIVED. THE GIVEN ROWS OF THIS SEAT. 15 by the template 'for every input the law returns true; each argument reads behind the call as it read before'; 0 by the template 'total and deterministic' (their statements: YtejmbkljnhnklaaTotals.lean).
  GIVEN WITH THE SEED: the statements are not yours to turn. If you find one false, say at which input.
  Laid BY PROGRAM, IN A SANDBOX (cutbox-rows.mjs): the forced cells as the released guide's own fill.sh prints them over the translation c7273c34935b55f3… (all of the seat's roots in one cut). By AI agents, Wed Nov 11 2026. No macro, syntax, notation, axiom, sorry.
-/
import Derived.Test.YtejmbkljnhnklaaChecked
import GoSem.Claim
import GoSem.ClaimJoined
import GoSem.ClaimMapViews
import Derived.JoinedTies
import Derived.KernelRfl
namespace Go.Proofs.Ytejmbkljnhnklaa
/- THE CELL 'sum', in the pinned program and in every row, IS THE sha256 OF THE DUMP (.gsa) THAT YtejmbkljnhnklaaProg.lean LOADS. Nothing in Lean hashes anything: it is a label: what it is worth is what the hold of that sum in a sandbox is worth. -/
noncomputable def Try.pinned : Pinned := { name := "ytejmbkljnhnklaa", sum := "c7273c34935b55f3b0f24add4e3dc5aed20e6419f7f14bada1d6fa78149c6cf5", checked := Try.checked }
namespace Rows
def none {H : Type} : Left H := { results := [], args := [] }

/-- 'portcullislaw02.ShaHashes': WHATEVER THE INPUT: true; the input reads as it did. -/
def shaHashesSpec : ChangeSpec := { name := "shaHashes", fn := fun _ => fun
  | [d1, d2] => { results := [.lit (.bool true)], args := [d1, d2] }
  | _ => none }
def shaHashesRow : OpenClaim := { program := "ytejmbkljnhnklaa", sum := "c7273c34935b55f3b0f24add4e3dc5aed20e6419f7f14bada1d6fa78149c6cf5", func := "portcullis/portcullislaw02.ShaHashes", spec := "shaHashes", apart := false }
def ShaHashesSaid : Prop := shaHashesRow.holds Try.pinned (OpenSpec.ofChange shaHashesSpec)

/-- ITS FALSE NEIGHBOUR: 'it returns false'. Refute it at one input. -/
def shaHashesWrong : ChangeSpec := { name := "shaHashes", fn := fun _ => fun
  | [d1, d2] => { results := [.lit (.bool false)], args := [d1, d2] }
  | _ => none }
def ShaHashesWrongFalsely : Prop := shaHashesRow.holds Try.pinned (OpenSpec.ofChange shaHashesWrong)

/-- 'portcullislaw02.ShaPieces': WHATEVER THE INPUT: true; the input reads as it did. -/
def shaPiecesSpec : ChangeSpec := { name := "shaPieces", fn := fun _ => fun
  | [d] => { results := [.lit (.bool true)], args := [d] }
  | _ => none }
def shaPiecesRow : OpenClaim := { program := "ytejmbkljnhnklaa", sum := "c7273c34935b55f3b0f24add4e3dc5aed20e6419f7f14bada1d6fa78149c6cf5", func := "portcullis/portcullislaw02.ShaPieces", spec := "shaPieces", apart := false }
def ShaPiecesSaid : Prop := shaPiecesRow.holds Try.pinned (OpenSpec.ofChange shaPiecesSpec)

/-- ITS FALSE NEIGHBOUR: 'it returns false'. Refute it at one input. -/
def shaPiecesWrong : ChangeSpec := { name := "shaPieces", fn := fun _ => fun
  | [d] => { results := [.lit (.bool false)], args := [d] }
  | _ => none }
def ShaPiecesWrongFalsely : Prop := shaPiecesRow.holds Try.pinned (OpenSpec.ofChange shaPiecesWrong)

/-- 'portcullislaw03.MacEquals': WHATEVER THE INPUT: true; the input reads as it did. -/
def macEqualsSpec : ChangeSpec := { name := "macEquals", fn := fun _ => fun
  | [d] => { results := [.lit (.bool true)], args := [d] }
  | _ => none }
def macEqualsRow : OpenClaim := { program := "ytejmbkljnhnklaa", sum := "c7273c34935b55f3b0f24add4e3dc5aed20e6419f7f14bada1d6fa78149c6cf5", func := "portcullis/portcullislaw03.MacEquals", spec := "macEquals", apart := false }
def MacEqualsSaid : Prop := macEqualsRow.holds Try.pinned (OpenSpec.ofChange macEqualsSpec)

/-- ITS FALSE NEIGHBOUR: 'it returns false'. Refute it at one input. -/
def macEqualsWrong : ChangeSpec := { name := "macEquals", fn := fun _ => fun
  | [d] => { results := [.lit (.bool false)], args := [d] }
  | _ => none }
def MacEqualsWrongFalsely : Prop := macEqualsRow.holds Try.pinned (OpenSpec.ofChange macEqualsWrong)

/-- 'portcullislaw03.MacPieces': WHATEVER THE INPUT: true; the input reads as it did. -/
def macPiecesSpec : ChangeSpec := { name := "macPieces", fn := fun _ => fun
  | [d1, d2] => { results := [.lit (.bool true)], args := [d1, d2] }
  | _ => none }
def macPiecesRow : OpenClaim := { program := "ytejmbkljnhnklaa", sum := "c7273c34935b55f3b0f24add4e3dc5aed20e6419f7f14bada1d6fa78149c6cf5", func := "portcullis/portcullislaw03.MacPieces", spec := "macPieces", apart := false }
def MacPiecesSaid : Prop := macPiecesRow.holds Try.pinned (OpenSpec.ofChange macPiecesSpec)

/-- ITS FALSE NEIGHBOUR: 'it returns false'. Refute it at one input. -/
def macPiecesWrong : ChangeSpec := { name := "macPieces", fn := fun _ => fun
  | [d1, d2] => { results := [.lit (.bool false)], args := [d1, d2] }
  | _ => none }
def MacPiecesWrongFalsely : Prop := macPiecesRow.holds Try.pinned (OpenSpec.ofChange macPiecesWrong)

/-- 'portcullislaw03.MacFollows': WHATEVER THE INPUT: true; the input reads as it did. -/
def macFollowsSpec : ChangeSpec := { name := "macFollows", fn := fun _ => fun
  | [d1, d2] => { results := [.lit (.bool true)], args := [d1, d2] }
  | _ => none }
def macFollowsRow : OpenClaim := { program := "ytejmbkljnhnklaa", sum := "c7273c34935b55f3b0f24add4e3dc5aed20e6419f7f14bada1d6fa78149c6cf5", func := "portcullis/portcullislaw03.MacFollows", spec := "macFollows", apart := false }
def MacFollowsSaid : Prop := macFollowsRow.holds Try.pinned (OpenSpec.ofChange macFollowsSpec)

/-- ITS FALSE NEIGHBOUR: 'it returns false'. Refute it at one input. -/
def macFollowsWrong : ChangeSpec := { name := "macFollows", fn := fun _ => fun
  | [d1, d2] => { results := [.lit (.bool false)], args := [d1, d2] }
  | _ => none }
def MacFollowsWrongFalsely : Prop := macFollowsRow.holds Try.pinned (OpenSpec.ofChange macFollowsWrong)

/-- 'portcullislaw03.MacTags': WHATEVER THE INPUT: true; the input reads as it did. -/
def macTagsSpec : ChangeSpec := { name := "macTags", fn := fun _ => fun
  | [d1, d2, d3] => { results := [.lit (.bool true)], args := [d1, d2, d3] }
  | _ => none }
def macTagsRow : OpenClaim := { program := "ytejmbkljnhnklaa", sum := "c7273c34935b55f3b0f24add4e3dc5aed20e6419f7f14bada1d6fa78149c6cf5", func := "portcullis/portcullislaw03.MacTags", spec := "macTags", apart := false }
def MacTagsSaid : Prop := macTagsRow.holds Try.pinned (OpenSpec.ofChange macTagsSpec)

/-- ITS FALSE NEIGHBOUR: 'it returns false'. Refute it at one input. -/
def macTagsWrong : ChangeSpec := { name := "macTags", fn := fun _ => fun
  | [d1, d2, d3] => { results := [.lit (.bool false)], args := [d1, d2, d3] }
  | _ => none }
def MacTagsWrongFalsely : Prop := macTagsRow.holds Try.pinned (OpenSpec.ofChange macTagsWrong)

/-- 'portcullislaw16.ChainNames': WHATEVER THE INPUT: true; the input reads as it did. -/
def chainNamesSpec : ChangeSpec := { name := "chainNames", fn := fun _ => fun
  | [] => { results := [.lit (.bool true)], args := [] }
  | _ => none }
def chainNamesRow : OpenClaim := { program := "ytejmbkljnhnklaa", sum := "c7273c34935b55f3b0f24add4e3dc5aed20e6419f7f14bada1d6fa78149c6cf5", func := "portcullis/portcullislaw16.ChainNames", spec := "chainNames", unfollowed := true, recurses := true, apart := false }
def ChainNamesSaid : Prop := chainNamesRow.holds Try.pinned (OpenSpec.ofChange chainNamesSpec)

/-- ITS FALSE NEIGHBOUR: 'it returns false'. Refute it at one input. -/
def chainNamesWrong : ChangeSpec := { name := "chainNames", fn := fun _ => fun
  | [] => { results := [.lit (.bool false)], args := [] }
  | _ => none }
def ChainNamesWrongFalsely : Prop := chainNamesRow.holds Try.pinned (OpenSpec.ofChange chainNamesWrong)

/-- 'portcullislaw16.ChainDoes': WHATEVER THE INPUT: true; the input reads as it did. -/
def chainDoesSpec : ChangeSpec := { name := "chainDoes", fn := fun _ => fun
  | [d] => { results := [.lit (.bool true)], args := [d] }
  | _ => none }
def chainDoesRow : OpenClaim := { program := "ytejmbkljnhnklaa", sum := "c7273c34935b55f3b0f24add4e3dc5aed20e6419f7f14bada1d6fa78149c6cf5", func := "portcullis/portcullislaw16.ChainDoes", spec := "chainDoes", unfollowed := true, recurses := true, apart := false }
def ChainDoesSaid : Prop := chainDoesRow.holds Try.pinned (OpenSpec.ofChange chainDoesSpec)

/-- ITS FALSE NEIGHBOUR: 'it returns false'. Refute it at one input. -/
def chainDoesWrong : ChangeSpec := { name := "chainDoes", fn := fun _ => fun
  | [d] => { results := [.lit (.bool false)], args := [d] }
  | _ => none }
def ChainDoesWrongFalsely : Prop := chainDoesRow.holds Try.pinned (OpenSpec.ofChange chainDoesWrong)

/-- 'portcullislaw16.ChainChecks': WHATEVER THE INPUT: true; the input reads as it did. -/
def chainChecksSpec : ChangeSpec := { name := "chainChecks", fn := fun _ => fun
  | [d1, d2, d3] => { results := [.lit (.bool true)], args := [d1, d2, d3] }
  | _ => none }
def chainChecksRow : OpenClaim := { program := "ytejmbkljnhnklaa", sum := "c7273c34935b55f3b0f24add4e3dc5aed20e6419f7f14bada1d6fa78149c6cf5", func := "portcullis/portcullislaw16.ChainChecks", spec := "chainChecks", unfollowed := true, recurses := true, apart := false }
def ChainChecksSaid : Prop := chainChecksRow.holds Try.pinned (OpenSpec.ofChange chainChecksSpec)

/-- ITS FALSE NEIGHBOUR: 'it returns false'. Refute it at one input. -/
def chainChecksWrong : ChangeSpec := { name := "chainChecks", fn := fun _ => fun
  | [d1, d2, d3] => { results := [.lit (.bool false)], args := [d1, d2, d3] }
  | _ => none }
def ChainChecksWrongFalsely : Prop := chainChecksRow.holds Try.pinned (OpenSpec.ofChange chainChecksWrong)

/-- 'portcullislaw16.ChainTells': WHATEVER THE INPUT: true; the input reads as it did. -/
def chainTellsSpec : ChangeSpec := { name := "chainTells", fn := fun _ => fun
  | [d1, d2, d3] => { results := [.lit (.bool true)], args := [d1, d2, d3] }
  | _ => none }
def chainTellsRow : OpenClaim := { program := "ytejmbkljnhnklaa", sum := "c7273c34935b55f3b0f24add4e3dc5aed20e6419f7f14bada1d6fa78149c6cf5", func := "portcullis/portcullislaw16.ChainTells", spec := "chainTells", unfollowed := true, recurses := true, apart := false }
def ChainTellsSaid : Prop := chainTellsRow.holds Try.pinned (OpenSpec.ofChange chainTellsSpec)

/-- ITS FALSE NEIGHBOUR: 'it returns false'. Refute it at one input. -/
def chainTellsWrong : ChangeSpec := { name := "chainTells", fn := fun _ => fun
  | [d1, d2, d3] => { results := [.lit (.bool false)], args := [d1, d2, d3] }
  | _ => none }
def ChainTellsWrongFalsely : Prop := chainTellsRow.holds Try.pinned (OpenSpec.ofChange chainTellsWrong)

/-- 'portcullislaw16.ChainGrows': WHATEVER THE INPUT: true; the input reads as it did. -/
def chainGrowsSpec : ChangeSpec := { name := "chainGrows", fn := fun _ => fun
  | [d1, d2, d3] => { results := [.lit (.bool true)], args := [d1, d2, d3] }
  | _ => none }
def chainGrowsRow : OpenClaim := { program := "ytejmbkljnhnklaa", sum := "c7273c34935b55f3b0f24add4e3dc5aed20e6419f7f14bada1d6fa78149c6cf5", func := "portcullis/portcullislaw16.ChainGrows", spec := "chainGrows", unfollowed := true, recurses := true, apart := false }
def ChainGrowsSaid : Prop := chainGrowsRow.holds Try.pinned (OpenSpec.ofChange chainGrowsSpec)

/-- ITS FALSE NEIGHBOUR: 'it returns false'. Refute it at one input. -/
def chainGrowsWrong : ChangeSpec := { name := "chainGrows", fn := fun _ => fun
  | [d1, d2, d3] => { results := [.lit (.bool false)], args := [d1, d2, d3] }
  | _ => none }
def ChainGrowsWrongFalsely : Prop := chainGrowsRow.holds Try.pinned (OpenSpec.ofChange chainGrowsWrong)

/-- 'portcullislaw12.KeysNames': WHATEVER THE INPUT: true; the input reads as it did. -/
def keysNamesSpec : ChangeSpec := { name := "keysNames", fn := fun _ => fun
  | [] => { results := [.lit (.bool true)], args := [] }
  | _ => none }
def keysNamesRow : OpenClaim := { program := "ytejmbkljnhnklaa", sum := "c7273c34935b55f3b0f24add4e3dc5aed20e6419f7f14bada1d6fa78149c6cf5", func := "portcullis/portcullislaw12.KeysNames", spec := "keysNames", unfollowed := true, recurses := true, apart := false }
def KeysNamesSaid : Prop := keysNamesRow.holds Try.pinned (OpenSpec.ofChange keysNamesSpec)

/-- ITS FALSE NEIGHBOUR: 'it returns false'. Refute it at one input. -/
def keysNamesWrong : ChangeSpec := { name := "keysNames", fn := fun _ => fun
  | [] => { results := [.lit (.bool false)], args := [] }
  | _ => none }
def KeysNamesWrongFalsely : Prop := keysNamesRow.holds Try.pinned (OpenSpec.ofChange keysNamesWrong)

/-- 'portcullislaw12.KeysTells': WHATEVER THE INPUT: true; the input reads as it did. -/
def keysTellsSpec : ChangeSpec := { name := "keysTells", fn := fun _ => fun
  | [d1, d2] => { results := [.lit (.bool true)], args := [d1, d2] }
  | _ => none }
def keysTellsRow : OpenClaim := { program := "ytejmbkljnhnklaa", sum := "c7273c34935b55f3b0f24add4e3dc5aed20e6419f7f14bada1d6fa78149c6cf5", func := "portcullis/portcullislaw12.KeysTells", spec := "keysTells", unfollowed := true, recurses := true, apart := false }
def KeysTellsSaid : Prop := keysTellsRow.holds Try.pinned (OpenSpec.ofChange keysTellsSpec)

/-- ITS FALSE NEIGHBOUR: 'it returns false'. Refute it at one input. -/
def keysTellsWrong : ChangeSpec := { name := "keysTells", fn := fun _ => fun
  | [d1, d2] => { results := [.lit (.bool false)], args := [d1, d2] }
  | _ => none }
def KeysTellsWrongFalsely : Prop := keysTellsRow.holds Try.pinned (OpenSpec.ofChange keysTellsWrong)

/-- 'portcullislaw12.KeysFollows': WHATEVER THE INPUT: true; the input reads as it did. -/
def keysFollowsSpec : ChangeSpec := { name := "keysFollows", fn := fun _ => fun
  | [d1, d2, d3] => { results := [.lit (.bool true)], args := [d1, d2, d3] }
  | _ => none }
def keysFollowsRow : OpenClaim := { program := "ytejmbkljnhnklaa", sum := "c7273c34935b55f3b0f24add4e3dc5aed20e6419f7f14bada1d6fa78149c6cf5", func := "portcullis/portcullislaw12.KeysFollows", spec := "keysFollows", unfollowed := true, recurses := true, apart := false }
def KeysFollowsSaid : Prop := keysFollowsRow.holds Try.pinned (OpenSpec.ofChange keysFollowsSpec)

/-- ITS FALSE NEIGHBOUR: 'it returns false'. Refute it at one input. -/
def keysFollowsWrong : ChangeSpec := { name := "keysFollows", fn := fun _ => fun
  | [d1, d2, d3] => { results := [.lit (.bool false)], args := [d1, d2, d3] }
  | _ => none }
def KeysFollowsWrongFalsely : Prop := keysFollowsRow.holds Try.pinned (OpenSpec.ofChange keysFollowsWrong)

/-- 'portcullislaw12.KeysKeeps': WHATEVER THE INPUT: true; the input reads as it did. -/
def keysKeepsSpec : ChangeSpec := { name := "keysKeeps", fn := fun _ => fun
  | [d1, d2] => { results := [.lit (.bool true)], args := [d1, d2] }
  | _ => none }
def keysKeepsRow : OpenClaim := { program := "ytejmbkljnhnklaa", sum := "c7273c34935b55f3b0f24add4e3dc5aed20e6419f7f14bada1d6fa78149c6cf5", func := "portcullis/portcullislaw12.KeysKeeps", spec := "keysKeeps", unfollowed := true, recurses := true, apart := false }
def KeysKeepsSaid : Prop := keysKeepsRow.holds Try.pinned (OpenSpec.ofChange keysKeepsSpec)

/-- ITS FALSE NEIGHBOUR: 'it returns false'. Refute it at one input. -/
def keysKeepsWrong : ChangeSpec := { name := "keysKeeps", fn := fun _ => fun
  | [d1, d2] => { results := [.lit (.bool false)], args := [d1, d2] }
  | _ => none }
def KeysKeepsWrongFalsely : Prop := keysKeepsRow.holds Try.pinned (OpenSpec.ofChange keysKeepsWrong)

/- THE SECOND FORM. 'bulk': how many values and letters a reading holds, each counted each time it is reached (what is shared counts as often as it is met; a slice's spare places count too). A statement '..UptoSaid' is the law's where the arguments, and the package variables that the reading takes, are together of bulk at most 1048576: NARROWER than '..Said'. Prove '..Said' where nothing that the law and all that it calls make is longer than what came in: it says more and counts as full. Else prove '..UptoSaid'. A law counts once. -/
mutual
def uptoBulk {H : Type} : DataW H → Nat
  | .lit (.string bytes) => bytes.length + 1
  | .lit _ => 1
  | .nil => 1
  | .ptr d => uptoBulk d + 1
  | .slice elems spare => uptoBulkAll elems + uptoBulkAll spare + 1
  | .agg parts => uptoBulkAll parts + 1
  | .iface _ d => uptoBulk d + 1
  | .map entries => uptoBulkEntries entries + 1
  | .held _ => 1
def uptoBulkAll {H : Type} : List (DataW H) → Nat
  | [] => 0
  | d :: r => uptoBulk d + uptoBulkAll r
def uptoBulkEntries {H : Type} : List (Lit × DataW H) → Nat
  | [] => 0
  | x :: r => uptoBulkEntry x + uptoBulkEntries r
def uptoBulkEntry {H : Type} : Lit × DataW H → Nat
  | (.string bytes, d) => bytes.length + uptoBulk d + 1
  | (_, d) => uptoBulk d + 1
 end
def uptoSmall : (H : Type) → List (DataW H) → Bool := fun _ ds => decide (uptoBulkAll ds ≤ 1048576)
def OpenSpec.upto (s : _root_.Go.ChangeSpec) : _root_.Go.OpenSpec := { _root_.Go.OpenSpec.ofChange s with cond := some uptoSmall }

/-- 'portcullislaw02.ShaHashes', WHERE WHAT IT READS IS OF BULK AT MOST 1048576: true; the input reads as it did. -/
def shaHashesUptoRow : OpenClaim := { program := "ytejmbkljnhnklaa", sum := "c7273c34935b55f3b0f24add4e3dc5aed20e6419f7f14bada1d6fa78149c6cf5", func := "portcullis/portcullislaw02.ShaHashes", spec := "shaHashes", apart := false, narrowed := true }
def ShaHashesUptoSaid : Prop := shaHashesUptoRow.holds Try.pinned (OpenSpec.upto shaHashesSpec)

/-- 'portcullislaw02.ShaPieces', WHERE WHAT IT READS IS OF BULK AT MOST 1048576: true; the input reads as it did. -/
def shaPiecesUptoRow : OpenClaim := { program := "ytejmbkljnhnklaa", sum := "c7273c34935b55f3b0f24add4e3dc5aed20e6419f7f14bada1d6fa78149c6cf5", func := "portcullis/portcullislaw02.ShaPieces", spec := "shaPieces", apart := false, narrowed := true }
def ShaPiecesUptoSaid : Prop := shaPiecesUptoRow.holds Try.pinned (OpenSpec.upto shaPiecesSpec)

/-- 'portcullislaw03.MacEquals', WHERE WHAT IT READS IS OF BULK AT MOST 1048576: true; the input reads as it did. -/
def macEqualsUptoRow : OpenClaim := { program := "ytejmbkljnhnklaa", sum := "c7273c34935b55f3b0f24add4e3dc5aed20e6419f7f14bada1d6fa78149c6cf5", func := "portcullis/portcullislaw03.MacEquals", spec := "macEquals", apart := false, narrowed := true }
def MacEqualsUptoSaid : Prop := macEqualsUptoRow.holds Try.pinned (OpenSpec.upto macEqualsSpec)

/-- 'portcullislaw03.MacPieces', WHERE WHAT IT READS IS OF BULK AT MOST 1048576: true; the input reads as it did. -/
def macPiecesUptoRow : OpenClaim := { program := "ytejmbkljnhnklaa", sum := "c7273c34935b55f3b0f24add4e3dc5aed20e6419f7f14bada1d6fa78149c6cf5", func := "portcullis/portcullislaw03.MacPieces", spec := "macPieces", apart := false, narrowed := true }
def MacPiecesUptoSaid : Prop := macPiecesUptoRow.holds Try.pinned (OpenSpec.upto macPiecesSpec)

/-- 'portcullislaw03.MacFollows', WHERE WHAT IT READS IS OF BULK AT MOST 1048576: true; the input reads as it did. -/
def macFollowsUptoRow : OpenClaim := { program := "ytejmbkljnhnklaa", sum := "c7273c34935b55f3b0f24add4e3dc5aed20e6419f7f14bada1d6fa78149c6cf5", func := "portcullis/portcullislaw03.MacFollows", spec := "macFollows", apart := false, narrowed := true }
def MacFollowsUptoSaid : Prop := macFollowsUptoRow.holds Try.pinned (OpenSpec.upto macFollowsSpec)

/-- 'portcullislaw03.MacTags', WHERE WHAT IT READS IS OF BULK AT MOST 1048576: true; the input reads as it did. -/
def macTagsUptoRow : OpenClaim := { program := "ytejmbkljnhnklaa", sum := "c7273c34935b55f3b0f24add4e3dc5aed20e6419f7f14bada1d6fa78149c6cf5", func := "portcullis/portcullislaw03.MacTags", spec := "macTags", apart := false, narrowed := true }
def MacTagsUptoSaid : Prop := macTagsUptoRow.holds Try.pinned (OpenSpec.upto macTagsSpec)

/-- 'portcullislaw16.ChainNames', WHERE WHAT IT READS IS OF BULK AT MOST 1048576: true; the input reads as it did. -/
def chainNamesUptoRow : OpenClaim := { program := "ytejmbkljnhnklaa", sum := "c7273c34935b55f3b0f24add4e3dc5aed20e6419f7f14bada1d6fa78149c6cf5", func := "portcullis/portcullislaw16.ChainNames", spec := "chainNames", unfollowed := true, recurses := true, apart := false, narrowed := true }
def ChainNamesUptoSaid : Prop := chainNamesUptoRow.holds Try.pinned (OpenSpec.upto chainNamesSpec)

/-- 'portcullislaw16.ChainDoes', WHERE WHAT IT READS IS OF BULK AT MOST 1048576: true; the input reads as it did. -/
def chainDoesUptoRow : OpenClaim := { program := "ytejmbkljnhnklaa", sum := "c7273c34935b55f3b0f24add4e3dc5aed20e6419f7f14bada1d6fa78149c6cf5", func := "portcullis/portcullislaw16.ChainDoes", spec := "chainDoes", unfollowed := true, recurses := true, apart := false, narrowed := true }
def ChainDoesUptoSaid : Prop := chainDoesUptoRow.holds Try.pinned (OpenSpec.upto chainDoesSpec)

/-- 'portcullislaw16.ChainChecks', WHERE WHAT IT READS IS OF BULK AT MOST 1048576: true; the input reads as it did. -/
def chainChecksUptoRow : OpenClaim := { program := "ytejmbkljnhnklaa", sum := "c7273c34935b55f3b0f24add4e3dc5aed20e6419f7f14bada1d6fa78149c6cf5", func := "portcullis/portcullislaw16.ChainChecks", spec := "chainChecks", unfollowed := true, recurses := true, apart := false, narrowed := true }
def ChainChecksUptoSaid : Prop := chainChecksUptoRow.holds Try.pinned (OpenSpec.upto chainChecksSpec)

/-- 'portcullislaw16.ChainTells', WHERE WHAT IT READS IS OF BULK AT MOST 1048576: true; the input reads as it did. -/
def chainTellsUptoRow : OpenClaim := { program := "ytejmbkljnhnklaa", sum := "c7273c34935b55f3b0f24add4e3dc5aed20e6419f7f14bada1d6fa78149c6cf5", func := "portcullis/portcullislaw16.ChainTells", spec := "chainTells", unfollowed := true, recurses := true, apart := false, narrowed := true }
def ChainTellsUptoSaid : Prop := chainTellsUptoRow.holds Try.pinned (OpenSpec.upto chainTellsSpec)

/-- 'portcullislaw16.ChainGrows', WHERE WHAT IT READS IS OF BULK AT MOST 1048576: true; the input reads as it did. -/
def chainGrowsUptoRow : OpenClaim := { program := "ytejmbkljnhnklaa", sum := "c7273c34935b55f3b0f24add4e3dc5aed20e6419f7f14bada1d6fa78149c6cf5", func := "portcullis/portcullislaw16.ChainGrows", spec := "chainGrows", unfollowed := true, recurses := true, apart := false, narrowed := true }
def ChainGrowsUptoSaid : Prop := chainGrowsUptoRow.holds Try.pinned (OpenSpec.upto chainGrowsSpec)

/-- 'portcullislaw12.KeysNames', WHERE WHAT IT READS IS OF BULK AT MOST 1048576: true; the input reads as it did. -/
def keysNamesUptoRow : OpenClaim := { program := "ytejmbkljnhnklaa", sum := "c7273c34935b55f3b0f24add4e3dc5aed20e6419f7f14bada1d6fa78149c6cf5", func := "portcullis/portcullislaw12.KeysNames", spec := "keysNames", unfollowed := true, recurses := true, apart := false, narrowed := true }
def KeysNamesUptoSaid : Prop := keysNamesUptoRow.holds Try.pinned (OpenSpec.upto keysNamesSpec)

/-- 'portcullislaw12.KeysTells', WHERE WHAT IT READS IS OF BULK AT MOST 1048576: true; the input reads as it did. -/
def keysTellsUptoRow : OpenClaim := { program := "ytejmbkljnhnklaa", sum := "c7273c34935b55f3b0f24add4e3dc5aed20e6419f7f14bada1d6fa78149c6cf5", func := "portcullis/portcullislaw12.KeysTells", spec := "keysTells", unfollowed := true, recurses := true, apart := false, narrowed := true }
def KeysTellsUptoSaid : Prop := keysTellsUptoRow.holds Try.pinned (OpenSpec.upto keysTellsSpec)

/-- 'portcullislaw12.KeysFollows', WHERE WHAT IT READS IS OF BULK AT MOST 1048576: true; the input reads as it did. -/
def keysFollowsUptoRow : OpenClaim := { program := "ytejmbkljnhnklaa", sum := "c7273c34935b55f3b0f24add4e3dc5aed20e6419f7f14bada1d6fa78149c6cf5", func := "portcullis/portcullislaw12.KeysFollows", spec := "keysFollows", unfollowed := true, recurses := true, apart := false, narrowed := true }
def KeysFollowsUptoSaid : Prop := keysFollowsUptoRow.holds Try.pinned (OpenSpec.upto keysFollowsSpec)

/-- 'portcullislaw12.KeysKeeps', WHERE WHAT IT READS IS OF BULK AT MOST 1048576: true; the input reads as it did. -/
def keysKeepsUptoRow : OpenClaim := { program := "ytejmbkljnhnklaa", sum := "c7273c34935b55f3b0f24add4e3dc5aed20e6419f7f14bada1d6fa78149c6cf5", func := "portcullis/portcullislaw12.KeysKeeps", spec := "keysKeeps", unfollowed := true, recurses := true, apart := false, narrowed := true }
def KeysKeepsUptoSaid : Prop := keysKeepsUptoRow.holds Try.pinned (OpenSpec.upto keysKeepsSpec)

end Rows
end Go.Proofs.Ytejmbkljnhnklaa
