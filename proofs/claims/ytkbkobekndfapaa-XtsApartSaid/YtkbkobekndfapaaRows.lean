/-
  No cell of these rows narrows 'for every input' (looked for: loops, veiled, ifaces, maps, wideKeys, modest, calm, conditions, laid).
  DERIVED. THE GIVEN ROWS OF THIS SEAT. 9 by the template 'for every input the law returns true; each argument reads behind the call as it read before'; 0 by the template 'total and deterministic' (their statements: YtkbkobekndfapaaTotals.lean).
  GIVEN WITH THE SEED: the statements are not yours to turn. If you find one false, say at which input.
  Laid BY PROGRAM, IN A SANDBOX (cutbox-rows.mjs): the forced cells as the released guide's own fill.sh prints them over the translation 841a57732e20bb27… (all of the seat's roots in one cut). By AI agents, Wed Nov 11 2026. No macro, syntax, notation, axiom, sorry.
-/
import Derived.Test.YtkbkobekndfapaaChecked
import GoSem.Claim
import GoSem.ClaimJoined
import GoSem.ClaimMapViews
import Derived.JoinedTies
import Derived.KernelRfl
namespace Go.Proofs.Ytkbkobekndfapaa
/- THE CELL 'sum', in the pinned program and in every row, IS THE sha256 OF THE DUMP (.gsa) THAT YtkbkobekndfapaaProg.lean LOADS. Nothing in Lean hashes anything: it is a label: what it is worth is what the hold of that sum in a sandbox is worth. -/
noncomputable def Try.pinned : Pinned := { name := "ytkbkobekndfapaa", sum := "841a57732e20bb2744c2a78fd549c45669106fe1b777176fe3ff93e7b129a156", checked := Try.checked }
namespace Rows
def none {H : Type} : Left H := { results := [], args := [] }

/-- 'cofferdamlaw04.AesBlocks': WHATEVER THE INPUT: true; the input reads as it did. -/
def aesBlocksSpec : ChangeSpec := { name := "aesBlocks", fn := fun _ => fun
  | [d1, d2] => { results := [.lit (.bool true)], args := [d1, d2] }
  | _ => none }
def aesBlocksRow : OpenClaim := { program := "ytkbkobekndfapaa", sum := "841a57732e20bb2744c2a78fd549c45669106fe1b777176fe3ff93e7b129a156", func := "cofferdam/cofferdamlaw04.AesBlocks", spec := "aesBlocks", apart := false }
def AesBlocksSaid : Prop := aesBlocksRow.holds Try.pinned (OpenSpec.ofChange aesBlocksSpec)

/-- ITS FALSE NEIGHBOUR: 'it returns false'. Refute it at one input. -/
def aesBlocksWrong : ChangeSpec := { name := "aesBlocks", fn := fun _ => fun
  | [d1, d2] => { results := [.lit (.bool false)], args := [d1, d2] }
  | _ => none }
def AesBlocksWrongFalsely : Prop := aesBlocksRow.holds Try.pinned (OpenSpec.ofChange aesBlocksWrong)

/-- 'cofferdamlaw04.AesBack': WHATEVER THE INPUT: true; the input reads as it did. -/
def aesBackSpec : ChangeSpec := { name := "aesBack", fn := fun _ => fun
  | [d1, d2, d3] => { results := [.lit (.bool true)], args := [d1, d2, d3] }
  | _ => none }
def aesBackRow : OpenClaim := { program := "ytkbkobekndfapaa", sum := "841a57732e20bb2744c2a78fd549c45669106fe1b777176fe3ff93e7b129a156", func := "cofferdam/cofferdamlaw04.AesBack", spec := "aesBack", apart := false }
def AesBackSaid : Prop := aesBackRow.holds Try.pinned (OpenSpec.ofChange aesBackSpec)

/-- ITS FALSE NEIGHBOUR: 'it returns false'. Refute it at one input. -/
def aesBackWrong : ChangeSpec := { name := "aesBack", fn := fun _ => fun
  | [d1, d2, d3] => { results := [.lit (.bool false)], args := [d1, d2, d3] }
  | _ => none }
def AesBackWrongFalsely : Prop := aesBackRow.holds Try.pinned (OpenSpec.ofChange aesBackWrong)

/-- 'cofferdamlaw04.AesNil': WHATEVER THE INPUT: true; the input reads as it did. -/
def aesNilSpec : ChangeSpec := { name := "aesNil", fn := fun _ => fun
  | [d] => { results := [.lit (.bool true)], args := [d] }
  | _ => none }
def aesNilRow : OpenClaim := { program := "ytkbkobekndfapaa", sum := "841a57732e20bb2744c2a78fd549c45669106fe1b777176fe3ff93e7b129a156", func := "cofferdam/cofferdamlaw04.AesNil", spec := "aesNil", apart := false }
def AesNilSaid : Prop := aesNilRow.holds Try.pinned (OpenSpec.ofChange aesNilSpec)

/-- ITS FALSE NEIGHBOUR: 'it returns false'. Refute it at one input. -/
def aesNilWrong : ChangeSpec := { name := "aesNil", fn := fun _ => fun
  | [d] => { results := [.lit (.bool false)], args := [d] }
  | _ => none }
def AesNilWrongFalsely : Prop := aesNilRow.holds Try.pinned (OpenSpec.ofChange aesNilWrong)

/-- 'cofferdamlaw04.AesUnlike': WHATEVER THE INPUT: true; the input reads as it did. -/
def aesUnlikeSpec : ChangeSpec := { name := "aesUnlike", fn := fun _ => fun
  | [d1, d2, d3] => { results := [.lit (.bool true)], args := [d1, d2, d3] }
  | _ => none }
def aesUnlikeRow : OpenClaim := { program := "ytkbkobekndfapaa", sum := "841a57732e20bb2744c2a78fd549c45669106fe1b777176fe3ff93e7b129a156", func := "cofferdam/cofferdamlaw04.AesUnlike", spec := "aesUnlike", apart := false }
def AesUnlikeSaid : Prop := aesUnlikeRow.holds Try.pinned (OpenSpec.ofChange aesUnlikeSpec)

/-- ITS FALSE NEIGHBOUR: 'it returns false'. Refute it at one input. -/
def aesUnlikeWrong : ChangeSpec := { name := "aesUnlike", fn := fun _ => fun
  | [d1, d2, d3] => { results := [.lit (.bool false)], args := [d1, d2, d3] }
  | _ => none }
def AesUnlikeWrongFalsely : Prop := aesUnlikeRow.holds Try.pinned (OpenSpec.ofChange aesUnlikeWrong)

/-- 'cofferdamlaw05.XtsSectors': WHATEVER THE INPUT: true; the input reads as it did. -/
def xtsSectorsSpec : ChangeSpec := { name := "xtsSectors", fn := fun _ => fun
  | [d1, d2, d3] => { results := [.lit (.bool true)], args := [d1, d2, d3] }
  | _ => none }
def xtsSectorsRow : OpenClaim := { program := "ytkbkobekndfapaa", sum := "841a57732e20bb2744c2a78fd549c45669106fe1b777176fe3ff93e7b129a156", func := "cofferdam/cofferdamlaw05.XtsSectors", spec := "xtsSectors", unfollowed := true, recurses := true, apart := false }
def XtsSectorsSaid : Prop := xtsSectorsRow.holds Try.pinned (OpenSpec.ofChange xtsSectorsSpec)

/-- ITS FALSE NEIGHBOUR: 'it returns false'. Refute it at one input. -/
def xtsSectorsWrong : ChangeSpec := { name := "xtsSectors", fn := fun _ => fun
  | [d1, d2, d3] => { results := [.lit (.bool false)], args := [d1, d2, d3] }
  | _ => none }
def XtsSectorsWrongFalsely : Prop := xtsSectorsRow.holds Try.pinned (OpenSpec.ofChange xtsSectorsWrong)

/-- 'cofferdamlaw05.XtsBack': WHATEVER THE INPUT: true; the input reads as it did. -/
def xtsBackSpec : ChangeSpec := { name := "xtsBack", fn := fun _ => fun
  | [d1, d2, d3] => { results := [.lit (.bool true)], args := [d1, d2, d3] }
  | _ => none }
def xtsBackRow : OpenClaim := { program := "ytkbkobekndfapaa", sum := "841a57732e20bb2744c2a78fd549c45669106fe1b777176fe3ff93e7b129a156", func := "cofferdam/cofferdamlaw05.XtsBack", spec := "xtsBack", unfollowed := true, recurses := true, apart := false }
def XtsBackSaid : Prop := xtsBackRow.holds Try.pinned (OpenSpec.ofChange xtsBackSpec)

/-- ITS FALSE NEIGHBOUR: 'it returns false'. Refute it at one input. -/
def xtsBackWrong : ChangeSpec := { name := "xtsBack", fn := fun _ => fun
  | [d1, d2, d3] => { results := [.lit (.bool false)], args := [d1, d2, d3] }
  | _ => none }
def XtsBackWrongFalsely : Prop := xtsBackRow.holds Try.pinned (OpenSpec.ofChange xtsBackWrong)

/-- 'cofferdamlaw05.XtsApart': WHATEVER THE INPUT: true; the input reads as it did. -/
def xtsApartSpec : ChangeSpec := { name := "xtsApart", fn := fun _ => fun
  | [d1, d2, d3] => { results := [.lit (.bool true)], args := [d1, d2, d3] }
  | _ => none }
def xtsApartRow : OpenClaim := { program := "ytkbkobekndfapaa", sum := "841a57732e20bb2744c2a78fd549c45669106fe1b777176fe3ff93e7b129a156", func := "cofferdam/cofferdamlaw05.XtsApart", spec := "xtsApart", unfollowed := true, recurses := true, apart := false }
def XtsApartSaid : Prop := xtsApartRow.holds Try.pinned (OpenSpec.ofChange xtsApartSpec)

/-- ITS FALSE NEIGHBOUR: 'it returns false'. Refute it at one input. -/
def xtsApartWrong : ChangeSpec := { name := "xtsApart", fn := fun _ => fun
  | [d1, d2, d3] => { results := [.lit (.bool false)], args := [d1, d2, d3] }
  | _ => none }
def XtsApartWrongFalsely : Prop := xtsApartRow.holds Try.pinned (OpenSpec.ofChange xtsApartWrong)

/-- 'cofferdamlaw05.XtsNil': WHATEVER THE INPUT: true; the input reads as it did. -/
def xtsNilSpec : ChangeSpec := { name := "xtsNil", fn := fun _ => fun
  | [d1, d2] => { results := [.lit (.bool true)], args := [d1, d2] }
  | _ => none }
def xtsNilRow : OpenClaim := { program := "ytkbkobekndfapaa", sum := "841a57732e20bb2744c2a78fd549c45669106fe1b777176fe3ff93e7b129a156", func := "cofferdam/cofferdamlaw05.XtsNil", spec := "xtsNil", unfollowed := true, recurses := true, apart := false }
def XtsNilSaid : Prop := xtsNilRow.holds Try.pinned (OpenSpec.ofChange xtsNilSpec)

/-- ITS FALSE NEIGHBOUR: 'it returns false'. Refute it at one input. -/
def xtsNilWrong : ChangeSpec := { name := "xtsNil", fn := fun _ => fun
  | [d1, d2] => { results := [.lit (.bool false)], args := [d1, d2] }
  | _ => none }
def XtsNilWrongFalsely : Prop := xtsNilRow.holds Try.pinned (OpenSpec.ofChange xtsNilWrong)

/-- 'cofferdamlaw05.XtsPrefix': WHATEVER THE INPUT: true; the input reads as it did. -/
def xtsPrefixSpec : ChangeSpec := { name := "xtsPrefix", fn := fun _ => fun
  | [d1, d2, d3] => { results := [.lit (.bool true)], args := [d1, d2, d3] }
  | _ => none }
def xtsPrefixRow : OpenClaim := { program := "ytkbkobekndfapaa", sum := "841a57732e20bb2744c2a78fd549c45669106fe1b777176fe3ff93e7b129a156", func := "cofferdam/cofferdamlaw05.XtsPrefix", spec := "xtsPrefix", unfollowed := true, recurses := true, apart := false }
def XtsPrefixSaid : Prop := xtsPrefixRow.holds Try.pinned (OpenSpec.ofChange xtsPrefixSpec)

/-- ITS FALSE NEIGHBOUR: 'it returns false'. Refute it at one input. -/
def xtsPrefixWrong : ChangeSpec := { name := "xtsPrefix", fn := fun _ => fun
  | [d1, d2, d3] => { results := [.lit (.bool false)], args := [d1, d2, d3] }
  | _ => none }
def XtsPrefixWrongFalsely : Prop := xtsPrefixRow.holds Try.pinned (OpenSpec.ofChange xtsPrefixWrong)

/- THE SECOND FORM. 'bulk': how many values and letters a reading holds, each counted each time it is reached (what is shared counts as often as it is met; a slice's spare places count too). A statement '..UptoSaid' is the law's where the arguments, and the package variables that the reading takes, are together of bulk at most 1048576: NARROWER than '..Said'. Prove '..Said' where nothing that the law and all that it calls make is longer than what came in: it says more and counts as full. Else prove '..UptoSaid'. A law counts once. -/
mutual
def uptoBulk {H : Type} : DataW H → Nat
  | .lit (.string bytes) => bytes.length + 1
  | .lit _ => 1
  | .nil => 1
  | .ptr d => uptoBulk d + 1
  | .slice elems spare => uptoBulkAll elems + uptoBulkAll spare + 1
  | .agg parts => uptoBulkAll parts + 1
  | .iface _ d => uptoBulk d + 1
  | .map entries => uptoBulkEntries entries + 1
  | .held _ => 1
def uptoBulkAll {H : Type} : List (DataW H) → Nat
  | [] => 0
  | d :: r => uptoBulk d + uptoBulkAll r
def uptoBulkEntries {H : Type} : List (Lit × DataW H) → Nat
  | [] => 0
  | x :: r => uptoBulkEntry x + uptoBulkEntries r
def uptoBulkEntry {H : Type} : Lit × DataW H → Nat
  | (.string bytes, d) => bytes.length + uptoBulk d + 1
  | (_, d) => uptoBulk d + 1
 end
def uptoSmall : (H : Type) → List (DataW H) → Bool := fun _ ds => decide (uptoBulkAll ds ≤ 1048576)
def OpenSpec.upto (s : _root_.Go.ChangeSpec) : _root_.Go.OpenSpec := { _root_.Go.OpenSpec.ofChange s with cond := some uptoSmall }

/-- 'cofferdamlaw04.AesBlocks', WHERE WHAT IT READS IS OF BULK AT MOST 1048576: true; the input reads as it did. -/
def aesBlocksUptoRow : OpenClaim := { program := "ytkbkobekndfapaa", sum := "841a57732e20bb2744c2a78fd549c45669106fe1b777176fe3ff93e7b129a156", func := "cofferdam/cofferdamlaw04.AesBlocks", spec := "aesBlocks", apart := false, narrowed := true }
def AesBlocksUptoSaid : Prop := aesBlocksUptoRow.holds Try.pinned (OpenSpec.upto aesBlocksSpec)

/-- 'cofferdamlaw04.AesBack', WHERE WHAT IT READS IS OF BULK AT MOST 1048576: true; the input reads as it did. -/
def aesBackUptoRow : OpenClaim := { program := "ytkbkobekndfapaa", sum := "841a57732e20bb2744c2a78fd549c45669106fe1b777176fe3ff93e7b129a156", func := "cofferdam/cofferdamlaw04.AesBack", spec := "aesBack", apart := false, narrowed := true }
def AesBackUptoSaid : Prop := aesBackUptoRow.holds Try.pinned (OpenSpec.upto aesBackSpec)

/-- 'cofferdamlaw04.AesNil', WHERE WHAT IT READS IS OF BULK AT MOST 1048576: true; the input reads as it did. -/
def aesNilUptoRow : OpenClaim := { program := "ytkbkobekndfapaa", sum := "841a57732e20bb2744c2a78fd549c45669106fe1b777176fe3ff93e7b129a156", func := "cofferdam/cofferdamlaw04.AesNil", spec := "aesNil", apart := false, narrowed := true }
def AesNilUptoSaid : Prop := aesNilUptoRow.holds Try.pinned (OpenSpec.upto aesNilSpec)

/-- 'cofferdamlaw04.AesUnlike', WHERE WHAT IT READS IS OF BULK AT MOST 1048576: true; the input reads as it did. -/
def aesUnlikeUptoRow : OpenClaim := { program := "ytkbkobekndfapaa", sum := "841a57732e20bb2744c2a78fd549c45669106fe1b777176fe3ff93e7b129a156", func := "cofferdam/cofferdamlaw04.AesUnlike", spec := "aesUnlike", apart := false, narrowed := true }
def AesUnlikeUptoSaid : Prop := aesUnlikeUptoRow.holds Try.pinned (OpenSpec.upto aesUnlikeSpec)

/-- 'cofferdamlaw05.XtsSectors', WHERE WHAT IT READS IS OF BULK AT MOST 1048576: true; the input reads as it did. -/
def xtsSectorsUptoRow : OpenClaim := { program := "ytkbkobekndfapaa", sum := "841a57732e20bb2744c2a78fd549c45669106fe1b777176fe3ff93e7b129a156", func := "cofferdam/cofferdamlaw05.XtsSectors", spec := "xtsSectors", unfollowed := true, recurses := true, apart := false, narrowed := true }
def XtsSectorsUptoSaid : Prop := xtsSectorsUptoRow.holds Try.pinned (OpenSpec.upto xtsSectorsSpec)

/-- 'cofferdamlaw05.XtsBack', WHERE WHAT IT READS IS OF BULK AT MOST 1048576: true; the input reads as it did. -/
def xtsBackUptoRow : OpenClaim := { program := "ytkbkobekndfapaa", sum := "841a57732e20bb2744c2a78fd549c45669106fe1b777176fe3ff93e7b129a156", func := "cofferdam/cofferdamlaw05.XtsBack", spec := "xtsBack", unfollowed := true, recurses := true, apart := false, narrowed := true }
def XtsBackUptoSaid : Prop := xtsBackUptoRow.holds Try.pinned (OpenSpec.upto xtsBackSpec)

/-- 'cofferdamlaw05.XtsApart', WHERE WHAT IT READS IS OF BULK AT MOST 1048576: true; the input reads as it did. -/
def xtsApartUptoRow : OpenClaim := { program := "ytkbkobekndfapaa", sum := "841a57732e20bb2744c2a78fd549c45669106fe1b777176fe3ff93e7b129a156", func := "cofferdam/cofferdamlaw05.XtsApart", spec := "xtsApart", unfollowed := true, recurses := true, apart := false, narrowed := true }
def XtsApartUptoSaid : Prop := xtsApartUptoRow.holds Try.pinned (OpenSpec.upto xtsApartSpec)

/-- 'cofferdamlaw05.XtsNil', WHERE WHAT IT READS IS OF BULK AT MOST 1048576: true; the input reads as it did. -/
def xtsNilUptoRow : OpenClaim := { program := "ytkbkobekndfapaa", sum := "841a57732e20bb2744c2a78fd549c45669106fe1b777176fe3ff93e7b129a156", func := "cofferdam/cofferdamlaw05.XtsNil", spec := "xtsNil", unfollowed := true, recurses := true, apart := false, narrowed := true }
def XtsNilUptoSaid : Prop := xtsNilUptoRow.holds Try.pinned (OpenSpec.upto xtsNilSpec)

/-- 'cofferdamlaw05.XtsPrefix', WHERE WHAT IT READS IS OF BULK AT MOST 1048576: true; the input reads as it did. -/
def xtsPrefixUptoRow : OpenClaim := { program := "ytkbkobekndfapaa", sum := "841a57732e20bb2744c2a78fd549c45669106fe1b777176fe3ff93e7b129a156", func := "cofferdam/cofferdamlaw05.XtsPrefix", spec := "xtsPrefix", unfollowed := true, recurses := true, apart := false, narrowed := true }
def XtsPrefixUptoSaid : Prop := xtsPrefixUptoRow.holds Try.pinned (OpenSpec.upto xtsPrefixSpec)

end Rows
end Go.Proofs.Ytkbkobekndfapaa
