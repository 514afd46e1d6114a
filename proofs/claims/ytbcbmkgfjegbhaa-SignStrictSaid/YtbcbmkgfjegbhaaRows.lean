/-
  No cell of these rows narrows 'for every input' (looked for: loops, veiled, ifaces, maps, wideKeys, modest, calm, conditions, laid).
  DERIVED. THE GIVEN ROWS OF THIS SEAT. 3 by the template 'for every input the law returns true; each argument reads behind the call as it read before'; 0 by the template 'total and deterministic' (their statements: YtbcbmkgfjegbhaaTotals.lean).
  GIVEN WITH THE SEED: the statements are not yours to turn. If you find one false, say at which input.
  Laid BY PROGRAM, IN A SANDBOX (cutbox-rows.mjs): the forced cells as the released guide's own fill.sh prints them over the translation 68a7de2bb1daafee… (all of the seat's roots in one cut). By AI agents, Wed Nov 11 2026. No macro, syntax, notation, axiom, sorry.
-/
import Derived.Test.YtbcbmkgfjegbhaaChecked
import GoSem.Claim
import GoSem.ClaimJoined
import GoSem.ClaimMapViews
import Derived.JoinedTies
import Derived.KernelRfl
namespace Go.Proofs.Ytbcbmkgfjegbhaa
/- THE CELL 'sum', in the pinned program and in every row, IS THE sha256 OF THE DUMP (.gsa) THAT YtbcbmkgfjegbhaaProg.lean LOADS. Nothing in Lean hashes anything: it is a label: what it is worth is what the hold of that sum in a sandbox is worth. -/
noncomputable def Try.pinned : Pinned := { name := "ytbcbmkgfjegbhaa", sum := "68a7de2bb1daafeeca2d05dad216960d21221f29c919839f72113f44de5a6d63", checked := Try.checked }
namespace Rows
def none {H : Type} : Left H := { results := [], args := [] }

/-- 'fardellaw08.SignParts': WHATEVER THE INPUT: true; the input reads as it did. -/
def signPartsSpec : ChangeSpec := { name := "signParts", fn := fun _ => fun
  | [d1, d2, d3] => { results := [.lit (.bool true)], args := [d1, d2, d3] }
  | _ => none }
def signPartsRow : OpenClaim := { program := "ytbcbmkgfjegbhaa", sum := "68a7de2bb1daafeeca2d05dad216960d21221f29c919839f72113f44de5a6d63", func := "fardel/fardellaw08.SignParts", spec := "signParts", inPlace := ["math/bits.Add64", "math/bits.Sub64"], unfollowed := true, recurses := true, apart := false }
def SignPartsSaid : Prop := signPartsRow.holds Try.pinned (OpenSpec.ofChange signPartsSpec)

/-- ITS FALSE NEIGHBOUR: 'it returns false'. Refute it at one input. -/
def signPartsWrong : ChangeSpec := { name := "signParts", fn := fun _ => fun
  | [d1, d2, d3] => { results := [.lit (.bool false)], args := [d1, d2, d3] }
  | _ => none }
def SignPartsWrongFalsely : Prop := signPartsRow.holds Try.pinned (OpenSpec.ofChange signPartsWrong)

/-- 'fardellaw08.SignShape': WHATEVER THE INPUT: true; the input reads as it did. -/
def signShapeSpec : ChangeSpec := { name := "signShape", fn := fun _ => fun
  | [d1, d2] => { results := [.lit (.bool true)], args := [d1, d2] }
  | _ => none }
def signShapeRow : OpenClaim := { program := "ytbcbmkgfjegbhaa", sum := "68a7de2bb1daafeeca2d05dad216960d21221f29c919839f72113f44de5a6d63", func := "fardel/fardellaw08.SignShape", spec := "signShape", inPlace := ["math/bits.Add64", "math/bits.Sub64"], unfollowed := true, recurses := true, apart := false }
def SignShapeSaid : Prop := signShapeRow.holds Try.pinned (OpenSpec.ofChange signShapeSpec)

/-- ITS FALSE NEIGHBOUR: 'it returns false'. Refute it at one input. -/
def signShapeWrong : ChangeSpec := { name := "signShape", fn := fun _ => fun
  | [d1, d2] => { results := [.lit (.bool false)], args := [d1, d2] }
  | _ => none }
def SignShapeWrongFalsely : Prop := signShapeRow.holds Try.pinned (OpenSpec.ofChange signShapeWrong)

/-- 'fardellaw08.SignStrict': WHATEVER THE INPUT: true; the input reads as it did. -/
def signStrictSpec : ChangeSpec := { name := "signStrict", fn := fun _ => fun
  | [d1, d2] => { results := [.lit (.bool true)], args := [d1, d2] }
  | _ => none }
def signStrictRow : OpenClaim := { program := "ytbcbmkgfjegbhaa", sum := "68a7de2bb1daafeeca2d05dad216960d21221f29c919839f72113f44de5a6d63", func := "fardel/fardellaw08.SignStrict", spec := "signStrict", inPlace := ["math/bits.Add64", "math/bits.Sub64"], unfollowed := true, recurses := true, apart := false }
def SignStrictSaid : Prop := signStrictRow.holds Try.pinned (OpenSpec.ofChange signStrictSpec)

/-- ITS FALSE NEIGHBOUR: 'it returns false'. Refute it at one input. -/
def signStrictWrong : ChangeSpec := { name := "signStrict", fn := fun _ => fun
  | [d1, d2] => { results := [.lit (.bool false)], args := [d1, d2] }
  | _ => none }
def SignStrictWrongFalsely : Prop := signStrictRow.holds Try.pinned (OpenSpec.ofChange signStrictWrong)

/- THE SECOND FORM. 'bulk': how many values and letters a reading holds, each counted each time it is reached (what is shared counts as often as it is met; a slice's spare places count too). A statement '..UptoSaid' is the law's where the arguments, and the package variables that the reading takes, are together of bulk at most 1048576: NARROWER than '..Said'. Prove '..Said' where nothing that the law and all that it calls make is longer than what came in: it says more and counts as full. Else prove '..UptoSaid'. A law counts once. -/
mutual
def uptoBulk {H : Type} : DataW H → Nat
  | .lit (.string bytes) => bytes.length + 1
  | .lit _ => 1
  | .nil => 1
  | .ptr d => uptoBulk d + 1
  | .slice elems spare => uptoBulkAll elems + uptoBulkAll spare + 1
  | .agg parts => uptoBulkAll parts + 1
  | .iface _ d => uptoBulk d + 1
  | .map entries => uptoBulkEntries entries + 1
  | .held _ => 1
def uptoBulkAll {H : Type} : List (DataW H) → Nat
  | [] => 0
  | d :: r => uptoBulk d + uptoBulkAll r
def uptoBulkEntries {H : Type} : List (Lit × DataW H) → Nat
  | [] => 0
  | x :: r => uptoBulkEntry x + uptoBulkEntries r
def uptoBulkEntry {H : Type} : Lit × DataW H → Nat
  | (.string bytes, d) => bytes.length + uptoBulk d + 1
  | (_, d) => uptoBulk d + 1
 end
def uptoSmall : (H : Type) → List (DataW H) → Bool := fun _ ds => decide (uptoBulkAll ds ≤ 1048576)
def OpenSpec.upto (s : _root_.Go.ChangeSpec) : _root_.Go.OpenSpec := { _root_.Go.OpenSpec.ofChange s with cond := some uptoSmall }

/-- 'fardellaw08.SignParts', WHERE WHAT IT READS IS OF BULK AT MOST 1048576: true; the input reads as it did. -/
def signPartsUptoRow : OpenClaim := { program := "ytbcbmkgfjegbhaa", sum := "68a7de2bb1daafeeca2d05dad216960d21221f29c919839f72113f44de5a6d63", func := "fardel/fardellaw08.SignParts", spec := "signParts", inPlace := ["math/bits.Add64", "math/bits.Sub64"], unfollowed := true, recurses := true, apart := false, narrowed := true }
def SignPartsUptoSaid : Prop := signPartsUptoRow.holds Try.pinned (OpenSpec.upto signPartsSpec)

/-- 'fardellaw08.SignShape', WHERE WHAT IT READS IS OF BULK AT MOST 1048576: true; the input reads as it did. -/
def signShapeUptoRow : OpenClaim := { program := "ytbcbmkgfjegbhaa", sum := "68a7de2bb1daafeeca2d05dad216960d21221f29c919839f72113f44de5a6d63", func := "fardel/fardellaw08.SignShape", spec := "signShape", inPlace := ["math/bits.Add64", "math/bits.Sub64"], unfollowed := true, recurses := true, apart := false, narrowed := true }
def SignShapeUptoSaid : Prop := signShapeUptoRow.holds Try.pinned (OpenSpec.upto signShapeSpec)

/-- 'fardellaw08.SignStrict', WHERE WHAT IT READS IS OF BULK AT MOST 1048576: true; the input reads as it did. -/
def signStrictUptoRow : OpenClaim := { program := "ytbcbmkgfjegbhaa", sum := "68a7de2bb1daafeeca2d05dad216960d21221f29c919839f72113f44de5a6d63", func := "fardel/fardellaw08.SignStrict", spec := "signStrict", inPlace := ["math/bits.Add64", "math/bits.Sub64"], unfollowed := true, recurses := true, apart := false, narrowed := true }
def SignStrictUptoSaid : Prop := signStrictUptoRow.holds Try.pinned (OpenSpec.upto signStrictSpec)

end Rows
end Go.Proofs.Ytbcbmkgfjegbhaa
