/-
  No cell of these rows narrows 'for every input' (looked for: loops, veiled, ifaces, maps, wideKeys, modest, calm, conditions, laid).
  DERIVED. THE GIVEN ROWS OF THIS SEAT. 9 by the template 'for every input the law returns true; each argument reads behind the call as it read before'; 0 by the template 'total and deterministic' (their statements: YtiolcdjnmnhcgaaTotals.lean).
  GIVEN WITH THE SEED: the statements are not yours to turn. If you find one false, say at which input.
  Laid BY PROGRAM, IN A SANDBOX (cutbox-rows.mjs): the forced cells as the released guide's own fill.sh prints them over the translation bf2ae834d6bee2cd… (all of the seat's roots in one cut). By AI agents, Wed Nov 11 2026. No macro, syntax, notation, axiom, sorry.
-/
import Derived.Test.YtiolcdjnmnhcgaaChecked
import GoSem.Claim
import GoSem.ClaimJoined
import GoSem.ClaimMapViews
import Derived.JoinedTies
import Derived.KernelRfl
namespace Go.Proofs.Ytiolcdjnmnhcgaa
/- THE CELL 'sum', in the pinned program and in every row, IS THE sha256 OF THE DUMP (.gsa) THAT YtiolcdjnmnhcgaaProg.lean LOADS. Nothing in Lean hashes anything: it is a label: what it is worth is what the hold of that sum in a sandbox is worth. -/
noncomputable def Try.pinned : Pinned := { name := "ytiolcdjnmnhcgaa", sum := "bf2ae834d6bee2cd00c95d0d4c5d72e89e885e4501b0d43a114019b5408d7c64", checked := Try.checked }
namespace Rows
def none {H : Type} : Left H := { results := [], args := [] }

/-- 'fardellaw07.EdwardsDecodes': WHATEVER THE INPUT: true; the input reads as it did. -/
def edwardsDecodesSpec : ChangeSpec := { name := "edwardsDecodes", fn := fun _ => fun
  | [d] => { results := [.lit (.bool true)], args := [d] }
  | _ => none }
def edwardsDecodesRow : OpenClaim := { program := "ytiolcdjnmnhcgaa", sum := "bf2ae834d6bee2cd00c95d0d4c5d72e89e885e4501b0d43a114019b5408d7c64", func := "fardel/fardellaw07.EdwardsDecodes", spec := "edwardsDecodes", inPlace := ["math/bits.Add64"], unfollowed := true, recurses := true, apart := false }
def EdwardsDecodesSaid : Prop := edwardsDecodesRow.holds Try.pinned (OpenSpec.ofChange edwardsDecodesSpec)

/-- ITS FALSE NEIGHBOUR: 'it returns false'. Refute it at one input. -/
def edwardsDecodesWrong : ChangeSpec := { name := "edwardsDecodes", fn := fun _ => fun
  | [d] => { results := [.lit (.bool false)], args := [d] }
  | _ => none }
def EdwardsDecodesWrongFalsely : Prop := edwardsDecodesRow.holds Try.pinned (OpenSpec.ofChange edwardsDecodesWrong)

/-- 'fardellaw07.EdwardsMuls': WHATEVER THE INPUT: true; the input reads as it did. -/
def edwardsMulsSpec : ChangeSpec := { name := "edwardsMuls", fn := fun _ => fun
  | [d1, d2, d3, d4] => { results := [.lit (.bool true)], args := [d1, d2, d3, d4] }
  | _ => none }
def edwardsMulsRow : OpenClaim := { program := "ytiolcdjnmnhcgaa", sum := "bf2ae834d6bee2cd00c95d0d4c5d72e89e885e4501b0d43a114019b5408d7c64", func := "fardel/fardellaw07.EdwardsMuls", spec := "edwardsMuls", inPlace := ["math/bits.Add64"], unfollowed := true, recurses := true, apart := false }
def EdwardsMulsSaid : Prop := edwardsMulsRow.holds Try.pinned (OpenSpec.ofChange edwardsMulsSpec)

/-- ITS FALSE NEIGHBOUR: 'it returns false'. Refute it at one input. -/
def edwardsMulsWrong : ChangeSpec := { name := "edwardsMuls", fn := fun _ => fun
  | [d1, d2, d3, d4] => { results := [.lit (.bool false)], args := [d1, d2, d3, d4] }
  | _ => none }
def EdwardsMulsWrongFalsely : Prop := edwardsMulsRow.holds Try.pinned (OpenSpec.ofChange edwardsMulsWrong)

/-- 'fardellaw07.EdwardsBoth': WHATEVER THE INPUT: true; the input reads as it did. -/
def edwardsBothSpec : ChangeSpec := { name := "edwardsBoth", fn := fun _ => fun
  | [d1, d2, d3, d4] => { results := [.lit (.bool true)], args := [d1, d2, d3, d4] }
  | _ => none }
def edwardsBothRow : OpenClaim := { program := "ytiolcdjnmnhcgaa", sum := "bf2ae834d6bee2cd00c95d0d4c5d72e89e885e4501b0d43a114019b5408d7c64", func := "fardel/fardellaw07.EdwardsBoth", spec := "edwardsBoth", inPlace := ["math/bits.Add64"], unfollowed := true, recurses := true, apart := false }
def EdwardsBothSaid : Prop := edwardsBothRow.holds Try.pinned (OpenSpec.ofChange edwardsBothSpec)

/-- ITS FALSE NEIGHBOUR: 'it returns false'. Refute it at one input. -/
def edwardsBothWrong : ChangeSpec := { name := "edwardsBoth", fn := fun _ => fun
  | [d1, d2, d3, d4] => { results := [.lit (.bool false)], args := [d1, d2, d3, d4] }
  | _ => none }
def EdwardsBothWrongFalsely : Prop := edwardsBothRow.holds Try.pinned (OpenSpec.ofChange edwardsBothWrong)

/-- 'fardellaw07.EdwardsLittle': WHATEVER THE INPUT: true; the input reads as it did. -/
def edwardsLittleSpec : ChangeSpec := { name := "edwardsLittle", fn := fun _ => fun
  | [d] => { results := [.lit (.bool true)], args := [d] }
  | _ => none }
def edwardsLittleRow : OpenClaim := { program := "ytiolcdjnmnhcgaa", sum := "bf2ae834d6bee2cd00c95d0d4c5d72e89e885e4501b0d43a114019b5408d7c64", func := "fardel/fardellaw07.EdwardsLittle", spec := "edwardsLittle", inPlace := ["math/bits.Add64"], unfollowed := true, recurses := true, apart := false }
def EdwardsLittleSaid : Prop := edwardsLittleRow.holds Try.pinned (OpenSpec.ofChange edwardsLittleSpec)

/-- ITS FALSE NEIGHBOUR: 'it returns false'. Refute it at one input. -/
def edwardsLittleWrong : ChangeSpec := { name := "edwardsLittle", fn := fun _ => fun
  | [d] => { results := [.lit (.bool false)], args := [d] }
  | _ => none }
def EdwardsLittleWrongFalsely : Prop := edwardsLittleRow.holds Try.pinned (OpenSpec.ofChange edwardsLittleWrong)

/-- 'fardellaw07.EdwardsCounts': WHATEVER THE INPUT: true; the input reads as it did. -/
def edwardsCountsSpec : ChangeSpec := { name := "edwardsCounts", fn := fun _ => fun
  | [d1, d2] => { results := [.lit (.bool true)], args := [d1, d2] }
  | _ => none }
def edwardsCountsRow : OpenClaim := { program := "ytiolcdjnmnhcgaa", sum := "bf2ae834d6bee2cd00c95d0d4c5d72e89e885e4501b0d43a114019b5408d7c64", func := "fardel/fardellaw07.EdwardsCounts", spec := "edwardsCounts", inPlace := ["math/bits.Add64"], unfollowed := true, recurses := true, apart := false }
def EdwardsCountsSaid : Prop := edwardsCountsRow.holds Try.pinned (OpenSpec.ofChange edwardsCountsSpec)

/-- ITS FALSE NEIGHBOUR: 'it returns false'. Refute it at one input. -/
def edwardsCountsWrong : ChangeSpec := { name := "edwardsCounts", fn := fun _ => fun
  | [d1, d2] => { results := [.lit (.bool false)], args := [d1, d2] }
  | _ => none }
def EdwardsCountsWrongFalsely : Prop := edwardsCountsRow.holds Try.pinned (OpenSpec.ofChange edwardsCountsWrong)

/-- 'fardellaw07.EdwardsAdds': WHATEVER THE INPUT: true; the input reads as it did. -/
def edwardsAddsSpec : ChangeSpec := { name := "edwardsAdds", fn := fun _ => fun
  | [d1, d2] => { results := [.lit (.bool true)], args := [d1, d2] }
  | _ => none }
def edwardsAddsRow : OpenClaim := { program := "ytiolcdjnmnhcgaa", sum := "bf2ae834d6bee2cd00c95d0d4c5d72e89e885e4501b0d43a114019b5408d7c64", func := "fardel/fardellaw07.EdwardsAdds", spec := "edwardsAdds", inPlace := ["math/bits.Add64"], unfollowed := true, recurses := true, apart := false }
def EdwardsAddsSaid : Prop := edwardsAddsRow.holds Try.pinned (OpenSpec.ofChange edwardsAddsSpec)

/-- ITS FALSE NEIGHBOUR: 'it returns false'. Refute it at one input. -/
def edwardsAddsWrong : ChangeSpec := { name := "edwardsAdds", fn := fun _ => fun
  | [d1, d2] => { results := [.lit (.bool false)], args := [d1, d2] }
  | _ => none }
def EdwardsAddsWrongFalsely : Prop := edwardsAddsRow.holds Try.pinned (OpenSpec.ofChange edwardsAddsWrong)

/-- 'fardellaw07.EdwardsGroup': WHATEVER THE INPUT: true; the input reads as it did. -/
def edwardsGroupSpec : ChangeSpec := { name := "edwardsGroup", fn := fun _ => fun
  | [d1, d2, d3] => { results := [.lit (.bool true)], args := [d1, d2, d3] }
  | _ => none }
def edwardsGroupRow : OpenClaim := { program := "ytiolcdjnmnhcgaa", sum := "bf2ae834d6bee2cd00c95d0d4c5d72e89e885e4501b0d43a114019b5408d7c64", func := "fardel/fardellaw07.EdwardsGroup", spec := "edwardsGroup", inPlace := ["math/bits.Add64"], unfollowed := true, recurses := true, apart := false }
def EdwardsGroupSaid : Prop := edwardsGroupRow.holds Try.pinned (OpenSpec.ofChange edwardsGroupSpec)

/-- ITS FALSE NEIGHBOUR: 'it returns false'. Refute it at one input. -/
def edwardsGroupWrong : ChangeSpec := { name := "edwardsGroup", fn := fun _ => fun
  | [d1, d2, d3] => { results := [.lit (.bool false)], args := [d1, d2, d3] }
  | _ => none }
def EdwardsGroupWrongFalsely : Prop := edwardsGroupRow.holds Try.pinned (OpenSpec.ofChange edwardsGroupWrong)

/-- 'fardellaw07.EdwardsSigns': WHATEVER THE INPUT: true; the input reads as it did. -/
def edwardsSignsSpec : ChangeSpec := { name := "edwardsSigns", fn := fun _ => fun
  | [d] => { results := [.lit (.bool true)], args := [d] }
  | _ => none }
def edwardsSignsRow : OpenClaim := { program := "ytiolcdjnmnhcgaa", sum := "bf2ae834d6bee2cd00c95d0d4c5d72e89e885e4501b0d43a114019b5408d7c64", func := "fardel/fardellaw07.EdwardsSigns", spec := "edwardsSigns", inPlace := ["math/bits.Add64"], unfollowed := true, recurses := true, apart := false }
def EdwardsSignsSaid : Prop := edwardsSignsRow.holds Try.pinned (OpenSpec.ofChange edwardsSignsSpec)

/-- ITS FALSE NEIGHBOUR: 'it returns false'. Refute it at one input. -/
def edwardsSignsWrong : ChangeSpec := { name := "edwardsSigns", fn := fun _ => fun
  | [d] => { results := [.lit (.bool false)], args := [d] }
  | _ => none }
def EdwardsSignsWrongFalsely : Prop := edwardsSignsRow.holds Try.pinned (OpenSpec.ofChange edwardsSignsWrong)

/-- 'fardellaw07.EdwardsTimes': WHATEVER THE INPUT: true; the input reads as it did. -/
def edwardsTimesSpec : ChangeSpec := { name := "edwardsTimes", fn := fun _ => fun
  | [d1, d2] => { results := [.lit (.bool true)], args := [d1, d2] }
  | _ => none }
def edwardsTimesRow : OpenClaim := { program := "ytiolcdjnmnhcgaa", sum := "bf2ae834d6bee2cd00c95d0d4c5d72e89e885e4501b0d43a114019b5408d7c64", func := "fardel/fardellaw07.EdwardsTimes", spec := "edwardsTimes", inPlace := ["math/bits.Add64", "math/bits.Sub64"], unfollowed := true, recurses := true, apart := false }
def EdwardsTimesSaid : Prop := edwardsTimesRow.holds Try.pinned (OpenSpec.ofChange edwardsTimesSpec)

/-- ITS FALSE NEIGHBOUR: 'it returns false'. Refute it at one input. -/
def edwardsTimesWrong : ChangeSpec := { name := "edwardsTimes", fn := fun _ => fun
  | [d1, d2] => { results := [.lit (.bool false)], args := [d1, d2] }
  | _ => none }
def EdwardsTimesWrongFalsely : Prop := edwardsTimesRow.holds Try.pinned (OpenSpec.ofChange edwardsTimesWrong)

/- THE SECOND FORM. 'bulk': how many values and letters a reading holds, each counted each time it is reached (what is shared counts as often as it is met; a slice's spare places count too). A statement '..UptoSaid' is the law's where the arguments, and the package variables that the reading takes, are together of bulk at most 1048576: NARROWER than '..Said'. Prove '..Said' where nothing that the law and all that it calls make is longer than what came in: it says more and counts as full. Else prove '..UptoSaid'. A law counts once. -/
mutual
def uptoBulk {H : Type} : DataW H → Nat
  | .lit (.string bytes) => bytes.length + 1
  | .lit _ => 1
  | .nil => 1
  | .ptr d => uptoBulk d + 1
  | .slice elems spare => uptoBulkAll elems + uptoBulkAll spare + 1
  | .agg parts => uptoBulkAll parts + 1
  | .iface _ d => uptoBulk d + 1
  | .map entries => uptoBulkEntries entries + 1
  | .held _ => 1
def uptoBulkAll {H : Type} : List (DataW H) → Nat
  | [] => 0
  | d :: r => uptoBulk d + uptoBulkAll r
def uptoBulkEntries {H : Type} : List (Lit × DataW H) → Nat
  | [] => 0
  | x :: r => uptoBulkEntry x + uptoBulkEntries r
def uptoBulkEntry {H : Type} : Lit × DataW H → Nat
  | (.string bytes, d) => bytes.length + uptoBulk d + 1
  | (_, d) => uptoBulk d + 1
 end
def uptoSmall : (H : Type) → List (DataW H) → Bool := fun _ ds => decide (uptoBulkAll ds ≤ 1048576)
def OpenSpec.upto (s : _root_.Go.ChangeSpec) : _root_.Go.OpenSpec := { _root_.Go.OpenSpec.ofChange s with cond := some uptoSmall }

/-- 'fardellaw07.EdwardsDecodes', WHERE WHAT IT READS IS OF BULK AT MOST 1048576: true; the input reads as it did. -/
def edwardsDecodesUptoRow : OpenClaim := { program := "ytiolcdjnmnhcgaa", sum := "bf2ae834d6bee2cd00c95d0d4c5d72e89e885e4501b0d43a114019b5408d7c64", func := "fardel/fardellaw07.EdwardsDecodes", spec := "edwardsDecodes", inPlace := ["math/bits.Add64"], unfollowed := true, recurses := true, apart := false, narrowed := true }
def EdwardsDecodesUptoSaid : Prop := edwardsDecodesUptoRow.holds Try.pinned (OpenSpec.upto edwardsDecodesSpec)

/-- 'fardellaw07.EdwardsMuls', WHERE WHAT IT READS IS OF BULK AT MOST 1048576: true; the input reads as it did. -/
def edwardsMulsUptoRow : OpenClaim := { program := "ytiolcdjnmnhcgaa", sum := "bf2ae834d6bee2cd00c95d0d4c5d72e89e885e4501b0d43a114019b5408d7c64", func := "fardel/fardellaw07.EdwardsMuls", spec := "edwardsMuls", inPlace := ["math/bits.Add64"], unfollowed := true, recurses := true, apart := false, narrowed := true }
def EdwardsMulsUptoSaid : Prop := edwardsMulsUptoRow.holds Try.pinned (OpenSpec.upto edwardsMulsSpec)

/-- 'fardellaw07.EdwardsBoth', WHERE WHAT IT READS IS OF BULK AT MOST 1048576: true; the input reads as it did. -/
def edwardsBothUptoRow : OpenClaim := { program := "ytiolcdjnmnhcgaa", sum := "bf2ae834d6bee2cd00c95d0d4c5d72e89e885e4501b0d43a114019b5408d7c64", func := "fardel/fardellaw07.EdwardsBoth", spec := "edwardsBoth", inPlace := ["math/bits.Add64"], unfollowed := true, recurses := true, apart := false, narrowed := true }
def EdwardsBothUptoSaid : Prop := edwardsBothUptoRow.holds Try.pinned (OpenSpec.upto edwardsBothSpec)

/-- 'fardellaw07.EdwardsLittle', WHERE WHAT IT READS IS OF BULK AT MOST 1048576: true; the input reads as it did. -/
def edwardsLittleUptoRow : OpenClaim := { program := "ytiolcdjnmnhcgaa", sum := "bf2ae834d6bee2cd00c95d0d4c5d72e89e885e4501b0d43a114019b5408d7c64", func := "fardel/fardellaw07.EdwardsLittle", spec := "edwardsLittle", inPlace := ["math/bits.Add64"], unfollowed := true, recurses := true, apart := false, narrowed := true }
def EdwardsLittleUptoSaid : Prop := edwardsLittleUptoRow.holds Try.pinned (OpenSpec.upto edwardsLittleSpec)

/-- 'fardellaw07.EdwardsCounts', WHERE WHAT IT READS IS OF BULK AT MOST 1048576: true; the input reads as it did. -/
def edwardsCountsUptoRow : OpenClaim := { program := "ytiolcdjnmnhcgaa", sum := "bf2ae834d6bee2cd00c95d0d4c5d72e89e885e4501b0d43a114019b5408d7c64", func := "fardel/fardellaw07.EdwardsCounts", spec := "edwardsCounts", inPlace := ["math/bits.Add64"], unfollowed := true, recurses := true, apart := false, narrowed := true }
def EdwardsCountsUptoSaid : Prop := edwardsCountsUptoRow.holds Try.pinned (OpenSpec.upto edwardsCountsSpec)

/-- 'fardellaw07.EdwardsAdds', WHERE WHAT IT READS IS OF BULK AT MOST 1048576: true; the input reads as it did. -/
def edwardsAddsUptoRow : OpenClaim := { program := "ytiolcdjnmnhcgaa", sum := "bf2ae834d6bee2cd00c95d0d4c5d72e89e885e4501b0d43a114019b5408d7c64", func := "fardel/fardellaw07.EdwardsAdds", spec := "edwardsAdds", inPlace := ["math/bits.Add64"], unfollowed := true, recurses := true, apart := false, narrowed := true }
def EdwardsAddsUptoSaid : Prop := edwardsAddsUptoRow.holds Try.pinned (OpenSpec.upto edwardsAddsSpec)

/-- 'fardellaw07.EdwardsGroup', WHERE WHAT IT READS IS OF BULK AT MOST 1048576: true; the input reads as it did. -/
def edwardsGroupUptoRow : OpenClaim := { program := "ytiolcdjnmnhcgaa", sum := "bf2ae834d6bee2cd00c95d0d4c5d72e89e885e4501b0d43a114019b5408d7c64", func := "fardel/fardellaw07.EdwardsGroup", spec := "edwardsGroup", inPlace := ["math/bits.Add64"], unfollowed := true, recurses := true, apart := false, narrowed := true }
def EdwardsGroupUptoSaid : Prop := edwardsGroupUptoRow.holds Try.pinned (OpenSpec.upto edwardsGroupSpec)

/-- 'fardellaw07.EdwardsSigns', WHERE WHAT IT READS IS OF BULK AT MOST 1048576: true; the input reads as it did. -/
def edwardsSignsUptoRow : OpenClaim := { program := "ytiolcdjnmnhcgaa", sum := "bf2ae834d6bee2cd00c95d0d4c5d72e89e885e4501b0d43a114019b5408d7c64", func := "fardel/fardellaw07.EdwardsSigns", spec := "edwardsSigns", inPlace := ["math/bits.Add64"], unfollowed := true, recurses := true, apart := false, narrowed := true }
def EdwardsSignsUptoSaid : Prop := edwardsSignsUptoRow.holds Try.pinned (OpenSpec.upto edwardsSignsSpec)

/-- 'fardellaw07.EdwardsTimes', WHERE WHAT IT READS IS OF BULK AT MOST 1048576: true; the input reads as it did. -/
def edwardsTimesUptoRow : OpenClaim := { program := "ytiolcdjnmnhcgaa", sum := "bf2ae834d6bee2cd00c95d0d4c5d72e89e885e4501b0d43a114019b5408d7c64", func := "fardel/fardellaw07.EdwardsTimes", spec := "edwardsTimes", inPlace := ["math/bits.Add64", "math/bits.Sub64"], unfollowed := true, recurses := true, apart := false, narrowed := true }
def EdwardsTimesUptoSaid : Prop := edwardsTimesUptoRow.holds Try.pinned (OpenSpec.upto edwardsTimesSpec)

end Rows
end Go.Proofs.Ytiolcdjnmnhcgaa
