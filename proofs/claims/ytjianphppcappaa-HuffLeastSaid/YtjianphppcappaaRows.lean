/-
  No cell of these rows narrows 'for every input' (looked for: loops, veiled, ifaces, maps, wideKeys, modest, calm, conditions, laid).
  DERIVED. THE GIVEN ROWS OF THIS SEAT. 10 by the template 'for every input the law returns true; each argument reads behind the call as it read before'; 0 by the template 'total and deterministic' (their statements: YtjianphppcappaaTotals.lean).
  GIVEN WITH THE SEED: the statements are not yours to turn. If you find one false, say at which input.
  Laid BY PROGRAM, IN A SANDBOX (cutbox-rows.mjs): the forced cells as the released guide's own fill.sh prints them over the translation cd3aa32824b3271f… (all of the seat's roots in one cut). By AI agents, Wed Nov 11 2026. No macro, syntax, notation, axiom, sorry.
-/
import Derived.Test.YtjianphppcappaaChecked
import GoSem.Claim
import GoSem.ClaimJoined
import GoSem.ClaimMapViews
import Derived.JoinedTies
import Derived.KernelRfl
namespace Go.Proofs.Ytjianphppcappaa
/- THE CELL 'sum', in the pinned program and in every row, IS THE sha256 OF THE DUMP (.gsa) THAT YtjianphppcappaaProg.lean LOADS. Nothing in Lean hashes anything: it is a label: what it is worth is what the hold of that sum in a sandbox is worth. -/
noncomputable def Try.pinned : Pinned := { name := "ytjianphppcappaa", sum := "cd3aa32824b3271f18b87c5c6320d9df662f1850b899186f2e1a5086071fe88b", checked := Try.checked }
namespace Rows
def none {H : Type} : Left H := { results := [], args := [] }

/-- 'fardellaw13.HuffNames': WHATEVER THE INPUT: true; the input reads as it did. -/
def huffNamesSpec : ChangeSpec := { name := "huffNames", fn := fun _ => fun
  | [] => { results := [.lit (.bool true)], args := [] }
  | _ => none }
def huffNamesRow : OpenClaim := { program := "ytjianphppcappaa", sum := "cd3aa32824b3271f18b87c5c6320d9df662f1850b899186f2e1a5086071fe88b", func := "fardel/fardellaw13.HuffNames", spec := "huffNames", unfollowed := true, recurses := true, apart := false }
def HuffNamesSaid : Prop := huffNamesRow.holds Try.pinned (OpenSpec.ofChange huffNamesSpec)

/-- ITS FALSE NEIGHBOUR: 'it returns false'. Refute it at one input. -/
def huffNamesWrong : ChangeSpec := { name := "huffNames", fn := fun _ => fun
  | [] => { results := [.lit (.bool false)], args := [] }
  | _ => none }
def HuffNamesWrongFalsely : Prop := huffNamesRow.holds Try.pinned (OpenSpec.ofChange huffNamesWrong)

/-- 'fardellaw13.HuffLeast': WHATEVER THE INPUT: true; the input reads as it did. -/
def huffLeastSpec : ChangeSpec := { name := "huffLeast", fn := fun _ => fun
  | [d1, d2] => { results := [.lit (.bool true)], args := [d1, d2] }
  | _ => none }
def huffLeastRow : OpenClaim := { program := "ytjianphppcappaa", sum := "cd3aa32824b3271f18b87c5c6320d9df662f1850b899186f2e1a5086071fe88b", func := "fardel/fardellaw13.HuffLeast", spec := "huffLeast", unfollowed := true, recurses := true, apart := false }
def HuffLeastSaid : Prop := huffLeastRow.holds Try.pinned (OpenSpec.ofChange huffLeastSpec)

/-- ITS FALSE NEIGHBOUR: 'it returns false'. Refute it at one input. -/
def huffLeastWrong : ChangeSpec := { name := "huffLeast", fn := fun _ => fun
  | [d1, d2] => { results := [.lit (.bool false)], args := [d1, d2] }
  | _ => none }
def HuffLeastWrongFalsely : Prop := huffLeastRow.holds Try.pinned (OpenSpec.ofChange huffLeastWrong)

/-- 'fardellaw13.HuffLower': WHATEVER THE INPUT: true; the input reads as it did. -/
def huffLowerSpec : ChangeSpec := { name := "huffLower", fn := fun _ => fun
  | [d1, d2, d3] => { results := [.lit (.bool true)], args := [d1, d2, d3] }
  | _ => none }
def huffLowerRow : OpenClaim := { program := "ytjianphppcappaa", sum := "cd3aa32824b3271f18b87c5c6320d9df662f1850b899186f2e1a5086071fe88b", func := "fardel/fardellaw13.HuffLower", spec := "huffLower", unfollowed := true, recurses := true, apart := false }
def HuffLowerSaid : Prop := huffLowerRow.holds Try.pinned (OpenSpec.ofChange huffLowerSpec)

/-- ITS FALSE NEIGHBOUR: 'it returns false'. Refute it at one input. -/
def huffLowerWrong : ChangeSpec := { name := "huffLower", fn := fun _ => fun
  | [d1, d2, d3] => { results := [.lit (.bool false)], args := [d1, d2, d3] }
  | _ => none }
def HuffLowerWrongFalsely : Prop := huffLowerRow.holds Try.pinned (OpenSpec.ofChange huffLowerWrong)

/-- 'fardellaw13.HuffWords': WHATEVER THE INPUT: true; the input reads as it did. -/
def huffWordsSpec : ChangeSpec := { name := "huffWords", fn := fun _ => fun
  | [d] => { results := [.lit (.bool true)], args := [d] }
  | _ => none }
def huffWordsRow : OpenClaim := { program := "ytjianphppcappaa", sum := "cd3aa32824b3271f18b87c5c6320d9df662f1850b899186f2e1a5086071fe88b", func := "fardel/fardellaw13.HuffWords", spec := "huffWords", unfollowed := true, recurses := true, apart := false }
def HuffWordsSaid : Prop := huffWordsRow.holds Try.pinned (OpenSpec.ofChange huffWordsSpec)

/-- ITS FALSE NEIGHBOUR: 'it returns false'. Refute it at one input. -/
def huffWordsWrong : ChangeSpec := { name := "huffWords", fn := fun _ => fun
  | [d] => { results := [.lit (.bool false)], args := [d] }
  | _ => none }
def HuffWordsWrongFalsely : Prop := huffWordsRow.holds Try.pinned (OpenSpec.ofChange huffWordsWrong)

/-- 'fardellaw13.HuffNil': WHATEVER THE INPUT: true; the input reads as it did. -/
def huffNilSpec : ChangeSpec := { name := "huffNil", fn := fun _ => fun
  | [d] => { results := [.lit (.bool true)], args := [d] }
  | _ => none }
def huffNilRow : OpenClaim := { program := "ytjianphppcappaa", sum := "cd3aa32824b3271f18b87c5c6320d9df662f1850b899186f2e1a5086071fe88b", func := "fardel/fardellaw13.HuffNil", spec := "huffNil", unfollowed := true, recurses := true, apart := false }
def HuffNilSaid : Prop := huffNilRow.holds Try.pinned (OpenSpec.ofChange huffNilSpec)

/-- ITS FALSE NEIGHBOUR: 'it returns false'. Refute it at one input. -/
def huffNilWrong : ChangeSpec := { name := "huffNil", fn := fun _ => fun
  | [d] => { results := [.lit (.bool false)], args := [d] }
  | _ => none }
def HuffNilWrongFalsely : Prop := huffNilRow.holds Try.pinned (OpenSpec.ofChange huffNilWrong)

/-- 'fardellaw13.HuffPrefix': WHATEVER THE INPUT: true; the input reads as it did. -/
def huffPrefixSpec : ChangeSpec := { name := "huffPrefix", fn := fun _ => fun
  | [d] => { results := [.lit (.bool true)], args := [d] }
  | _ => none }
def huffPrefixRow : OpenClaim := { program := "ytjianphppcappaa", sum := "cd3aa32824b3271f18b87c5c6320d9df662f1850b899186f2e1a5086071fe88b", func := "fardel/fardellaw13.HuffPrefix", spec := "huffPrefix", unfollowed := true, recurses := true, apart := false }
def HuffPrefixSaid : Prop := huffPrefixRow.holds Try.pinned (OpenSpec.ofChange huffPrefixSpec)

/-- ITS FALSE NEIGHBOUR: 'it returns false'. Refute it at one input. -/
def huffPrefixWrong : ChangeSpec := { name := "huffPrefix", fn := fun _ => fun
  | [d] => { results := [.lit (.bool false)], args := [d] }
  | _ => none }
def HuffPrefixWrongFalsely : Prop := huffPrefixRow.holds Try.pinned (OpenSpec.ofChange huffPrefixWrong)

/-- 'fardellaw13.HuffOrder': WHATEVER THE INPUT: true; the input reads as it did. -/
def huffOrderSpec : ChangeSpec := { name := "huffOrder", fn := fun _ => fun
  | [d1, d2, d3] => { results := [.lit (.bool true)], args := [d1, d2, d3] }
  | _ => none }
def huffOrderRow : OpenClaim := { program := "ytjianphppcappaa", sum := "cd3aa32824b3271f18b87c5c6320d9df662f1850b899186f2e1a5086071fe88b", func := "fardel/fardellaw13.HuffOrder", spec := "huffOrder", unfollowed := true, recurses := true, apart := false }
def HuffOrderSaid : Prop := huffOrderRow.holds Try.pinned (OpenSpec.ofChange huffOrderSpec)

/-- ITS FALSE NEIGHBOUR: 'it returns false'. Refute it at one input. -/
def huffOrderWrong : ChangeSpec := { name := "huffOrder", fn := fun _ => fun
  | [d1, d2, d3] => { results := [.lit (.bool false)], args := [d1, d2, d3] }
  | _ => none }
def HuffOrderWrongFalsely : Prop := huffOrderRow.holds Try.pinned (OpenSpec.ofChange huffOrderWrong)

/-- 'fardellaw13.HuffOne': WHATEVER THE INPUT: true; the input reads as it did. -/
def huffOneSpec : ChangeSpec := { name := "huffOne", fn := fun _ => fun
  | [d1, d2, d3] => { results := [.lit (.bool true)], args := [d1, d2, d3] }
  | _ => none }
def huffOneRow : OpenClaim := { program := "ytjianphppcappaa", sum := "cd3aa32824b3271f18b87c5c6320d9df662f1850b899186f2e1a5086071fe88b", func := "fardel/fardellaw13.HuffOne", spec := "huffOne", unfollowed := true, recurses := true, apart := false }
def HuffOneSaid : Prop := huffOneRow.holds Try.pinned (OpenSpec.ofChange huffOneSpec)

/-- ITS FALSE NEIGHBOUR: 'it returns false'. Refute it at one input. -/
def huffOneWrong : ChangeSpec := { name := "huffOne", fn := fun _ => fun
  | [d1, d2, d3] => { results := [.lit (.bool false)], args := [d1, d2, d3] }
  | _ => none }
def HuffOneWrongFalsely : Prop := huffOneRow.holds Try.pinned (OpenSpec.ofChange huffOneWrong)

/-- 'fardellaw13.HuffPuts': WHATEVER THE INPUT: true; the input reads as it did. -/
def huffPutsSpec : ChangeSpec := { name := "huffPuts", fn := fun _ => fun
  | [d1, d2, d3] => { results := [.lit (.bool true)], args := [d1, d2, d3] }
  | _ => none }
def huffPutsRow : OpenClaim := { program := "ytjianphppcappaa", sum := "cd3aa32824b3271f18b87c5c6320d9df662f1850b899186f2e1a5086071fe88b", func := "fardel/fardellaw13.HuffPuts", spec := "huffPuts", unfollowed := true, recurses := true, apart := false }
def HuffPutsSaid : Prop := huffPutsRow.holds Try.pinned (OpenSpec.ofChange huffPutsSpec)

/-- ITS FALSE NEIGHBOUR: 'it returns false'. Refute it at one input. -/
def huffPutsWrong : ChangeSpec := { name := "huffPuts", fn := fun _ => fun
  | [d1, d2, d3] => { results := [.lit (.bool false)], args := [d1, d2, d3] }
  | _ => none }
def HuffPutsWrongFalsely : Prop := huffPutsRow.holds Try.pinned (OpenSpec.ofChange huffPutsWrong)

/-- 'fardellaw13.HuffBack': WHATEVER THE INPUT: true; the input reads as it did. -/
def huffBackSpec : ChangeSpec := { name := "huffBack", fn := fun _ => fun
  | [d1, d2] => { results := [.lit (.bool true)], args := [d1, d2] }
  | _ => none }
def huffBackRow : OpenClaim := { program := "ytjianphppcappaa", sum := "cd3aa32824b3271f18b87c5c6320d9df662f1850b899186f2e1a5086071fe88b", func := "fardel/fardellaw13.HuffBack", spec := "huffBack", unfollowed := true, recurses := true, apart := false }
def HuffBackSaid : Prop := huffBackRow.holds Try.pinned (OpenSpec.ofChange huffBackSpec)

/-- ITS FALSE NEIGHBOUR: 'it returns false'. Refute it at one input. -/
def huffBackWrong : ChangeSpec := { name := "huffBack", fn := fun _ => fun
  | [d1, d2] => { results := [.lit (.bool false)], args := [d1, d2] }
  | _ => none }
def HuffBackWrongFalsely : Prop := huffBackRow.holds Try.pinned (OpenSpec.ofChange huffBackWrong)

/- THE SECOND FORM. 'bulk': how many values and letters a reading holds, each counted each time it is reached (what is shared counts as often as it is met; a slice's spare places count too). A statement '..UptoSaid' is the law's where the arguments, and the package variables that the reading takes, are together of bulk at most 1048576: NARROWER than '..Said'. Prove '..Said' where nothing that the law and all that it calls make is longer than what came in: it says more and counts as full. Else prove '..UptoSaid'. A law counts once. -/
mutual
def uptoBulk {H : Type} : DataW H → Nat
  | .lit (.string bytes) => bytes.length + 1
  | .lit _ => 1
  | .nil => 1
  | .ptr d => uptoBulk d + 1
  | .slice elems spare => uptoBulkAll elems + uptoBulkAll spare + 1
  | .agg parts => uptoBulkAll parts + 1
  | .iface _ d => uptoBulk d + 1
  | .map entries => uptoBulkEntries entries + 1
  | .held _ => 1
def uptoBulkAll {H : Type} : List (DataW H) → Nat
  | [] => 0
  | d :: r => uptoBulk d + uptoBulkAll r
def uptoBulkEntries {H : Type} : List (Lit × DataW H) → Nat
  | [] => 0
  | x :: r => uptoBulkEntry x + uptoBulkEntries r
def uptoBulkEntry {H : Type} : Lit × DataW H → Nat
  | (.string bytes, d) => bytes.length + uptoBulk d + 1
  | (_, d) => uptoBulk d + 1
 end
def uptoSmall : (H : Type) → List (DataW H) → Bool := fun _ ds => decide (uptoBulkAll ds ≤ 1048576)
def OpenSpec.upto (s : _root_.Go.ChangeSpec) : _root_.Go.OpenSpec := { _root_.Go.OpenSpec.ofChange s with cond := some uptoSmall }

/-- 'fardellaw13.HuffNames', WHERE WHAT IT READS IS OF BULK AT MOST 1048576: true; the input reads as it did. -/
def huffNamesUptoRow : OpenClaim := { program := "ytjianphppcappaa", sum := "cd3aa32824b3271f18b87c5c6320d9df662f1850b899186f2e1a5086071fe88b", func := "fardel/fardellaw13.HuffNames", spec := "huffNames", unfollowed := true, recurses := true, apart := false, narrowed := true }
def HuffNamesUptoSaid : Prop := huffNamesUptoRow.holds Try.pinned (OpenSpec.upto huffNamesSpec)

/-- 'fardellaw13.HuffLeast', WHERE WHAT IT READS IS OF BULK AT MOST 1048576: true; the input reads as it did. -/
def huffLeastUptoRow : OpenClaim := { program := "ytjianphppcappaa", sum := "cd3aa32824b3271f18b87c5c6320d9df662f1850b899186f2e1a5086071fe88b", func := "fardel/fardellaw13.HuffLeast", spec := "huffLeast", unfollowed := true, recurses := true, apart := false, narrowed := true }
def HuffLeastUptoSaid : Prop := huffLeastUptoRow.holds Try.pinned (OpenSpec.upto huffLeastSpec)

/-- 'fardellaw13.HuffLower', WHERE WHAT IT READS IS OF BULK AT MOST 1048576: true; the input reads as it did. -/
def huffLowerUptoRow : OpenClaim := { program := "ytjianphppcappaa", sum := "cd3aa32824b3271f18b87c5c6320d9df662f1850b899186f2e1a5086071fe88b", func := "fardel/fardellaw13.HuffLower", spec := "huffLower", unfollowed := true, recurses := true, apart := false, narrowed := true }
def HuffLowerUptoSaid : Prop := huffLowerUptoRow.holds Try.pinned (OpenSpec.upto huffLowerSpec)

/-- 'fardellaw13.HuffWords', WHERE WHAT IT READS IS OF BULK AT MOST 1048576: true; the input reads as it did. -/
def huffWordsUptoRow : OpenClaim := { program := "ytjianphppcappaa", sum := "cd3aa32824b3271f18b87c5c6320d9df662f1850b899186f2e1a5086071fe88b", func := "fardel/fardellaw13.HuffWords", spec := "huffWords", unfollowed := true, recurses := true, apart := false, narrowed := true }
def HuffWordsUptoSaid : Prop := huffWordsUptoRow.holds Try.pinned (OpenSpec.upto huffWordsSpec)

/-- 'fardellaw13.HuffNil', WHERE WHAT IT READS IS OF BULK AT MOST 1048576: true; the input reads as it did. -/
def huffNilUptoRow : OpenClaim := { program := "ytjianphppcappaa", sum := "cd3aa32824b3271f18b87c5c6320d9df662f1850b899186f2e1a5086071fe88b", func := "fardel/fardellaw13.HuffNil", spec := "huffNil", unfollowed := true, recurses := true, apart := false, narrowed := true }
def HuffNilUptoSaid : Prop := huffNilUptoRow.holds Try.pinned (OpenSpec.upto huffNilSpec)

/-- 'fardellaw13.HuffPrefix', WHERE WHAT IT READS IS OF BULK AT MOST 1048576: true; the input reads as it did. -/
def huffPrefixUptoRow : OpenClaim := { program := "ytjianphppcappaa", sum := "cd3aa32824b3271f18b87c5c6320d9df662f1850b899186f2e1a5086071fe88b", func := "fardel/fardellaw13.HuffPrefix", spec := "huffPrefix", unfollowed := true, recurses := true, apart := false, narrowed := true }
def HuffPrefixUptoSaid : Prop := huffPrefixUptoRow.holds Try.pinned (OpenSpec.upto huffPrefixSpec)

/-- 'fardellaw13.HuffOrder', WHERE WHAT IT READS IS OF BULK AT MOST 1048576: true; the input reads as it did. -/
def huffOrderUptoRow : OpenClaim := { program := "ytjianphppcappaa", sum := "cd3aa32824b3271f18b87c5c6320d9df662f1850b899186f2e1a5086071fe88b", func := "fardel/fardellaw13.HuffOrder", spec := "huffOrder", unfollowed := true, recurses := true, apart := false, narrowed := true }
def HuffOrderUptoSaid : Prop := huffOrderUptoRow.holds Try.pinned (OpenSpec.upto huffOrderSpec)

/-- 'fardellaw13.HuffOne', WHERE WHAT IT READS IS OF BULK AT MOST 1048576: true; the input reads as it did. -/
def huffOneUptoRow : OpenClaim := { program := "ytjianphppcappaa", sum := "cd3aa32824b3271f18b87c5c6320d9df662f1850b899186f2e1a5086071fe88b", func := "fardel/fardellaw13.HuffOne", spec := "huffOne", unfollowed := true, recurses := true, apart := false, narrowed := true }
def HuffOneUptoSaid : Prop := huffOneUptoRow.holds Try.pinned (OpenSpec.upto huffOneSpec)

/-- 'fardellaw13.HuffPuts', WHERE WHAT IT READS IS OF BULK AT MOST 1048576: true; the input reads as it did. -/
def huffPutsUptoRow : OpenClaim := { program := "ytjianphppcappaa", sum := "cd3aa32824b3271f18b87c5c6320d9df662f1850b899186f2e1a5086071fe88b", func := "fardel/fardellaw13.HuffPuts", spec := "huffPuts", unfollowed := true, recurses := true, apart := false, narrowed := true }
def HuffPutsUptoSaid : Prop := huffPutsUptoRow.holds Try.pinned (OpenSpec.upto huffPutsSpec)

/-- 'fardellaw13.HuffBack', WHERE WHAT IT READS IS OF BULK AT MOST 1048576: true; the input reads as it did. -/
def huffBackUptoRow : OpenClaim := { program := "ytjianphppcappaa", sum := "cd3aa32824b3271f18b87c5c6320d9df662f1850b899186f2e1a5086071fe88b", func := "fardel/fardellaw13.HuffBack", spec := "huffBack", unfollowed := true, recurses := true, apart := false, narrowed := true }
def HuffBackUptoSaid : Prop := huffBackUptoRow.holds Try.pinned (OpenSpec.upto huffBackSpec)

end Rows
end Go.Proofs.Ytjianphppcappaa
