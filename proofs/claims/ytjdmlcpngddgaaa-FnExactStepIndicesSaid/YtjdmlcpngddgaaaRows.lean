/-
  NARROWER THAN 'FOR EVERY INPUT', by the rows' own cells (each row's printed sentence says how): FnExactSameIndices: loops · FnExactIsIndexTerm: loops · FnExactIsClosed: loops · FnExactStepIndices: loops.
  DERIVED. THE GIVEN ROWS OF THIS SEAT. 10 by the template 'for every input the law returns true; each argument reads behind the call as it read before'; 0 by the template 'total and deterministic' (their statements: YtjdmlcpngddgaaaTotals.lean).
  GIVEN WITH THE SEED: the statements are not yours to turn. If you find one false, say at which input.
  Laid BY PROGRAM, IN A SANDBOX (cutbox-rows.mjs): the forced cells as the released guide's own fill.sh prints them over the translation 11f2bd329ef2383e… (all of the seat's roots in one cut). By AI agents, Wed Nov 11 2026. No macro, syntax, notation, axiom, sorry.
-/
import Derived.Test.YtjdmlcpngddgaaaChecked
import GoSem.Claim
import GoSem.ClaimJoined
import GoSem.ClaimMapViews
import Derived.JoinedTies
import Derived.KernelRfl
namespace Go.Proofs.Ytjdmlcpngddgaaa
/- THE CELL 'sum', in the pinned program and in every row, IS THE sha256 OF THE DUMP (.gsa) THAT YtjdmlcpngddgaaaProg.lean LOADS. Nothing in Lean hashes anything: it is a label: what it is worth is what the hold of that sum in a sandbox is worth. -/
noncomputable def Try.pinned : Pinned := { name := "ytjdmlcpngddgaaa", sum := "11f2bd329ef2383e91da185c2a9df607b7d9248060d7ed6309569296e876a6df", checked := Try.checked }
namespace Rows
def none {H : Type} : Left H := { results := [], args := [] }

/-- 'laws.FnExactSameIndices': WHATEVER THE INPUT: true; the input reads as it did. -/
def fnExactSameIndicesSpec : ChangeSpec := { name := "fnExactSameIndices", fn := fun _ => fun
  | [d1, d2] => { results := [.lit (.bool true)], args := [d1, d2] }
  | _ => none }
def fnExactSameIndicesRow : OpenClaim := { program := "ytjdmlcpngddgaaa", sum := "11f2bd329ef2383e91da185c2a9df607b7d9248060d7ed6309569296e876a6df", func := "loop.example/g03112/laws.FnExactSameIndices", spec := "fnExactSameIndices", unfollowed := true, recurses := true, loops := true, apart := false }
def FnExactSameIndicesSaid : Prop := fnExactSameIndicesRow.holds Try.pinned (OpenSpec.ofChange fnExactSameIndicesSpec)

/-- ITS FALSE NEIGHBOUR: 'it returns false'. Refute it at one input. -/
def fnExactSameIndicesWrong : ChangeSpec := { name := "fnExactSameIndices", fn := fun _ => fun
  | [d1, d2] => { results := [.lit (.bool false)], args := [d1, d2] }
  | _ => none }
def FnExactSameIndicesWrongFalsely : Prop := fnExactSameIndicesRow.holds Try.pinned (OpenSpec.ofChange fnExactSameIndicesWrong)

/-- 'laws.FnExactIsIndexTerm': WHATEVER THE INPUT: true; the input reads as it did. -/
def fnExactIsIndexTermSpec : ChangeSpec := { name := "fnExactIsIndexTerm", fn := fun _ => fun
  | [d] => { results := [.lit (.bool true)], args := [d] }
  | _ => none }
def fnExactIsIndexTermRow : OpenClaim := { program := "ytjdmlcpngddgaaa", sum := "11f2bd329ef2383e91da185c2a9df607b7d9248060d7ed6309569296e876a6df", func := "loop.example/g03112/laws.FnExactIsIndexTerm", spec := "fnExactIsIndexTerm", recurses := true, loops := true, apart := false }
def FnExactIsIndexTermSaid : Prop := fnExactIsIndexTermRow.holds Try.pinned (OpenSpec.ofChange fnExactIsIndexTermSpec)

/-- ITS FALSE NEIGHBOUR: 'it returns false'. Refute it at one input. -/
def fnExactIsIndexTermWrong : ChangeSpec := { name := "fnExactIsIndexTerm", fn := fun _ => fun
  | [d] => { results := [.lit (.bool false)], args := [d] }
  | _ => none }
def FnExactIsIndexTermWrongFalsely : Prop := fnExactIsIndexTermRow.holds Try.pinned (OpenSpec.ofChange fnExactIsIndexTermWrong)

/-- 'laws.FnExactIsMachine': WHATEVER THE INPUT: true; the input reads as it did. -/
def fnExactIsMachineSpec : ChangeSpec := { name := "fnExactIsMachine", fn := fun _ => fun
  | [d] => { results := [.lit (.bool true)], args := [d] }
  | _ => none }
def fnExactIsMachineRow : OpenClaim := { program := "ytjdmlcpngddgaaa", sum := "11f2bd329ef2383e91da185c2a9df607b7d9248060d7ed6309569296e876a6df", func := "loop.example/g03112/laws.FnExactIsMachine", spec := "fnExactIsMachine", apart := false }
def FnExactIsMachineSaid : Prop := fnExactIsMachineRow.holds Try.pinned (OpenSpec.ofChange fnExactIsMachineSpec)

/-- ITS FALSE NEIGHBOUR: 'it returns false'. Refute it at one input. -/
def fnExactIsMachineWrong : ChangeSpec := { name := "fnExactIsMachine", fn := fun _ => fun
  | [d] => { results := [.lit (.bool false)], args := [d] }
  | _ => none }
def FnExactIsMachineWrongFalsely : Prop := fnExactIsMachineRow.holds Try.pinned (OpenSpec.ofChange fnExactIsMachineWrong)

/-- 'laws.FnExactIsClosed': WHATEVER THE INPUT: true; the input reads as it did. -/
def fnExactIsClosedSpec : ChangeSpec := { name := "fnExactIsClosed", fn := fun _ => fun
  | [d] => { results := [.lit (.bool true)], args := [d] }
  | _ => none }
def fnExactIsClosedRow : OpenClaim := { program := "ytjdmlcpngddgaaa", sum := "11f2bd329ef2383e91da185c2a9df607b7d9248060d7ed6309569296e876a6df", func := "loop.example/g03112/laws.FnExactIsClosed", spec := "fnExactIsClosed", unfollowed := true, recurses := true, loops := true, apart := false }
def FnExactIsClosedSaid : Prop := fnExactIsClosedRow.holds Try.pinned (OpenSpec.ofChange fnExactIsClosedSpec)

/-- ITS FALSE NEIGHBOUR: 'it returns false'. Refute it at one input. -/
def fnExactIsClosedWrong : ChangeSpec := { name := "fnExactIsClosed", fn := fun _ => fun
  | [d] => { results := [.lit (.bool false)], args := [d] }
  | _ => none }
def FnExactIsClosedWrongFalsely : Prop := fnExactIsClosedRow.holds Try.pinned (OpenSpec.ofChange fnExactIsClosedWrong)

/-- 'laws.FnExactComplementMachine': WHATEVER THE INPUT: true; the input reads as it did. -/
def fnExactComplementMachineSpec : ChangeSpec := { name := "fnExactComplementMachine", fn := fun _ => fun
  | [d] => { results := [.lit (.bool true)], args := [d] }
  | _ => none }
def fnExactComplementMachineRow : OpenClaim := { program := "ytjdmlcpngddgaaa", sum := "11f2bd329ef2383e91da185c2a9df607b7d9248060d7ed6309569296e876a6df", func := "loop.example/g03112/laws.FnExactComplementMachine", spec := "fnExactComplementMachine", apart := false }
def FnExactComplementMachineSaid : Prop := fnExactComplementMachineRow.holds Try.pinned (OpenSpec.ofChange fnExactComplementMachineSpec)

/-- ITS FALSE NEIGHBOUR: 'it returns false'. Refute it at one input. -/
def fnExactComplementMachineWrong : ChangeSpec := { name := "fnExactComplementMachine", fn := fun _ => fun
  | [d] => { results := [.lit (.bool false)], args := [d] }
  | _ => none }
def FnExactComplementMachineWrongFalsely : Prop := fnExactComplementMachineRow.holds Try.pinned (OpenSpec.ofChange fnExactComplementMachineWrong)

/-- 'laws.FnExactProductMachine': WHATEVER THE INPUT: true; the input reads as it did. -/
def fnExactProductMachineSpec : ChangeSpec := { name := "fnExactProductMachine", fn := fun _ => fun
  | [d1, d2, d3] => { results := [.lit (.bool true)], args := [d1, d2, d3] }
  | _ => none }
def fnExactProductMachineRow : OpenClaim := { program := "ytjdmlcpngddgaaa", sum := "11f2bd329ef2383e91da185c2a9df607b7d9248060d7ed6309569296e876a6df", func := "loop.example/g03112/laws.FnExactProductMachine", spec := "fnExactProductMachine", apart := false }
def FnExactProductMachineSaid : Prop := fnExactProductMachineRow.holds Try.pinned (OpenSpec.ofChange fnExactProductMachineSpec)

/-- ITS FALSE NEIGHBOUR: 'it returns false'. Refute it at one input. -/
def fnExactProductMachineWrong : ChangeSpec := { name := "fnExactProductMachine", fn := fun _ => fun
  | [d1, d2, d3] => { results := [.lit (.bool false)], args := [d1, d2, d3] }
  | _ => none }
def FnExactProductMachineWrongFalsely : Prop := fnExactProductMachineRow.holds Try.pinned (OpenSpec.ofChange fnExactProductMachineWrong)

/-- 'laws.FnExactStepIndices': WHATEVER THE INPUT: true; the input reads as it did. -/
def fnExactStepIndicesSpec : ChangeSpec := { name := "fnExactStepIndices", fn := fun _ => fun
  | [d] => { results := [.lit (.bool true)], args := [d] }
  | _ => none }
def fnExactStepIndicesRow : OpenClaim := { program := "ytjdmlcpngddgaaa", sum := "11f2bd329ef2383e91da185c2a9df607b7d9248060d7ed6309569296e876a6df", func := "loop.example/g03112/laws.FnExactStepIndices", spec := "fnExactStepIndices", recurses := true, loops := true, apart := false }
def FnExactStepIndicesSaid : Prop := fnExactStepIndicesRow.holds Try.pinned (OpenSpec.ofChange fnExactStepIndicesSpec)

/-- ITS FALSE NEIGHBOUR: 'it returns false'. Refute it at one input. -/
def fnExactStepIndicesWrong : ChangeSpec := { name := "fnExactStepIndices", fn := fun _ => fun
  | [d] => { results := [.lit (.bool false)], args := [d] }
  | _ => none }
def FnExactStepIndicesWrongFalsely : Prop := fnExactStepIndicesRow.holds Try.pinned (OpenSpec.ofChange fnExactStepIndicesWrong)

/-- 'laws.FnExactParseIndex': WHATEVER THE INPUT: true; the input reads as it did. -/
def fnExactParseIndexSpec : ChangeSpec := { name := "fnExactParseIndex", fn := fun _ => fun
  | [d] => { results := [.lit (.bool true)], args := [d] }
  | _ => none }
def fnExactParseIndexRow : OpenClaim := { program := "ytjdmlcpngddgaaa", sum := "11f2bd329ef2383e91da185c2a9df607b7d9248060d7ed6309569296e876a6df", func := "loop.example/g03112/laws.FnExactParseIndex", spec := "fnExactParseIndex", recurses := true, apart := false }
def FnExactParseIndexSaid : Prop := fnExactParseIndexRow.holds Try.pinned (OpenSpec.ofChange fnExactParseIndexSpec)

/-- ITS FALSE NEIGHBOUR: 'it returns false'. Refute it at one input. -/
def fnExactParseIndexWrong : ChangeSpec := { name := "fnExactParseIndex", fn := fun _ => fun
  | [d] => { results := [.lit (.bool false)], args := [d] }
  | _ => none }
def FnExactParseIndexWrongFalsely : Prop := fnExactParseIndexRow.holds Try.pinned (OpenSpec.ofChange fnExactParseIndexWrong)

/-- 'laws.FnProduct': WHATEVER THE INPUT: true; the input reads as it did. -/
def fnProductSpec : ChangeSpec := { name := "fnProduct", fn := fun _ => fun
  | [d] => { results := [.lit (.bool true)], args := [d] }
  | _ => none }
def fnProductRow : OpenClaim := { program := "ytjdmlcpngddgaaa", sum := "11f2bd329ef2383e91da185c2a9df607b7d9248060d7ed6309569296e876a6df", func := "loop.example/g03112/laws.FnProduct", spec := "fnProduct", unfollowed := true, recurses := true, apart := false }
def FnProductSaid : Prop := fnProductRow.holds Try.pinned (OpenSpec.ofChange fnProductSpec)

/-- ITS FALSE NEIGHBOUR: 'it returns false'. Refute it at one input. -/
def fnProductWrong : ChangeSpec := { name := "fnProduct", fn := fun _ => fun
  | [d] => { results := [.lit (.bool false)], args := [d] }
  | _ => none }
def FnProductWrongFalsely : Prop := fnProductRow.holds Try.pinned (OpenSpec.ofChange fnProductWrong)

/-- 'laws.FnExactNewSession': WHATEVER THE INPUT: true; the input reads as it did. -/
def fnExactNewSessionSpec : ChangeSpec := { name := "fnExactNewSession", fn := fun _ => fun
  | [] => { results := [.lit (.bool true)], args := [] }
  | _ => none }
def fnExactNewSessionRow : OpenClaim := { program := "ytjdmlcpngddgaaa", sum := "11f2bd329ef2383e91da185c2a9df607b7d9248060d7ed6309569296e876a6df", func := "loop.example/g03112/laws.FnExactNewSession", spec := "fnExactNewSession", recurses := true, apart := false }
def FnExactNewSessionSaid : Prop := fnExactNewSessionRow.holds Try.pinned (OpenSpec.ofChange fnExactNewSessionSpec)

/-- ITS FALSE NEIGHBOUR: 'it returns false'. Refute it at one input. -/
def fnExactNewSessionWrong : ChangeSpec := { name := "fnExactNewSession", fn := fun _ => fun
  | [] => { results := [.lit (.bool false)], args := [] }
  | _ => none }
def FnExactNewSessionWrongFalsely : Prop := fnExactNewSessionRow.holds Try.pinned (OpenSpec.ofChange fnExactNewSessionWrong)

/- THE SECOND FORM. 'bulk': how many values and letters a reading holds, each counted each time it is reached (what is shared counts as often as it is met; a slice's spare places count too). A statement '..UptoSaid' is the law's where the arguments, and the package variables that the reading takes, are together of bulk at most 1048576: NARROWER than '..Said'. Prove '..Said' where nothing that the law and all that it calls make is longer than what came in: it says more and counts as full. Else prove '..UptoSaid'. A law counts once. -/
mutual
def uptoBulk {H : Type} : DataW H → Nat
  | .lit (.string bytes) => bytes.length + 1
  | .lit _ => 1
  | .nil => 1
  | .ptr d => uptoBulk d + 1
  | .slice elems spare => uptoBulkAll elems + uptoBulkAll spare + 1
  | .agg parts => uptoBulkAll parts + 1
  | .iface _ d => uptoBulk d + 1
  | .map entries => uptoBulkEntries entries + 1
  | .held _ => 1
def uptoBulkAll {H : Type} : List (DataW H) → Nat
  | [] => 0
  | d :: r => uptoBulk d + uptoBulkAll r
def uptoBulkEntries {H : Type} : List (Lit × DataW H) → Nat
  | [] => 0
  | x :: r => uptoBulkEntry x + uptoBulkEntries r
def uptoBulkEntry {H : Type} : Lit × DataW H → Nat
  | (.string bytes, d) => bytes.length + uptoBulk d + 1
  | (_, d) => uptoBulk d + 1
 end
def uptoSmall : (H : Type) → List (DataW H) → Bool := fun _ ds => decide (uptoBulkAll ds ≤ 1048576)
def OpenSpec.upto (s : _root_.Go.ChangeSpec) : _root_.Go.OpenSpec := { _root_.Go.OpenSpec.ofChange s with cond := some uptoSmall }

/-- 'laws.FnExactSameIndices', WHERE WHAT IT READS IS OF BULK AT MOST 1048576: true; the input reads as it did. -/
def fnExactSameIndicesUptoRow : OpenClaim := { program := "ytjdmlcpngddgaaa", sum := "11f2bd329ef2383e91da185c2a9df607b7d9248060d7ed6309569296e876a6df", func := "loop.example/g03112/laws.FnExactSameIndices", spec := "fnExactSameIndices", unfollowed := true, recurses := true, loops := true, apart := false, narrowed := true }
def FnExactSameIndicesUptoSaid : Prop := fnExactSameIndicesUptoRow.holds Try.pinned (OpenSpec.upto fnExactSameIndicesSpec)

/-- 'laws.FnExactIsIndexTerm', WHERE WHAT IT READS IS OF BULK AT MOST 1048576: true; the input reads as it did. -/
def fnExactIsIndexTermUptoRow : OpenClaim := { program := "ytjdmlcpngddgaaa", sum := "11f2bd329ef2383e91da185c2a9df607b7d9248060d7ed6309569296e876a6df", func := "loop.example/g03112/laws.FnExactIsIndexTerm", spec := "fnExactIsIndexTerm", recurses := true, loops := true, apart := false, narrowed := true }
def FnExactIsIndexTermUptoSaid : Prop := fnExactIsIndexTermUptoRow.holds Try.pinned (OpenSpec.upto fnExactIsIndexTermSpec)

/-- 'laws.FnExactIsMachine', WHERE WHAT IT READS IS OF BULK AT MOST 1048576: true; the input reads as it did. -/
def fnExactIsMachineUptoRow : OpenClaim := { program := "ytjdmlcpngddgaaa", sum := "11f2bd329ef2383e91da185c2a9df607b7d9248060d7ed6309569296e876a6df", func := "loop.example/g03112/laws.FnExactIsMachine", spec := "fnExactIsMachine", apart := false, narrowed := true }
def FnExactIsMachineUptoSaid : Prop := fnExactIsMachineUptoRow.holds Try.pinned (OpenSpec.upto fnExactIsMachineSpec)

/-- 'laws.FnExactIsClosed', WHERE WHAT IT READS IS OF BULK AT MOST 1048576: true; the input reads as it did. -/
def fnExactIsClosedUptoRow : OpenClaim := { program := "ytjdmlcpngddgaaa", sum := "11f2bd329ef2383e91da185c2a9df607b7d9248060d7ed6309569296e876a6df", func := "loop.example/g03112/laws.FnExactIsClosed", spec := "fnExactIsClosed", unfollowed := true, recurses := true, loops := true, apart := false, narrowed := true }
def FnExactIsClosedUptoSaid : Prop := fnExactIsClosedUptoRow.holds Try.pinned (OpenSpec.upto fnExactIsClosedSpec)

/-- 'laws.FnExactComplementMachine', WHERE WHAT IT READS IS OF BULK AT MOST 1048576: true; the input reads as it did. -/
def fnExactComplementMachineUptoRow : OpenClaim := { program := "ytjdmlcpngddgaaa", sum := "11f2bd329ef2383e91da185c2a9df607b7d9248060d7ed6309569296e876a6df", func := "loop.example/g03112/laws.FnExactComplementMachine", spec := "fnExactComplementMachine", apart := false, narrowed := true }
def FnExactComplementMachineUptoSaid : Prop := fnExactComplementMachineUptoRow.holds Try.pinned (OpenSpec.upto fnExactComplementMachineSpec)

/-- 'laws.FnExactProductMachine', WHERE WHAT IT READS IS OF BULK AT MOST 1048576: true; the input reads as it did. -/
def fnExactProductMachineUptoRow : OpenClaim := { program := "ytjdmlcpngddgaaa", sum := "11f2bd329ef2383e91da185c2a9df607b7d9248060d7ed6309569296e876a6df", func := "loop.example/g03112/laws.FnExactProductMachine", spec := "fnExactProductMachine", apart := false, narrowed := true }
def FnExactProductMachineUptoSaid : Prop := fnExactProductMachineUptoRow.holds Try.pinned (OpenSpec.upto fnExactProductMachineSpec)

/-- 'laws.FnExactStepIndices', WHERE WHAT IT READS IS OF BULK AT MOST 1048576: true; the input reads as it did. -/
def fnExactStepIndicesUptoRow : OpenClaim := { program := "ytjdmlcpngddgaaa", sum := "11f2bd329ef2383e91da185c2a9df607b7d9248060d7ed6309569296e876a6df", func := "loop.example/g03112/laws.FnExactStepIndices", spec := "fnExactStepIndices", recurses := true, loops := true, apart := false, narrowed := true }
def FnExactStepIndicesUptoSaid : Prop := fnExactStepIndicesUptoRow.holds Try.pinned (OpenSpec.upto fnExactStepIndicesSpec)

/-- 'laws.FnExactParseIndex', WHERE WHAT IT READS IS OF BULK AT MOST 1048576: true; the input reads as it did. -/
def fnExactParseIndexUptoRow : OpenClaim := { program := "ytjdmlcpngddgaaa", sum := "11f2bd329ef2383e91da185c2a9df607b7d9248060d7ed6309569296e876a6df", func := "loop.example/g03112/laws.FnExactParseIndex", spec := "fnExactParseIndex", recurses := true, apart := false, narrowed := true }
def FnExactParseIndexUptoSaid : Prop := fnExactParseIndexUptoRow.holds Try.pinned (OpenSpec.upto fnExactParseIndexSpec)

/-- 'laws.FnProduct', WHERE WHAT IT READS IS OF BULK AT MOST 1048576: true; the input reads as it did. -/
def fnProductUptoRow : OpenClaim := { program := "ytjdmlcpngddgaaa", sum := "11f2bd329ef2383e91da185c2a9df607b7d9248060d7ed6309569296e876a6df", func := "loop.example/g03112/laws.FnProduct", spec := "fnProduct", unfollowed := true, recurses := true, apart := false, narrowed := true }
def FnProductUptoSaid : Prop := fnProductUptoRow.holds Try.pinned (OpenSpec.upto fnProductSpec)

/-- 'laws.FnExactNewSession', WHERE WHAT IT READS IS OF BULK AT MOST 1048576: true; the input reads as it did. -/
def fnExactNewSessionUptoRow : OpenClaim := { program := "ytjdmlcpngddgaaa", sum := "11f2bd329ef2383e91da185c2a9df607b7d9248060d7ed6309569296e876a6df", func := "loop.example/g03112/laws.FnExactNewSession", spec := "fnExactNewSession", recurses := true, apart := false, narrowed := true }
def FnExactNewSessionUptoSaid : Prop := fnExactNewSessionUptoRow.holds Try.pinned (OpenSpec.upto fnExactNewSessionSpec)

end Rows
end Go.Proofs.Ytjdmlcpngddgaaa
