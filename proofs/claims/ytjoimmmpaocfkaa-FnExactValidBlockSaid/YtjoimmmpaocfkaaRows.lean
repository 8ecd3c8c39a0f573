/-
  No cell of these rows narrows 'for every input' (looked for: loops, veiled, ifaces, maps, wideKeys, modest, calm, conditions, laid).
  DERIVED. THE GIVEN ROWS OF THIS SEAT. 7 by the template 'for every input the law returns true; each argument reads behind the call as it read before'; 0 by the template 'total and deterministic' (their statements: YtjoimmmpaocfkaaTotals.lean).
  GIVEN WITH THE SEED: the statements are not yours to turn. If you find one false, say at which input.
  Laid BY PROGRAM, IN A SANDBOX (cutbox-rows.mjs): the forced cells as the released guide's own fill.sh prints them over the translation b68d24348a599a63… (all of the seat's roots in one cut). By AI agents, Wed Nov 11 2026. No macro, syntax, notation, axiom, sorry.
-/
import Derived.Test.YtjoimmmpaocfkaaChecked
import GoSem.Claim
import GoSem.ClaimJoined
import GoSem.ClaimMapViews
import Derived.JoinedTies
import Derived.KernelRfl
namespace Go.Proofs.Ytjoimmmpaocfkaa
/- THE CELL 'sum', in the pinned program and in every row, IS THE sha256 OF THE DUMP (.gsa) THAT YtjoimmmpaocfkaaProg.lean LOADS. Nothing in Lean hashes anything: it is a label: what it is worth is what the hold of that sum in a sandbox is worth. -/
noncomputable def Try.pinned : Pinned := { name := "ytjoimmmpaocfkaa", sum := "b68d24348a599a631184598a40695fc10ca57bc39f59cddf0a3a7f6e8b0eccb9", checked := Try.checked }
namespace Rows
def none {H : Type} : Left H := { results := [], args := [] }

/-- 'laws.FnExactProblemName': WHATEVER THE INPUT: true; the input reads as it did. -/
def fnExactProblemNameSpec : ChangeSpec := { name := "fnExactProblemName", fn := fun _ => fun
  | [d] => { results := [.lit (.bool true)], args := [d] }
  | _ => none }
def fnExactProblemNameRow : OpenClaim := { program := "ytjoimmmpaocfkaa", sum := "b68d24348a599a631184598a40695fc10ca57bc39f59cddf0a3a7f6e8b0eccb9", func := "loop.example/g01057/laws.FnExactProblemName", spec := "fnExactProblemName", apart := false }
def FnExactProblemNameSaid : Prop := fnExactProblemNameRow.holds Try.pinned (OpenSpec.ofChange fnExactProblemNameSpec)

/-- ITS FALSE NEIGHBOUR: 'it returns false'. Refute it at one input. -/
def fnExactProblemNameWrong : ChangeSpec := { name := "fnExactProblemName", fn := fun _ => fun
  | [d] => { results := [.lit (.bool false)], args := [d] }
  | _ => none }
def FnExactProblemNameWrongFalsely : Prop := fnExactProblemNameRow.holds Try.pinned (OpenSpec.ofChange fnExactProblemNameWrong)

/-- 'laws.FnExactProblemText': WHATEVER THE INPUT: true; the input reads as it did. -/
def fnExactProblemTextSpec : ChangeSpec := { name := "fnExactProblemText", fn := fun _ => fun
  | [d] => { results := [.lit (.bool true)], args := [d] }
  | _ => none }
def fnExactProblemTextRow : OpenClaim := { program := "ytjoimmmpaocfkaa", sum := "b68d24348a599a631184598a40695fc10ca57bc39f59cddf0a3a7f6e8b0eccb9", func := "loop.example/g01057/laws.FnExactProblemText", spec := "fnExactProblemText", apart := false }
def FnExactProblemTextSaid : Prop := fnExactProblemTextRow.holds Try.pinned (OpenSpec.ofChange fnExactProblemTextSpec)

/-- ITS FALSE NEIGHBOUR: 'it returns false'. Refute it at one input. -/
def fnExactProblemTextWrong : ChangeSpec := { name := "fnExactProblemText", fn := fun _ => fun
  | [d] => { results := [.lit (.bool false)], args := [d] }
  | _ => none }
def FnExactProblemTextWrongFalsely : Prop := fnExactProblemTextRow.holds Try.pinned (OpenSpec.ofChange fnExactProblemTextWrong)

/-- 'laws.FnExactCommandNames': WHATEVER THE INPUT: true; the input reads as it did. -/
def fnExactCommandNamesSpec : ChangeSpec := { name := "fnExactCommandNames", fn := fun _ => fun
  | [] => { results := [.lit (.bool true)], args := [] }
  | _ => none }
def fnExactCommandNamesRow : OpenClaim := { program := "ytjoimmmpaocfkaa", sum := "b68d24348a599a631184598a40695fc10ca57bc39f59cddf0a3a7f6e8b0eccb9", func := "loop.example/g01057/laws.FnExactCommandNames", spec := "fnExactCommandNames", apart := false }
def FnExactCommandNamesSaid : Prop := fnExactCommandNamesRow.holds Try.pinned (OpenSpec.ofChange fnExactCommandNamesSpec)

/-- ITS FALSE NEIGHBOUR: 'it returns false'. Refute it at one input. -/
def fnExactCommandNamesWrong : ChangeSpec := { name := "fnExactCommandNames", fn := fun _ => fun
  | [] => { results := [.lit (.bool false)], args := [] }
  | _ => none }
def FnExactCommandNamesWrongFalsely : Prop := fnExactCommandNamesRow.holds Try.pinned (OpenSpec.ofChange fnExactCommandNamesWrong)

/-- 'laws.FnExactValidReport': WHATEVER THE INPUT: true; the input reads as it did. -/
def fnExactValidReportSpec : ChangeSpec := { name := "fnExactValidReport", fn := fun _ => fun
  | [d] => { results := [.lit (.bool true)], args := [d] }
  | _ => none }
def fnExactValidReportRow : OpenClaim := { program := "ytjoimmmpaocfkaa", sum := "b68d24348a599a631184598a40695fc10ca57bc39f59cddf0a3a7f6e8b0eccb9", func := "loop.example/g01057/laws.FnExactValidReport", spec := "fnExactValidReport", unfollowed := true, recurses := true, apart := false }
def FnExactValidReportSaid : Prop := fnExactValidReportRow.holds Try.pinned (OpenSpec.ofChange fnExactValidReportSpec)

/-- ITS FALSE NEIGHBOUR: 'it returns false'. Refute it at one input. -/
def fnExactValidReportWrong : ChangeSpec := { name := "fnExactValidReport", fn := fun _ => fun
  | [d] => { results := [.lit (.bool false)], args := [d] }
  | _ => none }
def FnExactValidReportWrongFalsely : Prop := fnExactValidReportRow.holds Try.pinned (OpenSpec.ofChange fnExactValidReportWrong)

/-- 'laws.FnExactSameBlocks': WHATEVER THE INPUT: true; the input reads as it did. -/
def fnExactSameBlocksSpec : ChangeSpec := { name := "fnExactSameBlocks", fn := fun _ => fun
  | [d1, d2] => { results := [.lit (.bool true)], args := [d1, d2] }
  | _ => none }
def fnExactSameBlocksRow : OpenClaim := { program := "ytjoimmmpaocfkaa", sum := "b68d24348a599a631184598a40695fc10ca57bc39f59cddf0a3a7f6e8b0eccb9", func := "loop.example/g01057/laws.FnExactSameBlocks", spec := "fnExactSameBlocks", apart := false }
def FnExactSameBlocksSaid : Prop := fnExactSameBlocksRow.holds Try.pinned (OpenSpec.ofChange fnExactSameBlocksSpec)

/-- ITS FALSE NEIGHBOUR: 'it returns false'. Refute it at one input. -/
def fnExactSameBlocksWrong : ChangeSpec := { name := "fnExactSameBlocks", fn := fun _ => fun
  | [d1, d2] => { results := [.lit (.bool false)], args := [d1, d2] }
  | _ => none }
def FnExactSameBlocksWrongFalsely : Prop := fnExactSameBlocksRow.holds Try.pinned (OpenSpec.ofChange fnExactSameBlocksWrong)

/-- 'laws.FnExactReportText': WHATEVER THE INPUT: true; the input reads as it did. -/
def fnExactReportTextSpec : ChangeSpec := { name := "fnExactReportText", fn := fun _ => fun
  | [d] => { results := [.lit (.bool true)], args := [d] }
  | _ => none }
def fnExactReportTextRow : OpenClaim := { program := "ytjoimmmpaocfkaa", sum := "b68d24348a599a631184598a40695fc10ca57bc39f59cddf0a3a7f6e8b0eccb9", func := "loop.example/g01057/laws.FnExactReportText", spec := "fnExactReportText", inPlace := ["internal/abi.NoEscape"], unfollowed := true, recurses := true, apart := false }
def FnExactReportTextSaid : Prop := fnExactReportTextRow.holds Try.pinned (OpenSpec.ofChange fnExactReportTextSpec)

/-- ITS FALSE NEIGHBOUR: 'it returns false'. Refute it at one input. -/
def fnExactReportTextWrong : ChangeSpec := { name := "fnExactReportText", fn := fun _ => fun
  | [d] => { results := [.lit (.bool false)], args := [d] }
  | _ => none }
def FnExactReportTextWrongFalsely : Prop := fnExactReportTextRow.holds Try.pinned (OpenSpec.ofChange fnExactReportTextWrong)

/-- 'laws.FnExactValidBlock': WHATEVER THE INPUT: true; the input reads as it did. -/
def fnExactValidBlockSpec : ChangeSpec := { name := "fnExactValidBlock", fn := fun _ => fun
  | [d] => { results := [.lit (.bool true)], args := [d] }
  | _ => none }
def fnExactValidBlockRow : OpenClaim := { program := "ytjoimmmpaocfkaa", sum := "b68d24348a599a631184598a40695fc10ca57bc39f59cddf0a3a7f6e8b0eccb9", func := "loop.example/g01057/laws.FnExactValidBlock", spec := "fnExactValidBlock", inPlace := ["internal/bytealg.IndexByteString", "internal/bytealg.IndexString"], named := ["internal/bytealg.MaxLen"], apart := false }
def FnExactValidBlockSaid : Prop := fnExactValidBlockRow.holds Try.pinned (OpenSpec.ofChange fnExactValidBlockSpec)

/-- ITS FALSE NEIGHBOUR: 'it returns false'. Refute it at one input. -/
def fnExactValidBlockWrong : ChangeSpec := { name := "fnExactValidBlock", fn := fun _ => fun
  | [d] => { results := [.lit (.bool false)], args := [d] }
  | _ => none }
def FnExactValidBlockWrongFalsely : Prop := fnExactValidBlockRow.holds Try.pinned (OpenSpec.ofChange fnExactValidBlockWrong)

/- THE SECOND FORM. 'bulk': how many values and letters a reading holds, each counted each time it is reached (what is shared counts as often as it is met; a slice's spare places count too). A statement '..UptoSaid' is the law's where the arguments, and the package variables that the reading takes, are together of bulk at most 1048576: NARROWER than '..Said'. Prove '..Said' where nothing that the law and all that it calls make is longer than what came in: it says more and counts as full. Else prove '..UptoSaid'. A law counts once. -/
mutual
def uptoBulk {H : Type} : DataW H → Nat
  | .lit (.string bytes) => bytes.length + 1
  | .lit _ => 1
  | .nil => 1
  | .ptr d => uptoBulk d + 1
  | .slice elems spare => uptoBulkAll elems + uptoBulkAll spare + 1
  | .agg parts => uptoBulkAll parts + 1
  | .iface _ d => uptoBulk d + 1
  | .map entries => uptoBulkEntries entries + 1
  | .held _ => 1
def uptoBulkAll {H : Type} : List (DataW H) → Nat
  | [] => 0
  | d :: r => uptoBulk d + uptoBulkAll r
def uptoBulkEntries {H : Type} : List (Lit × DataW H) → Nat
  | [] => 0
  | x :: r => uptoBulkEntry x + uptoBulkEntries r
def uptoBulkEntry {H : Type} : Lit × DataW H → Nat
  | (.string bytes, d) => bytes.length + uptoBulk d + 1
  | (_, d) => uptoBulk d + 1
 end
def uptoSmall : (H : Type) → List (DataW H) → Bool := fun _ ds => decide (uptoBulkAll ds ≤ 1048576)
def OpenSpec.upto (s : _root_.Go.ChangeSpec) : _root_.Go.OpenSpec := { _root_.Go.OpenSpec.ofChange s with cond := some uptoSmall }

/-- 'laws.FnExactProblemName', WHERE WHAT IT READS IS OF BULK AT MOST 1048576: true; the input reads as it did. -/
def fnExactProblemNameUptoRow : OpenClaim := { program := "ytjoimmmpaocfkaa", sum := "b68d24348a599a631184598a40695fc10ca57bc39f59cddf0a3a7f6e8b0eccb9", func := "loop.example/g01057/laws.FnExactProblemName", spec := "fnExactProblemName", apart := false, narrowed := true }
def FnExactProblemNameUptoSaid : Prop := fnExactProblemNameUptoRow.holds Try.pinned (OpenSpec.upto fnExactProblemNameSpec)

/-- 'laws.FnExactProblemText', WHERE WHAT IT READS IS OF BULK AT MOST 1048576: true; the input reads as it did. -/
def fnExactProblemTextUptoRow : OpenClaim := { program := "ytjoimmmpaocfkaa", sum := "b68d24348a599a631184598a40695fc10ca57bc39f59cddf0a3a7f6e8b0eccb9", func := "loop.example/g01057/laws.FnExactProblemText", spec := "fnExactProblemText", apart := false, narrowed := true }
def FnExactProblemTextUptoSaid : Prop := fnExactProblemTextUptoRow.holds Try.pinned (OpenSpec.upto fnExactProblemTextSpec)

/-- 'laws.FnExactCommandNames', WHERE WHAT IT READS IS OF BULK AT MOST 1048576: true; the input reads as it did. -/
def fnExactCommandNamesUptoRow : OpenClaim := { program := "ytjoimmmpaocfkaa", sum := "b68d24348a599a631184598a40695fc10ca57bc39f59cddf0a3a7f6e8b0eccb9", func := "loop.example/g01057/laws.FnExactCommandNames", spec := "fnExactCommandNames", apart := false, narrowed := true }
def FnExactCommandNamesUptoSaid : Prop := fnExactCommandNamesUptoRow.holds Try.pinned (OpenSpec.upto fnExactCommandNamesSpec)

/-- 'laws.FnExactValidReport', WHERE WHAT IT READS IS OF BULK AT MOST 1048576: true; the input reads as it did. -/
def fnExactValidReportUptoRow : OpenClaim := { program := "ytjoimmmpaocfkaa", sum := "b68d24348a599a631184598a40695fc10ca57bc39f59cddf0a3a7f6e8b0eccb9", func := "loop.example/g01057/laws.FnExactValidReport", spec := "fnExactValidReport", unfollowed := true, recurses := true, apart := false, narrowed := true }
def FnExactValidReportUptoSaid : Prop := fnExactValidReportUptoRow.holds Try.pinned (OpenSpec.upto fnExactValidReportSpec)

/-- 'laws.FnExactSameBlocks', WHERE WHAT IT READS IS OF BULK AT MOST 1048576: true; the input reads as it did. -/
def fnExactSameBlocksUptoRow : OpenClaim := { program := "ytjoimmmpaocfkaa", sum := "b68d24348a599a631184598a40695fc10ca57bc39f59cddf0a3a7f6e8b0eccb9", func := "loop.example/g01057/laws.FnExactSameBlocks", spec := "fnExactSameBlocks", apart := false, narrowed := true }
def FnExactSameBlocksUptoSaid : Prop := fnExactSameBlocksUptoRow.holds Try.pinned (OpenSpec.upto fnExactSameBlocksSpec)

/-- 'laws.FnExactReportText', WHERE WHAT IT READS IS OF BULK AT MOST 1048576: true; the input reads as it did. -/
def fnExactReportTextUptoRow : OpenClaim := { program := "ytjoimmmpaocfkaa", sum := "b68d24348a599a631184598a40695fc10ca57bc39f59cddf0a3a7f6e8b0eccb9", func := "loop.example/g01057/laws.FnExactReportText", spec := "fnExactReportText", inPlace := ["internal/abi.NoEscape"], unfollowed := true, recurses := true, apart := false, narrowed := true }
def FnExactReportTextUptoSaid : Prop := fnExactReportTextUptoRow.holds Try.pinned (OpenSpec.upto fnExactReportTextSpec)

/-- 'laws.FnExactValidBlock', WHERE WHAT IT READS IS OF BULK AT MOST 1048576: true; the input reads as it did. -/
def fnExactValidBlockUptoRow : OpenClaim := { program := "ytjoimmmpaocfkaa", sum := "b68d24348a599a631184598a40695fc10ca57bc39f59cddf0a3a7f6e8b0eccb9", func := "loop.example/g01057/laws.FnExactValidBlock", spec := "fnExactValidBlock", inPlace := ["internal/bytealg.IndexByteString", "internal/bytealg.IndexString"], named := ["internal/bytealg.MaxLen"], apart := false, narrowed := true }
def FnExactValidBlockUptoSaid : Prop := fnExactValidBlockUptoRow.holds Try.pinned (OpenSpec.upto fnExactValidBlockSpec)

end Rows
end Go.Proofs.Ytjoimmmpaocfkaa
