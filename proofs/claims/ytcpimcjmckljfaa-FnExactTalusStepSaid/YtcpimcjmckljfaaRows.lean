/-
  No cell of these rows narrows 'for every input' (looked for: loops, veiled, ifaces, maps, wideKeys, modest, calm, conditions, laid).
  DERIVED. THE GIVEN ROWS OF THIS SEAT. 10 by the template 'for every input the law returns true; each argument reads behind the call as it read before'; 0 by the template 'total and deterministic' (their statements: YtcpimcjmckljfaaTotals.lean).
  GIVEN WITH THE SEED: the statements are not yours to turn. If you find one false, say at which input.
  Laid BY PROGRAM, IN A SANDBOX (cutbox-rows.mjs): the forced cells as the released guide's own fill.sh prints them over the translation 7f7fb62daba408ba… (all of the seat's roots in one cut). By AI agents, Wed Nov 11 2026. No macro, syntax, notation, axiom, sorry.
-/
import Derived.Test.YtcpimcjmckljfaaChecked
import GoSem.Claim
import GoSem.ClaimJoined
import GoSem.ClaimMapViews
import Derived.JoinedTies
import Derived.KernelRfl
namespace Go.Proofs.Ytcpimcjmckljfaa
/- THE CELL 'sum', in the pinned program and in every row, IS THE sha256 OF THE DUMP (.gsa) THAT YtcpimcjmckljfaaProg.lean LOADS. Nothing in Lean hashes anything: it is a label: what it is worth is what the hold of that sum in a sandbox is worth. -/
noncomputable def Try.pinned : Pinned := { name := "ytcpimcjmckljfaa", sum := "7f7fb62daba408bac718c36c90053896efa5e4e3c38b1a58dd10168b1f0d78c7", checked := Try.checked }
namespace Rows
def none {H : Type} : Left H := { results := [], args := [] }

/-- 'laws.FnExactGapRatio': WHATEVER THE INPUT: true; the input reads as it did. -/
def fnExactGapRatioSpec : ChangeSpec := { name := "fnExactGapRatio", fn := fun _ => fun
  | [d] => { results := [.lit (.bool true)], args := [d] }
  | _ => none }
def fnExactGapRatioRow : OpenClaim := { program := "ytcpimcjmckljfaa", sum := "7f7fb62daba408bac718c36c90053896efa5e4e3c38b1a58dd10168b1f0d78c7", func := "loop.example/g01318/laws.FnExactGapRatio", spec := "fnExactGapRatio", unfollowed := true, recurses := true, apart := false }
def FnExactGapRatioSaid : Prop := fnExactGapRatioRow.holds Try.pinned (OpenSpec.ofChange fnExactGapRatioSpec)

/-- ITS FALSE NEIGHBOUR: 'it returns false'. Refute it at one input. -/
def fnExactGapRatioWrong : ChangeSpec := { name := "fnExactGapRatio", fn := fun _ => fun
  | [d] => { results := [.lit (.bool false)], args := [d] }
  | _ => none }
def FnExactGapRatioWrongFalsely : Prop := fnExactGapRatioRow.holds Try.pinned (OpenSpec.ofChange fnExactGapRatioWrong)

/-- 'laws.FnExactLogsOf': WHATEVER THE INPUT: true; the input reads as it did. -/
def fnExactLogsOfSpec : ChangeSpec := { name := "fnExactLogsOf", fn := fun _ => fun
  | [d] => { results := [.lit (.bool true)], args := [d] }
  | _ => none }
def fnExactLogsOfRow : OpenClaim := { program := "ytcpimcjmckljfaa", sum := "7f7fb62daba408bac718c36c90053896efa5e4e3c38b1a58dd10168b1f0d78c7", func := "loop.example/g01318/laws.FnExactLogsOf", spec := "fnExactLogsOf", inPlace := ["math.Float64frombits", "math.Float64bits"], unfollowed := true, recurses := true, apart := false }
def FnExactLogsOfSaid : Prop := fnExactLogsOfRow.holds Try.pinned (OpenSpec.ofChange fnExactLogsOfSpec)

/-- ITS FALSE NEIGHBOUR: 'it returns false'. Refute it at one input. -/
def fnExactLogsOfWrong : ChangeSpec := { name := "fnExactLogsOf", fn := fun _ => fun
  | [d] => { results := [.lit (.bool false)], args := [d] }
  | _ => none }
def FnExactLogsOfWrongFalsely : Prop := fnExactLogsOfRow.holds Try.pinned (OpenSpec.ofChange fnExactLogsOfWrong)

/-- 'laws.FnExactTalusStep': WHATEVER THE INPUT: true; the input reads as it did. -/
def fnExactTalusStepSpec : ChangeSpec := { name := "fnExactTalusStep", fn := fun _ => fun
  | [d1, d2, d3] => { results := [.lit (.bool true)], args := [d1, d2, d3] }
  | _ => none }
def fnExactTalusStepRow : OpenClaim := { program := "ytcpimcjmckljfaa", sum := "7f7fb62daba408bac718c36c90053896efa5e4e3c38b1a58dd10168b1f0d78c7", func := "loop.example/g01318/laws.FnExactTalusStep", spec := "fnExactTalusStep", unfollowed := true, recurses := true, apart := false }
def FnExactTalusStepSaid : Prop := fnExactTalusStepRow.holds Try.pinned (OpenSpec.ofChange fnExactTalusStepSpec)

/-- ITS FALSE NEIGHBOUR: 'it returns false'. Refute it at one input. -/
def fnExactTalusStepWrong : ChangeSpec := { name := "fnExactTalusStep", fn := fun _ => fun
  | [d1, d2, d3] => { results := [.lit (.bool false)], args := [d1, d2, d3] }
  | _ => none }
def FnExactTalusStepWrongFalsely : Prop := fnExactTalusStepRow.holds Try.pinned (OpenSpec.ofChange fnExactTalusStepWrong)

/-- 'laws.FnExactSlopeDoubt': WHATEVER THE INPUT: true; the input reads as it did. -/
def fnExactSlopeDoubtSpec : ChangeSpec := { name := "fnExactSlopeDoubt", fn := fun _ => fun
  | [d1, d2] => { results := [.lit (.bool true)], args := [d1, d2] }
  | _ => none }
def fnExactSlopeDoubtRow : OpenClaim := { program := "ytcpimcjmckljfaa", sum := "7f7fb62daba408bac718c36c90053896efa5e4e3c38b1a58dd10168b1f0d78c7", func := "loop.example/g01318/laws.FnExactSlopeDoubt", spec := "fnExactSlopeDoubt", inPlace := ["math.sqrt"], unfollowed := true, recurses := true, apart := false }
def FnExactSlopeDoubtSaid : Prop := fnExactSlopeDoubtRow.holds Try.pinned (OpenSpec.ofChange fnExactSlopeDoubtSpec)

/-- ITS FALSE NEIGHBOUR: 'it returns false'. Refute it at one input. -/
def fnExactSlopeDoubtWrong : ChangeSpec := { name := "fnExactSlopeDoubt", fn := fun _ => fun
  | [d1, d2] => { results := [.lit (.bool false)], args := [d1, d2] }
  | _ => none }
def FnExactSlopeDoubtWrongFalsely : Prop := fnExactSlopeDoubtRow.holds Try.pinned (OpenSpec.ofChange fnExactSlopeDoubtWrong)

/-- 'laws.FnExactRangeOverSpread': WHATEVER THE INPUT: true; the input reads as it did. -/
def fnExactRangeOverSpreadSpec : ChangeSpec := { name := "fnExactRangeOverSpread", fn := fun _ => fun
  | [d] => { results := [.lit (.bool true)], args := [d] }
  | _ => none }
def fnExactRangeOverSpreadRow : OpenClaim := { program := "ytcpimcjmckljfaa", sum := "7f7fb62daba408bac718c36c90053896efa5e4e3c38b1a58dd10168b1f0d78c7", func := "loop.example/g01318/laws.FnExactRangeOverSpread", spec := "fnExactRangeOverSpread", inPlace := ["math.sqrt"], unfollowed := true, recurses := true, apart := false }
def FnExactRangeOverSpreadSaid : Prop := fnExactRangeOverSpreadRow.holds Try.pinned (OpenSpec.ofChange fnExactRangeOverSpreadSpec)

/-- ITS FALSE NEIGHBOUR: 'it returns false'. Refute it at one input. -/
def fnExactRangeOverSpreadWrong : ChangeSpec := { name := "fnExactRangeOverSpread", fn := fun _ => fun
  | [d] => { results := [.lit (.bool false)], args := [d] }
  | _ => none }
def FnExactRangeOverSpreadWrongFalsely : Prop := fnExactRangeOverSpreadRow.holds Try.pinned (OpenSpec.ofChange fnExactRangeOverSpreadWrong)

/-- 'laws.FnExactSpectrumOf': WHATEVER THE INPUT: true; the input reads as it did. -/
def fnExactSpectrumOfSpec : ChangeSpec := { name := "fnExactSpectrumOf", fn := fun _ => fun
  | [d1, d2] => { results := [.lit (.bool true)], args := [d1, d2] }
  | _ => none }
def fnExactSpectrumOfRow : OpenClaim := { program := "ytcpimcjmckljfaa", sum := "7f7fb62daba408bac718c36c90053896efa5e4e3c38b1a58dd10168b1f0d78c7", func := "loop.example/g01318/laws.FnExactSpectrumOf", spec := "fnExactSpectrumOf", inPlace := ["math.Float64frombits", "math.Float64bits"], unfollowed := true, recurses := true, apart := false }
def FnExactSpectrumOfSaid : Prop := fnExactSpectrumOfRow.holds Try.pinned (OpenSpec.ofChange fnExactSpectrumOfSpec)

/-- ITS FALSE NEIGHBOUR: 'it returns false'. Refute it at one input. -/
def fnExactSpectrumOfWrong : ChangeSpec := { name := "fnExactSpectrumOf", fn := fun _ => fun
  | [d1, d2] => { results := [.lit (.bool false)], args := [d1, d2] }
  | _ => none }
def FnExactSpectrumOfWrongFalsely : Prop := fnExactSpectrumOfRow.holds Try.pinned (OpenSpec.ofChange fnExactSpectrumOfWrong)

/-- 'laws.FnExactRankOf': WHATEVER THE INPUT: true; the input reads as it did. -/
def fnExactRankOfSpec : ChangeSpec := { name := "fnExactRankOf", fn := fun _ => fun
  | [d] => { results := [.lit (.bool true)], args := [d] }
  | _ => none }
def fnExactRankOfRow : OpenClaim := { program := "ytcpimcjmckljfaa", sum := "7f7fb62daba408bac718c36c90053896efa5e4e3c38b1a58dd10168b1f0d78c7", func := "loop.example/g01318/laws.FnExactRankOf", spec := "fnExactRankOf", unfollowed := true, recurses := true, apart := false }
def FnExactRankOfSaid : Prop := fnExactRankOfRow.holds Try.pinned (OpenSpec.ofChange fnExactRankOfSpec)

/-- ITS FALSE NEIGHBOUR: 'it returns false'. Refute it at one input. -/
def fnExactRankOfWrong : ChangeSpec := { name := "fnExactRankOf", fn := fun _ => fun
  | [d] => { results := [.lit (.bool false)], args := [d] }
  | _ => none }
def FnExactRankOfWrongFalsely : Prop := fnExactRankOfRow.holds Try.pinned (OpenSpec.ofChange fnExactRankOfWrong)

/-- 'laws.FnExactGapsOf': WHATEVER THE INPUT: true; the input reads as it did. -/
def fnExactGapsOfSpec : ChangeSpec := { name := "fnExactGapsOf", fn := fun _ => fun
  | [d] => { results := [.lit (.bool true)], args := [d] }
  | _ => none }
def fnExactGapsOfRow : OpenClaim := { program := "ytcpimcjmckljfaa", sum := "7f7fb62daba408bac718c36c90053896efa5e4e3c38b1a58dd10168b1f0d78c7", func := "loop.example/g01318/laws.FnExactGapsOf", spec := "fnExactGapsOf", unfollowed := true, recurses := true, apart := false }
def FnExactGapsOfSaid : Prop := fnExactGapsOfRow.holds Try.pinned (OpenSpec.ofChange fnExactGapsOfSpec)

/-- ITS FALSE NEIGHBOUR: 'it returns false'. Refute it at one input. -/
def fnExactGapsOfWrong : ChangeSpec := { name := "fnExactGapsOf", fn := fun _ => fun
  | [d] => { results := [.lit (.bool false)], args := [d] }
  | _ => none }
def FnExactGapsOfWrongFalsely : Prop := fnExactGapsOfRow.holds Try.pinned (OpenSpec.ofChange fnExactGapsOfWrong)

/-- 'laws.FnExactTailSlope': WHATEVER THE INPUT: true; the input reads as it did. -/
def fnExactTailSlopeSpec : ChangeSpec := { name := "fnExactTailSlope", fn := fun _ => fun
  | [d1, d2] => { results := [.lit (.bool true)], args := [d1, d2] }
  | _ => none }
def fnExactTailSlopeRow : OpenClaim := { program := "ytcpimcjmckljfaa", sum := "7f7fb62daba408bac718c36c90053896efa5e4e3c38b1a58dd10168b1f0d78c7", func := "loop.example/g01318/laws.FnExactTailSlope", spec := "fnExactTailSlope", inPlace := ["math.Float64frombits", "math.Float64bits"], unfollowed := true, recurses := true, apart := false }
def FnExactTailSlopeSaid : Prop := fnExactTailSlopeRow.holds Try.pinned (OpenSpec.ofChange fnExactTailSlopeSpec)

/-- ITS FALSE NEIGHBOUR: 'it returns false'. Refute it at one input. -/
def fnExactTailSlopeWrong : ChangeSpec := { name := "fnExactTailSlope", fn := fun _ => fun
  | [d1, d2] => { results := [.lit (.bool false)], args := [d1, d2] }
  | _ => none }
def FnExactTailSlopeWrongFalsely : Prop := fnExactTailSlopeRow.holds Try.pinned (OpenSpec.ofChange fnExactTailSlopeWrong)

/-- 'laws.FnExactMemorySlope': WHATEVER THE INPUT: true; the input reads as it did. -/
def fnExactMemorySlopeSpec : ChangeSpec := { name := "fnExactMemorySlope", fn := fun _ => fun
  | [d1, d2] => { results := [.lit (.bool true)], args := [d1, d2] }
  | _ => none }
def fnExactMemorySlopeRow : OpenClaim := { program := "ytcpimcjmckljfaa", sum := "7f7fb62daba408bac718c36c90053896efa5e4e3c38b1a58dd10168b1f0d78c7", func := "loop.example/g01318/laws.FnExactMemorySlope", spec := "fnExactMemorySlope", inPlace := ["math.sqrt", "math.Float64frombits", "math.Float64bits"], unfollowed := true, recurses := true, apart := false }
def FnExactMemorySlopeSaid : Prop := fnExactMemorySlopeRow.holds Try.pinned (OpenSpec.ofChange fnExactMemorySlopeSpec)

/-- ITS FALSE NEIGHBOUR: 'it returns false'. Refute it at one input. -/
def fnExactMemorySlopeWrong : ChangeSpec := { name := "fnExactMemorySlope", fn := fun _ => fun
  | [d1, d2] => { results := [.lit (.bool false)], args := [d1, d2] }
  | _ => none }
def FnExactMemorySlopeWrongFalsely : Prop := fnExactMemorySlopeRow.holds Try.pinned (OpenSpec.ofChange fnExactMemorySlopeWrong)

/- THE SECOND FORM. 'bulk': how many values and letters a reading holds, each counted each time it is reached (what is shared counts as often as it is met; a slice's spare places count too). A statement '..UptoSaid' is the law's where the arguments, and the package variables that the reading takes, are together of bulk at most 1048576: NARROWER than '..Said'. Prove '..Said' where nothing that the law and all that it calls make is longer than what came in: it says more and counts as full. Else prove '..UptoSaid'. A law counts once. -/
mutual
def uptoBulk {H : Type} : DataW H → Nat
  | .lit (.string bytes) => bytes.length + 1
  | .lit _ => 1
  | .nil => 1
  | .ptr d => uptoBulk d + 1
  | .slice elems spare => uptoBulkAll elems + uptoBulkAll spare + 1
  | .agg parts => uptoBulkAll parts + 1
  | .iface _ d => uptoBulk d + 1
  | .map entries => uptoBulkEntries entries + 1
  | .held _ => 1
def uptoBulkAll {H : Type} : List (DataW H) → Nat
  | [] => 0
  | d :: r => uptoBulk d + uptoBulkAll r
def uptoBulkEntries {H : Type} : List (Lit × DataW H) → Nat
  | [] => 0
  | x :: r => uptoBulkEntry x + uptoBulkEntries r
def uptoBulkEntry {H : Type} : Lit × DataW H → Nat
  | (.string bytes, d) => bytes.length + uptoBulk d + 1
  | (_, d) => uptoBulk d + 1
 end
def uptoSmall : (H : Type) → List (DataW H) → Bool := fun _ ds => decide (uptoBulkAll ds ≤ 1048576)
def OpenSpec.upto (s : _root_.Go.ChangeSpec) : _root_.Go.OpenSpec := { _root_.Go.OpenSpec.ofChange s with cond := some uptoSmall }

/-- 'laws.FnExactGapRatio', WHERE WHAT IT READS IS OF BULK AT MOST 1048576: true; the input reads as it did. -/
def fnExactGapRatioUptoRow : OpenClaim := { program := "ytcpimcjmckljfaa", sum := "7f7fb62daba408bac718c36c90053896efa5e4e3c38b1a58dd10168b1f0d78c7", func := "loop.example/g01318/laws.FnExactGapRatio", spec := "fnExactGapRatio", unfollowed := true, recurses := true, apart := false, narrowed := true }
def FnExactGapRatioUptoSaid : Prop := fnExactGapRatioUptoRow.holds Try.pinned (OpenSpec.upto fnExactGapRatioSpec)

/-- 'laws.FnExactLogsOf', WHERE WHAT IT READS IS OF BULK AT MOST 1048576: true; the input reads as it did. -/
def fnExactLogsOfUptoRow : OpenClaim := { program := "ytcpimcjmckljfaa", sum := "7f7fb62daba408bac718c36c90053896efa5e4e3c38b1a58dd10168b1f0d78c7", func := "loop.example/g01318/laws.FnExactLogsOf", spec := "fnExactLogsOf", inPlace := ["math.Float64frombits", "math.Float64bits"], unfollowed := true, recurses := true, apart := false, narrowed := true }
def FnExactLogsOfUptoSaid : Prop := fnExactLogsOfUptoRow.holds Try.pinned (OpenSpec.upto fnExactLogsOfSpec)

/-- 'laws.FnExactTalusStep', WHERE WHAT IT READS IS OF BULK AT MOST 1048576: true; the input reads as it did. -/
def fnExactTalusStepUptoRow : OpenClaim := { program := "ytcpimcjmckljfaa", sum := "7f7fb62daba408bac718c36c90053896efa5e4e3c38b1a58dd10168b1f0d78c7", func := "loop.example/g01318/laws.FnExactTalusStep", spec := "fnExactTalusStep", unfollowed := true, recurses := true, apart := false, narrowed := true }
def FnExactTalusStepUptoSaid : Prop := fnExactTalusStepUptoRow.holds Try.pinned (OpenSpec.upto fnExactTalusStepSpec)

/-- 'laws.FnExactSlopeDoubt', WHERE WHAT IT READS IS OF BULK AT MOST 1048576: true; the input reads as it did. -/
def fnExactSlopeDoubtUptoRow : OpenClaim := { program := "ytcpimcjmckljfaa", sum := "7f7fb62daba408bac718c36c90053896efa5e4e3c38b1a58dd10168b1f0d78c7", func := "loop.example/g01318/laws.FnExactSlopeDoubt", spec := "fnExactSlopeDoubt", inPlace := ["math.sqrt"], unfollowed := true, recurses := true, apart := false, narrowed := true }
def FnExactSlopeDoubtUptoSaid : Prop := fnExactSlopeDoubtUptoRow.holds Try.pinned (OpenSpec.upto fnExactSlopeDoubtSpec)

/-- 'laws.FnExactRangeOverSpread', WHERE WHAT IT READS IS OF BULK AT MOST 1048576: true; the input reads as it did. -/
def fnExactRangeOverSpreadUptoRow : OpenClaim := { program := "ytcpimcjmckljfaa", sum := "7f7fb62daba408bac718c36c90053896efa5e4e3c38b1a58dd10168b1f0d78c7", func := "loop.example/g01318/laws.FnExactRangeOverSpread", spec := "fnExactRangeOverSpread", inPlace := ["math.sqrt"], unfollowed := true, recurses := true, apart := false, narrowed := true }
def FnExactRangeOverSpreadUptoSaid : Prop := fnExactRangeOverSpreadUptoRow.holds Try.pinned (OpenSpec.upto fnExactRangeOverSpreadSpec)

/-- 'laws.FnExactSpectrumOf', WHERE WHAT IT READS IS OF BULK AT MOST 1048576: true; the input reads as it did. -/
def fnExactSpectrumOfUptoRow : OpenClaim := { program := "ytcpimcjmckljfaa", sum := "7f7fb62daba408bac718c36c90053896efa5e4e3c38b1a58dd10168b1f0d78c7", func := "loop.example/g01318/laws.FnExactSpectrumOf", spec := "fnExactSpectrumOf", inPlace := ["math.Float64frombits", "math.Float64bits"], unfollowed := true, recurses := true, apart := false, narrowed := true }
def FnExactSpectrumOfUptoSaid : Prop := fnExactSpectrumOfUptoRow.holds Try.pinned (OpenSpec.upto fnExactSpectrumOfSpec)

/-- 'laws.FnExactRankOf', WHERE WHAT IT READS IS OF BULK AT MOST 1048576: true; the input reads as it did. -/
def fnExactRankOfUptoRow : OpenClaim := { program := "ytcpimcjmckljfaa", sum := "7f7fb62daba408bac718c36c90053896efa5e4e3c38b1a58dd10168b1f0d78c7", func := "loop.example/g01318/laws.FnExactRankOf", spec := "fnExactRankOf", unfollowed := true, recurses := true, apart := false, narrowed := true }
def FnExactRankOfUptoSaid : Prop := fnExactRankOfUptoRow.holds Try.pinned (OpenSpec.upto fnExactRankOfSpec)

/-- 'laws.FnExactGapsOf', WHERE WHAT IT READS IS OF BULK AT MOST 1048576: true; the input reads as it did. -/
def fnExactGapsOfUptoRow : OpenClaim := { program := "ytcpimcjmckljfaa", sum := "7f7fb62daba408bac718c36c90053896efa5e4e3c38b1a58dd10168b1f0d78c7", func := "loop.example/g01318/laws.FnExactGapsOf", spec := "fnExactGapsOf", unfollowed := true, recurses := true, apart := false, narrowed := true }
def FnExactGapsOfUptoSaid : Prop := fnExactGapsOfUptoRow.holds Try.pinned (OpenSpec.upto fnExactGapsOfSpec)

/-- 'laws.FnExactTailSlope', WHERE WHAT IT READS IS OF BULK AT MOST 1048576: true; the input reads as it did. -/
def fnExactTailSlopeUptoRow : OpenClaim := { program := "ytcpimcjmckljfaa", sum := "7f7fb62daba408bac718c36c90053896efa5e4e3c38b1a58dd10168b1f0d78c7", func := "loop.example/g01318/laws.FnExactTailSlope", spec := "fnExactTailSlope", inPlace := ["math.Float64frombits", "math.Float64bits"], unfollowed := true, recurses := true, apart := false, narrowed := true }
def FnExactTailSlopeUptoSaid : Prop := fnExactTailSlopeUptoRow.holds Try.pinned (OpenSpec.upto fnExactTailSlopeSpec)

/-- 'laws.FnExactMemorySlope', WHERE WHAT IT READS IS OF BULK AT MOST 1048576: true; the input reads as it did. -/
def fnExactMemorySlopeUptoRow : OpenClaim := { program := "ytcpimcjmckljfaa", sum := "7f7fb62daba408bac718c36c90053896efa5e4e3c38b1a58dd10168b1f0d78c7", func := "loop.example/g01318/laws.FnExactMemorySlope", spec := "fnExactMemorySlope", inPlace := ["math.sqrt", "math.Float64frombits", "math.Float64bits"], unfollowed := true, recurses := true, apart := false, narrowed := true }
def FnExactMemorySlopeUptoSaid : Prop := fnExactMemorySlopeUptoRow.holds Try.pinned (OpenSpec.upto fnExactMemorySlopeSpec)

end Rows
end Go.Proofs.Ytcpimcjmckljfaa
