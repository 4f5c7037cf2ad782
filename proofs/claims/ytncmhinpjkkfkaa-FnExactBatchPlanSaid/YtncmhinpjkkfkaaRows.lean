/-
  No cell of these rows narrows 'for every input' (looked for: loops, veiled, ifaces, maps, wideKeys, modest, calm, conditions, laid).
  DERIVED. THE GIVEN ROWS OF THIS SEAT. 19 by the template 'for every input the law returns true; each argument reads behind the call as it read before'; 0 by the template 'total and deterministic' (their statements: YtncmhinpjkkfkaaTotals.lean).
  GIVEN WITH THE SEED: the statements are not yours to turn. If you find one false, say at which input.
  Laid BY PROGRAM, IN A SANDBOX (cutbox-rows.mjs): the forced cells as the released guide's own fill.sh prints them over the translation 80328e04052a63b4… (all of the seat's roots in one cut). By AI agents, Wed Nov 11 2026. No macro, syntax, notation, axiom, sorry.
-/
import Derived.Test.YtncmhinpjkkfkaaChecked
import GoSem.Claim
import GoSem.ClaimJoined
import GoSem.ClaimMapViews
import Derived.JoinedTies
import Derived.KernelRfl
namespace Go.Proofs.Ytncmhinpjkkfkaa
/- THE CELL 'sum', in the pinned program and in every row, IS THE sha256 OF THE DUMP (.gsa) THAT YtncmhinpjkkfkaaProg.lean LOADS. Nothing in Lean hashes anything: it is a label: what it is worth is what the hold of that sum in a sandbox is worth. -/
noncomputable def Try.pinned : Pinned := { name := "ytncmhinpjkkfkaa", sum := "80328e04052a63b4fd06d721654db543d453d6fed224a2e8ae1e4661c24f51a2", checked := Try.checked }
namespace Rows
def none {H : Type} : Left H := { results := [], args := [] }

/-- 'laws.FnExactIsOrder': WHATEVER THE INPUT: true; the input reads as it did. -/
def fnExactIsOrderSpec : ChangeSpec := { name := "fnExactIsOrder", fn := fun _ => fun
  | [d1, d2] => { results := [.lit (.bool true)], args := [d1, d2] }
  | _ => none }
def fnExactIsOrderRow : OpenClaim := { program := "ytncmhinpjkkfkaa", sum := "80328e04052a63b4fd06d721654db543d453d6fed224a2e8ae1e4661c24f51a2", func := "loop.example/g01389/laws.FnExactIsOrder", spec := "fnExactIsOrder", apart := false }
def FnExactIsOrderSaid : Prop := fnExactIsOrderRow.holds Try.pinned (OpenSpec.ofChange fnExactIsOrderSpec)

/-- ITS FALSE NEIGHBOUR: 'it returns false'. Refute it at one input. -/
def fnExactIsOrderWrong : ChangeSpec := { name := "fnExactIsOrder", fn := fun _ => fun
  | [d1, d2] => { results := [.lit (.bool false)], args := [d1, d2] }
  | _ => none }
def FnExactIsOrderWrongFalsely : Prop := fnExactIsOrderRow.holds Try.pinned (OpenSpec.ofChange fnExactIsOrderWrong)

/-- 'laws.FnExactSameJobs': WHATEVER THE INPUT: true; the input reads as it did. -/
def fnExactSameJobsSpec : ChangeSpec := { name := "fnExactSameJobs", fn := fun _ => fun
  | [d1, d2] => { results := [.lit (.bool true)], args := [d1, d2] }
  | _ => none }
def fnExactSameJobsRow : OpenClaim := { program := "ytncmhinpjkkfkaa", sum := "80328e04052a63b4fd06d721654db543d453d6fed224a2e8ae1e4661c24f51a2", func := "loop.example/g01389/laws.FnExactSameJobs", spec := "fnExactSameJobs", apart := false }
def FnExactSameJobsSaid : Prop := fnExactSameJobsRow.holds Try.pinned (OpenSpec.ofChange fnExactSameJobsSpec)

/-- ITS FALSE NEIGHBOUR: 'it returns false'. Refute it at one input. -/
def fnExactSameJobsWrong : ChangeSpec := { name := "fnExactSameJobs", fn := fun _ => fun
  | [d1, d2] => { results := [.lit (.bool false)], args := [d1, d2] }
  | _ => none }
def FnExactSameJobsWrongFalsely : Prop := fnExactSameJobsRow.holds Try.pinned (OpenSpec.ofChange fnExactSameJobsWrong)

/-- 'laws.FnExactAreJobs': WHATEVER THE INPUT: true; the input reads as it did. -/
def fnExactAreJobsSpec : ChangeSpec := { name := "fnExactAreJobs", fn := fun _ => fun
  | [d] => { results := [.lit (.bool true)], args := [d] }
  | _ => none }
def fnExactAreJobsRow : OpenClaim := { program := "ytncmhinpjkkfkaa", sum := "80328e04052a63b4fd06d721654db543d453d6fed224a2e8ae1e4661c24f51a2", func := "loop.example/g01389/laws.FnExactAreJobs", spec := "fnExactAreJobs", apart := false }
def FnExactAreJobsSaid : Prop := fnExactAreJobsRow.holds Try.pinned (OpenSpec.ofChange fnExactAreJobsSpec)

/-- ITS FALSE NEIGHBOUR: 'it returns false'. Refute it at one input. -/
def fnExactAreJobsWrong : ChangeSpec := { name := "fnExactAreJobs", fn := fun _ => fun
  | [d] => { results := [.lit (.bool false)], args := [d] }
  | _ => none }
def FnExactAreJobsWrongFalsely : Prop := fnExactAreJobsRow.holds Try.pinned (OpenSpec.ofChange fnExactAreJobsWrong)

/-- 'laws.FnExactLastBound': WHATEVER THE INPUT: true; the input reads as it did. -/
def fnExactLastBoundSpec : ChangeSpec := { name := "fnExactLastBound", fn := fun _ => fun
  | [d1, d2] => { results := [.lit (.bool true)], args := [d1, d2] }
  | _ => none }
def fnExactLastBoundRow : OpenClaim := { program := "ytncmhinpjkkfkaa", sum := "80328e04052a63b4fd06d721654db543d453d6fed224a2e8ae1e4661c24f51a2", func := "loop.example/g01389/laws.FnExactLastBound", spec := "fnExactLastBound", apart := false }
def FnExactLastBoundSaid : Prop := fnExactLastBoundRow.holds Try.pinned (OpenSpec.ofChange fnExactLastBoundSpec)

/-- ITS FALSE NEIGHBOUR: 'it returns false'. Refute it at one input. -/
def fnExactLastBoundWrong : ChangeSpec := { name := "fnExactLastBound", fn := fun _ => fun
  | [d1, d2] => { results := [.lit (.bool false)], args := [d1, d2] }
  | _ => none }
def FnExactLastBoundWrongFalsely : Prop := fnExactLastBoundRow.holds Try.pinned (OpenSpec.ofChange fnExactLastBoundWrong)

/-- 'laws.FnExactChangeCost': WHATEVER THE INPUT: true; the input reads as it did. -/
def fnExactChangeCostSpec : ChangeSpec := { name := "fnExactChangeCost", fn := fun _ => fun
  | [d1, d2] => { results := [.lit (.bool true)], args := [d1, d2] }
  | _ => none }
def fnExactChangeCostRow : OpenClaim := { program := "ytncmhinpjkkfkaa", sum := "80328e04052a63b4fd06d721654db543d453d6fed224a2e8ae1e4661c24f51a2", func := "loop.example/g01389/laws.FnExactChangeCost", spec := "fnExactChangeCost", apart := false }
def FnExactChangeCostSaid : Prop := fnExactChangeCostRow.holds Try.pinned (OpenSpec.ofChange fnExactChangeCostSpec)

/-- ITS FALSE NEIGHBOUR: 'it returns false'. Refute it at one input. -/
def fnExactChangeCostWrong : ChangeSpec := { name := "fnExactChangeCost", fn := fun _ => fun
  | [d1, d2] => { results := [.lit (.bool false)], args := [d1, d2] }
  | _ => none }
def FnExactChangeCostWrongFalsely : Prop := fnExactChangeCostRow.holds Try.pinned (OpenSpec.ofChange fnExactChangeCostWrong)

/-- 'laws.FnExactUnlikeList': WHATEVER THE INPUT: true; the input reads as it did. -/
def fnExactUnlikeListSpec : ChangeSpec := { name := "fnExactUnlikeList", fn := fun _ => fun
  | [d1, d2] => { results := [.lit (.bool true)], args := [d1, d2] }
  | _ => none }
def fnExactUnlikeListRow : OpenClaim := { program := "ytncmhinpjkkfkaa", sum := "80328e04052a63b4fd06d721654db543d453d6fed224a2e8ae1e4661c24f51a2", func := "loop.example/g01389/laws.FnExactUnlikeList", spec := "fnExactUnlikeList", apart := false }
def FnExactUnlikeListSaid : Prop := fnExactUnlikeListRow.holds Try.pinned (OpenSpec.ofChange fnExactUnlikeListSpec)

/-- ITS FALSE NEIGHBOUR: 'it returns false'. Refute it at one input. -/
def fnExactUnlikeListWrong : ChangeSpec := { name := "fnExactUnlikeList", fn := fun _ => fun
  | [d1, d2] => { results := [.lit (.bool false)], args := [d1, d2] }
  | _ => none }
def FnExactUnlikeListWrongFalsely : Prop := fnExactUnlikeListRow.holds Try.pinned (OpenSpec.ofChange fnExactUnlikeListWrong)

/-- 'laws.FnExactIsJobPlan': WHATEVER THE INPUT: true; the input reads as it did. -/
def fnExactIsJobPlanSpec : ChangeSpec := { name := "fnExactIsJobPlan", fn := fun _ => fun
  | [d1, d2] => { results := [.lit (.bool true)], args := [d1, d2] }
  | _ => none }
def fnExactIsJobPlanRow : OpenClaim := { program := "ytncmhinpjkkfkaa", sum := "80328e04052a63b4fd06d721654db543d453d6fed224a2e8ae1e4661c24f51a2", func := "loop.example/g01389/laws.FnExactIsJobPlan", spec := "fnExactIsJobPlan", apart := false }
def FnExactIsJobPlanSaid : Prop := fnExactIsJobPlanRow.holds Try.pinned (OpenSpec.ofChange fnExactIsJobPlanSpec)

/-- ITS FALSE NEIGHBOUR: 'it returns false'. Refute it at one input. -/
def fnExactIsJobPlanWrong : ChangeSpec := { name := "fnExactIsJobPlan", fn := fun _ => fun
  | [d1, d2] => { results := [.lit (.bool false)], args := [d1, d2] }
  | _ => none }
def FnExactIsJobPlanWrongFalsely : Prop := fnExactIsJobPlanRow.holds Try.pinned (OpenSpec.ofChange fnExactIsJobPlanWrong)

/-- 'laws.FnExactLeastChanges': WHATEVER THE INPUT: true; the input reads as it did. -/
def fnExactLeastChangesSpec : ChangeSpec := { name := "fnExactLeastChanges", fn := fun _ => fun
  | [d1, d2] => { results := [.lit (.bool true)], args := [d1, d2] }
  | _ => none }
def fnExactLeastChangesRow : OpenClaim := { program := "ytncmhinpjkkfkaa", sum := "80328e04052a63b4fd06d721654db543d453d6fed224a2e8ae1e4661c24f51a2", func := "loop.example/g01389/laws.FnExactLeastChanges", spec := "fnExactLeastChanges", apart := false }
def FnExactLeastChangesSaid : Prop := fnExactLeastChangesRow.holds Try.pinned (OpenSpec.ofChange fnExactLeastChangesSpec)

/-- ITS FALSE NEIGHBOUR: 'it returns false'. Refute it at one input. -/
def fnExactLeastChangesWrong : ChangeSpec := { name := "fnExactLeastChanges", fn := fun _ => fun
  | [d1, d2] => { results := [.lit (.bool false)], args := [d1, d2] }
  | _ => none }
def FnExactLeastChangesWrongFalsely : Prop := fnExactLeastChangesRow.holds Try.pinned (OpenSpec.ofChange fnExactLeastChangesWrong)

/-- 'laws.FnExactIdleOf': WHATEVER THE INPUT: true; the input reads as it did. -/
def fnExactIdleOfSpec : ChangeSpec := { name := "fnExactIdleOf", fn := fun _ => fun
  | [d1, d2] => { results := [.lit (.bool true)], args := [d1, d2] }
  | _ => none }
def fnExactIdleOfRow : OpenClaim := { program := "ytncmhinpjkkfkaa", sum := "80328e04052a63b4fd06d721654db543d453d6fed224a2e8ae1e4661c24f51a2", func := "loop.example/g01389/laws.FnExactIdleOf", spec := "fnExactIdleOf", apart := false }
def FnExactIdleOfSaid : Prop := fnExactIdleOfRow.holds Try.pinned (OpenSpec.ofChange fnExactIdleOfSpec)

/-- ITS FALSE NEIGHBOUR: 'it returns false'. Refute it at one input. -/
def fnExactIdleOfWrong : ChangeSpec := { name := "fnExactIdleOf", fn := fun _ => fun
  | [d1, d2] => { results := [.lit (.bool false)], args := [d1, d2] }
  | _ => none }
def FnExactIdleOfWrongFalsely : Prop := fnExactIdleOfRow.holds Try.pinned (OpenSpec.ofChange fnExactIdleOfWrong)

/-- 'laws.FnExactListPlan': WHATEVER THE INPUT: true; the input reads as it did. -/
def fnExactListPlanSpec : ChangeSpec := { name := "fnExactListPlan", fn := fun _ => fun
  | [d1, d2, d3] => { results := [.lit (.bool true)], args := [d1, d2, d3] }
  | _ => none }
def fnExactListPlanRow : OpenClaim := { program := "ytncmhinpjkkfkaa", sum := "80328e04052a63b4fd06d721654db543d453d6fed224a2e8ae1e4661c24f51a2", func := "loop.example/g01389/laws.FnExactListPlan", spec := "fnExactListPlan", apart := false }
def FnExactListPlanSaid : Prop := fnExactListPlanRow.holds Try.pinned (OpenSpec.ofChange fnExactListPlanSpec)

/-- ITS FALSE NEIGHBOUR: 'it returns false'. Refute it at one input. -/
def fnExactListPlanWrong : ChangeSpec := { name := "fnExactListPlan", fn := fun _ => fun
  | [d1, d2, d3] => { results := [.lit (.bool false)], args := [d1, d2, d3] }
  | _ => none }
def FnExactListPlanWrongFalsely : Prop := fnExactListPlanRow.holds Try.pinned (OpenSpec.ofChange fnExactListPlanWrong)

/-- 'laws.FnExactLeastLast': WHATEVER THE INPUT: true; the input reads as it did. -/
def fnExactLeastLastSpec : ChangeSpec := { name := "fnExactLeastLast", fn := fun _ => fun
  | [d1, d2] => { results := [.lit (.bool true)], args := [d1, d2] }
  | _ => none }
def fnExactLeastLastRow : OpenClaim := { program := "ytncmhinpjkkfkaa", sum := "80328e04052a63b4fd06d721654db543d453d6fed224a2e8ae1e4661c24f51a2", func := "loop.example/g01389/laws.FnExactLeastLast", spec := "fnExactLeastLast", unfollowed := true, recurses := true, apart := false }
def FnExactLeastLastSaid : Prop := fnExactLeastLastRow.holds Try.pinned (OpenSpec.ofChange fnExactLeastLastSpec)

/-- ITS FALSE NEIGHBOUR: 'it returns false'. Refute it at one input. -/
def fnExactLeastLastWrong : ChangeSpec := { name := "fnExactLeastLast", fn := fun _ => fun
  | [d1, d2] => { results := [.lit (.bool false)], args := [d1, d2] }
  | _ => none }
def FnExactLeastLastWrongFalsely : Prop := fnExactLeastLastRow.holds Try.pinned (OpenSpec.ofChange fnExactLeastLastWrong)

/-- 'laws.FnExactUnlikeLeast': WHATEVER THE INPUT: true; the input reads as it did. -/
def fnExactUnlikeLeastSpec : ChangeSpec := { name := "fnExactUnlikeLeast", fn := fun _ => fun
  | [d1, d2] => { results := [.lit (.bool true)], args := [d1, d2] }
  | _ => none }
def fnExactUnlikeLeastRow : OpenClaim := { program := "ytncmhinpjkkfkaa", sum := "80328e04052a63b4fd06d721654db543d453d6fed224a2e8ae1e4661c24f51a2", func := "loop.example/g01389/laws.FnExactUnlikeLeast", spec := "fnExactUnlikeLeast", unfollowed := true, recurses := true, apart := false }
def FnExactUnlikeLeastSaid : Prop := fnExactUnlikeLeastRow.holds Try.pinned (OpenSpec.ofChange fnExactUnlikeLeastSpec)

/-- ITS FALSE NEIGHBOUR: 'it returns false'. Refute it at one input. -/
def fnExactUnlikeLeastWrong : ChangeSpec := { name := "fnExactUnlikeLeast", fn := fun _ => fun
  | [d1, d2] => { results := [.lit (.bool false)], args := [d1, d2] }
  | _ => none }
def FnExactUnlikeLeastWrongFalsely : Prop := fnExactUnlikeLeastRow.holds Try.pinned (OpenSpec.ofChange fnExactUnlikeLeastWrong)

/-- 'laws.FnExactMeanFlow': WHATEVER THE INPUT: true; the input reads as it did. -/
def fnExactMeanFlowSpec : ChangeSpec := { name := "fnExactMeanFlow", fn := fun _ => fun
  | [d1, d2] => { results := [.lit (.bool true)], args := [d1, d2] }
  | _ => none }
def fnExactMeanFlowRow : OpenClaim := { program := "ytncmhinpjkkfkaa", sum := "80328e04052a63b4fd06d721654db543d453d6fed224a2e8ae1e4661c24f51a2", func := "loop.example/g01389/laws.FnExactMeanFlow", spec := "fnExactMeanFlow", apart := false }
def FnExactMeanFlowSaid : Prop := fnExactMeanFlowRow.holds Try.pinned (OpenSpec.ofChange fnExactMeanFlowSpec)

/-- ITS FALSE NEIGHBOUR: 'it returns false'. Refute it at one input. -/
def fnExactMeanFlowWrong : ChangeSpec := { name := "fnExactMeanFlow", fn := fun _ => fun
  | [d1, d2] => { results := [.lit (.bool false)], args := [d1, d2] }
  | _ => none }
def FnExactMeanFlowWrongFalsely : Prop := fnExactMeanFlowRow.holds Try.pinned (OpenSpec.ofChange fnExactMeanFlowWrong)

/-- 'laws.FnExactEndsOf': WHATEVER THE INPUT: true; the input reads as it did. -/
def fnExactEndsOfSpec : ChangeSpec := { name := "fnExactEndsOf", fn := fun _ => fun
  | [d1, d2] => { results := [.lit (.bool true)], args := [d1, d2] }
  | _ => none }
def fnExactEndsOfRow : OpenClaim := { program := "ytncmhinpjkkfkaa", sum := "80328e04052a63b4fd06d721654db543d453d6fed224a2e8ae1e4661c24f51a2", func := "loop.example/g01389/laws.FnExactEndsOf", spec := "fnExactEndsOf", apart := false }
def FnExactEndsOfSaid : Prop := fnExactEndsOfRow.holds Try.pinned (OpenSpec.ofChange fnExactEndsOfSpec)

/-- ITS FALSE NEIGHBOUR: 'it returns false'. Refute it at one input. -/
def fnExactEndsOfWrong : ChangeSpec := { name := "fnExactEndsOf", fn := fun _ => fun
  | [d1, d2] => { results := [.lit (.bool false)], args := [d1, d2] }
  | _ => none }
def FnExactEndsOfWrongFalsely : Prop := fnExactEndsOfRow.holds Try.pinned (OpenSpec.ofChange fnExactEndsOfWrong)

/-- 'laws.FnExactPieceEnds': WHATEVER THE INPUT: true; the input reads as it did. -/
def fnExactPieceEndsSpec : ChangeSpec := { name := "fnExactPieceEnds", fn := fun _ => fun
  | [d1, d2] => { results := [.lit (.bool true)], args := [d1, d2] }
  | _ => none }
def fnExactPieceEndsRow : OpenClaim := { program := "ytncmhinpjkkfkaa", sum := "80328e04052a63b4fd06d721654db543d453d6fed224a2e8ae1e4661c24f51a2", func := "loop.example/g01389/laws.FnExactPieceEnds", spec := "fnExactPieceEnds", apart := false }
def FnExactPieceEndsSaid : Prop := fnExactPieceEndsRow.holds Try.pinned (OpenSpec.ofChange fnExactPieceEndsSpec)

/-- ITS FALSE NEIGHBOUR: 'it returns false'. Refute it at one input. -/
def fnExactPieceEndsWrong : ChangeSpec := { name := "fnExactPieceEnds", fn := fun _ => fun
  | [d1, d2] => { results := [.lit (.bool false)], args := [d1, d2] }
  | _ => none }
def FnExactPieceEndsWrongFalsely : Prop := fnExactPieceEndsRow.holds Try.pinned (OpenSpec.ofChange fnExactPieceEndsWrong)

/-- 'laws.FnExactCostOf': WHATEVER THE INPUT: true; the input reads as it did. -/
def fnExactCostOfSpec : ChangeSpec := { name := "fnExactCostOf", fn := fun _ => fun
  | [d1, d2, d3] => { results := [.lit (.bool true)], args := [d1, d2, d3] }
  | _ => none }
def fnExactCostOfRow : OpenClaim := { program := "ytncmhinpjkkfkaa", sum := "80328e04052a63b4fd06d721654db543d453d6fed224a2e8ae1e4661c24f51a2", func := "loop.example/g01389/laws.FnExactCostOf", spec := "fnExactCostOf", apart := false }
def FnExactCostOfSaid : Prop := fnExactCostOfRow.holds Try.pinned (OpenSpec.ofChange fnExactCostOfSpec)

/-- ITS FALSE NEIGHBOUR: 'it returns false'. Refute it at one input. -/
def fnExactCostOfWrong : ChangeSpec := { name := "fnExactCostOf", fn := fun _ => fun
  | [d1, d2, d3] => { results := [.lit (.bool false)], args := [d1, d2, d3] }
  | _ => none }
def FnExactCostOfWrongFalsely : Prop := fnExactCostOfRow.holds Try.pinned (OpenSpec.ofChange fnExactCostOfWrong)

/-- 'laws.FnExactSwapGain': WHATEVER THE INPUT: true; the input reads as it did. -/
def fnExactSwapGainSpec : ChangeSpec := { name := "fnExactSwapGain", fn := fun _ => fun
  | [d1, d2, d3, d4] => { results := [.lit (.bool true)], args := [d1, d2, d3, d4] }
  | _ => none }
def fnExactSwapGainRow : OpenClaim := { program := "ytncmhinpjkkfkaa", sum := "80328e04052a63b4fd06d721654db543d453d6fed224a2e8ae1e4661c24f51a2", func := "loop.example/g01389/laws.FnExactSwapGain", spec := "fnExactSwapGain", apart := false }
def FnExactSwapGainSaid : Prop := fnExactSwapGainRow.holds Try.pinned (OpenSpec.ofChange fnExactSwapGainSpec)

/-- ITS FALSE NEIGHBOUR: 'it returns false'. Refute it at one input. -/
def fnExactSwapGainWrong : ChangeSpec := { name := "fnExactSwapGain", fn := fun _ => fun
  | [d1, d2, d3, d4] => { results := [.lit (.bool false)], args := [d1, d2, d3, d4] }
  | _ => none }
def FnExactSwapGainWrongFalsely : Prop := fnExactSwapGainRow.holds Try.pinned (OpenSpec.ofChange fnExactSwapGainWrong)

/-- 'laws.FnExactBatchPlan': WHATEVER THE INPUT: true; the input reads as it did. -/
def fnExactBatchPlanSpec : ChangeSpec := { name := "fnExactBatchPlan", fn := fun _ => fun
  | [d1, d2, d3] => { results := [.lit (.bool true)], args := [d1, d2, d3] }
  | _ => none }
def fnExactBatchPlanRow : OpenClaim := { program := "ytncmhinpjkkfkaa", sum := "80328e04052a63b4fd06d721654db543d453d6fed224a2e8ae1e4661c24f51a2", func := "loop.example/g01389/laws.FnExactBatchPlan", spec := "fnExactBatchPlan", unfollowed := true, recurses := true, apart := false }
def FnExactBatchPlanSaid : Prop := fnExactBatchPlanRow.holds Try.pinned (OpenSpec.ofChange fnExactBatchPlanSpec)

/-- ITS FALSE NEIGHBOUR: 'it returns false'. Refute it at one input. -/
def fnExactBatchPlanWrong : ChangeSpec := { name := "fnExactBatchPlan", fn := fun _ => fun
  | [d1, d2, d3] => { results := [.lit (.bool false)], args := [d1, d2, d3] }
  | _ => none }
def FnExactBatchPlanWrongFalsely : Prop := fnExactBatchPlanRow.holds Try.pinned (OpenSpec.ofChange fnExactBatchPlanWrong)

/-- 'laws.FnExactBestOrder': WHATEVER THE INPUT: true; the input reads as it did. -/
def fnExactBestOrderSpec : ChangeSpec := { name := "fnExactBestOrder", fn := fun _ => fun
  | [d1, d2] => { results := [.lit (.bool true)], args := [d1, d2] }
  | _ => none }
def fnExactBestOrderRow : OpenClaim := { program := "ytncmhinpjkkfkaa", sum := "80328e04052a63b4fd06d721654db543d453d6fed224a2e8ae1e4661c24f51a2", func := "loop.example/g01389/laws.FnExactBestOrder", spec := "fnExactBestOrder", unfollowed := true, recurses := true, apart := false }
def FnExactBestOrderSaid : Prop := fnExactBestOrderRow.holds Try.pinned (OpenSpec.ofChange fnExactBestOrderSpec)

/-- ITS FALSE NEIGHBOUR: 'it returns false'. Refute it at one input. -/
def fnExactBestOrderWrong : ChangeSpec := { name := "fnExactBestOrder", fn := fun _ => fun
  | [d1, d2] => { results := [.lit (.bool false)], args := [d1, d2] }
  | _ => none }
def FnExactBestOrderWrongFalsely : Prop := fnExactBestOrderRow.holds Try.pinned (OpenSpec.ofChange fnExactBestOrderWrong)

/- THE SECOND FORM. 'bulk': how many values and letters a reading holds, each counted each time it is reached (what is shared counts as often as it is met; a slice's spare places count too). A statement '..UptoSaid' is the law's where the arguments, and the package variables that the reading takes, are together of bulk at most 1048576: NARROWER than '..Said'. Prove '..Said' where nothing that the law and all that it calls make is longer than what came in: it says more and counts as full. Else prove '..UptoSaid'. A law counts once. -/
mutual
def uptoBulk {H : Type} : DataW H → Nat
  | .lit (.string bytes) => bytes.length + 1
  | .lit _ => 1
  | .nil => 1
  | .ptr d => uptoBulk d + 1
  | .slice elems spare => uptoBulkAll elems + uptoBulkAll spare + 1
  | .agg parts => uptoBulkAll parts + 1
  | .iface _ d => uptoBulk d + 1
  | .map entries => uptoBulkEntries entries + 1
  | .held _ => 1
def uptoBulkAll {H : Type} : List (DataW H) → Nat
  | [] => 0
  | d :: r => uptoBulk d + uptoBulkAll r
def uptoBulkEntries {H : Type} : List (Lit × DataW H) → Nat
  | [] => 0
  | x :: r => uptoBulkEntry x + uptoBulkEntries r
def uptoBulkEntry {H : Type} : Lit × DataW H → Nat
  | (.string bytes, d) => bytes.length + uptoBulk d + 1
  | (_, d) => uptoBulk d + 1
 end
def uptoSmall : (H : Type) → List (DataW H) → Bool := fun _ ds => decide (uptoBulkAll ds ≤ 1048576)
def OpenSpec.upto (s : _root_.Go.ChangeSpec) : _root_.Go.OpenSpec := { _root_.Go.OpenSpec.ofChange s with cond := some uptoSmall }

/-- 'laws.FnExactIsOrder', WHERE WHAT IT READS IS OF BULK AT MOST 1048576: true; the input reads as it did. -/
def fnExactIsOrderUptoRow : OpenClaim := { program := "ytncmhinpjkkfkaa", sum := "80328e04052a63b4fd06d721654db543d453d6fed224a2e8ae1e4661c24f51a2", func := "loop.example/g01389/laws.FnExactIsOrder", spec := "fnExactIsOrder", apart := false, narrowed := true }
def FnExactIsOrderUptoSaid : Prop := fnExactIsOrderUptoRow.holds Try.pinned (OpenSpec.upto fnExactIsOrderSpec)

/-- 'laws.FnExactSameJobs', WHERE WHAT IT READS IS OF BULK AT MOST 1048576: true; the input reads as it did. -/
def fnExactSameJobsUptoRow : OpenClaim := { program := "ytncmhinpjkkfkaa", sum := "80328e04052a63b4fd06d721654db543d453d6fed224a2e8ae1e4661c24f51a2", func := "loop.example/g01389/laws.FnExactSameJobs", spec := "fnExactSameJobs", apart := false, narrowed := true }
def FnExactSameJobsUptoSaid : Prop := fnExactSameJobsUptoRow.holds Try.pinned (OpenSpec.upto fnExactSameJobsSpec)

/-- 'laws.FnExactAreJobs', WHERE WHAT IT READS IS OF BULK AT MOST 1048576: true; the input reads as it did. -/
def fnExactAreJobsUptoRow : OpenClaim := { program := "ytncmhinpjkkfkaa", sum := "80328e04052a63b4fd06d721654db543d453d6fed224a2e8ae1e4661c24f51a2", func := "loop.example/g01389/laws.FnExactAreJobs", spec := "fnExactAreJobs", apart := false, narrowed := true }
def FnExactAreJobsUptoSaid : Prop := fnExactAreJobsUptoRow.holds Try.pinned (OpenSpec.upto fnExactAreJobsSpec)

/-- 'laws.FnExactLastBound', WHERE WHAT IT READS IS OF BULK AT MOST 1048576: true; the input reads as it did. -/
def fnExactLastBoundUptoRow : OpenClaim := { program := "ytncmhinpjkkfkaa", sum := "80328e04052a63b4fd06d721654db543d453d6fed224a2e8ae1e4661c24f51a2", func := "loop.example/g01389/laws.FnExactLastBound", spec := "fnExactLastBound", apart := false, narrowed := true }
def FnExactLastBoundUptoSaid : Prop := fnExactLastBoundUptoRow.holds Try.pinned (OpenSpec.upto fnExactLastBoundSpec)

/-- 'laws.FnExactChangeCost', WHERE WHAT IT READS IS OF BULK AT MOST 1048576: true; the input reads as it did. -/
def fnExactChangeCostUptoRow : OpenClaim := { program := "ytncmhinpjkkfkaa", sum := "80328e04052a63b4fd06d721654db543d453d6fed224a2e8ae1e4661c24f51a2", func := "loop.example/g01389/laws.FnExactChangeCost", spec := "fnExactChangeCost", apart := false, narrowed := true }
def FnExactChangeCostUptoSaid : Prop := fnExactChangeCostUptoRow.holds Try.pinned (OpenSpec.upto fnExactChangeCostSpec)

/-- 'laws.FnExactUnlikeList', WHERE WHAT IT READS IS OF BULK AT MOST 1048576: true; the input reads as it did. -/
def fnExactUnlikeListUptoRow : OpenClaim := { program := "ytncmhinpjkkfkaa", sum := "80328e04052a63b4fd06d721654db543d453d6fed224a2e8ae1e4661c24f51a2", func := "loop.example/g01389/laws.FnExactUnlikeList", spec := "fnExactUnlikeList", apart := false, narrowed := true }
def FnExactUnlikeListUptoSaid : Prop := fnExactUnlikeListUptoRow.holds Try.pinned (OpenSpec.upto fnExactUnlikeListSpec)

/-- 'laws.FnExactIsJobPlan', WHERE WHAT IT READS IS OF BULK AT MOST 1048576: true; the input reads as it did. -/
def fnExactIsJobPlanUptoRow : OpenClaim := { program := "ytncmhinpjkkfkaa", sum := "80328e04052a63b4fd06d721654db543d453d6fed224a2e8ae1e4661c24f51a2", func := "loop.example/g01389/laws.FnExactIsJobPlan", spec := "fnExactIsJobPlan", apart := false, narrowed := true }
def FnExactIsJobPlanUptoSaid : Prop := fnExactIsJobPlanUptoRow.holds Try.pinned (OpenSpec.upto fnExactIsJobPlanSpec)

/-- 'laws.FnExactLeastChanges', WHERE WHAT IT READS IS OF BULK AT MOST 1048576: true; the input reads as it did. -/
def fnExactLeastChangesUptoRow : OpenClaim := { program := "ytncmhinpjkkfkaa", sum := "80328e04052a63b4fd06d721654db543d453d6fed224a2e8ae1e4661c24f51a2", func := "loop.example/g01389/laws.FnExactLeastChanges", spec := "fnExactLeastChanges", apart := false, narrowed := true }
def FnExactLeastChangesUptoSaid : Prop := fnExactLeastChangesUptoRow.holds Try.pinned (OpenSpec.upto fnExactLeastChangesSpec)

/-- 'laws.FnExactIdleOf', WHERE WHAT IT READS IS OF BULK AT MOST 1048576: true; the input reads as it did. -/
def fnExactIdleOfUptoRow : OpenClaim := { program := "ytncmhinpjkkfkaa", sum := "80328e04052a63b4fd06d721654db543d453d6fed224a2e8ae1e4661c24f51a2", func := "loop.example/g01389/laws.FnExactIdleOf", spec := "fnExactIdleOf", apart := false, narrowed := true }
def FnExactIdleOfUptoSaid : Prop := fnExactIdleOfUptoRow.holds Try.pinned (OpenSpec.upto fnExactIdleOfSpec)

/-- 'laws.FnExactListPlan', WHERE WHAT IT READS IS OF BULK AT MOST 1048576: true; the input reads as it did. -/
def fnExactListPlanUptoRow : OpenClaim := { program := "ytncmhinpjkkfkaa", sum := "80328e04052a63b4fd06d721654db543d453d6fed224a2e8ae1e4661c24f51a2", func := "loop.example/g01389/laws.FnExactListPlan", spec := "fnExactListPlan", apart := false, narrowed := true }
def FnExactListPlanUptoSaid : Prop := fnExactListPlanUptoRow.holds Try.pinned (OpenSpec.upto fnExactListPlanSpec)

/-- 'laws.FnExactLeastLast', WHERE WHAT IT READS IS OF BULK AT MOST 1048576: true; the input reads as it did. -/
def fnExactLeastLastUptoRow : OpenClaim := { program := "ytncmhinpjkkfkaa", sum := "80328e04052a63b4fd06d721654db543d453d6fed224a2e8ae1e4661c24f51a2", func := "loop.example/g01389/laws.FnExactLeastLast", spec := "fnExactLeastLast", unfollowed := true, recurses := true, apart := false, narrowed := true }
def FnExactLeastLastUptoSaid : Prop := fnExactLeastLastUptoRow.holds Try.pinned (OpenSpec.upto fnExactLeastLastSpec)

/-- 'laws.FnExactUnlikeLeast', WHERE WHAT IT READS IS OF BULK AT MOST 1048576: true; the input reads as it did. -/
def fnExactUnlikeLeastUptoRow : OpenClaim := { program := "ytncmhinpjkkfkaa", sum := "80328e04052a63b4fd06d721654db543d453d6fed224a2e8ae1e4661c24f51a2", func := "loop.example/g01389/laws.FnExactUnlikeLeast", spec := "fnExactUnlikeLeast", unfollowed := true, recurses := true, apart := false, narrowed := true }
def FnExactUnlikeLeastUptoSaid : Prop := fnExactUnlikeLeastUptoRow.holds Try.pinned (OpenSpec.upto fnExactUnlikeLeastSpec)

/-- 'laws.FnExactMeanFlow', WHERE WHAT IT READS IS OF BULK AT MOST 1048576: true; the input reads as it did. -/
def fnExactMeanFlowUptoRow : OpenClaim := { program := "ytncmhinpjkkfkaa", sum := "80328e04052a63b4fd06d721654db543d453d6fed224a2e8ae1e4661c24f51a2", func := "loop.example/g01389/laws.FnExactMeanFlow", spec := "fnExactMeanFlow", apart := false, narrowed := true }
def FnExactMeanFlowUptoSaid : Prop := fnExactMeanFlowUptoRow.holds Try.pinned (OpenSpec.upto fnExactMeanFlowSpec)

/-- 'laws.FnExactEndsOf', WHERE WHAT IT READS IS OF BULK AT MOST 1048576: true; the input reads as it did. -/
def fnExactEndsOfUptoRow : OpenClaim := { program := "ytncmhinpjkkfkaa", sum := "80328e04052a63b4fd06d721654db543d453d6fed224a2e8ae1e4661c24f51a2", func := "loop.example/g01389/laws.FnExactEndsOf", spec := "fnExactEndsOf", apart := false, narrowed := true }
def FnExactEndsOfUptoSaid : Prop := fnExactEndsOfUptoRow.holds Try.pinned (OpenSpec.upto fnExactEndsOfSpec)

/-- 'laws.FnExactPieceEnds', WHERE WHAT IT READS IS OF BULK AT MOST 1048576: true; the input reads as it did. -/
def fnExactPieceEndsUptoRow : OpenClaim := { program := "ytncmhinpjkkfkaa", sum := "80328e04052a63b4fd06d721654db543d453d6fed224a2e8ae1e4661c24f51a2", func := "loop.example/g01389/laws.FnExactPieceEnds", spec := "fnExactPieceEnds", apart := false, narrowed := true }
def FnExactPieceEndsUptoSaid : Prop := fnExactPieceEndsUptoRow.holds Try.pinned (OpenSpec.upto fnExactPieceEndsSpec)

/-- 'laws.FnExactCostOf', WHERE WHAT IT READS IS OF BULK AT MOST 1048576: true; the input reads as it did. -/
def fnExactCostOfUptoRow : OpenClaim := { program := "ytncmhinpjkkfkaa", sum := "80328e04052a63b4fd06d721654db543d453d6fed224a2e8ae1e4661c24f51a2", func := "loop.example/g01389/laws.FnExactCostOf", spec := "fnExactCostOf", apart := false, narrowed := true }
def FnExactCostOfUptoSaid : Prop := fnExactCostOfUptoRow.holds Try.pinned (OpenSpec.upto fnExactCostOfSpec)

/-- 'laws.FnExactSwapGain', WHERE WHAT IT READS IS OF BULK AT MOST 1048576: true; the input reads as it did. -/
def fnExactSwapGainUptoRow : OpenClaim := { program := "ytncmhinpjkkfkaa", sum := "80328e04052a63b4fd06d721654db543d453d6fed224a2e8ae1e4661c24f51a2", func := "loop.example/g01389/laws.FnExactSwapGain", spec := "fnExactSwapGain", apart := false, narrowed := true }
def FnExactSwapGainUptoSaid : Prop := fnExactSwapGainUptoRow.holds Try.pinned (OpenSpec.upto fnExactSwapGainSpec)

/-- 'laws.FnExactBatchPlan', WHERE WHAT IT READS IS OF BULK AT MOST 1048576: true; the input reads as it did. -/
def fnExactBatchPlanUptoRow : OpenClaim := { program := "ytncmhinpjkkfkaa", sum := "80328e04052a63b4fd06d721654db543d453d6fed224a2e8ae1e4661c24f51a2", func := "loop.example/g01389/laws.FnExactBatchPlan", spec := "fnExactBatchPlan", unfollowed := true, recurses := true, apart := false, narrowed := true }
def FnExactBatchPlanUptoSaid : Prop := fnExactBatchPlanUptoRow.holds Try.pinned (OpenSpec.upto fnExactBatchPlanSpec)

/-- 'laws.FnExactBestOrder', WHERE WHAT IT READS IS OF BULK AT MOST 1048576: true; the input reads as it did. -/
def fnExactBestOrderUptoRow : OpenClaim := { program := "ytncmhinpjkkfkaa", sum := "80328e04052a63b4fd06d721654db543d453d6fed224a2e8ae1e4661c24f51a2", func := "loop.example/g01389/laws.FnExactBestOrder", spec := "fnExactBestOrder", unfollowed := true, recurses := true, apart := false, narrowed := true }
def FnExactBestOrderUptoSaid : Prop := fnExactBestOrderUptoRow.holds Try.pinned (OpenSpec.upto fnExactBestOrderSpec)

end Rows
end Go.Proofs.Ytncmhinpjkkfkaa
