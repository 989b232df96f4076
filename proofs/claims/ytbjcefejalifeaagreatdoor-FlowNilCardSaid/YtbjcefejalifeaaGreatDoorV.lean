/-
  A part of the proof: see the last text.
-/
import Derived.Test.YtbjcefejalifeaaGreatDoorRows
import Derived.ProofKit
import Derived.Stop.Joined
set_option linter.unusedVariables false
set_option linter.unusedSimpArgs false
namespace Go.Proofs.YtbjcefejalifeaaGreatDoor
open Go.ChangeShapes Go.WideShapes Go.ChangeAt Go.RowKit
set_option maxRecDepth 100000
set_option profiler true
set_option profiler.threshold 500
theorem factand {a b : Bool} (h : a = true) (k : b = true) : (a && b) = true := by rw [h, k]; rfl
theorem factk0 : (Rows.flowNilRow.wf (OpenSpec.ofChange Rows.flowNilSpec)) = true := by kernel_rfl
theorem factk1 : (laidOutB Tryz.prog) = true := by kernel_rfl
theorem factk2 : (mapsRowed Tryz.prog) = true := by kernel_rfl
theorem factk3 : (Tryz.f3.params.all (Tryz.prog.readableRec ·)) = true := by kernel_rfl
theorem factk4 : (namedTie Tryz.prog Rows.flowNilRow.named Rows.flowNilSpec.vars) = true := by kernel_rfl
theorem factk5 : ((Rows.flowNilRow.stops == [])) = true := by kernel_rfl
theorem factk6 : ((Tryz.prog.stops == [])) = true := by kernel_rfl
theorem factk7 : ((Rows.flowNilRow.knobs == [])) = true := by kernel_rfl
theorem factk8 : ((Tryz.prog.stopKnobs == [])) = true := by kernel_rfl
theorem factk9 : ((Rows.flowNilRow.inPlace == Tryz.prog.inPlace 3)) = true := by kernel_rfl
theorem factk10 : ((Rows.flowNilRow.unfollowed == Tryz.prog.unfollowed 3)) = true := by kernel_rfl
theorem factk11 : ((Rows.flowNilRow.recurses == Tryz.prog.recurses 3)) = true := by kernel_rfl
theorem factk12 : ((Rows.flowNilRow.named == Tryz.prog.varsNamed 3)) = true := by kernel_rfl
theorem factk13 : ((Rows.flowNilRow.maps == (Tryz.f3.params.toList ++ Rows.flowNilSpec.plain.varTypes Tryz.prog).any (Tryz.prog.mapsRec ·))) = true := by kernel_rfl
theorem factk14 : ((Rows.flowNilRow.ifaces == (Tryz.f3.params.toList ++ Rows.flowNilSpec.plain.varTypes Tryz.prog).any (Tryz.prog.ifacesRec ·))) = true := by kernel_rfl
theorem factk15 : ((Rows.flowNilRow.mapsOut == Tryz.prog.mapsAmong Tryz.f3.resultTypes.toList)) = true := by kernel_rfl
theorem factk16 : ((Rows.flowNilRow.loops == (Tryz.f3.params.toList ++ Rows.flowNilSpec.plain.varTypes Tryz.prog).any (Tryz.prog.loopsFrom ·))) = true := by kernel_rfl
theorem factk17 : ((Rows.flowNilRow.wideKeys == (Tryz.f3.params.toList ++ Rows.flowNilSpec.plain.varTypes Tryz.prog ++ Tryz.f3.resultTypes.toList).any (Tryz.prog.wideKeysFrom ·))) = true := by kernel_rfl
theorem factk18 : (Rows.flowNilSpec.vars.all (Tryz.prog.varReadable ·)) = true := by kernel_rfl
theorem factk19 : (Tryz.f3.resultTypes.all (fun t => Tryz.prog.readableRec t && decide (t < Tryz.prog.types.size))) = true := by kernel_rfl
theorem factk20 : ((Rows.flowNilRow.ifacesOut == Tryz.f3.resultTypes.toList.any (Tryz.prog.ifacesRec ·))) = true := by kernel_rfl
theorem factk21 : ((Rows.flowNilRow.loopsOut == Tryz.f3.resultTypes.toList.any (Tryz.prog.loopsFrom ·))) = true := by kernel_rfl
theorem factk22 : ((Rows.flowNilRow.plainKeys == Tryz.prog.plainKeys)) = true := by kernel_rfl
theorem factk23 : (Rows.flowNilRow.shortTexts.isNone) = true := by kernel_rfl
theorem factk24 : (Tryz.prog.stopsHeard) = true := by kernel_rfl
theorem factk25 : (Tryz.prog.mayEnter) = true := by kernel_rfl
theorem factk26 : ((Rows.flowNilRow.lifted == Tryz.prog.liftsFinal)) = true := by kernel_rfl
theorem factk27 : ((Tryz.prog.make == some Rows.flowNilRow.make)) = true := by kernel_rfl
theorem factk28 : ((Rows.flowNilRow.kinds == (if Rows.flowNilRow.domain.isEmpty then [] else Tryz.f3.params.toList.map fun t => match Tryz.prog.underlying t with | some (.int k) => some k | _ => none))) = true := by kernel_rfl
theorem factk29 : ((Rows.flowNilRow.pinned == Rows.flowNilRow.pinnedBy)) = true := by kernel_rfl
theorem factk30 : ((Rows.flowNilRow.veiled == (Tryz.f3.params.toList ++ Rows.flowNilSpec.plain.varTypes Tryz.prog ++ Tryz.f3.resultTypes.toList).any (Tryz.prog.veiledRec ·))) = true := by kernel_rfl
theorem factk31 : (Rows.flowNilRow.veiledFits Tryz.prog Tryz.f3.params.toList (Tryz.f3.params.toList ++ Rows.flowNilSpec.plain.varTypes Tryz.prog ++ Tryz.f3.resultTypes.toList)) = true := by kernel_rfl
theorem factfacts : joinedFacts Tryz.prog 3 Tryz.f3 Rows.flowNilSpec Rows.flowNilRow = true := by
  unfold joinedFacts
  exact (factand (factand (factand (factand (factand (factand (factand (factand (factand (factand (factand (factand (factand (factand (factand (factand (factand (factand (factand (factand (factand (factand (factand (factand (factand (factand (factand (factand (factand (factand (factand factk0 factk1) factk2) factk3) factk4) factk5) factk6) factk7) factk8) factk9) factk10) factk11) factk12) factk13) factk14) factk15) factk16) factk17) factk18) factk19) factk20) factk21) factk22) factk23) factk24) factk25) factk26) factk27) factk28) factk29) factk30) factk31)

end Go.Proofs.YtbjcefejalifeaaGreatDoor
