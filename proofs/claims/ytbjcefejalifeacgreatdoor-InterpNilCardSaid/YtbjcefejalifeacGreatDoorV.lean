/-
  A part of the proof: see the last text.
-/
import Derived.Test.YtbjcefejalifeacGreatDoorRows
import Derived.ProofKit
import Derived.Stop.Joined
set_option linter.unusedVariables false
set_option linter.unusedSimpArgs false
namespace Go.Proofs.YtbjcefejalifeacGreatDoor
open Go.ChangeShapes Go.WideShapes Go.ChangeAt Go.RowKit
set_option maxRecDepth 100000
theorem factand {a b : Bool} (h : a = true) (k : b = true) : (a && b) = true := by rw [h, k]; rfl
theorem factk0 : (Rows.interpNilRow.wf (OpenSpec.ofChange Rows.interpNilSpec)) = true := by kernel_rfl
theorem factk1 : (laidOutB Tryz.prog) = true := by kernel_rfl
theorem factk2 : (mapsRowed Tryz.prog) = true := by kernel_rfl
theorem factk3 : (Tryz.f3.params.all (Tryz.prog.readableRec ·)) = true := by kernel_rfl
theorem factk4 : (namedTie Tryz.prog Rows.interpNilRow.named Rows.interpNilSpec.vars) = true := by kernel_rfl
theorem factk5 : ((Rows.interpNilRow.stops == [])) = true := by kernel_rfl
theorem factk6 : ((Tryz.prog.stops == [])) = true := by kernel_rfl
theorem factk7 : ((Rows.interpNilRow.knobs == [])) = true := by kernel_rfl
theorem factk8 : ((Tryz.prog.stopKnobs == [])) = true := by kernel_rfl
theorem factk9 : ((Rows.interpNilRow.inPlace == Tryz.prog.inPlace 3)) = true := by kernel_rfl
theorem factk10 : ((Rows.interpNilRow.unfollowed == Tryz.prog.unfollowed 3)) = true := by kernel_rfl
theorem factk11 : ((Rows.interpNilRow.recurses == Tryz.prog.recurses 3)) = true := by kernel_rfl
theorem factk12 : ((Rows.interpNilRow.named == Tryz.prog.varsNamed 3)) = true := by kernel_rfl
theorem factk13 : ((Rows.interpNilRow.maps == (Tryz.f3.params.toList ++ Rows.interpNilSpec.plain.varTypes Tryz.prog).any (Tryz.prog.mapsRec ·))) = true := by kernel_rfl
theorem factk14 : ((Rows.interpNilRow.ifaces == (Tryz.f3.params.toList ++ Rows.interpNilSpec.plain.varTypes Tryz.prog).any (Tryz.prog.ifacesRec ·))) = true := by kernel_rfl
theorem factk15 : ((Rows.interpNilRow.mapsOut == Tryz.prog.mapsAmong Tryz.f3.resultTypes.toList)) = true := by kernel_rfl
theorem factk16 : ((Rows.interpNilRow.loops == (Tryz.f3.params.toList ++ Rows.interpNilSpec.plain.varTypes Tryz.prog).any (Tryz.prog.loopsFrom ·))) = true := by kernel_rfl
theorem factk17 : ((Rows.interpNilRow.wideKeys == (Tryz.f3.params.toList ++ Rows.interpNilSpec.plain.varTypes Tryz.prog ++ Tryz.f3.resultTypes.toList).any (Tryz.prog.wideKeysFrom ·))) = true := by kernel_rfl
theorem factk18 : (Rows.interpNilSpec.vars.all (Tryz.prog.varReadable ·)) = true := by kernel_rfl
theorem factk19 : (Tryz.f3.resultTypes.all (fun t => Tryz.prog.readableRec t && decide (t < Tryz.prog.types.size))) = true := by kernel_rfl
theorem factk20 : ((Rows.interpNilRow.ifacesOut == Tryz.f3.resultTypes.toList.any (Tryz.prog.ifacesRec ·))) = true := by kernel_rfl
theorem factk21 : ((Rows.interpNilRow.loopsOut == Tryz.f3.resultTypes.toList.any (Tryz.prog.loopsFrom ·))) = true := by kernel_rfl
theorem factk22 : ((Rows.interpNilRow.plainKeys == Tryz.prog.plainKeys)) = true := by kernel_rfl
theorem factk23 : (Rows.interpNilRow.shortTexts.isNone) = true := by kernel_rfl
theorem factk24 : (Tryz.prog.stopsHeard) = true := by kernel_rfl
theorem factk25 : (Tryz.prog.mayEnter) = true := by kernel_rfl
theorem factk26 : ((Rows.interpNilRow.lifted == Tryz.prog.liftsFinal)) = true := by kernel_rfl
theorem factk27 : ((Tryz.prog.make == some Rows.interpNilRow.make)) = true := by kernel_rfl
theorem factk28 : ((Rows.interpNilRow.kinds == (if Rows.interpNilRow.domain.isEmpty then [] else Tryz.f3.params.toList.map fun t => match Tryz.prog.underlying t with | some (.int k) => some k | _ => none))) = true := by kernel_rfl
theorem factk29 : ((Rows.interpNilRow.pinned == Rows.interpNilRow.pinnedBy)) = true := by kernel_rfl
theorem factk30 : ((Rows.interpNilRow.veiled == (Tryz.f3.params.toList ++ Rows.interpNilSpec.plain.varTypes Tryz.prog ++ Tryz.f3.resultTypes.toList).any (Tryz.prog.veiledRec ·))) = true := by kernel_rfl
theorem factk31 : (Rows.interpNilRow.veiledFits Tryz.prog Tryz.f3.params.toList (Tryz.f3.params.toList ++ Rows.interpNilSpec.plain.varTypes Tryz.prog ++ Tryz.f3.resultTypes.toList)) = true := by kernel_rfl
theorem factfacts : joinedFacts Tryz.prog 3 Tryz.f3 Rows.interpNilSpec Rows.interpNilRow = true := by
  unfold joinedFacts
  exact (factand (factand (factand (factand (factand (factand (factand (factand (factand (factand (factand (factand (factand (factand (factand (factand (factand (factand (factand (factand (factand (factand (factand (factand (factand (factand (factand (factand (factand (factand (factand factk0 factk1) factk2) factk3) factk4) factk5) factk6) factk7) factk8) factk9) factk10) factk11) factk12) factk13) factk14) factk15) factk16) factk17) factk18) factk19) factk20) factk21) factk22) factk23) factk24) factk25) factk26) factk27) factk28) factk29) factk30) factk31)

end Go.Proofs.YtbjcefejalifeacGreatDoor
