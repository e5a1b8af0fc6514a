import Derived.Test.YtogeojiaiilghaaGreatLaw
set_option linter.unusedVariables false
namespace Go.Proofs.YtogeojiaiilghaaGreat
/-! ### The closed facts of the row, one by one -/
theorem jf_0 : (Rows.stepNilRow.wf (OpenSpec.ofChange Rows.stepNilSpec)) = true := by kernel_rfl
theorem jf_1 : (laidOutB Tryz.checked.prog) = true := by kernel_rfl
theorem jf_2 : (mapsRowed Tryz.checked.prog) = true := by kernel_rfl
theorem jf_3 : (Tryz.f3.params.all (Tryz.checked.prog.readableRec ·)) = true := by kernel_rfl
theorem jf_4 : (namedTie Tryz.checked.prog Rows.stepNilRow.named Rows.stepNilSpec.vars) = true := by kernel_rfl
theorem jf_5 : ((Rows.stepNilRow.stops == [])) = true := by kernel_rfl
theorem jf_6 : ((Tryz.checked.prog.stops == [])) = true := by kernel_rfl
theorem jf_7 : ((Rows.stepNilRow.knobs == [])) = true := by kernel_rfl
theorem jf_8 : ((Tryz.checked.prog.stopKnobs == [])) = true := by kernel_rfl
theorem jf_9 : ((Rows.stepNilRow.inPlace == Tryz.checked.prog.inPlace 3)) = true := by kernel_rfl
theorem jf_10 : ((Rows.stepNilRow.unfollowed == Tryz.checked.prog.unfollowed 3)) = true := by kernel_rfl
theorem jf_11 : ((Rows.stepNilRow.recurses == Tryz.checked.prog.recurses 3)) = true := by kernel_rfl
theorem jf_12 : ((Rows.stepNilRow.named == Tryz.checked.prog.varsNamed 3)) = true := by kernel_rfl
theorem jf_13 : ((Rows.stepNilRow.maps == (Tryz.f3.params.toList ++ Rows.stepNilSpec.plain.varTypes Tryz.checked.prog).any (Tryz.checked.prog.mapsRec ·))) = true := by kernel_rfl
theorem jf_14 : ((Rows.stepNilRow.ifaces == (Tryz.f3.params.toList ++ Rows.stepNilSpec.plain.varTypes Tryz.checked.prog).any (Tryz.checked.prog.ifacesRec ·))) = true := by kernel_rfl
theorem jf_15 : ((Rows.stepNilRow.mapsOut == Tryz.checked.prog.mapsAmong Tryz.f3.resultTypes.toList)) = true := by kernel_rfl
theorem jf_16 : ((Rows.stepNilRow.loops == (Tryz.f3.params.toList ++ Rows.stepNilSpec.plain.varTypes Tryz.checked.prog).any (Tryz.checked.prog.loopsFrom ·))) = true := by kernel_rfl
theorem jf_17 : ((Rows.stepNilRow.wideKeys == (Tryz.f3.params.toList ++ Rows.stepNilSpec.plain.varTypes Tryz.checked.prog ++ Tryz.f3.resultTypes.toList).any (Tryz.checked.prog.wideKeysFrom ·))) = true := by kernel_rfl
theorem jf_18 : (Rows.stepNilSpec.vars.all (Tryz.checked.prog.varReadable ·)) = true := by kernel_rfl
theorem jf_19 : (Tryz.f3.resultTypes.all (fun t => Tryz.checked.prog.readableRec t && decide (t < Tryz.checked.prog.types.size))) = true := by kernel_rfl
theorem jf_20 : ((Rows.stepNilRow.ifacesOut == Tryz.f3.resultTypes.toList.any (Tryz.checked.prog.ifacesRec ·))) = true := by kernel_rfl
theorem jf_21 : ((Rows.stepNilRow.loopsOut == Tryz.f3.resultTypes.toList.any (Tryz.checked.prog.loopsFrom ·))) = true := by kernel_rfl
theorem jf_22 : ((Rows.stepNilRow.plainKeys == Tryz.checked.prog.plainKeys)) = true := by kernel_rfl
theorem jf_23 : (Rows.stepNilRow.shortTexts.isNone) = true := by kernel_rfl
theorem jf_24 : (Tryz.checked.prog.stopsHeard) = true := by kernel_rfl
theorem jf_25 : (Tryz.checked.prog.mayEnter) = true := by kernel_rfl
theorem jf_26 : ((Rows.stepNilRow.lifted == Tryz.checked.prog.liftsFinal)) = true := by kernel_rfl
theorem jf_27 : ((Tryz.checked.prog.make == some Rows.stepNilRow.make)) = true := by kernel_rfl
theorem jf_28 : ((Rows.stepNilRow.kinds == (if Rows.stepNilRow.domain.isEmpty then [] else Tryz.f3.params.toList.map fun t => match Tryz.checked.prog.underlying t with | some (.int k) => some k | _ => none))) = true := by kernel_rfl
theorem jf_29 : ((Rows.stepNilRow.pinned == Rows.stepNilRow.pinnedBy)) = true := by kernel_rfl
theorem jf_30 : ((Rows.stepNilRow.veiled == (Tryz.f3.params.toList ++ Rows.stepNilSpec.plain.varTypes Tryz.checked.prog ++ Tryz.f3.resultTypes.toList).any (Tryz.checked.prog.veiledRec ·))) = true := by kernel_rfl
theorem jf_31 : (Rows.stepNilRow.veiledFits Tryz.checked.prog Tryz.f3.params.toList (Tryz.f3.params.toList ++ Rows.stepNilSpec.plain.varTypes Tryz.checked.prog ++ Tryz.f3.resultTypes.toList)) = true := by kernel_rfl
end Go.Proofs.YtogeojiaiilghaaGreat
