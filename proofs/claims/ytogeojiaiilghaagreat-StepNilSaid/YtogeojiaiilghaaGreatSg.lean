import Derived.Test.YtogeojiaiilghaaGreatSf
set_option linter.unusedVariables false
namespace Go.Proofs.YtogeojiaiilghaaGreat
set_option maxRecDepth 100000 in
theorem row_facts : joinedFacts Tryz.checked.prog 3 Tryz.f3 Rows.stepNilSpec Rows.stepNilRow = true := by
  unfold joinedFacts
  simp only [Bool.and_eq_true]
  exact ⟨⟨⟨⟨⟨⟨⟨⟨⟨⟨⟨⟨⟨⟨⟨⟨⟨⟨⟨⟨⟨⟨⟨⟨⟨⟨⟨⟨⟨⟨⟨jf_0, jf_1⟩, jf_2⟩, jf_3⟩, jf_4⟩, jf_5⟩, jf_6⟩, jf_7⟩, jf_8⟩, jf_9⟩, jf_10⟩, jf_11⟩, jf_12⟩, jf_13⟩, jf_14⟩, jf_15⟩, jf_16⟩, jf_17⟩, jf_18⟩, jf_19⟩, jf_20⟩, jf_21⟩, jf_22⟩, jf_23⟩, jf_24⟩, jf_25⟩, jf_26⟩, jf_27⟩, jf_28⟩, jf_29⟩, jf_30⟩, jf_31⟩
end Go.Proofs.YtogeojiaiilghaaGreat
