import Derived.Test.YtogeojiaiilghaaGreatV4
import Derived.Test.YtogeojiaiilghaaGreatOx
import Derived.Test.YtogeojiaiilghaaGreatSx
set_option linter.unusedVariables false
namespace Go.Ev
open Go.RowKit Go.Proofs Go.Proofs.YtogeojiaiilghaaGreat
noncomputable def E : Env := tabs.env fun f => match Nat.beq f 133 with
  | true => some moreO
  | false => match Nat.beq f 250 with
    | true => some countO
    | false => match Nat.beq f 109 with
      | true => some repeatO
      | false => match Nat.beq f 151 with
        | true => some sortedO
        | false => match Nat.beq f 76 with
          | true => some namesO
          | false => none
theorem E_ok : EnvOk Tryz.prog E := env_ok _ tys_row fns_row fns_names eqs_good mixed
theorem sort_nil (w : World) : Calls Tryz.prog 223 #[.slice none 0 0] w fun e w' => (∃ v, e = .returned v) ∧ Below w.heap.size w w' := by
  refine (Tryz.slices_Sort_int_none none 0 w).mono ?_
  rintro e w' ⟨rfl, rfl⟩
  exact ⟨⟨_, rfl⟩, by first | exact Below.refl _ _ | exact (Below.refl _ _).drew⟩
theorem E_orc : OrcOk Tryz.prog E := by
  intro f g h
  change (match Nat.beq f 133 with
    | true => some moreO
    | false => match Nat.beq f 250 with
      | true => some countO
      | false => match Nat.beq f 109 with
        | true => some repeatO
        | false => match Nat.beq f 151 with
          | true => some sortedO
          | false => match Nat.beq f 76 with
            | true => some namesO
            | false => none) = some g at h
  split at h
  · rename_i hf
    obtain rfl := Nat.eq_of_beq_eq_true hf
    cases h
    exact more_orc
  · split at h
    · rename_i hf
      obtain rfl := Nat.eq_of_beq_eq_true hf
      cases h
      exact count_orc
    · split at h
      · rename_i hf
        obtain rfl := Nat.eq_of_beq_eq_true hf
        cases h
        exact repeat_orc
      · split at h
        · rename_i hf
          obtain rfl := Nat.eq_of_beq_eq_true hf
          cases h
          exact sorted_orc sort_nil
        · split at h
          · rename_i hf
            obtain rfl := Nat.eq_of_beq_eq_true hf
            cases h
            exact names_orc
          · cases h
end Go.Ev
