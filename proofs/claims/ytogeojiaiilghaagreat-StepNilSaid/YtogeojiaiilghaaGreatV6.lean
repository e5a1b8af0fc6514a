import Derived.Test.YtogeojiaiilghaaGreatV5
set_option linter.unusedVariables false
namespace Go.Ev
open Go.RowKit Go.Proofs Go.Proofs.YtogeojiaiilghaaGreat
def isT (x : Option Out) : Bool := match x with
  | some o => (match o.v with
    | .bool b => b
    | _ => false)
  | none => false
theorem awake_runs : isT (call E 400 9 [] .e 0) = true := by kernel_rfl
theorem awake_any (w : World) : Calls Tryz.prog 9 #[] w fun e w' => e = .returned (.bool true) ∧ Below w.heap.size w w' := by
  have h := awake_runs
  cases hc : call E 400 9 [] .e 0 with
  | none => rw [hc] at h; cases h
  | some o =>
    rw [hc] at h
    refine Calls.mono (runs_nil E_ok E_orc hc w) fun e w' hr => ?_
    obtain ⟨φ, e1, _, e3⟩ := hr
    refine ⟨?_, e3⟩
    obtain ⟨v, H, N⟩ := o
    have hv : v = .bool true := by
      cases v <;> simp [isT] at h
      rw [h]
    rw [e1]
    simp only [hv, c_bool]
end Go.Ev
