import Derived.Test.YtogeojiaiilghaaGreatV5
set_option linter.unusedVariables false
namespace Go.Ev
open Go.RowKit Go.Proofs Go.Proofs.YtogeojiaiilghaaGreat
/-- A pointer, and true. -/
def isP (x : Option Out) : Bool := match x with
  | some o => (match o.v with
    | .tuple [.ptr _ _, .bool true] => true
    | _ => false)
  | none => false
theorem begun_runs : isP (call E 100 4 [] .e 0) = true := by kernel_rfl
theorem begun_any (w : World) : Calls Tryz.prog 4 #[] w fun e w' => (∃ b o, e = .returned (.tuple #[.pointer (some ⟨b, o, none⟩), .bool true])) ∧ Below w.heap.size w w' := by
  have h := begun_runs
  cases hc : call E 100 4 [] .e 0 with
  | none => rw [hc] at h; cases h
  | some out =>
    rw [hc] at h
    refine Calls.mono (runs_nil E_ok E_orc hc w) fun e w' hr => ?_
    obtain ⟨φ, e1, e2, e3⟩ := hr
    refine ⟨?_, e3⟩
    clear e2 e3 hc
    obtain ⟨v, H, N⟩ := out
    unfold isP at h
    split at h
    case h_2 => cases h
    rename_i x o hx
    cases hx
    simp only at h
    split at h
    case h_2 => cases h
    rename_i l k
    exact ⟨φ.b l, φ.s l + k, by rw [e1]; simp only [c_tuple, cs_cons, cs_nil, c_ptr, c_bool]⟩
end Go.Ev
