/- LockTurns: of any modes: who came first has the lock first; one that would get on with those that have it waits behind one that waits; no condition. -/
import Derived.Test.YtpggillecedocaaTw
import Derived.Test.YtpggillecedocaaLaw
namespace Go.Proofs.Ytpggillecedocaa
open Go.ChangeShapes Go.WideShapes Go.ChangeAt Go.RowKit Go.Deep
set_option linter.unusedVariables false

set_option maxRecDepth 100000 in
theorem open_nums {H : Type} {enc : TypeId × Value → H} {W : World} {r : Reach} {b0 : Nat} {v : Value} {d : DataW H} {ps : List MemPlace} (h : DataW.Trod enc Try.prog W 0 (fun _ => true) true 26 v d ps) (hv : Value.okWide Try.prog W r b0 26 v) :
    ∃ (l : List Int) (A : Option Addr) (cap : Nat), v = .slice A l.length cap ∧ NumsAt W A l ∧ l.length ≤ 9223372036854775807 := by
  obtain ⟨fuel, hf⟩ := h
  obtain ⟨A, len, cap, rfl⟩ := okWide_slice Try.underlying26 hv
  rcases open_ints Try.underlying26 Try.underlying3 (by kernel_rfl) hf with ⟨hc, _⟩ | ⟨a, len', cap', zs, hc, _, hl, hm, hz, _, hcell, _⟩
  · simp only [Value.cells, List.cons.injEq, Value.slice.injEq] at hc
    obtain ⟨⟨rfl, rfl, rfl⟩, _⟩ := hc
    exact ⟨[], none, 0, rfl, fun k hk => absurd hk (by simp), by simp⟩
  · simp only [Value.cells, List.cons.injEq, Value.slice.injEq] at hc
    obtain ⟨⟨rfl, rfl, rfl⟩, _⟩ := hc
    simp only [if_true] at hz
    refine ⟨zs.take len, some a, cap, by rw [List.length_take, hz, Nat.min_eq_left hl], fun k hk => ?_, ?_⟩
    · rw [List.length_take] at hk
      have hk2 : k < zs.length := by omega
      have h1 := hcell k hk2
      refine ⟨a, rfl, ?_, ?_⟩
      · have := World.block_lt_of_cell? _ _ h1
        unfold Addr.add at this
        split at this <;> simpa using this
      · rw [h1, List.getElem_take]
        simp [hk2]
    · unfold maxLen at hm
      rw [List.length_take]
      omega

set_option maxRecDepth 100000 in
theorem turns_lifted (os : Os) (started : os.Started) (H : Type) (enc : TypeId × Value → H) :
    ReturnsInHanded {} Try.checked os 4 .any (Rows.lockTurnsSpec.pre6 enc Try.prog Try.f4 Rows.lockTurnsRow.domain false) (Rows.lockTurnsSpec.post enc Try.prog Try.f4 false true false false) := by
  refine returnsInHanded_of_change (C := Try.checked) Try.own started (by kernel_rfl) Try.func4
    (ChangeSpec.witness6 (enc := enc) (C := Try.checked) false ⟨#[], #[.slice none 0 0], []⟩ 8 (by kernel_rfl) (by kernel_rfl) (by kernel_rfl) (by kernel_rfl)) ?_
  intro W base args ds gs before hval0 hW hcnd _
  have hval : ∀ (j : Nat) t v, Try.f4.params[j]? = some t → args[j]? = some v → Value.okWide Try.prog W .any base t v := hval0
  have hW' := hW
  obtain ⟨p, q, hA0, hV, rfl, hfz, hnd⟩ := hW
  have hA : DataW.TrodAll enc Try.prog W 0 (fun _ => true) true Try.f4.params.toList args.toList ds p := hA0
  rw [Try.params4] at hA hval
  obtain ⟨v0, d0, rfl, rfl, h0⟩ := trodAll_one hA
  obtain ⟨l, A, cap, rfl, hAc, hll⟩ := open_nums h0 (hval 0 26 v0 rfl rfl)
  refine (turns_any l A cap W hAc hll).mono fun e W' ⟨he, hb⟩ => ?_
  subst he
  exact ⟨_, rfl, law_post Try.laidOut (by kernel_rfl) Try.underlying4 rfl (by decide +kernel) hW' rfl hb⟩

theorem turns_holds : Rows.LockTurnsSaid :=
  OpenClaim.holds_of_wide 4 Try.f4 rfl rfl rfl rfl rfl rfl rfl ⟨rfl, rfl, rfl, rfl, rfl⟩ rfl rfl rfl rfl rfl (by kernel_rfl) Try.func4 (by kernel_rfl)
    (of_decide_eq_true (by kernel_rfl)) (by unfold Func.isWrapper; first | (rw [if_pos (by decide +kernel)]; kernel_rfl) | (rw [if_neg (by decide +kernel)]; exact ⟨rfl, rfl⟩))
    (fun os started H enc _ => turns_lifted os started H enc)
end Go.Proofs.Ytpggillecedocaa
