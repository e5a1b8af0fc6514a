import Derived.Test.YtpggillecedocaaW
namespace Go.Proofs.Ytpggillecedocaa
open Go.RowKit
set_option linter.unusedVariables false

theorem at_of_some {q : List Ak} {tx : Int} {i : Nat} (h : (q.findIdx? fun a => a.tx == tx) = some i) : idx q tx = i ∧ i < q.length := by
  refine ⟨by unfold idx; rw [h], ?_⟩
  rw [List.findIdx?_eq_some_iff_getElem] at h
  exact h.1

section
variable {w w' : World} {T QB WB : Nat} {R : List Row} {W : List (Int × Nm)}
/-- What a transaction waits for. -/
theorem for_tab (h : Tab w T QB WB R W) (tx : Int) : Calls Try.prog 26 #[.pointer (some ⟨T, 0, none⟩), .int .i64 tx] w fun e w' =>
    e = .returned (.tuple #[.agg #[.int .i64 (wz W tx).kind, .int .i64 (wz W tx).of_, .int .u32 (wz W tx).page, .int .i64 (wz W tx).slot], .bool (wOf W tx).isSome]) ∧ Below w.heap.size w w' := by
  have hB : Below w.heap.size w (w.alloc (.cells #[.int .i64 0, .int .i64 0, .int .u32 0, .int .i64 0] 34)) := (Below.refl _ _).alloc (Nat.le_refl _) _
  have h1 := h.below hB
  have h0 := h1.head.cell 1
  simp at h0
  have hl := h1.waits tx
  obtain ⟨n, hn⟩ : ∃ n, n = wz W tx := ⟨_, rfl⟩
  obtain ⟨b, hb⟩ : ∃ b, b = (wOf W tx).isSome := ⟨_, rfl⟩
  rw [← hn, ← hb] at hl ⊢
  clear hn hb h1 h
  obtain ⟨k, o, p, s⟩ := n
  simp only at hl ⊢
  go_enter Try.func26, Try.ntmps26
  go_wp2
  exact bodyPost_ret (v := .tuple #[.agg #[.int .i64 k, .int .i64 o, .int .u32 p, .int .i64 s], .bool b]) (by simp [results, Try.results26, go_sem]) rfl ⟨rfl, ((Below.refl _ _).alloc (Nat.le_refl _) _).alloc (by simp) _⟩
end
end Go.Proofs.Ytpggillecedocaa
