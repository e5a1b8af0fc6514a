import Derived.Test.YtjonmcbglcidhaaGreatHa
namespace Go.Proofs.YtjonmcbglcidhaaGreat
open Go.RowKit
set_option linter.unusedVariables false
attribute [local go_sem ↓] Go.wp_at_zero Go.wp_at_succ

/-- How two values stand. -/
def cmpV (a b : V) : Int := or3 (cI a.kind b.kind) (cI a.n b.n) (cS a.s b.s)
def Grows (w w' : World) : Prop := ∃ q os, w' = Sort.grow (w.drewN q) os
theorem Grows.refl (w : World) : Grows w w := ⟨0, #[], by rw [Sort.grow_empty]; rfl⟩
theorem Grows.alloc {w w' : World} (h : Grows w w') (o : Obj) : Grows w (w'.alloc o) := by
  obtain ⟨q, os, rfl⟩ := h
  exact ⟨q, os ++ #[o], by rw [Sort.alloc_eq_grow, Sort.grow_grow]⟩
theorem Grows.drewN {w w' : World} (h : Grows w w') (n : Nat) : Grows w (w'.drewN n) := by
  obtain ⟨q, os, rfl⟩ := h
  exact ⟨q + n, os, by rw [← World.drewN_drewN]; rfl⟩
theorem Grows.drew {w w' : World} (h : Grows w w') : Grows w w'.drew := h.drewN 1
theorem Grows.trans {w w' w'' : World} (h : Grows w w') (k : Grows w' w'') : Grows w w'' := by
  obtain ⟨q, os, rfl⟩ := h
  obtain ⟨q', os', rfl⟩ := k
  refine ⟨q + q', os ++ os', ?_⟩
  rw [← Sort.grow_grow, ← World.drewN_drewN]
  rfl
theorem Grows.below {w w' : World} (h : Grows w w') : Below w.heap.size w w' := by
  obtain ⟨q, os, rfl⟩ := h
  exact ⟨rfl, rfl, rfl, by show w.heap.size ≤ (w.heap ++ os).size; rw [Array.size_append]; omega, fun i hi => by
    show (w.heap ++ os)[i]? = w.heap[i]?
    exact Array.getElem?_append_left hi⟩

set_option maxRecDepth 100000 in
set_option maxHeartbeats 1600000 in
theorem compare1_any (k n : Int) (s : ByteArray) (k' n' : Int) (s' : ByteArray) (w : World) :
    Calls Tryz.prog 48 #[.agg #[.int .i64 k, .int .i64 n, .string s], .agg #[.int .i64 k', .int .i64 n', .string s']] w fun e w' => e = .returned (.int .i64 (cmpV ⟨k, n, s⟩ ⟨k', n', s'⟩)) ∧ Grows w w' := by
  unfold cmpV
  simp only
  go_enter Tryz.func48, Tryz.ntmps48
  go_wp2_with fail
  obtain ⟨W, hW⟩ : ∃ W, W = (w.alloc (.cells #[.int .i64 k, .int .i64 n, .string s] 26)).alloc (.cells #[.int .i64 k', .int .i64 n', .string s'] 26) := ⟨_, rfl⟩
  have hG : Grows w W := by rw [hW]; exact ((Grows.refl w).alloc _).alloc _
  have b1 : W.heap[w.heap.size]? = some (.cells #[.int .i64 k, .int .i64 n, .string s] 26 (0, 0)) := by
    rw [hW]; exact (Below.heap_alloc _ _ _ (by simp)).trans (heap_alloc_new w _)
  have b2 : W.heap[w.heap.size + 1]? = some (.cells #[.int .i64 k', .int .i64 n', .string s'] 26 (0, 0)) := by
    rw [hW]
    have := heap_alloc_new (w.alloc (.cells #[.int .i64 k, .int .i64 n, .string s] 26)) (.cells #[.int .i64 k', .int .i64 n', .string s'] 26)
    rwa [World.size_alloc] at this
  have x0 := cell_of_row W w.heap.size 0 _ _ (0, 0) b1
  have x1 := cell_of_row W w.heap.size 1 _ _ (0, 0) b1
  have x2 := cell_of_row W w.heap.size 2 _ _ (0, 0) b1
  have y0 := cell_of_row W (w.heap.size + 1) 0 _ _ (0, 0) b2
  have y1 := cell_of_row W (w.heap.size + 1) 1 _ _ (0, 0) b2
  have y2 := cell_of_row W (w.heap.size + 1) 2 _ _ (0, 0) b2
  change W.cell? _ = some (.int .i64 k) at x0
  change W.cell? _ = some (.int .i64 n) at x1
  change W.cell? _ = some (.string s) at x2
  change W.cell? _ = some (.int .i64 k') at y0
  change W.cell? _ = some (.int .i64 n') at y1
  change W.cell? _ = some (.string s') at y2
  rw [← hW]
  clear hW b1 b2
  go_region_held3 (fun w' => w'.cell? ⟨w.heap.size, 0, none⟩ = some (.int .i64 k) ∧ w'.cell? ⟨w.heap.size, 1, none⟩ = some (.int .i64 n) ∧ w'.cell? ⟨w.heap.size, 2, none⟩ = some (.string s) ∧
      w'.cell? ⟨w.heap.size + 1, 0, none⟩ = some (.int .i64 k') ∧ w'.cell? ⟨w.heap.size + 1, 1, none⟩ = some (.int .i64 n') ∧ w'.cell? ⟨w.heap.size + 1, 2, none⟩ = some (.string s')) (go_keep)
    (first | (go_at_call 50; refine (cmpI_any _ _ _).mono ?_; rintro e w' ⟨rfl, rfl⟩) | (go_at_call 51; refine (cmp64_any _ _ _).mono ?_; rintro e w' ⟨rfl, rfl⟩) | (go_at_call 44; refine (cmpS_any _ _ _).mono ?_; rintro e w' ⟨rfl, rfl⟩) | (go_at_call 49; refine (or_any _ _ _ _ _ (by exact heap_alloc_new W _)).mono ?_; rintro e w' ⟨rfl, rfl⟩))
  all_goals go_wp2
  all_goals go_ret
  all_goals exact ⟨rfl, (hG.alloc _).drew⟩
end Go.Proofs.YtjonmcbglcidhaaGreat
