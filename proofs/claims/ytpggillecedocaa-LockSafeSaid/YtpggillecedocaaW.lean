import Derived.Test.YtpggillecedocaaAn
namespace Go.Proofs.Ytpggillecedocaa
open Go.RowKit
set_option linter.unusedVariables false

theorem new_any (w : World) : Calls Try.prog 15 #[] w fun e w' => e = .returned (.pointer (some ⟨w.heap.size + 2, 0, none⟩)) ∧ Tab w' (w.heap.size + 2) w.heap.size (w.heap.size + 1) [] [] ∧ Below w.heap.size w w' := by
  have hmm := @run_makeMap Try.prog
  go_enter Try.func15, Try.ntmps15
  go_wp2
  go_ret
  have e0 : ∀ (w : World) (o : Obj), (w.alloc o).heap[w.heap.size]? = some o := fun w o => (MapKept.heap_alloc w o).1
  refine ⟨rfl, ⟨?_, ?_, ?_, by omega, by simp, by simp⟩, ((((Below.refl _ _).alloc (Nat.le_refl _) _).alloc (by simp) _).alloc (by simp; omega) _)⟩
  · have := Blk.new ((w.alloc (.map #[] 0)).alloc (.map #[] 0)) 64 #[.map (some w.heap.size), .map (some (w.heap.size + 1))]
    simpa using this
  · have h1 := MapAt.made KN w
    have h2 := h1.of_block (Below.heap_alloc (w.alloc (.map #[] 0)) (.map #[] 0) _ h1.lt)
    have h3 := h2.of_block (Below.heap_alloc ((w.alloc (.map #[] 0)).alloc (.map #[] 0)) (.cells #[.map (some w.heap.size), .map (some (w.heap.size + 1))] 64) _ h2.lt)
    exact h3
  · have h1 := MapAt.made KI (w.alloc (.map #[] 0))
    have h2 := h1.of_block (Below.heap_alloc ((w.alloc (.map #[] 0)).alloc (.map #[] 0)) (.cells #[.map (some w.heap.size), .map (some (w.heap.size + 1))] 64) _ h1.lt)
    simpa using h2

def r1 (g cap : Nat) : Row := ⟨⟨1, 0, 0, 0⟩, g, cap, [⟨1, 5, 0, false⟩]⟩
def r2 (g cap : Nat) : Row := ⟨⟨1, 0, 0, 0⟩, g, cap, [⟨1, 5, 0, false⟩, ⟨2, 0, 3, false⟩]⟩

set_option maxRecDepth 100000 in
theorem awake_any (w : World) : Calls Try.prog 8 #[] w fun e w' => e = .returned (.bool true) ∧ Below w.heap.size w w' := by
  go_enter Try.func8, Try.ntmps8
  go_wp2_with fail
  refine (new_any _).mono ?_
  rintro e w1 ⟨rfl, hT, hB⟩
  go_wp2_with fail
  refine (ask_fresh 1 5 1 0 0 0 false true hT (by omega) rfl rfl rfl).mono ?_
  rintro e w2 ⟨rfl, hP⟩
  obtain ⟨g, cap, hT2, hg, hK⟩ : ∃ g cap, Tab w2 (w.heap.size + 2) w.heap.size (w.heap.size + 1) ([] ++ r1 g cap :: []) [] ∧ w1.heap.size ≤ g ∧ Keeps w1 w2 (Foot (w.heap.size + 2) w.heap.size (w.heap.size + 1) []) := hP
  go_wp2_with fail
  refine (ask_new 2 3 1 0 0 0 false true [] [] _ hT2 (by omega) rfl rfl rfl rfl (by simp [r1])).mono ?_
  rintro e w3 hP
  have hno : mayS (r1 g cap).q 2 3 = false := rfl
  unfold NewPost at hP
  rw [if_neg (by rw [hno]; simp)] at hP
  obtain ⟨rfl, g', cap', hT3, hg', hK3⟩ := hP
  go_wp2_with fail
  refine (waits_any hT3 2).mono ?_
  rintro e w4 ⟨rfl, hB4⟩
  go_wp2_with fail
  go_ret
  refine ⟨by rfl, ?_⟩
  have s1 := hB.size
  have s2 := hK.size
  have s3 := hK3.size
  have t2 : Below w.heap.size w1 w2 := by
    refine hK.below s1 (fun k hk hf => ?_)
    rcases hf with h | h | h | h
    · omega
    · omega
    · omega
    · simp at h
  have t3 : Below w.heap.size w2 w3 := by
    refine hK3.below (by omega) (fun k hk hf => ?_)
    rcases hf with h | h | h | h
    · omega
    · omega
    · omega
    · simp [r1] at h; omega
  exact ((hB.trans t2).trans t3).trans (hB4.mono (by omega))
end Go.Proofs.Ytpggillecedocaa
