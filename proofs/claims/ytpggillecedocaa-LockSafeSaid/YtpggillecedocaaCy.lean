import Derived.Test.YtpggillecedocaaSe
namespace Go.Proofs.Ytpggillecedocaa
open Go.RowKit
set_option linter.unusedVariables false

/-- A cycle through a transaction, the greatest number first. -/
def cyc (B : Int → List Int) (n : Nat) (tx : Int) : List Int := if (srch B tx n tx []).1 = true then (sortI (srch B tx n tx []).2.2).reverse else []

section
variable {w w' : World} {T QB WB : Nat} {R : List Row} {W : List (Int × Nm)}
set_option maxRecDepth 100000 in
set_option maxHeartbeats 2000000 in
theorem cycle_tab (h : Tab w T QB WB R W) (hW : WaitsIn R W) (hl : W.length < 1000000) (tx : Int) :
    Calls Try.prog 24 #[.pointer (some ⟨T, 0, none⟩), .int .i64 tx] w fun e w' => ∃ v, e = .returned v ∧ IntsAt w' w.heap.size v (cyc (blkF R W) W.length tx) ∧ Below w.heap.size w w' := by
  have hmm := @run_makeMap Try.prog
  obtain ⟨w1, hw1⟩ : ∃ w1, w1 = w.alloc (.cells #[.slice none 0 0] 26) := ⟨_, rfl⟩
  have hB1 : Below w.heap.size w w1 := by rw [hw1]; exact (Below.refl _ _).alloc (Nat.le_refl _) _
  have hY1 : Blk w1 w.heap.size 26 #[.slice none 0 0] := by rw [hw1]; exact Blk.new _ _ _
  have hs1 : w1.heap.size = w.heap.size + 1 := by rw [hw1]; simp
  obtain ⟨w2, hw2⟩ : ∃ w2, w2 = w1.alloc (.map #[] 0) := ⟨_, rfl⟩
  have hB2 : Below w1.heap.size w1 w2 := by rw [hw2]; exact (Below.refl _ _).alloc (Nat.le_refl _) _
  have hM2 : MapAt KI w2 w1.heap.size (seenM []) := by rw [hw2]; exact MapAt.made KI w1
  have hY2 := hY1.of_block (hB2.block _ hY1.lt)
  have hB2' : Below w.heap.size w w2 := hB1.trans (hB2.mono (by omega))
  have hT2 := h.below hB2'
  have hft : ∀ k, Foot T QB WB R k → k < w.heap.size := fun k hk => h.foot_lt hk
  have hn : nW W [] ≤ W.length := List.length_filter_le _ _
  have hO2 : IntsAt w2 w.heap.size (.slice none 0 0) [] := ⟨⟨rfl, .inl ⟨rfl, rfl⟩⟩, by simp⟩
  have hcon := search_any (to := tx) hW hft (by omega) (Nat.le_refl _) W.length (by simpa using hl) tx [] w2 (by simp) hn hT2 hM2 hY2 hO2
  rw [hs1] at hcon
  have hpath : (srch (blkF R W) tx W.length tx []).2.2.length ≤ W.length := srch_path _ _ _ _ _
  have hcyc : cyc (blkF R W) W.length tx = if (srch (blkF R W) tx W.length tx []).1 = true then (sortI (srch (blkF R W) tx W.length tx []).2.2).reverse else [] := rfl
  obtain ⟨r, hr⟩ : ∃ r, r = srch (blkF R W) tx W.length tx [] := ⟨_, rfl⟩
  rw [← hr] at hcon hpath hcyc
  have HC := Lib.hid hcyc
  have HS1 := Lib.hid hs1
  clear hr hcyc hM2 hO2 hn
  have hws : (w.alloc (.cells #[.slice none 0 0] 26)).alloc (.map #[] 0) = w2 := by rw [hw2, hw1]
  clear hw1 hw2 hs1
  go_enter Try.func24, Try.ntmps24
  go_wp2_with fail
  try rw [hws]
  clear hws hmm
  refine hcon.mono ?_
  intro e w3 hP
  unfold SrchPost at hP
  obtain ⟨rfl, hM3, hno, hyes⟩ := hP
  cases hr1 : r.1 with
  | false =>
    have hk3 := hno hr1
    have HR1 := Lib.hid hr1
    clear hno hyes hcon
    go_wp2_with fail
    go_ret
    refine ⟨_, rfl, ?_, hB2'.trans (hk3.below hB2'.size (fun k hk e => by omega))⟩
    rw [HC.out, HR1.out]
    exact ⟨⟨rfl, .inl ⟨rfl, rfl⟩⟩, by simp⟩
  | true =>
    obtain ⟨v, hY3, hO3, hown, hk3⟩ := hyes hr1
    rw [List.nil_append] at hO3
    have HR1 := Lib.hid hr1
    have hB3 : Below w.heap.size w w3 := hB2'.trans (hk3.below hB2'.size (fun k hk e => by
      rcases e with e | e | e
      · omega
      · omega
      · simp [Value.ownBlock] at e))
    obtain ⟨a, c, rfl⟩ := hO3.form
    have y3 : w3.cell? ⟨w.heap.size, 0, none⟩ = some (.slice a r.2.2.length c) := by rw [hY3.cell]; rfl
    clear hno hyes hcon hr1 hown
    go_wp2_with fail
    refine (sortInts_any hO3 (by omega)).mono ?_
    rintro e w4 ⟨rfl, hO4, hk4⟩
    have hY4 := hY3.of_block (hk4.block _ hY3.lt (hO3.other hY3 (by decide)))
    have hB4 : Below w.heap.size w w4 := hB3.trans (hk4.below hB3.size (fun k hk e => hO3.far hk e))
    have y4 : w4.cell? ⟨w.heap.size, 0, none⟩ = some (.slice a r.2.2.length c) := by rw [hY4.cell]; rfl
    clear y3
    go_wp2_with fail
    refine (reverseInts_any hO4 (by rw [sortI_len]; omega)).mono ?_
    rintro e w5 ⟨rfl, hO5, hk5⟩
    have hY5 := hY4.of_block (hk5.block _ hY4.lt (hO4.other hY4 (by decide)))
    have hB5 : Below w.heap.size w w5 := hB4.trans (hk5.below hB4.size (fun k hk e => hO4.far hk e))
    have y5 : w5.cell? ⟨w.heap.size, 0, none⟩ = some (.slice a r.2.2.length c) := by rw [hY5.cell]; rfl
    clear y4
    go_wp2_with fail
    go_ret
    exact ⟨_, rfl, by rw [HC.out, if_pos HR1.out]; exact hO5, hB5⟩
end
end Go.Proofs.Ytpggillecedocaa
