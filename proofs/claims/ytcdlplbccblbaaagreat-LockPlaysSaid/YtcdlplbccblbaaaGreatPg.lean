import Derived.Test.YtcdlplbccblbaaaGreatPf
namespace Go.Proofs.YtcdlplbccblbaaaGreat
open Go.RowKit
set_option linter.unusedVariables false
set_option linter.unusedSimpArgs false

theorem RT.made (w : World) : RT (w.alloc (.cells #[] 69)) (.slice (some ⟨w.heap.size, 0, none⟩) 0 0) [] :=
  ⟨[], rfl, ⟨rfl, .inr ⟨w.heap.size, 0, #[], rfl, Nat.zero_le _, heap_alloc_new w _, Nat.le_refl _, by simp [maxLen], rfl, rfl⟩⟩, by simp⟩

set_option maxRecDepth 100000 in
set_option maxHeartbeats 4000000 in
theorem plays_any (l : List Act4) (A : Option Addr) (cap : Nat) (w : World) (hA : ActsAt w A l) (hl : l.length ≤ 9223372036854775807) (htx : ∀ k (h : k < l.length), l[k].tx ≤ 9223372036854775807) :
    Calls Tryz.prog 3 #[.slice A l.length cap] w fun e w' => e = .returned (.bool true) ∧ Below w.heap.size w w' := by
  go_enter Tryz.func3, Tryz.ntmps3
  go_wp2_with fail
  refine (new_any w).mono ?_
  rintro e w1 ⟨rfl, hT1, hB1⟩
  obtain ⟨T, hTd⟩ : ∃ T, T = w.heap.size + 2 := ⟨_, rfl⟩
  obtain ⟨QB, hQd⟩ : ∃ QB, QB = w.heap.size := ⟨_, rfl⟩
  obtain ⟨WB, hWd⟩ : ∃ WB, WB = w.heap.size + 1 := ⟨_, rfl⟩
  have hTA1 : TA w.heap.size w1 T QB WB [] [] := by
    refine ⟨[], by rw [hTd, hQd, hWd]; exact hT1, rfl, fun k hk => ?_⟩
    rcases hk with h | h | h | h
    · omega
    · omega
    · omega
    · simp at h
  rw [← hTd]
  clear hTd hQd hWd hT1
  go_wp2_with fail
  refine (awake_any _).mono ?_
  rintro e w2 ⟨rfl, hB2⟩
  have hTA2 := hTA1.below hB2
  have hBw2 : Below w.heap.size w w2 := hB1.trans (hB2.mono hB1.size)
  obtain ⟨w3, hw3⟩ : ∃ w3, w3 = w2.alloc (.cells #[] 69) := ⟨_, rfl⟩
  have hBw3 : Below w.heap.size w w3 := by rw [hw3]; exact hBw2.alloc hBw2.size _
  have hTA3 : TA w.heap.size w3 T QB WB [] [] := hTA2.below (by rw [hw3]; exact (Below.refl _ _).alloc (Nat.le_refl _) _)
  have hRT3 : RT w3 (.slice (some ⟨w2.heap.size, 0, none⟩) 0 0) [] := by rw [hw3]; exact RT.made w2
  obtain ⟨MB, hMB⟩ : ∃ MB, MB = w2.heap.size := ⟨_, rfl⟩
  go_upto_region 5 with fail
  rw [← hw3, ← hMB]
  rw [← hMB] at hRT3
  clear hMB hw3 hTA2 hBw2 hB2 hTA1 hB1
  go_wp2_with fail
  go_loopw [3, 4, 5] (fun t m j wr => ∃ (i : Nat) (T QB WB : Nat) (L : List (Nm × List Ak)) (W : List (Int × Nm)) (M : List (Nm × List Ak)), i ≤ l.length ∧ i ≤ 50 ∧ t = .pointer (some ⟨T, 0, none⟩) ∧ j = .int .i64 i ∧ TA w.heap.size wr T QB WB L W ∧ RT wr m M ∧ St i L W M ∧ Below w.heap.size w wr) (fun _ _ j _ => 50 - (intOf j).toNat)
  case atStart => exact ⟨0, T, QB, WB, [], [], [], by omega, by omega, rfl, rfl, hTA3, hRT3, St.nil, hBw3⟩
  case round =>
    clear hTA3 hRT3 hBw3
    obtain ⟨i, T, QB, WB, L, W, M, hil, hi50, rfl, rfl, hTA, hRT, hSt, hB⟩ := hrel
    by_cases hgo : i < l.length ∧ i < 50
    · as_aux_lemma =>
        have hlt := hgo.1
        have hlt2 := hgo.2
        have hd50 : decide ((i : Int) < 50) = true := by simp; omega
        obtain ⟨ad, ha⟩ := hA i hlt
        have htxv := htx i hlt
        obtain ⟨rfl, halt, a0, a1, a2, a3⟩ := ha.below (hB.mono (Nat.le_refl _))
        obtain ⟨a, had⟩ : ∃ a, a = l[i] := ⟨_, rfl⟩
        rw [← had] at a0 a1 a2 a3 htxv
        clear had ha htx
        obtain ⟨ma, mc, rfl⟩ := hRT.form
        have HSt := Lib.hid hSt
        clear hSt
        go_wp2_with fail
        refine (one_any hTA hRT HSt.out (by omega) htxv).mono ?_
        rintro e w4 ⟨T', QB', WB', L', W', M', v', rfl, hTA', hRT', hSt', hB'⟩
        have hBw4 := hB.trans hB'
        have HSt' := Lib.hid hSt'
        clear hSt' a0 a1 a2 a3
        go_wp2_with fail
        refine (says_any ⟨hTA', hRT', HSt'.out, by omega⟩).mono ?_
        rintro e w5 ⟨rfl, hB5⟩
        have hBw5 := hBw4.trans (hB5.mono hBw4.size)
        go_wp2_with fail
        go_roundw
        case rel => exact ⟨i + 1, T', QB', WB', L', W', M', by omega, by omega, rfl, by go_num, hTA'.below hB5, hRT'.below hB5, HSt'.out, hBw5⟩
        case measure => simp [intOf]; omega
    · as_aux_lemma =>
        clear hA
        by_cases hlt : i < l.length
        all_goals
          try have h50 : ¬ i < 50 := by omega
          go_wp2_with fail
          go_ret
          exact ⟨rfl, hB⟩
end Go.Proofs.YtcdlplbccblbaaaGreat
