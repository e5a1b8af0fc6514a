import Derived.Test.YtdpipfifoinncaaKq
namespace Go.Proofs.Ytdpipfifoinncaa
open Go.RowKit
set_option linter.unusedVariables false

theorem vals_len (s : ByteArray) : (valsE s).1.length ≤ 255 := by
  have h := (rdLoop_facts s (numS s 0 0 1).2.2 (numS s 0 0 1).1 (numS s 0 0 1).2.1 [] (num_le s 0 0 1 (Nat.zero_le _))).2
  have h2 := num_lt s 0 0 1
  unfold valsE
  split
  · simp
  · show (valsL s).2.2.length ≤ 255
    unfold valsL
    simp only [List.length_nil, Nat.zero_add] at h
    omega
theorem row_len (l : List V) : (rowE l).1.length ≤ 60 := by
  unfold rowE
  split
  · simp
  · split
    · split
      · simp
      · simp only; omega
    · simp

set_option maxRecDepth 100000 in
set_option maxHeartbeats 1600000 in
theorem rows_any (l : List V) (A : Option Addr) (c : Nat) (s : ByteArray) (w : World) (hl : l.length * 32 ≤ 140737488351232) (hs : s.size ≤ 9223372036854775000) (hA : VAt w A l)
    (hw : ∀ v ∈ l, -9223372036854775808 ≤ v.n ∧ v.n ≤ 9223372036854775807) :
    Calls Try.prog 3 #[.slice A l.length c, .string s] w fun e w' => e = .returned (.bool true) ∧ Below w.heap.size w w' := by
  have hvl := vals_len s
  have hrl := row_len l
  have hvr := vals_row l
  obtain ⟨T, hT⟩ : ∃ T, T = bs (rowE l).1 := ⟨_, rfl⟩
  obtain ⟨E, hE⟩ : ∃ E, E = (rowE l).2 := ⟨_, rfl⟩
  obtain ⟨L, hL⟩ : ∃ L, L = (valsE s).1 := ⟨_, rfl⟩
  obtain ⟨G, hG⟩ : ∃ G, G = (valsE s).2 := ⟨_, rfl⟩
  have hTs : T.size ≤ 60 := by rw [hT, bs_size]; exact hrl
  have hR1 : ∀ W, VAt W A l → Calls Try.prog 5 #[.slice A l.length c] W fun e w' => e = .returned (.tuple #[.string T, .int .i64 E]) ∧ Below W.heap.size W w' := fun W h => by
    rw [hT, hE]; exact Row_any (by omega) h
  have hR2 : ∀ W B d, VAt W B l → Calls Try.prog 6 #[.slice B l.length d] W fun e w' => e = .returned (.tuple #[.string T, .int .i64 E]) ∧ Below W.heap.size W w' := fun W B d h => by
    rw [hT, hE]; exact RRow_any (by omega) h
  have hV1 : ∀ W, Calls Try.prog 8 #[.string s] W fun e w' => ∃ v, e = .returned (.tuple #[v, .int .i64 G]) ∧ VOwn w' 43 W.heap.size v L ∧ Below W.heap.size W w' := fun W => by
    rw [hL, hG]; exact Values_any s W hs
  have hV2 : ∀ W, Calls Try.prog 9 #[.string s] W fun e w' => ∃ v, e = .returned (.tuple #[v, .int .i64 G]) ∧ VOwn w' 50 W.heap.size v L ∧ Below W.heap.size W w' := fun W => by
    rw [hL, hG]; exact RValues_any s W hs
  have hV3 : E = 0 → ∀ W, Calls Try.prog 8 #[.string T] W fun e w' => ∃ v, e = .returned (.tuple #[v, .int .i64 0]) ∧ VOwn w' 43 W.heap.size v l ∧ Below W.heap.size W w' := fun h W => by
    have := Values_any T W (by omega)
    rw [hT, hvr (by rw [← hE]; exact h) hw, ← hT] at this
    exact this
  rw [← hL] at hvl
  have HR1 := Lib.hid hR1
  have HR2 := Lib.hid hR2
  have HV1 := Lib.hid hV1
  have HV2 := Lib.hid hV2
  have HV3 := Lib.hid hV3
  have HVL := Lib.hid hvl
  have HA := Lib.hid hA
  obtain ⟨n, hn⟩ : ∃ n, n = l.length := ⟨_, rfl⟩
  rw [← hn]
  have HN := Lib.hid hn
  have HL : Hid (l.length * 32 ≤ 140737488351232) := hl
  have tT : (T.toList == T.toList) = true := by simp
  have tE : (E != E) = false := by simp
  have tG : (G != G) = false := by simp
  clear hR1 hR2 hV1 hV2 hV3 hvl hrl hvr hT hE hL hG hA hw hn hl hs hTs
  go_enter Try.func3, Try.ntmps3
  go_wp2_with fail
  rw [HN.out]
  refine (HR1.out _ HA.out).mono ?_
  rintro r w1 ⟨rfl, hB1⟩
  have hA1 := HA.out.below hB1
  go_wp2_with fail
  refine (ref_any l A c w1 HL.out hA1).mono ?_
  rintro r w2 ⟨v1, rfl, hO2, hB2⟩
  obtain ⟨a1, c1, rfl⟩ := hO2.slice
  have hB02 := hB1.trans (hB2.mono hB1.size)
  have hA2 := hA1.below hB2
  go_wp2_with fail
  refine (HR2.out _ _ _ hO2.at_).mono ?_
  rintro r w3 ⟨rfl, hB3⟩
  have hB03 := hB02.trans (hB3.mono hB02.size)
  have hA3 := hA2.below hB3
  go_wp2_with fail
  refine (HV1.out _).mono ?_
  rintro r w4 ⟨v2, rfl, hO4, hB4⟩
  obtain ⟨a2, c2, rfl⟩ := hO4.slice
  have hB04 := hB03.trans (hB4.mono hB03.size)
  have hA4 := hA3.below hB4
  go_wp2_with fail
  refine (HV2.out _).mono ?_
  rintro r w5 ⟨v3, rfl, hO5, hB5⟩
  obtain ⟨a3, c3, rfl⟩ := hO5.slice
  have hO45 := hO4.below hB5
  have hB05 := hB04.trans (hB5.mono hB04.size)
  have hA5 := hA4.below hB5
  go_wp2_with fail
  refine (awake_any _).mono ?_
  rintro r w6 ⟨rfl, hB6⟩
  have hO46 := hO45.below hB6
  have hO56 := hO5.below hB6
  have hB06 := hB05.trans (hB6.mono hB05.size)
  have hA6 := hA5.below hB6
  go_wp2_with fail
  refine (same_pos L a2 a3 c2 c3 w6 (by have := HVL.out; omega) hO46.at_ hO56.at_).mono ?_
  rintro r w7 ⟨rfl, hB7⟩
  have hB07 := hB06.trans (hB7.mono hB06.size)
  have hA7 := hA6.below hB7
  by_cases hE0 : E = 0
  · have h3 := HV3.out hE0
    have H3 := Lib.hid h3
    clear h3
    subst hE0
    go_wp2_with fail
    refine (H3.out _).mono ?_
    rintro r w8 ⟨v4, rfl, hO8, hB8⟩
    obtain ⟨a4, c4, rfl⟩ := hO8.slice
    have hB08 := hB07.trans (hB8.mono hB07.size)
    have hA8 := hA7.below hB8
    go_wp2_with fail
    refine (ref_any l A c w8 HL.out hA8).mono ?_
    rintro r w9 ⟨v5, rfl, hO9, hB9⟩
    obtain ⟨a5, c5, rfl⟩ := hO9.slice
    have hO89 := hO8.below hB9
    have hB09 := hB08.trans (hB9.mono hB08.size)
    go_wp2_with fail
    refine (same_pos l a4 a5 c4 c5 w9 (by have := HL.out; omega) hO89.at_ hO9.at_).mono ?_
    rintro r w10 ⟨rfl, hB10⟩
    have hB010 := hB09.trans (hB10.mono hB09.size)
    go_wp2
    go_ret
    exact ⟨rfl, hB010⟩
  · have hq : (E != 0) = true := by simpa using hE0
    go_wp2
    go_ret
    exact ⟨rfl, hB07⟩
end Go.Proofs.Ytdpipfifoinncaa
