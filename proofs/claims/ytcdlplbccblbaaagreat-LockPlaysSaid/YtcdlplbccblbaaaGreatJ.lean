import Derived.Test.YtcdlplbccblbaaaGreatM
namespace Go.Proofs.YtcdlplbccblbaaaGreat
open Go.RowKit
set_option linter.unusedVariables false

theorem okm_cases {a : Int} (h : okm a = true) : a = 0 ∨ isMode a = true := by
  unfold okm at h
  simpa using h
theorem isMode0 : isMode 0 = false := by rfl

set_option maxHeartbeats 1000000 in
theorem together_le (a b : Int) (w : World) (ha : isMode a = true) (hb : isMode b = true) (hle : a ≤ b) : Calls Tryz.prog 47 #[.int .i64 a, .int .i64 b] w fun e w' => e = .returned (.bool (compat a b)) ∧ w = w' := by
  rcases isMode_cases ha with rfl | rfl | rfl | rfl | rfl <;> rcases isMode_cases hb with rfl | rfl | rfl | rfl | rfl
  all_goals first
    | (exfalso; omega)
    | (clear ha hb hle
       go_enter Tryz.func47, Tryz.ntmps47
       go_wp2_with (first | (go_at_call 42; refine (rmode_any _ _).mono ?_; rintro e w' ⟨rfl, rfl⟩))
       go_ret
       exact ⟨by rfl, rfl⟩)
theorem compat_comm (a b : Int) : compat a b = compat b a := by
  by_cases ha : isMode a = true
  · by_cases hb : isMode b = true
    · rcases isMode_cases ha with rfl | rfl | rfl | rfl | rfl <;> rcases isMode_cases hb with rfl | rfl | rfl | rfl | rfl <;> rfl
    · simp [compat, hb]
  · simp [compat, ha]
theorem together_any (a b : Int) (w : World) : Calls Tryz.prog 47 #[.int .i64 a, .int .i64 b] w fun e w' => e = .returned (.bool (compat a b)) ∧ w = w' := by
  by_cases ha : isMode a = true
  · by_cases hb : isMode b = true
    · by_cases hle : a ≤ b
      · exact together_le a b w ha hb hle
      · rw [compat_comm]
        have hgt : b < a := by omega
        have hc := together_le b a w hb ha (by omega)
        have HC := Lib.hid hc
        clear hc
        go_enter Tryz.func47, Tryz.ntmps47
        go_wp2_with (first | (go_at_call 42; refine (rmode_any _ _).mono ?_; rintro e w' ⟨rfl, rfl⟩))
        refine HC.out.mono ?_
        rintro e w' ⟨rfl, rfl⟩
        go_wp2_with fail
        go_ret
        exact ⟨rfl, rfl⟩
    · have hb' : isMode b = false := by simpa using hb
      have : compat a b = false := by simp [compat, hb]
      rw [this]
      clear this
      go_enter Tryz.func47, Tryz.ntmps47
      go_wp2_with (first | (go_at_call 42; refine (rmode_any _ _).mono ?_; rintro e w' ⟨rfl, rfl⟩))
      go_ret
      exact ⟨rfl, rfl⟩
  · have ha' : isMode a = false := by simpa using ha
    have : compat a b = false := by simp [compat, ha]
    rw [this]
    clear this
    go_enter Tryz.func47, Tryz.ntmps47
    go_wp2_with (first | (go_at_call 42; refine (rmode_any _ _).mono ?_; rintro e w' ⟨rfl, rfl⟩))
    go_ret
    exact ⟨rfl, rfl⟩

theorem jn_at {a b : Int} {k : Nat} (ha : isMode a = true) (hb : isMode b = true) (h1 : 1 ≤ k) (h5 : k ≤ 4) (hno : ∀ j : Nat, 1 ≤ j → j < k → (cov j a && cov j b) = false) (hy : (cov k a && cov k b) = true) : jn a b = k := by
  have ha0 : a ≠ 0 := by have := isMode_iff.1 ha; omega
  have hb0 : b ≠ 0 := by have := isMode_iff.1 hb; omega
  unfold jn
  rw [if_neg ha0, if_neg hb0]
  have h : k = 1 ∨ k = 2 ∨ k = 3 ∨ k = 4 := by omega
  rcases h with rfl | rfl | rfl | rfl
  · have e1 : (cov 1 a && cov 1 b) = true := hy
    rw [if_pos e1]; rfl
  · have e1 : (cov 1 a && cov 1 b) = false := hno 1 (by omega) (by omega)
    have e2 : (cov 2 a && cov 2 b) = true := hy
    rw [if_neg (by simp [e1]), if_pos e2]; rfl
  · have e1 : (cov 1 a && cov 1 b) = false := hno 1 (by omega) (by omega)
    have e2 : (cov 2 a && cov 2 b) = false := hno 2 (by omega) (by omega)
    have e3 : (cov 3 a && cov 3 b) = true := hy
    rw [if_neg (by simp [e1]), if_neg (by simp [e2]), if_pos e3]; rfl
  · have e1 : (cov 1 a && cov 1 b) = false := hno 1 (by omega) (by omega)
    have e2 : (cov 2 a && cov 2 b) = false := hno 2 (by omega) (by omega)
    have e3 : (cov 3 a && cov 3 b) = false := hno 3 (by omega) (by omega)
    have e4 : (cov 4 a && cov 4 b) = true := hy
    rw [if_neg (by simp [e1]), if_neg (by simp [e2]), if_neg (by simp [e3]), if_pos e4]; rfl
theorem jn_5 {a b : Int} (ha : isMode a = true) (hb : isMode b = true) (hno : ∀ j : Nat, 1 ≤ j → j < 5 → (cov j a && cov j b) = false) : jn a b = 5 := by
  have ha0 : a ≠ 0 := by have := isMode_iff.1 ha; omega
  have hb0 : b ≠ 0 := by have := isMode_iff.1 hb; omega
  unfold jn
  have e1 : (cov 1 a && cov 1 b) = false := hno 1 (by omega) (by omega)
  have e2 : (cov 2 a && cov 2 b) = false := hno 2 (by omega) (by omega)
  have e3 : (cov 3 a && cov 3 b) = false := hno 3 (by omega) (by omega)
  have e4 : (cov 4 a && cov 4 b) = false := hno 4 (by omega) (by omega)
  rw [if_neg ha0, if_neg hb0, if_neg (by simp [e1]), if_neg (by simp [e2]), if_neg (by simp [e3]), if_neg (by simp [e4])]

set_option maxHeartbeats 1000000 in
theorem join_modes (a b : Int) (w : World) (ha : isMode a = true) (hb : isMode b = true) : Calls Tryz.prog 32 #[.int .i64 a, .int .i64 b] w fun e w' => e = .returned (.int .i64 (jn a b)) ∧ w = w' := by
  have ha0 : 1 ≤ a := (isMode_iff.1 ha).1
  have hb0 : 1 ≤ b := (isMode_iff.1 hb).1
  have hea : (a == 0) = false := by simp; omega
  have heb : (b == 0) = false := by simp; omega
  have hna : (a != 0) = true := by simp; omega
  have hnb : (b != 0) = true := by simp; omega
  go_enter Tryz.func32, Tryz.ntmps32
  go_wp2_with (first | (go_at_call 30; refine (mode_any _ _).mono ?_; rintro e w' ⟨rfl, rfl⟩))
  go_loop [5] (fun m => ∃ k : Nat, 1 ≤ k ∧ k ≤ 5 ∧ m = .int .i64 k ∧ Hid (∀ j : Nat, 1 ≤ j → j < k → (cov j a && cov j b) = false)) (fun m => 5 - (intOf m).toNat)
  case atStart => exact ⟨1, by omega, by omega, rfl, Lib.hid (fun j h1 h2 => by omega)⟩
  case round =>
    obtain ⟨k, hk1, hk5, rfl, hno⟩ := hrel
    by_cases hlt : k < 5
    · by_cases hca : cov k a = true
      · by_cases hcb : cov k b = true
        · go_wp2_with (first | (go_at_call 55; refine (covers_any _ _ _).mono ?_; rintro e w' ⟨rfl, rfl⟩))
          go_ret
          exact ⟨ret_int (jn_at ha hb hk1 (by omega) hno.out (by simp [hca, hcb])).symm, rfl⟩
        · have hcb' : cov k b = false := by simpa using hcb
          go_wp2_with (first | (go_at_call 55; refine (covers_any _ _ _).mono ?_; rintro e w' ⟨rfl, rfl⟩))
          go_round
          case rel =>
            refine ⟨k + 1, by omega, by omega, by go_num, Lib.hid (fun j h1 h2 => ?_)⟩
            rcases Nat.lt_or_ge j k with h | h
            · exact hno.out j h1 h
            · obtain rfl : j = k := by omega
              simp [hcb']
          case measure => simp [intOf]; omega
      · have hca' : cov k a = false := by simpa using hca
        go_wp2_with (first | (go_at_call 55; refine (covers_any _ _ _).mono ?_; rintro e w' ⟨rfl, rfl⟩))
        go_round
        case rel =>
          refine ⟨k + 1, by omega, by omega, by go_num, Lib.hid (fun j h1 h2 => ?_)⟩
          rcases Nat.lt_or_ge j k with h | h
          · exact hno.out j h1 h
          · obtain rfl : j = k := by omega
            simp [hca']
        case measure => simp [intOf]; omega
    · obtain rfl : k = 5 := by omega
      go_wp2_with fail
      go_ret
      exact ⟨ret_int (jn_5 ha hb hno.out).symm, rfl⟩

set_option maxHeartbeats 1000000 in
theorem rjoin_modes (a b : Int) (w : World) (ha : isMode a = true) (hb : isMode b = true) : Calls Tryz.prog 43 #[.int .i64 a, .int .i64 b] w fun e w' => e = .returned (.int .i64 (jn a b)) ∧ w = w' := by
  have ha0 : 1 ≤ a := (isMode_iff.1 ha).1
  have hb0 : 1 ≤ b := (isMode_iff.1 hb).1
  have hea : (a == 0) = false := by simp; omega
  have heb : (b == 0) = false := by simp; omega
  have hna : (a != 0) = true := by simp; omega
  have hnb : (b != 0) = true := by simp; omega
  go_enter Tryz.func43, Tryz.ntmps43
  go_wp2_with (first | (go_at_call 42; refine (rmode_any _ _).mono ?_; rintro e w' ⟨rfl, rfl⟩))
  go_loop [5] (fun m => ∃ k : Nat, 1 ≤ k ∧ k ≤ 5 ∧ m = .int .i64 k ∧ Hid (∀ j : Nat, 1 ≤ j → j < k → (cov j a && cov j b) = false)) (fun m => 5 - (intOf m).toNat)
  case atStart => exact ⟨1, by omega, by omega, rfl, Lib.hid (fun j h1 h2 => by omega)⟩
  case round =>
    obtain ⟨k, hk1, hk5, rfl, hno⟩ := hrel
    by_cases hlt : k < 5
    · by_cases hca : cov k a = true
      · by_cases hcb : cov k b = true
        · go_wp2_with (first | (go_at_call 63; refine (rcovers_any _ _ _).mono ?_; rintro e w' ⟨rfl, rfl⟩))
          go_ret
          exact ⟨ret_int (jn_at ha hb hk1 (by omega) hno.out (by simp [hca, hcb])).symm, rfl⟩
        · have hcb' : cov k b = false := by simpa using hcb
          go_wp2_with (first | (go_at_call 63; refine (rcovers_any _ _ _).mono ?_; rintro e w' ⟨rfl, rfl⟩))
          go_round
          case rel =>
            refine ⟨k + 1, by omega, by omega, by go_num, Lib.hid (fun j h1 h2 => ?_)⟩
            rcases Nat.lt_or_ge j k with h | h
            · exact hno.out j h1 h
            · obtain rfl : j = k := by omega
              simp [hcb']
          case measure => simp [intOf]; omega
      · have hca' : cov k a = false := by simpa using hca
        go_wp2_with (first | (go_at_call 63; refine (rcovers_any _ _ _).mono ?_; rintro e w' ⟨rfl, rfl⟩))
        go_round
        case rel =>
          refine ⟨k + 1, by omega, by omega, by go_num, Lib.hid (fun j h1 h2 => ?_)⟩
          rcases Nat.lt_or_ge j k with h | h
          · exact hno.out j h1 h
          · obtain rfl : j = k := by omega
            simp [hca']
        case measure => simp [intOf]; omega
    · obtain rfl : k = 5 := by omega
      have e1 : cov 5 a = true := rfl
      have e2 : cov 5 b = true := rfl
      go_wp2_with (first | (go_at_call 63; refine (rcovers_any _ _ _).mono ?_; rintro e w' ⟨rfl, rfl⟩))
      go_ret
      exact ⟨ret_int (jn_5 ha hb hno.out).symm, rfl⟩

theorem okm_false {a : Int} (h : ¬ okm a = true) : (a != 0) = true ∧ isMode a = false := by
  unfold okm at h
  simpa using h

theorem join_any (a b : Int) (w : World) : Calls Tryz.prog 32 #[.int .i64 a, .int .i64 b] w fun e w' => e = .returned (.int .i64 (join a b)) ∧ w = w' := by
  by_cases ha : okm a = true
  · by_cases hb : okm b = true
    · have hj : join a b = jn a b := by simp [join, ha, hb]
      rw [hj]
      clear hj
      rcases okm_cases ha with rfl | ha1
      · rcases okm_cases hb with rfl | hb1
        · go_enter Tryz.func32, Tryz.ntmps32
          go_wp2
          go_ret
          exact ⟨rfl, rfl⟩
        · have hb5 := (isMode_iff.1 hb1)
          have hnb : (b != 0) = true := by simp; omega
          have hb0 := hb5.1
          have hb6 := hb5.2
          clear hb5 ha hb
          go_enter Tryz.func32, Tryz.ntmps32
          go_wp2_with (first | (go_at_call 30; refine (mode_any _ _).mono ?_; rintro e w' ⟨rfl, rfl⟩))
          go_ret
          exact ⟨ret_int (by simp [jn]), rfl⟩
      · rcases okm_cases hb with rfl | hb1
        · have hb5 := (isMode_iff.1 ha1)
          have hnb : (a != 0) = true := by simp; omega
          have hnc : (a == 0) = false := by simp; omega
          have hb0 := hb5.1
          have hb6 := hb5.2
          have ha0 : ¬ a = 0 := by omega
          clear hb5 ha hb
          go_enter Tryz.func32, Tryz.ntmps32
          go_wp2_with (first | (go_at_call 30; refine (mode_any _ _).mono ?_; rintro e w' ⟨rfl, rfl⟩))
          go_ret
          exact ⟨ret_int (by simp [jn]), rfl⟩
        · exact join_modes a b w ha1 hb1
    · have hj : join a b = 0 := by simp [join, hb]
      rw [hj]
      clear hj
      obtain ⟨h1, h2⟩ := okm_false hb
      rcases okm_cases ha with rfl | ha1
      · clear ha hb
        go_enter Tryz.func32, Tryz.ntmps32
        go_wp2_with (first | (go_at_call 30; refine (mode_any _ _).mono ?_; rintro e w' ⟨rfl, rfl⟩))
        go_ret
        exact ⟨rfl, rfl⟩
      · have hna : (a != 0) = true := by have := isMode_iff.1 ha1; simp; omega
        clear ha hb
        go_enter Tryz.func32, Tryz.ntmps32
        go_wp2_with (first | (go_at_call 30; refine (mode_any _ _).mono ?_; rintro e w' ⟨rfl, rfl⟩))
        go_ret
        exact ⟨rfl, rfl⟩
  · have hj : join a b = 0 := by simp [join, ha]
    rw [hj]
    clear hj
    obtain ⟨h1, h2⟩ := okm_false ha
    clear ha
    go_enter Tryz.func32, Tryz.ntmps32
    go_wp2_with (first | (go_at_call 30; refine (mode_any _ _).mono ?_; rintro e w' ⟨rfl, rfl⟩))
    go_ret
    exact ⟨rfl, rfl⟩

theorem rjoin_ok (a b : Int) (w : World) (ha : okm a = true) (hb : okm b = true) : Calls Tryz.prog 43 #[.int .i64 a, .int .i64 b] w fun e w' => e = .returned (.int .i64 (jn a b)) ∧ w = w' := by
  rcases okm_cases ha with rfl | ha1
  · rcases okm_cases hb with rfl | hb1
    · go_enter Tryz.func43, Tryz.ntmps43
      go_wp2
      go_ret
      exact ⟨rfl, rfl⟩
    · have hb0 := (isMode_iff.1 hb1).1
      have hb6 := (isMode_iff.1 hb1).2
      clear ha hb
      go_enter Tryz.func43, Tryz.ntmps43
      go_wp2
      go_ret
      exact ⟨ret_int (by simp [jn]), rfl⟩
  · rcases okm_cases hb with rfl | hb1
    · have hb0 := (isMode_iff.1 ha1).1
      have hb6 := (isMode_iff.1 ha1).2
      have hnc : (a == 0) = false := by simp; omega
      have ha0 : ¬ a = 0 := by omega
      clear ha hb
      go_enter Tryz.func43, Tryz.ntmps43
      go_wp2
      go_ret
      exact ⟨ret_int (by simp [jn]), rfl⟩
    · exact rjoin_modes a b w ha1 hb1

end Go.Proofs.YtcdlplbccblbaaaGreat
