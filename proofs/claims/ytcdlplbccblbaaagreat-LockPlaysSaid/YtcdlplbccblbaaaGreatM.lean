import Derived.Test.YtcdlplbccblbaaaGreatK
import Derived.WalkSpells
import Derived.WalkLawsBesides
import Derived.Deep.QuietTactic
import Derived.BigQuiet
namespace Go.Proofs.YtcdlplbccblbaaaGreat
open Go.RowKit
set_option linter.unusedVariables false

def isMode (m : Int) : Bool := decide (1 ≤ m) && decide (m ≤ 5)
theorem isMode_iff {m : Int} : isMode m = true ↔ 1 ≤ m ∧ m ≤ 5 := by simp [isMode]
theorem isMode_cases {m : Int} (h : isMode m = true) : m = 1 ∨ m = 2 ∨ m = 3 ∨ m = 4 ∨ m = 5 := by
  have := isMode_iff.1 h
  omega
/-- Do two modes get on? -/
def compat (a b : Int) : Bool := isMode a && isMode b && ((a == 1 && b != 5) || (a == 2 && (b == 1 || b == 2)) || (a == 3 && (b == 1 || b == 3)) || (a == 4 && b == 1))
/-- Has a mode all that another one has? -/
def cov (a b : Int) : Bool := a == 5 || (a == 4 && b != 5) || ((a == 3 || a == 2) && b == 1) || a == b
def jn (a b : Int) : Int := if a = 0 then b else if b = 0 then a else if cov 1 a && cov 1 b then 1 else if cov 2 a && cov 2 b then 2 else if cov 3 a && cov 3 b then 3 else if cov 4 a && cov 4 b then 4 else 5
def okm (a : Int) : Bool := a == 0 || isMode a
def join (a b : Int) : Int := if okm a && okm b then jn a b else 0

theorem ret_bool {a b : Bool} (h : a = b) : Ending.returned (.bool a) = Ending.returned (.bool b) := by rw [h]
theorem ret_int {k : IntKind} {a b : Int} (h : a = b) : Ending.returned (.int k a) = Ending.returned (.int k b) := by rw [h]

theorem mode_any (m : Int) (w : World) : Calls Tryz.prog 30 #[.int .i64 m] w fun e w' => e = .returned (.bool (isMode m)) ∧ w = w' := by
  by_cases h1 : 1 ≤ m
  · go_enter Tryz.func30, Tryz.ntmps30
    go_wp2
    go_ret
    exact ⟨by simp [isMode, h1], rfl⟩
  · go_enter Tryz.func30, Tryz.ntmps30
    go_wp2
    go_ret
    exact ⟨by simp [isMode]; omega, rfl⟩
theorem rmode_any (m : Int) (w : World) : Calls Tryz.prog 42 #[.int .i64 m] w fun e w' => e = .returned (.bool (isMode m)) ∧ w = w' := by
  by_cases h1 : 1 ≤ m
  · go_enter Tryz.func42, Tryz.ntmps42
    go_wp2
    go_ret
    exact ⟨by simp [isMode, h1], rfl⟩
  · go_enter Tryz.func42, Tryz.ntmps42
    go_wp2
    go_ret
    exact ⟨by simp [isMode]; omega, rfl⟩

theorem covers_any (a b : Int) (w : World) : Calls Tryz.prog 55 #[.int .i64 a, .int .i64 b] w fun e w' => e = .returned (.bool (cov a b)) ∧ w = w' := by
  by_cases h5 : a = 5
  · subst h5
    go_enter Tryz.func55, Tryz.ntmps55
    go_wp2
    go_ret
    exact ⟨by simp [cov], rfl⟩
  by_cases h4 : a = 4
  · subst h4
    go_enter Tryz.func55, Tryz.ntmps55
    go_wp2
    go_ret
    exact ⟨by by_cases hb : b = 5 <;> simp [cov, hb], rfl⟩
  by_cases h3 : a = 3
  · subst h3
    by_cases hb : b = 3
    · subst hb
      go_enter Tryz.func55, Tryz.ntmps55
      go_wp2
      go_ret
      exact ⟨by simp [cov], rfl⟩
    · go_enter Tryz.func55, Tryz.ntmps55
      go_wp2
      go_ret
      exact ⟨ret_bool (by unfold cov; rw [Bool.eq_iff_iff]; simp; omega), rfl⟩
  by_cases h2 : a = 2
  · subst h2
    by_cases hb : b = 2
    · subst hb
      go_enter Tryz.func55, Tryz.ntmps55
      go_wp2
      go_ret
      exact ⟨by simp [cov], rfl⟩
    · go_enter Tryz.func55, Tryz.ntmps55
      go_wp2
      go_ret
      exact ⟨ret_bool (by unfold cov; rw [Bool.eq_iff_iff]; simp; omega), rfl⟩
  · go_enter Tryz.func55, Tryz.ntmps55
    go_wp2
    go_ret
    exact ⟨by simp [cov, h2, h3, h4, h5], rfl⟩

theorem matrix_any (w : World) : Calls Tryz.prog 64 #[] w fun e w' => e = .returned (.agg #[.int .u8 0, .int .u8 30, .int .u8 6, .int .u8 10, .int .u8 2, .int .u8 0]) ∧ Below w.heap.size w w' := by
  go_enter Tryz.func64, Tryz.ntmps64
  go_wp2
  exact bodyPost_ret (v := .agg #[.int .u8 0, .int .u8 30, .int .u8 6, .int .u8 10, .int .u8 2, .int .u8 0]) (by simp [results, Tryz.results64, go_sem]) rfl ⟨rfl, (Below.refl _ _).alloc (Nat.le_refl _) _⟩

theorem compat_no (a b : Int) (w : World) (h : isMode a = false ∨ isMode b = false) : Calls Tryz.prog 45 #[.int .i64 a, .int .i64 b] w fun e w' => e = .returned (.bool false) ∧ Below w.heap.size w w' := by
  by_cases ha : isMode a = true
  · have hb : isMode b = false := by simpa [ha] using h
    go_enter Tryz.func45, Tryz.ntmps45
    go_wp2_with (first | (go_at_call 30; refine (mode_any _ _).mono ?_; rintro e w' ⟨rfl, rfl⟩))
    go_ret
    exact ⟨rfl, Below.refl _ _⟩
  · have ha' : isMode a = false := by simpa using ha
    go_enter Tryz.func45, Tryz.ntmps45
    go_wp2_with (first | (go_at_call 30; refine (mode_any _ _).mono ?_; rintro e w' ⟨rfl, rfl⟩))
    go_ret
    exact ⟨rfl, Below.refl _ _⟩

set_option maxHeartbeats 1000000 in
theorem compat_yes (a b : Int) (w : World) (ha : isMode a = true) (hb : isMode b = true) : Calls Tryz.prog 45 #[.int .i64 a, .int .i64 b] w fun e w' => e = .returned (.bool (compat a b)) ∧ Below w.heap.size w w' := by
  rcases isMode_cases ha with rfl | rfl | rfl | rfl | rfl <;> rcases isMode_cases hb with rfl | rfl | rfl | rfl | rfl
  all_goals
    clear ha hb
    go_enter Tryz.func45, Tryz.ntmps45
    go_wp2_with (first | (go_at_call 30; refine (mode_any _ _).mono ?_; rintro e w' ⟨rfl, rfl⟩))
    refine (matrix_any _).mono ?_
    rintro e w1 ⟨rfl, hB⟩
    go_wp2_with fail
    go_ret
    exact ⟨ret_bool (by kernel_rfl), (hB.alloc hB.size _)⟩
theorem compat_any (a b : Int) (w : World) : Calls Tryz.prog 45 #[.int .i64 a, .int .i64 b] w fun e w' => e = .returned (.bool (compat a b)) ∧ Below w.heap.size w w' := by
  by_cases ha : isMode a = true
  · by_cases hb : isMode b = true
    · exact compat_yes a b w ha hb
    · have : compat a b = false := by simp [compat, hb]
      rw [this]
      exact compat_no a b w (.inr (by simpa using hb))
  · have : compat a b = false := by simp [compat, ha]
    rw [this]
    exact compat_no a b w (.inl (by simpa using ha))

theorem rcovers_any (a b : Int) (w : World) : Calls Tryz.prog 63 #[.int .i64 a, .int .i64 b] w fun e w' => e = .returned (.bool (cov a b)) ∧ w = w' := by
  by_cases h : a = b
  · subst h
    go_enter Tryz.func63, Tryz.ntmps63
    go_wp2
    go_ret
    exact ⟨by simp [cov], rfl⟩
  by_cases h5 : a = 5
  · subst h5
    go_enter Tryz.func63, Tryz.ntmps63
    go_wp2
    go_ret
    exact ⟨by simp [cov], rfl⟩
  by_cases h4 : a = 4
  · subst h4
    by_cases h5 : b = 5
    · subst h5
      go_enter Tryz.func63, Tryz.ntmps63
      go_wp2
      go_ret
      exact ⟨by rfl, rfl⟩
    · go_enter Tryz.func63, Tryz.ntmps63
      go_wp2
      go_ret
      exact ⟨ret_bool (by unfold cov; rw [Bool.eq_iff_iff]; simp; omega), rfl⟩
  by_cases h3 : a = 3
  · subst h3
    go_enter Tryz.func63, Tryz.ntmps63
    go_wp2
    go_ret
    exact ⟨ret_bool (by unfold cov; rw [Bool.eq_iff_iff]; simp; omega), rfl⟩
  by_cases h2 : a = 2
  · subst h2
    go_enter Tryz.func63, Tryz.ntmps63
    go_wp2
    go_ret
    exact ⟨ret_bool (by unfold cov; rw [Bool.eq_iff_iff]; simp; omega), rfl⟩
  · go_enter Tryz.func63, Tryz.ntmps63
    go_wp2
    go_ret
    exact ⟨ret_bool (by unfold cov; rw [Bool.eq_iff_iff]; simp; omega), rfl⟩

end Go.Proofs.YtcdlplbccblbaaaGreat
