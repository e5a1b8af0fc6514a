import Derived.Test.YtjonmcbglcidhaaGreatKg
import Derived.Deep.RegionHeld3
import Derived.Deep.DrawnRows
import Derived.Sort.Grow
import Derived.Sort.Walk0
namespace Go.Proofs.YtjonmcbglcidhaaGreat
open Go.RowKit
set_option linter.unusedVariables false
attribute [local go_sem ↓] Go.wp_at_zero Go.wp_at_succ

theorem ret_int {k : IntKind} {a b : Int} (h : a = b) : Ending.returned (.int k a) = Ending.returned (.int k b) := by rw [h]
/-! ### Two values against one another -/
def cI (x y : Int) : Int := if x < y then -1 else if y < x then 1 else 0
theorem cmpI_any (x y : Int) (w : World) : Calls Tryz.prog 50 #[.int .i64 x, .int .i64 y] w fun e w' => e = .returned (.int .i64 (cI x y)) ∧ w = w' := by
  have n1 : (x != x) = false := by simp
  have n2 : (y != y) = false := by simp
  by_cases h : x < y
  · have hc : cI x y = -1 := by simp [cI, h]
    rw [hc]
    clear hc
    go_enter Tryz.func50, Tryz.ntmps50
    go_wp2
    go_ret
    exact ⟨rfl, rfl⟩
  · by_cases h2 : y < x
    · have hc : cI x y = 1 := by simp [cI, h, h2]
      rw [hc]
      clear hc
      go_enter Tryz.func50, Tryz.ntmps50
      go_wp2
      go_ret
      exact ⟨rfl, rfl⟩
    · have hc : cI x y = 0 := by simp [cI, h, h2]
      rw [hc]
      clear hc
      go_enter Tryz.func50, Tryz.ntmps50
      go_wp2
      go_ret
      exact ⟨rfl, rfl⟩
theorem cmp64_any (x y : Int) (w : World) : Calls Tryz.prog 51 #[.int .i64 x, .int .i64 y] w fun e w' => e = .returned (.int .i64 (cI x y)) ∧ w = w' := by
  have n1 : (x != x) = false := by simp
  have n2 : (y != y) = false := by simp
  by_cases h : x < y
  · have hc : cI x y = -1 := by simp [cI, h]
    rw [hc]
    clear hc
    go_enter Tryz.func51, Tryz.ntmps51
    go_wp2
    go_ret
    exact ⟨rfl, rfl⟩
  · by_cases h2 : y < x
    · have hc : cI x y = 1 := by simp [cI, h, h2]
      rw [hc]
      clear hc
      go_enter Tryz.func51, Tryz.ntmps51
      go_wp2
      go_ret
      exact ⟨rfl, rfl⟩
    · have hc : cI x y = 0 := by simp [cI, h, h2]
      rw [hc]
      clear hc
      go_enter Tryz.func51, Tryz.ntmps51
      go_wp2
      go_ret
      exact ⟨rfl, rfl⟩
/-- Two texts, byte by byte. -/
def cS (x y : ByteArray) : Int := if Op.bytesLess x.toList y.toList = true then -1 else if x.toList = y.toList then 0 else 1
theorem cmpS_any (x y : ByteArray) (w : World) : Calls Tryz.prog 44 #[.string x, .string y] w fun e w' => e = .returned (.int .i64 (cS x y)) ∧ w = w' := by
  have n1 : (x.toList != x.toList) = false := by simp
  have n2 : (y.toList != y.toList) = false := by simp
  have m1 : (x.toList == x.toList) = true := by simp
  have m2 : (y.toList == y.toList) = true := by simp
  by_cases h : Op.bytesLess x.toList y.toList = true
  · have hc : cS x y = -1 := by simp [cS, h]
    rw [hc]
    clear hc
    go_enter Tryz.func44, Tryz.ntmps44
    go_wp2
    go_ret
    exact ⟨rfl, rfl⟩
  · have h0 : Op.bytesLess x.toList y.toList = false := by simpa using h
    by_cases h2 : x.toList = y.toList
    · have hc : cS x y = 0 := by unfold cS; rw [if_neg h, if_pos h2]
      have h3 : (x.toList == y.toList) = true := by simpa using h2
      rw [hc]
      clear hc h2 h
      go_enter Tryz.func44, Tryz.ntmps44
      go_wp2
      go_ret
      exact ⟨rfl, rfl⟩
    · have hc : cS x y = 1 := by unfold cS; rw [if_neg h, if_neg h2]
      have h3 : (x.toList == y.toList) = false := by simpa using h2
      rw [hc]
      clear hc h2 h
      go_enter Tryz.func44, Tryz.ntmps44
      go_wp2
      go_ret
      exact ⟨rfl, rfl⟩
def or3 (a b c : Int) : Int := if a ≠ 0 then a else if b ≠ 0 then b else c
set_option maxRecDepth 100000 in
theorem or_any (a b c : Int) (g : Nat) (w : World) (hg : w.heap[g]? = some (.cells #[.int .i64 a, .int .i64 b, .int .i64 c] 3 (0, 0))) :
    Calls Tryz.prog 49 #[.slice (some ⟨g, 0, none⟩) 3 3] w fun e w' => e = .returned (.int .i64 (or3 a b c)) ∧ w = w' := by
  have b0 := cell_of_row w g 0 _ _ (0, 0) hg
  have b1 := cell_of_row w g 1 _ _ (0, 0) hg
  have b2 := cell_of_row w g 2 _ _ (0, 0) hg
  change w.cell? _ = some (.int .i64 a) at b0
  change w.cell? _ = some (.int .i64 b) at b1
  change w.cell? _ = some (.int .i64 c) at b2
  obtain ⟨R, hR⟩ : ∃ R, R = or3 a b c := ⟨_, rfl⟩
  rw [← hR]
  have HR := Lib.hid hR
  clear hR hg
  go_enter Tryz.func49, Tryz.ntmps49
  go_wp2_with fail
  go_loop [8] (fun i => i = .int .i64 0 ∨ (i = .int .i64 1 ∧ a = 0) ∨ (i = .int .i64 2 ∧ a = 0 ∧ b = 0) ∨ (i = .int .i64 3 ∧ a = 0 ∧ b = 0 ∧ c = 0)) (fun i => 3 - (intOf i).toNat)
  case atStart => exact .inl rfl
  case round =>
    rcases hrel with rfl | ⟨rfl, rfl⟩ | ⟨rfl, rfl, rfl⟩ | ⟨rfl, rfl, rfl, rfl⟩
    · by_cases h : a = 0
      · have hb : (a != 0) = false := by simpa using h
        have H := Lib.hid h
        clear h
        go_wp2_with fail
        go_round
        case rel => exact .inr (.inl ⟨rfl, H.out⟩)
        case measure => simp [intOf]
      · have hb : (a != 0) = true := by simpa using h
        have H := Lib.hid h
        clear h
        go_wp2_with fail
        go_ret
        exact ⟨ret_int (by rw [HR.out, or3, if_pos H.out]), rfl⟩
    · by_cases h : b = 0
      · have hb : (b != 0) = false := by simpa using h
        have H := Lib.hid h
        clear h
        go_wp2_with fail
        go_round
        case rel => exact .inr (.inr (.inl ⟨rfl, by simp, H.out⟩))
        case measure => simp [intOf]
      · have hb : (b != 0) = true := by simpa using h
        have H := Lib.hid h
        clear h
        go_wp2_with fail
        go_ret
        exact ⟨ret_int (by rw [HR.out, or3, if_neg (by simp), if_pos H.out]), rfl⟩
    · by_cases h : c = 0
      · have hb : (c != 0) = false := by simpa using h
        have H := Lib.hid h
        clear h
        go_wp2_with fail
        go_round
        case rel => exact .inr (.inr (.inr ⟨rfl, by simp, by simp, H.out⟩))
        case measure => simp [intOf]
      · have hb : (c != 0) = true := by simpa using h
        clear h
        go_wp2_with fail
        go_ret
        exact ⟨ret_int (by rw [HR.out, or3, if_neg (by simp), if_neg (by simp)]), rfl⟩
    · go_wp2_with fail
      go_ret
      exact ⟨ret_int (by rw [HR.out]; simp [or3]), rfl⟩
end Go.Proofs.YtjonmcbglcidhaaGreat
