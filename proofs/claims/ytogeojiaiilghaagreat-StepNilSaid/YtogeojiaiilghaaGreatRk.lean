import Derived.Test.YtogeojiaiilghaaGreatRj
import Derived.Deep.RegionHeld3
import Derived.Deep.DrawnRows
import Derived.Sort.Grow
namespace Go.Proofs.YtogeojiaiilghaaGreat
open Go.RowKit Go.Shelf
set_option linter.unusedVariables false

def cI (x y : Int) : Int := if x < y then -1 else if y < x then 1 else 0
theorem cmpI_any (x y : Int) (w : World) : Calls Tryz.prog 213 #[.int .i64 x, .int .i64 y] w fun e w' => e = .returned (.int .i64 (cI x y)) ∧ w = w' := by
  have n1 : (x != x) = false := by simp
  have n2 : (y != y) = false := by simp
  by_cases h : x < y
  · have hc : cI x y = -1 := by simp [cI, h]
    rw [hc]
    clear hc
    go_enter Tryz.func213, Tryz.ntmps213
    go_wp2
    go_ret
    exact ⟨rfl, rfl⟩
  · by_cases h2 : y < x
    · have hc : cI x y = 1 := by simp [cI, h, h2]
      rw [hc]
      clear hc
      go_enter Tryz.func213, Tryz.ntmps213
      go_wp2
      go_ret
      exact ⟨rfl, rfl⟩
    · have hc : cI x y = 0 := by simp [cI, h, h2]
      rw [hc]
      clear hc
      go_enter Tryz.func213, Tryz.ntmps213
      go_wp2
      go_ret
      exact ⟨rfl, rfl⟩
theorem cmpP_any (x y : Int) (w : World) : Calls Tryz.prog 158 #[.int .u32 x, .int .u32 y] w fun e w' => e = .returned (.int .i64 (cI x y)) ∧ w = w' := by
  have n1 : (x != x) = false := by simp
  have n2 : (y != y) = false := by simp
  by_cases h : x < y
  · have hc : cI x y = -1 := by simp [cI, h]
    rw [hc]
    clear hc
    go_enter Tryz.func158, Tryz.ntmps158
    go_wp2
    go_ret
    exact ⟨rfl, rfl⟩
  · by_cases h2 : y < x
    · have hc : cI x y = 1 := by simp [cI, h, h2]
      rw [hc]
      clear hc
      go_enter Tryz.func158, Tryz.ntmps158
      go_wp2
      go_ret
      exact ⟨rfl, rfl⟩
    · have hc : cI x y = 0 := by simp [cI, h, h2]
      rw [hc]
      clear hc
      go_enter Tryz.func158, Tryz.ntmps158
      go_wp2
      go_ret
      exact ⟨rfl, rfl⟩
def or4 (a b c d : Int) : Int := if a ≠ 0 then a else if b ≠ 0 then b else if c ≠ 0 then c else d
set_option maxRecDepth 100000 in
theorem or_any (a b c d : Int) (g : Nat) (w : World) (hg : w.heap[g]? = some (.cells #[.int .i64 a, .int .i64 b, .int .i64 c, .int .i64 d] 3 (0, 0))) :
    Calls Tryz.prog 212 #[.slice (some ⟨g, 0, none⟩) 4 4] w fun e w' => e = .returned (.int .i64 (or4 a b c d)) ∧ w = w' := by
  have b0 := cell_of_row w g 0 _ _ (0, 0) hg
  have b1 := cell_of_row w g 1 _ _ (0, 0) hg
  have b2 := cell_of_row w g 2 _ _ (0, 0) hg
  have b3 := cell_of_row w g 3 _ _ (0, 0) hg
  change w.cell? _ = some (.int .i64 a) at b0
  change w.cell? _ = some (.int .i64 b) at b1
  change w.cell? _ = some (.int .i64 c) at b2
  change w.cell? _ = some (.int .i64 d) at b3
  obtain ⟨R, hR⟩ : ∃ R, R = or4 a b c d := ⟨_, rfl⟩
  rw [← hR]
  have HR := Lib.hid hR
  clear hR hg
  go_enter Tryz.func212, Tryz.ntmps212
  go_wp2_with fail
  go_loop [8] (fun i => i = .int .i64 0 ∨ (i = .int .i64 1 ∧ a = 0) ∨ (i = .int .i64 2 ∧ a = 0 ∧ b = 0) ∨ (i = .int .i64 3 ∧ a = 0 ∧ b = 0 ∧ c = 0) ∨ (i = .int .i64 4 ∧ a = 0 ∧ b = 0 ∧ c = 0 ∧ d = 0)) (fun i => 4 - (intOf i).toNat)
  case atStart => exact .inl rfl
  case round =>
    rcases hrel with rfl | ⟨rfl, ha⟩ | ⟨rfl, ha, hb⟩ | ⟨rfl, ha, hb, hc⟩ | ⟨rfl, ha, hb, hc, hd⟩
    · by_cases h : a = 0
      · have hq : (a != 0) = false := by simpa using h
        have HH := Lib.hid h
        clear h
        go_wp2
        go_round
        case rel => exact .inr (.inl ⟨rfl, HH.out⟩)
        case measure => simp [intOf]
      · have hq : (a != 0) = true := by simpa using h
        have e : R = a := by rw [HR.out]; simp [or4, h]
        have HE := Lib.hid e
        clear h e
        go_wp2
        go_ret
        exact ⟨by rw [HE.out]; rfl, rfl⟩
    · have HA := Lib.hid ha
      clear ha
      by_cases h : b = 0
      · have hq : (b != 0) = false := by simpa using h
        have HH := Lib.hid h
        clear h
        go_wp2
        go_round
        case rel => exact .inr (.inr (.inl ⟨rfl, HA.out, HH.out⟩))
        case measure => simp [intOf]
      · have hq : (b != 0) = true := by simpa using h
        have e : R = b := by rw [HR.out]; simp [or4, h, HA.out]
        have HE := Lib.hid e
        clear h e
        go_wp2
        go_ret
        exact ⟨by rw [HE.out]; rfl, rfl⟩
    · have HA := Lib.hid (And.intro ha hb)
      clear ha hb
      by_cases h : c = 0
      · have hq : (c != 0) = false := by simpa using h
        have HH := Lib.hid h
        clear h
        go_wp2
        go_round
        case rel => exact .inr (.inr (.inr (.inl ⟨rfl, HA.out.1, HA.out.2, HH.out⟩)))
        case measure => simp [intOf]
      · have hq : (c != 0) = true := by simpa using h
        have e : R = c := by rw [HR.out]; simp [or4, h, HA.out]
        have HE := Lib.hid e
        clear h e
        go_wp2
        go_ret
        exact ⟨by rw [HE.out]; rfl, rfl⟩
    · have HA := Lib.hid (And.intro ha (And.intro hb hc))
      clear ha hb hc
      have e : R = d := by rw [HR.out]; simp [or4, HA.out]
      by_cases h : d = 0
      · have hq : (d != 0) = false := by simpa using h
        have HH := Lib.hid h
        clear h e
        go_wp2
        go_round
        case rel => exact .inr (.inr (.inr (.inr ⟨rfl, HA.out.1, HA.out.2.1, HA.out.2.2, HH.out⟩)))
        case measure => simp [intOf]
      · have hq : (d != 0) = true := by simpa using h
        have HE := Lib.hid e
        clear h e
        go_wp2
        go_ret
        exact ⟨by rw [HE.out]; rfl, rfl⟩
    · have e : R = 0 := by rw [HR.out]; simp [or4, ha, hb, hc, hd]
      have HE := Lib.hid e
      clear ha hb hc hd e
      go_wp2
      go_ret
      exact ⟨by rw [HE.out]; rfl, rfl⟩
end Go.Proofs.YtogeojiaiilghaaGreat
