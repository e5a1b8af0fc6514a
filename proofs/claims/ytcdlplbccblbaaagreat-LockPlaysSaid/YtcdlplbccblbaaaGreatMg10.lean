import Derived.Test.YtcdlplbccblbaaaGreatMg9
import Derived.Deep.RegionHeld3
import Derived.Deep.DrawnRows
import Derived.Sort.Grow
namespace Go.Proofs.YtcdlplbccblbaaaGreat
open Go.RowKit Go.Shelf
set_option linter.unusedVariables false

def cI (x y : Int) : Int := if x < y then -1 else if y < x then 1 else 0
theorem cmpI_any (x y : Int) (w : World) : Calls Tryz.prog 72 #[.int .i64 x, .int .i64 y] w fun e w' => e = .returned (.int .i64 (cI x y)) ∧ w = w' := by
  have n1 : (x != x) = false := by simp
  have n2 : (y != y) = false := by simp
  by_cases h : x < y
  · have hc : cI x y = -1 := by simp [cI, h]
    rw [hc]
    clear hc
    go_enter Tryz.func72, Tryz.ntmps72
    go_wp2
    go_ret
    exact ⟨rfl, rfl⟩
  · by_cases h2 : y < x
    · have hc : cI x y = 1 := by simp [cI, h, h2]
      rw [hc]
      clear hc
      go_enter Tryz.func72, Tryz.ntmps72
      go_wp2
      go_ret
      exact ⟨rfl, rfl⟩
    · have hc : cI x y = 0 := by simp [cI, h, h2]
      rw [hc]
      clear hc
      go_enter Tryz.func72, Tryz.ntmps72
      go_wp2
      go_ret
      exact ⟨rfl, rfl⟩
theorem cmpP_any (x y : Int) (w : World) : Calls Tryz.prog 73 #[.int .u32 x, .int .u32 y] w fun e w' => e = .returned (.int .i64 (cI x y)) ∧ w = w' := by
  have n1 : (x != x) = false := by simp
  have n2 : (y != y) = false := by simp
  by_cases h : x < y
  · have hc : cI x y = -1 := by simp [cI, h]
    rw [hc]
    clear hc
    go_enter Tryz.func73, Tryz.ntmps73
    go_wp2
    go_ret
    exact ⟨rfl, rfl⟩
  · by_cases h2 : y < x
    · have hc : cI x y = 1 := by simp [cI, h, h2]
      rw [hc]
      clear hc
      go_enter Tryz.func73, Tryz.ntmps73
      go_wp2
      go_ret
      exact ⟨rfl, rfl⟩
    · have hc : cI x y = 0 := by simp [cI, h, h2]
      rw [hc]
      clear hc
      go_enter Tryz.func73, Tryz.ntmps73
      go_wp2
      go_ret
      exact ⟨rfl, rfl⟩
def or4 (a b c d : Int) : Int := if a ≠ 0 then a else if b ≠ 0 then b else if c ≠ 0 then c else d
set_option maxRecDepth 100000 in
theorem or_any (a b c d : Int) (g : Nat) (w : World) (hg : w.heap[g]? = some (.cells #[.int .i64 a, .int .i64 b, .int .i64 c, .int .i64 d] 3 (0, 0))) :
    Calls Tryz.prog 71 #[.slice (some ⟨g, 0, none⟩) 4 4] w fun e w' => e = .returned (.int .i64 (or4 a b c d)) ∧ w = w' := by
  have b0 := cell_of_row w g 0 _ _ (0, 0) hg
  have b1 := cell_of_row w g 1 _ _ (0, 0) hg
  have b2 := cell_of_row w g 2 _ _ (0, 0) hg
  have b3 := cell_of_row w g 3 _ _ (0, 0) hg
  change w.cell? _ = some (.int .i64 a) at b0
  change w.cell? _ = some (.int .i64 b) at b1
  change w.cell? _ = some (.int .i64 c) at b2
  change w.cell? _ = some (.int .i64 d) at b3
  obtain ⟨R, hR⟩ : ∃ R, R = or4 a b c d := ⟨_, rfl⟩
  rw [← hR]
  have HR := Lib.hid hR
  clear hR hg
  go_enter Tryz.func71, Tryz.ntmps71
  go_wp2_with fail
  go_loop [8] (fun i => i = .int .i64 0 ∨ (i = .int .i64 1 ∧ a = 0) ∨ (i = .int .i64 2 ∧ a = 0 ∧ b = 0) ∨ (i = .int .i64 3 ∧ a = 0 ∧ b = 0 ∧ c = 0) ∨ (i = .int .i64 4 ∧ a = 0 ∧ b = 0 ∧ c = 0 ∧ d = 0)) (fun i => 4 - (intOf i).toNat)
  case atStart => exact .inl rfl
  case round =>
    rcases hrel with rfl | ⟨rfl, ha⟩ | ⟨rfl, ha, hb⟩ | ⟨rfl, ha, hb, hc⟩ | ⟨rfl, ha, hb, hc, hd⟩
    · by_cases h : a = 0
      · have hq : (a != 0) = false := by simpa using h
        have HH := Lib.hid h
        clear h
        go_wp2
        go_round
        case rel => exact .inr (.inl ⟨rfl, HH.out⟩)
        case measure => simp [intOf]
      · have hq : (a != 0) = true := by simpa using h
        have e : R = a := by rw [HR.out]; simp [or4, h]
        have HE := Lib.hid e
        clear h e
        go_wp2
        go_ret
        exact ⟨by rw [HE.out]; rfl, rfl⟩
    · have HA := Lib.hid ha
      clear ha
      by_cases h : b = 0
      · have hq : (b != 0) = false := by simpa using h
        have HH := Lib.hid h
        clear h
        go_wp2
        go_round
        case rel => exact .inr (.inr (.inl ⟨rfl, HA.out, HH.out⟩))
        case measure => simp [intOf]
      · have hq : (b != 0) = true := by simpa using h
        have e : R = b := by rw [HR.out]; simp [or4, h, HA.out]
        have HE := Lib.hid e
        clear h e
        go_wp2
        go_ret
        exact ⟨by rw [HE.out]; rfl, rfl⟩
    · have HA := Lib.hid (And.intro ha hb)
      clear ha hb
      by_cases h : c = 0
      · have hq : (c != 0) = false := by simpa using h
        have HH := Lib.hid h
        clear h
        go_wp2
        go_round
        case rel => exact .inr (.inr (.inr (.inl ⟨rfl, HA.out.1, HA.out.2, HH.out⟩)))
        case measure => simp [intOf]
      · have hq : (c != 0) = true := by simpa using h
        have e : R = c := by rw [HR.out]; simp [or4, h, HA.out]
        have HE := Lib.hid e
        clear h e
        go_wp2
        go_ret
        exact ⟨by rw [HE.out]; rfl, rfl⟩
    · have HA := Lib.hid (And.intro ha (And.intro hb hc))
      clear ha hb hc
      have e : R = d := by rw [HR.out]; simp [or4, HA.out]
      by_cases h : d = 0
      · have hq : (d != 0) = false := by simpa using h
        have HH := Lib.hid h
        clear h e
        go_wp2
        go_round
        case rel => exact .inr (.inr (.inr (.inr ⟨rfl, HA.out.1, HA.out.2.1, HA.out.2.2, HH.out⟩)))
        case measure => simp [intOf]
      · have hq : (d != 0) = true := by simpa using h
        have HE := Lib.hid e
        clear h e
        go_wp2
        go_ret
        exact ⟨by rw [HE.out]; rfl, rfl⟩
    · have e : R = 0 := by rw [HR.out]; simp [or4, ha, hb, hc, hd]
      have HE := Lib.hid e
      clear ha hb hc hd e
      go_wp2
      go_ret
      exact ⟨by rw [HE.out]; rfl, rfl⟩
end Go.Proofs.YtcdlplbccblbaaaGreat

namespace Go.Proofs.YtcdlplbccblbaaaGreat
open Go.RowKit Go.Shelf
set_option linter.unusedVariables false
attribute [local go_sem ↓] Go.wp_at_zero Go.wp_at_succ

/-- How two names stand. -/
def cmpN (a b : Nm) : Int := or4 (cI a.kind b.kind) (cI a.of_ b.of_) (cI a.page b.page) (cI a.slot b.slot)
def Grows (w w' : World) : Prop := ∃ q os, w' = Sort.grow (w.drewN q) os
theorem Grows.refl (w : World) : Grows w w := ⟨0, #[], by rw [Sort.grow_empty]; rfl⟩
theorem Grows.alloc {w w' : World} (h : Grows w w') (o : Obj) : Grows w (w'.alloc o) := by
  obtain ⟨q, os, rfl⟩ := h
  exact ⟨q, os ++ #[o], by rw [Sort.alloc_eq_grow, Sort.grow_grow]⟩
theorem Grows.drewN {w w' : World} (h : Grows w w') (n : Nat) : Grows w (w'.drewN n) := by
  obtain ⟨q, os, rfl⟩ := h
  exact ⟨q + n, os, by rw [← World.drewN_drewN]; rfl⟩
theorem Grows.drew {w w' : World} (h : Grows w w') : Grows w w'.drew := h.drewN 1
theorem Grows.below {w w' : World} (h : Grows w w') : Below w.heap.size w w' := by
  obtain ⟨q, os, rfl⟩ := h
  exact ⟨rfl, rfl, rfl, by show w.heap.size ≤ (w.heap ++ os).size; rw [Array.size_append]; omega, fun i hi => by
    show (w.heap ++ os)[i]? = w.heap[i]?
    exact Array.getElem?_append_left hi⟩

set_option maxRecDepth 100000 in
set_option maxHeartbeats 1600000 in
theorem less_any (a b : Nm) (w : World) : Calls Tryz.prog 58 #[nv a, nv b] w fun e w' => e = .returned (.int .i64 (cmpN a b)) ∧ Grows w w' := by
  obtain ⟨k, o, p, s⟩ := a
  obtain ⟨k', o', p', s'⟩ := b
  unfold cmpN
  simp only [nv]
  go_enter Tryz.func58, Tryz.ntmps58
  go_wp2_with fail
  obtain ⟨W, hW⟩ : ∃ W, W = (w.alloc (.cells #[.int .i64 k, .int .i64 o, .int .u32 p, .int .i64 s] 46)).alloc (.cells #[.int .i64 k', .int .i64 o', .int .u32 p', .int .i64 s'] 46) := ⟨_, rfl⟩
  have hG : Grows w W := by rw [hW]; exact ((Grows.refl w).alloc _).alloc _
  have b1 : W.heap[w.heap.size]? = some (.cells #[.int .i64 k, .int .i64 o, .int .u32 p, .int .i64 s] 46 (0, 0)) := by
    rw [hW]; exact (Below.heap_alloc _ _ _ (by simp)).trans (heap_alloc_new w _)
  have b2 : W.heap[w.heap.size + 1]? = some (.cells #[.int .i64 k', .int .i64 o', .int .u32 p', .int .i64 s'] 46 (0, 0)) := by
    rw [hW]
    have := heap_alloc_new (w.alloc (.cells #[.int .i64 k, .int .i64 o, .int .u32 p, .int .i64 s] 46)) (.cells #[.int .i64 k', .int .i64 o', .int .u32 p', .int .i64 s'] 46)
    rwa [World.size_alloc] at this
  have x0 := cell_of_row W w.heap.size 0 _ _ (0, 0) b1
  have x1 := cell_of_row W w.heap.size 1 _ _ (0, 0) b1
  have x2 := cell_of_row W w.heap.size 2 _ _ (0, 0) b1
  have x3 := cell_of_row W w.heap.size 3 _ _ (0, 0) b1
  have y0 := cell_of_row W (w.heap.size + 1) 0 _ _ (0, 0) b2
  have y1 := cell_of_row W (w.heap.size + 1) 1 _ _ (0, 0) b2
  have y2 := cell_of_row W (w.heap.size + 1) 2 _ _ (0, 0) b2
  have y3 := cell_of_row W (w.heap.size + 1) 3 _ _ (0, 0) b2
  change W.cell? _ = some (.int .i64 k) at x0
  change W.cell? _ = some (.int .i64 o) at x1
  change W.cell? _ = some (.int .u32 p) at x2
  change W.cell? _ = some (.int .i64 s) at x3
  change W.cell? _ = some (.int .i64 k') at y0
  change W.cell? _ = some (.int .i64 o') at y1
  change W.cell? _ = some (.int .u32 p') at y2
  change W.cell? _ = some (.int .i64 s') at y3
  rw [← hW]
  clear hW b1 b2
  go_region_held3 (fun w' => w'.cell? ⟨w.heap.size, 0, none⟩ = some (.int .i64 k) ∧ w'.cell? ⟨w.heap.size, 1, none⟩ = some (.int .i64 o) ∧ w'.cell? ⟨w.heap.size, 2, none⟩ = some (.int .u32 p) ∧ w'.cell? ⟨w.heap.size, 3, none⟩ = some (.int .i64 s) ∧
      w'.cell? ⟨w.heap.size + 1, 0, none⟩ = some (.int .i64 k') ∧ w'.cell? ⟨w.heap.size + 1, 1, none⟩ = some (.int .i64 o') ∧ w'.cell? ⟨w.heap.size + 1, 2, none⟩ = some (.int .u32 p') ∧ w'.cell? ⟨w.heap.size + 1, 3, none⟩ = some (.int .i64 s')) (go_keep)
    (first | (go_at_call 72; refine (cmpI_any _ _ _).mono ?_; rintro e w' ⟨rfl, rfl⟩) | (go_at_call 73; refine (cmpP_any _ _ _).mono ?_; rintro e w' ⟨rfl, rfl⟩) | (go_at_call 71; refine (or_any _ _ _ _ _ _ (by exact heap_alloc_new W _)).mono ?_; rintro e w' ⟨rfl, rfl⟩))
  all_goals go_wp2
  all_goals go_ret
  all_goals exact ⟨rfl, (hG.alloc _).drew⟩

theorem cI_neg {x y : Int} : cI x y < 0 ↔ x < y := by
  unfold cI
  split
  · simp [*]
  · split
    · simp; omega
    · simp; omega
theorem cI_zero {x y : Int} : cI x y = 0 ↔ x = y := by
  unfold cI
  split
  · simp; omega
  · split
    · simp; omega
    · simp; omega
/-- Which name stands ahead. -/
def ltN (a b : Nm) : Bool := decide (a.kind < b.kind ∨ (a.kind = b.kind ∧ (a.of_ < b.of_ ∨ (a.of_ = b.of_ ∧ (a.page < b.page ∨ (a.page = b.page ∧ a.slot < b.slot))))))
theorem cmpN_neg (a b : Nm) : decide (cmpN a b < 0) = ltN a b := by
  unfold ltN
  rw [decide_eq_decide]
  unfold cmpN or4
  have h0 := @cI_zero a.kind b.kind
  have h1 := @cI_zero a.of_ b.of_
  have h2 := @cI_zero a.page b.page
  have g0 := @cI_neg a.kind b.kind
  have g1 := @cI_neg a.of_ b.of_
  have g2 := @cI_neg a.page b.page
  have g3 := @cI_neg a.slot b.slot
  generalize cI a.kind b.kind = c0 at *
  generalize cI a.of_ b.of_ = c1 at *
  generalize cI a.page b.page = c2 at *
  generalize cI a.slot b.slot = c3 at *
  by_cases e0 : c0 = 0
  · rw [if_neg (by simpa using e0)]
    by_cases e1 : c1 = 0
    · rw [if_neg (by simpa using e1)]
      by_cases e2 : c2 = 0
      · rw [if_neg (by simpa using e2)]
        omega
      · rw [if_pos e2]
        omega
    · rw [if_pos e1]
      omega
  · rw [if_pos e0]
    omega
theorem ltN_irrefl (a : Nm) : ltN a a = false := by unfold ltN; simp
theorem ltN_trans {a b c : Nm} (h : ltN a b = true) (k : ltN b c = true) : ltN a c = true := by
  unfold ltN at *
  simp only [decide_eq_true_eq] at *
  omega
theorem ltN_ntrans {a b c : Nm} (h : ltN a b = false) (k : ltN b c = false) : ltN a c = false := by
  unfold ltN at *
  simp only [decide_eq_false_iff_not] at *
  omega
theorem ltN_total {a b : Nm} (h : ltN a b = false) (k : ltN b a = false) : a = b := by
  unfold ltN at *
  simp only [decide_eq_false_iff_not] at *
  obtain ⟨k1, o1, p1, s1⟩ := a
  obtain ⟨k2, o2, p2, s2⟩ := b
  simp only at h k
  simp only [Nm.mk.injEq]
  omega
end Go.Proofs.YtcdlplbccblbaaaGreat
