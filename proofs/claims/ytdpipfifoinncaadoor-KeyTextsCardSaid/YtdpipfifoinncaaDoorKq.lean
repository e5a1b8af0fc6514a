import Derived.Test.YtdpipfifoinncaaDoorKm
import Derived.Test.YtdpipfifoinncaaDoorKo
import Derived.Test.YtdpipfifoinncaaDoorKp
namespace Go.Proofs.YtdpipfifoinncaaDoor
open Go.RowKit
set_option linter.unusedVariables false

def l0 : List V := [⟨1, -1, ⟨#[]⟩⟩, ⟨2, 0, ⟨#[97, 98]⟩⟩]
theorem l0_row : (rowE l0).2 = 0 := by decide +kernel
theorem l0_vals : valsE (bs (rowE l0).1) = (l0, 0) := vals_row l0 l0_row (by intro v hv; simp [l0] at hv; rcases hv with rfl | rfl <;> simp)
theorem VOwn.row {w : World} {t : TypeId} {B : Nat} {v : Value} {l : List V} (h : VOwn w t B v l) (hl : 0 < l.length) : ∃ g c, v = .slice (some ⟨g, 0, none⟩) l.length c ∧ g < w.heap.size ∧ ∀ j, j < l.length * 3 → w.cell? ⟨g, j, none⟩ = (l.flatMap vcells)[j]? := by
  have h' := h
  obtain ⟨h1, ⟨h2, h0⟩ | ⟨g, cap, cur, rfl, hB, hh, r⟩⟩ := h
  · omega
  · exact ⟨g, cap, rfl, lt_of_block hh, fun j hj => World.ownsRow.cellAt h' j hj⟩

set_option maxRecDepth 100000 in
theorem awake_any (w : World) : Calls Tryd.prog 9 #[] w fun e w' => e = .returned (.bool true) ∧ Below w.heap.size w w' := by
  have q1 : ∀ w, (binOp .eql 23 (.agg #[.int .i64 1, .int .i64 (-1), .string ⟨#[]⟩]) (.agg #[.int .i64 1, .int .i64 (-1), .string ⟨#[]⟩])).run Tryd.prog w = .ok (.bool true) w := fun w => by kernel_rfl
  have q2 : ∀ w, (binOp .eql 23 (.agg #[.int .i64 2, .int .i64 0, .string ⟨#[97, 98]⟩]) (.agg #[.int .i64 2, .int .i64 0, .string ⟨#[97, 98]⟩])).run Tryd.prog w = .ok (.bool true) w := fun w => by kernel_rfl
  obtain ⟨S, hS⟩ : ∃ S, S = bs (rowE l0).1 := ⟨_, rfl⟩
  have hSz : S.size ≤ 100 := by rw [hS]; decide +kernel
  have hv := l0_vals
  rw [← hS] at hv
  have hR : ∀ W c, VAt W (some ⟨w.heap.size, 0, none⟩) l0 → Calls Tryd.prog 17 #[.slice (some ⟨w.heap.size, 0, none⟩) 2 c] W fun e w' => e = .returned (.tuple #[.string S, .int .i64 0]) ∧ Below W.heap.size W w' := fun W c h => by
    have := Row_any (cap := c) (l := l0) (by decide) h
    rw [← hS, l0_row] at this
    exact this
  have hV : ∀ W, Calls Tryd.prog 18 #[.string S] W fun e w' => ∃ v, e = .returned (.tuple #[v, .int .i64 0]) ∧ VOwn w' 23 W.heap.size v l0 ∧ Below W.heap.size W w' := fun W => by
    have := Values_any S W (by omega)
    rw [hv] at this
    exact this
  have HR := Lib.hid hR
  have HV := Lib.hid hV
  clear hR hV hv hS hSz
  go_enter Tryd.func9, Tryd.ntmps9
  go_wp2_with fail
  have hO : VOwn (w.alloc (.cells #[.int .i64 1, .int .i64 (-1), .string ⟨#[]⟩, .int .i64 2, .int .i64 0, .string ⟨#[97, 98]⟩] 23)) 23 w.heap.size (.slice (some ⟨w.heap.size, 0, none⟩) 2 2) l0 :=
    World.ownsRow_lit (base := w.heap.size) (e := 23) (size := 3) w #[.int .i64 1, .int .i64 (-1), .string ⟨#[]⟩, .int .i64 2, .int .i64 0, .string ⟨#[97, 98]⟩] 2 (Nat.le_refl _) (by decide) rfl
  refine (HR.out _ _ hO.at_).mono ?_
  rintro r w1 ⟨rfl, hB1⟩
  have hO1 := hO.below hB1
  have hB01 : Below w.heap.size w w1 := ((Below.refl _ _).alloc (Nat.le_refl _) _).trans (hB1.mono (by simp))
  go_wp2_with fail
  refine (HV.out _).mono ?_
  rintro r w2 ⟨v, rfl, hO2, hB2⟩
  have hO12 := hO1.below hB2
  have hB02 := hB01.trans (hB2.mono hB01.size)
  obtain ⟨g, c, hv0, hg, hc⟩ := hO2.row (by decide)
  rw [show l0.length = 2 from rfl] at hv0
  subst hv0
  obtain ⟨g', c', he, hg', hc'⟩ := hO12.row (by decide)
  simp only [Value.slice.injEq, Option.some.injEq, Addr.mk.injEq, and_true] at he
  obtain ⟨rfl, -, -⟩ := he
  have m0 := hc 0 (by decide)
  have m1 := hc 1 (by decide)
  have m2 := hc 2 (by decide)
  have m3 := hc 3 (by decide)
  have m4 := hc 4 (by decide)
  have m5 := hc 5 (by decide)
  have k0 := hc' 0 (by decide)
  have k1 := hc' 1 (by decide)
  have k2 := hc' 2 (by decide)
  have k3 := hc' 3 (by decide)
  have k4 := hc' 4 (by decide)
  have k5 := hc' 5 (by decide)
  simp only [l0, List.flatMap_cons, List.flatMap_nil, vcells, List.cons_append, List.nil_append] at m0 m1 m2 m3 m4 m5 k0 k1 k2 k3 k4 k5
  change w2.cell? _ = some _ at m0 m1 m2 m3 m4 m5 k0 k1 k2 k3 k4 k5
  clear hc hc' hO2 hO12 hO1 hO
  go_wp2_with fail
  go_quiet (fail)
  go_wp2
  go_ret
  exact ⟨rfl, below_drewN hB02 _⟩
end Go.Proofs.YtdpipfifoinncaaDoor
