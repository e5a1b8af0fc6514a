import Derived.Test.YtjonmcbglcidhaaGreatHb
import Derived.Deep.Cut
namespace Go.Proofs.YtjonmcbglcidhaaGreat
open Go.RowKit
set_option linter.unusedVariables false

/-! ### Rows of values against one another -/
def cmpL : List V → List V → Int
  | [], [] => 0
  | [], _ :: _ => -1
  | _ :: _, [] => 1
  | a :: l, b :: m => if cmpV a b ≠ 0 then cmpV a b else cmpL l m
theorem At1.read {w w' : World} {A : Option Addr} {k : Nat} {v : V} {ad : Addr} (h : At1 w A k v ad) (hb : Below w.heap.size w w') : At1 w' A k v ad := h.below hb

set_option maxRecDepth 100000 in
set_option maxHeartbeats 2000000 in
theorem compareFunc_any (A1 A2 : Option Addr) (c1 c2 : Nat) (l1 l2 : List V) (w : World) (h1 : VAt w A1 l1) (h2 : VAt w A2 l2) (n1 : l1.length ≤ 9223372036854775807) (n2 : l2.length ≤ 9223372036854775807) :
    Calls Tryz.prog 47 #[.slice A1 l1.length c1, .slice A2 l2.length c2, .func (.func 48) #[] #[]] w fun e w' => e = .returned (.int .i64 (cmpL l1 l2)) ∧ Grows w w' := by
  obtain ⟨R, hR⟩ : ∃ R, R = cmpL l1 l2 := ⟨_, rfl⟩
  rw [← hR]
  have HR := Lib.hid hR
  clear hR
  go_enter Tryz.func47, Tryz.ntmps47
  go_wp2_with fail
  go_loopw [13] (fun j wr => ∃ i : Nat, i ≤ l1.length ∧ i ≤ l2.length ∧ j = .int .i64 i ∧ Hid (R = cmpL (l1.drop i) (l2.drop i)) ∧ Grows w wr) (fun j _ => l1.length - (intOf j).toNat)
  case atStart => exact ⟨0, by omega, by omega, rfl, Lib.hid (by simpa using HR.out), Grows.refl w⟩
  case round =>
    obtain ⟨i, hi1, hi2, rfl, HI, hG⟩ := hrel
    have hB := hG.below
    by_cases hlt1 : i < l1.length
    · obtain ⟨a1, ha1⟩ := h1 i hlt1
      obtain ⟨rfl, hal1, p0, p1, p2⟩ := ha1.read hB
      obtain ⟨x, hx⟩ : ∃ x, x = l1[i] := ⟨_, rfl⟩
      rw [← hx] at p0 p1 p2
      have hd1 : Hid (l1.drop i = x :: l1.drop (i + 1)) := Lib.hid (by rw [List.drop_eq_getElem_cons hlt1, ← hx])
      clear hx ha1
      obtain ⟨xk, xn, xs⟩ := x
      simp only at p0 p1 p2
      obtain ⟨wa, hwa⟩ : ∃ wa, wa = wr.alloc (.cells #[.int .i64 xk, .int .i64 xn, .string xs] 26) := ⟨_, rfl⟩
      have hGa : Grows w wa := by rw [hwa]; exact hG.alloc _
      have e1 : wa.heap[wr.heap.size]? = some (.cells #[.int .i64 xk, .int .i64 xn, .string xs] 26 (0, 0)) := by rw [hwa]; exact heap_alloc_new wr _
      by_cases hlt2 : i < l2.length
      · obtain ⟨a2, ha2⟩ := h2 i hlt2
        obtain ⟨rfl, hal2, q0, q1, q2⟩ := ha2.read hGa.below
        obtain ⟨y, hy⟩ : ∃ y, y = l2[i] := ⟨_, rfl⟩
        rw [← hy] at q0 q1 q2
        have hd2 : Hid (l2.drop i = y :: l2.drop (i + 1)) := Lib.hid (by rw [List.drop_eq_getElem_cons hlt2, ← hy])
        clear hy ha2
        obtain ⟨yk, yn, ys⟩ := y
        simp only at q0 q1 q2
        have HI2 : Hid (R = if cmpV ⟨xk, xn, xs⟩ ⟨yk, yn, ys⟩ ≠ 0 then cmpV ⟨xk, xn, xs⟩ ⟨yk, yn, ys⟩ else cmpL (l1.drop (i + 1)) (l2.drop (i + 1))) := Lib.hid (by rw [HI.out, hd1.out, hd2.out]; rfl)
        obtain ⟨wb, hwb⟩ : ∃ wb, wb = wa.alloc (.cells #[.int .i64 yk, .int .i64 yn, .string ys] 26) := ⟨_, rfl⟩
        have hGb : Grows w wb := by rw [hwb]; exact hGa.alloc _
        have e2 : wb.heap[wa.heap.size]? = some (.cells #[.int .i64 yk, .int .i64 yn, .string ys] 26 (0, 0)) := by rw [hwb]; exact heap_alloc_new wa _
        have e3 : wb.heap[wr.heap.size]? = some (.cells #[.int .i64 xk, .int .i64 xn, .string xs] 26 (0, 0)) := by
          rw [hwb]; exact (Below.heap_alloc _ _ _ (by rw [hwa]; simp)).trans e1
        obtain ⟨c, hc⟩ : ∃ c, c = cmpV ⟨xk, xn, xs⟩ ⟨yk, yn, ys⟩ := ⟨_, rfl⟩
        have hcon := compare1_any xk xn xs yk yn ys
        rw [← hc] at hcon HI2
        have HWA := Lib.hid hwa
        have HWB := Lib.hid hwb
        clear hc hwa hwb e1
        go_upto_region 6 with fail
        rw [← HWA.out]
        go_upto_region 7 with fail
        rw [← HWB.out]
        have r0 := cell_of_row wb wr.heap.size 0 _ _ (0, 0) e3
        have r1 := cell_of_row wb wr.heap.size 1 _ _ (0, 0) e3
        have r2 := cell_of_row wb wr.heap.size 2 _ _ (0, 0) e3
        have t0 := cell_of_row wb wa.heap.size 0 _ _ (0, 0) e2
        have t1 := cell_of_row wb wa.heap.size 1 _ _ (0, 0) e2
        have t2 := cell_of_row wb wa.heap.size 2 _ _ (0, 0) e2
        change wb.cell? _ = some (.int .i64 xk) at r0
        change wb.cell? _ = some (.int .i64 xn) at r1
        change wb.cell? _ = some (.string xs) at r2
        change wb.cell? _ = some (.int .i64 yk) at t0
        change wb.cell? _ = some (.int .i64 yn) at t1
        change wb.cell? _ = some (.string ys) at t2
        have hcw := hcon wb
        clear hcon e2 e3 p0 p1 p2 q0 q1 q2
        go_wp2_with fail
        refine hcw.mono ?_
        rintro e wc ⟨rfl, hGc⟩
        have hGw := hGb.trans hGc
        clear hcw r0 r1 r2 t0 t1 t2
        by_cases hc0 : c = 0
        · have hcb : (c != 0) = false := by simpa using hc0
          have HI3 : Hid (R = cmpL (l1.drop (i + 1)) (l2.drop (i + 1))) := Lib.hid (by rw [HI2.out, if_neg (by simpa using hc0)])
          clear hc0
          go_wp2_with fail
          go_roundw
          case rel => exact ⟨i + 1, by omega, by omega, by go_num, HI3, hGw⟩
          case measure => simp [intOf]; omega
        · have hcb : (c != 0) = true := by simpa using hc0
          have HI3 : Hid (R = c) := Lib.hid (by rw [HI2.out, if_pos hc0])
          clear hc0
          go_wp2_with fail
          go_ret
          exact ⟨ret_int HI3.out.symm, hGw⟩
      · have hi2' : i = l2.length := by omega
        have HI3 : Hid (R = 1) := Lib.hid (by rw [HI.out, hd1.out, hi2', List.drop_length]; rfl)
        clear hi2'
        have HWA := Lib.hid hwa
        clear hwa e1
        go_wp2_with fail
        go_ret
        rw [HI3.out]
        exact ⟨rfl, hG.alloc _⟩
    · have hi1' : i = l1.length := by omega
      by_cases hlt2 : l1.length < l2.length
      · have HI3 : Hid (R = -1) := Lib.hid (by
          rw [HI.out, hi1', List.drop_length]
          cases hl : l2.drop l1.length with
          | nil => have := congrArg List.length hl; simp at this; omega
          | cons a b => rfl)
        clear hi1'
        go_wp2_with fail
        go_ret
        rw [HI3.out]
        exact ⟨rfl, hG⟩
      · have HI3 : Hid (R = 0) := Lib.hid (by
          rw [HI.out, hi1', List.drop_length, List.drop_eq_nil_of_le (by omega)]
          rfl)
        clear hi1'
        go_wp2_with fail
        go_ret
        rw [HI3.out]
        exact ⟨rfl, hG⟩
theorem compare_any (A1 A2 : Option Addr) (c1 c2 : Nat) (l1 l2 : List V) (w : World) (h1 : VAt w A1 l1) (h2 : VAt w A2 l2) (n1 : l1.length ≤ 9223372036854775807) (n2 : l2.length ≤ 9223372036854775807) :
    Calls Tryz.prog 19 #[.slice A1 l1.length c1, .slice A2 l2.length c2] w fun e w' => e = .returned (.int .i64 (cmpL l1 l2)) ∧ Grows w w' := by
  have hcon := compareFunc_any A1 A2 c1 c2 l1 l2 w h1 h2 n1 n2
  go_enter Tryz.func19, Tryz.ntmps19
  go_wp2_with fail
  refine hcon.mono ?_
  rintro e w' ⟨rfl, hG⟩
  go_wp2_with fail
  go_ret
  exact ⟨rfl, hG⟩
end Go.Proofs.YtjonmcbglcidhaaGreat
