import Derived.Test.YtogeojiaiilghaaGreatSa
import Derived.Test.YtogeojiaiilghaaGreatSn
import Derived.Test.YtogeojiaiilghaaGreatV6
import Derived.Test.YtogeojiaiilghaaGreatV7
namespace Go.Proofs.YtogeojiaiilghaaGreat
open Go.RowKit
set_option linter.unusedVariables false

set_option maxRecDepth 100000 in
set_option maxHeartbeats 2000000 in
theorem stepnil_any (w : World) (c0 c1 c2 c3 c4 c5 c6 c7 c8 c9 c10 c11 c12 c13 : Value) (h1 : ∀ u ∈ [c0, c1, c2, c3, c4, c5, c6, c7, c8, c9, c10, c11, c12, c13], u.oneCell' = true) :
    Calls Tryz.prog 3 #[.agg #[c0, c1, c2, c3, c4, c5, c6, c7, c8, c9, c10, c11, c12, c13]] w fun e w' => e = .returned (.bool true) ∧ Below w.heap.size w w' := by
  obtain ⟨W, hW⟩ : ∃ W, W = w.alloc (.cells #[c0, c1, c2, c3, c4, c5, c6, c7, c8, c9, c10, c11, c12, c13] 29) := ⟨_, rfl⟩
  have hBW : Below w.heap.size w W := by rw [hW]; exact (Below.refl _ _).alloc (Nat.le_refl _) _
  have hb : W.heap[w.heap.size]? = some (.cells #[c0, c1, c2, c3, c4, c5, c6, c7, c8, c9, c10, c11, c12, c13] 29 (0, 0)) := by rw [hW]; exact heap_alloc_new w _
  have hlt : w.heap.size < W.heap.size := (Array.getElem?_eq_some_iff.1 hb).1
  have HB : Hid (∀ w', Below W.heap.size W w' → w'.heap[w.heap.size]? = some (.cells #[c0, c1, c2, c3, c4, c5, c6, c7, c8, c9, c10, c11, c12, c13] 29 (0, 0)) ∧ Below w.heap.size w w') := Lib.hid (fun w' hb' => ⟨(hb'.block _ hlt).trans hb, hBW.trans (hb'.mono hBW.size)⟩)
  have H1 := Lib.hid h1
  clear h1 hb hBW hlt
  go_enter Tryz.func3, Tryz.ntmps3
  go_wp2_with fail
  rw [← hW]
  clear hW
  refine (Go.Ev.begun_any W).mono ?_
  rintro e w1 ⟨⟨gb, go, rfl⟩, hB1⟩
  go_wp2_with fail
  refine (Go.Ev.step_nil gb go w1).mono ?_
  rintro e w2 ⟨rfl, hB2⟩
  have HB2 : Hid (Below W.heap.size W w2) := Lib.hid (hB1.trans (hB2.mono hB1.size))
  clear hB1 hB2
  have hk2 := (HB.out w2 HB2.out).1
  have z0 := cell_of_row w2 w.heap.size 0 _ _ (0, 0) hk2
  have z1 := cell_of_row w2 w.heap.size 1 _ _ (0, 0) hk2
  have z2 := cell_of_row w2 w.heap.size 2 _ _ (0, 0) hk2
  have z3 := cell_of_row w2 w.heap.size 3 _ _ (0, 0) hk2
  have z4 := cell_of_row w2 w.heap.size 4 _ _ (0, 0) hk2
  have z5 := cell_of_row w2 w.heap.size 5 _ _ (0, 0) hk2
  have z6 := cell_of_row w2 w.heap.size 6 _ _ (0, 0) hk2
  have z7 := cell_of_row w2 w.heap.size 7 _ _ (0, 0) hk2
  have z8 := cell_of_row w2 w.heap.size 8 _ _ (0, 0) hk2
  have z9 := cell_of_row w2 w.heap.size 9 _ _ (0, 0) hk2
  have z10 := cell_of_row w2 w.heap.size 10 _ _ (0, 0) hk2
  have z11 := cell_of_row w2 w.heap.size 11 _ _ (0, 0) hk2
  have z12 := cell_of_row w2 w.heap.size 12 _ _ (0, 0) hk2
  have z13 := cell_of_row w2 w.heap.size 13 _ _ (0, 0) hk2
  clear hk2
  go_wp2_with fail
  refine (new_one (heap_alloc_new w2 _) rfl H1.out).mono ?_
  clear z0 z1 z2 z3 z4 z5 z6 z7 z8 z9 z10 z11 z12 z13
  rintro e w4 ⟨s4, sl4, mp4, rfl, hs4, hB4⟩
  have HB4 : Hid (Below W.heap.size W w4) := Lib.hid (HB2.out.trans ((((Below.refl w2.heap.size w2).alloc (Nat.le_refl _) _).trans (hB4.mono (by simp))).mono HB2.out.size))
  clear hB4
  go_wp2_with fail
  refine (Go.Ev.step_none s4 0 w4).mono ?_
  rintro e w5 ⟨rfl, hB5⟩
  have HB5 : Hid (Below W.heap.size W w5) := Lib.hid (HB4.out.trans (hB5.mono HB4.out.size))
  clear hB5
  go_wp2_with fail
  refine (Go.Ev.kill_nil gb go w5).mono ?_
  rintro e w6 ⟨rfl, hB6⟩
  have HB6 : Hid (Below W.heap.size W w6) := Lib.hid (HB5.out.trans (hB6.mono HB5.out.size))
  clear hB6
  have hk2 := (HB.out w6 HB6.out).1
  have z0 := cell_of_row w6 w.heap.size 0 _ _ (0, 0) hk2
  have z1 := cell_of_row w6 w.heap.size 1 _ _ (0, 0) hk2
  have z2 := cell_of_row w6 w.heap.size 2 _ _ (0, 0) hk2
  have z3 := cell_of_row w6 w.heap.size 3 _ _ (0, 0) hk2
  have z4 := cell_of_row w6 w.heap.size 4 _ _ (0, 0) hk2
  have z5 := cell_of_row w6 w.heap.size 5 _ _ (0, 0) hk2
  have z6 := cell_of_row w6 w.heap.size 6 _ _ (0, 0) hk2
  have z7 := cell_of_row w6 w.heap.size 7 _ _ (0, 0) hk2
  have z8 := cell_of_row w6 w.heap.size 8 _ _ (0, 0) hk2
  have z9 := cell_of_row w6 w.heap.size 9 _ _ (0, 0) hk2
  have z10 := cell_of_row w6 w.heap.size 10 _ _ (0, 0) hk2
  have z11 := cell_of_row w6 w.heap.size 11 _ _ (0, 0) hk2
  have z12 := cell_of_row w6 w.heap.size 12 _ _ (0, 0) hk2
  have z13 := cell_of_row w6 w.heap.size 13 _ _ (0, 0) hk2
  clear hk2
  go_wp2_with fail
  refine (new_one (heap_alloc_new w6 _) rfl H1.out).mono ?_
  clear z0 z1 z2 z3 z4 z5 z6 z7 z8 z9 z10 z11 z12 z13
  rintro e w8 ⟨s8, sl8, mp8, rfl, hs8, hB8⟩
  have HB8 : Hid (Below W.heap.size W w8) := Lib.hid (HB6.out.trans ((((Below.refl w6.heap.size w6).alloc (Nat.le_refl _) _).trans (hB8.mono (by simp))).mono HB6.out.size))
  clear hB8
  have k2 := cell_of_row w8 s8 2 _ _ (0, 0) hs8
  change w8.cell? _ = some (.int .i64 0) at k2
  clear hs4 hs8
  go_wp2_with fail
  refine (kill_idle (gb := gb) (go_ := go) k2).mono ?_
  rintro e w9 ⟨rfl, hw9⟩
  subst hw9
  clear k2
  go_wp2_with fail
  refine (Go.Ev.lost_nil 0 0 _).mono ?_
  rintro e w10 ⟨rfl, hB10⟩
  have HB10 : Hid (Below W.heap.size W w10) := Lib.hid (HB8.out.trans (hB10.mono HB8.out.size))
  clear hB10
  go_wp2_with fail
  refine (Go.Ev.awake_any _).mono ?_
  rintro e w11 ⟨rfl, hB11⟩
  have HB11 : Hid (Below W.heap.size W w11) := Lib.hid (HB10.out.trans (hB11.mono HB10.out.size))
  clear hB11
  go_wp2_with fail
  refine (Go.Ev.ended_nil 0 0 _).mono ?_
  rintro e w12 ⟨rfl, hB12⟩
  have HB12 : Hid (Below W.heap.size W w12) := Lib.hid (HB11.out.trans (hB12.mono HB11.out.size))
  clear hB12
  go_wp2_with fail
  refine (Go.Ev.tx_nil 0 0 _).mono ?_
  rintro e w13 ⟨rfl, hB13⟩
  have HB13 : Hid (Below W.heap.size W w13) := Lib.hid (HB12.out.trans (hB13.mono HB12.out.size))
  clear hB13
  go_wp2_with fail
  refine (Go.Ev.at_nil 0 0 _).mono ?_
  rintro e w14 ⟨rfl, hB14⟩
  have HB14 : Hid (Below W.heap.size W w14) := Lib.hid (HB13.out.trans (hB14.mono HB13.out.size))
  clear hB14
  go_wp2_with fail
  refine (Go.Ev.did_nil 0 0 _).mono ?_
  rintro e w15 ⟨rfl, hB15⟩
  have HB15 : Hid (Below W.heap.size W w15) := Lib.hid (HB14.out.trans (hB15.mono HB14.out.size))
  clear hB15
  go_wp2_with fail
  refine (Go.Ev.waits_nil gb go _).mono ?_
  rintro e w16 ⟨rfl, hB16⟩
  have HB16 : Hid (Below W.heap.size W w16) := Lib.hid (HB15.out.trans (hB16.mono HB15.out.size))
  clear hB16
  go_wp2_with fail
  refine (Go.Ev.ends_any _).mono ?_
  rintro e w17 ⟨p, rfl, hcall⟩
  go_wp2_with fail
  refine hcall.mono ?_
  rintro e w18 ⟨rfl, hB18⟩
  go_wp2_with fail
  go_ret
  exact ⟨rfl, (HB.out _ (HB16.out.trans (hB18.mono HB16.out.size))).2⟩
end Go.Proofs.YtogeojiaiilghaaGreat
