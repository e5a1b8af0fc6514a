import Derived.Test.YtjonmcbglcidhaaGreatHh
import Derived.Deep.RegionHeld3
namespace Go.Proofs.YtjonmcbglcidhaaGreat
open Go.RowKit
set_option linter.unusedVariables false
attribute [local go_sem ↓] Go.wp_at_zero Go.wp_at_succ

theorem ROwn.own {w : World} {base : Nat} {v : Value} {R : List RH} (h : ROwn w base v R) {k : Nat} (hk : some k = v.ownBlock) : base ≤ k ∧ k < w.heap.size := by
  rcases h.2 with ⟨rfl, _⟩ | ⟨g, cap, cur, rfl, hg, hb, _⟩
  · simp [Value.ownBlock] at hk
  · obtain rfl : k = g := by simpa [Value.ownBlock] using hk
    exact ⟨hg, (Array.getElem?_eq_some_iff.1 hb).1⟩
theorem RB.mono {B B' : Nat} {w : World} {r : RH} (h : RB B w r) (hB : B ≤ B') : RB B' w r := ⟨h.1, fun hl ad e => Nat.lt_of_lt_of_le (h.2.1 hl ad e) hB, h.2.2⟩
theorem RB.below {B : Nat} {w w' : World} {r : RH} (h : RB B w r) (hb : Below w.heap.size w w') : RB B w' r := h.kept hb.size (fun k _ hk => hb.block k hk)
set_option maxRecDepth 100000 in
set_option maxHeartbeats 2000000 in
/-- The same rows, in whatever order. -/
theorem same_true {n : Int} {v1 v2 : Value} {R1 R2 : List RH} {w : World} (h1 : RRead w v1 R1) (h2 : RRead w v2 R2) (c1 : ∀ r ∈ R1, RB w.heap.size w r) (c2 : ∀ r ∈ R2, RB w.heap.size w r) (hp : (R1.map (·.l)).Perm (R2.map (·.l)))
    (hb : R1.length * 24 ≤ 140737488355328) :
    Calls Tryz.prog 7 #[.agg #[.int .i64 n, v1], .agg #[.int .i64 n, v2]] w fun e w' => e = .returned (.bool true) ∧ Below w.heap.size w w' := by
  have hlen : R1.length = R2.length := by simpa using hp.length_eq
  obtain ⟨W, hW⟩ : ∃ W, W = (w.alloc (.cells #[.int .i64 n, v1] 30)).alloc (.cells #[.int .i64 n, v2] 30) := ⟨_, rfl⟩
  have hBW : Below w.heap.size w W := by rw [hW]; exact ((Below.refl _ _).alloc (Nat.le_refl _) _).alloc (by simp) _
  have b1 : W.heap[w.heap.size]? = some (.cells #[.int .i64 n, v1] 30 (0, 0)) := by
    rw [hW]; exact (Below.heap_alloc _ _ _ (by simp)).trans (heap_alloc_new w _)
  have b2 : W.heap[w.heap.size + 1]? = some (.cells #[.int .i64 n, v2] 30 (0, 0)) := by
    rw [hW]
    have := heap_alloc_new (w.alloc (.cells #[.int .i64 n, v1] 30)) (.cells #[.int .i64 n, v2] 30)
    rwa [World.size_alloc] at this
  have x0 := cell_of_row W w.heap.size 0 _ _ (0, 0) b1
  have x1 := cell_of_row W w.heap.size 1 _ _ (0, 0) b1
  have y0 := cell_of_row W (w.heap.size + 1) 0 _ _ (0, 0) b2
  have y1 := cell_of_row W (w.heap.size + 1) 1 _ _ (0, 0) b2
  change W.cell? _ = some (.int .i64 n) at x0
  change W.cell? _ = some v1 at x1
  change W.cell? _ = some (.int .i64 n) at y0
  change W.cell? _ = some v2 at y1
  obtain ⟨A1, k1, hv1, hk1, hr1⟩ := id h1
  obtain ⟨A2, k2, hv2, hk2, hr2⟩ := id h2
  subst hv1 hv2
  rw [← hlen] at y1 b2 hW h2 ⊢
  have hnb : (n != n) = false := by simp
  have hlb : ((R1.length : Int) != (R1.length : Int)) = false := by simp
  have hsz : W.heap.size = w.heap.size + 2 := by rw [hW]; simp
  have HSZ := Lib.hid hsz
  have HLEN := Lib.hid hlen
  have hd1 := (h1.below hBW).below (Below.refl W.heap.size W).drew
  have hd2 := (h2.below hBW).below (Below.refl W.heap.size W).drew
  have hb2 : R2.length * 24 ≤ 140737488355328 := by rw [← hlen]; exact hb
  have hc1 : ∀ r ∈ R1, RB W.heap.size W r := fun r hr => ((c1 r hr).below hBW).mono hBW.size
  have hc2 : ∀ r ∈ R2, RB W.heap.size W r := fun r hr => ((c2 r hr).below hBW).mono hBW.size
  have HC1 := Lib.hid hc1
  have HC2 := Lib.hid hc2
  have HP := Lib.hid hp
  have hlx : w.heap.size < W.drew.heap.size := by show _ < W.heap.size; omega
  have hly : w.heap.size + 1 < W.drew.heap.size := by show _ < W.heap.size; omega
  have HD1 := Lib.hid hd1
  have HD2 : Hid (∀ w', Below W.drew.heap.size W.drew w' → RRead w' (.slice A2 R1.length k2) R2) := Lib.hid (fun w' hb' => hd2.below hb')
  have HK : Hid (∀ w8, Below W.drew.heap.size W.drew w8 → w8.cell? ⟨w.heap.size, 1, none⟩ = some (.slice A1 R1.length k1) ∧ w8.cell? ⟨w.heap.size + 1, 1, none⟩ = some (.slice A2 R1.length k2)) :=
    Lib.hid (fun w8 hb' => ⟨(hb'.cell (p := ⟨w.heap.size, 1, none⟩) hlx).trans x1, (hb'.cell (p := ⟨w.heap.size + 1, 1, none⟩) hly).trans y1⟩)
  clear h1 h2 hd1 hd2 hc1 hc2 hp hr1 hr2 c1 c2 hk1 hk2 b1 b2 hlen hsz
  go_enter Tryz.func7, Tryz.ntmps7
  go_wp2_with fail
  rw [← hW]
  clear hW
  go_region_held3 (fun w' => w'.cell? ⟨w.heap.size, 1, none⟩ = some (.slice A1 R1.length k1) ∧ w'.cell? ⟨w.heap.size + 1, 1, none⟩ = some (.slice A2 R1.length k2))
    (first
      | (go_split_ands; refine ⟨?_, ?_⟩ <;> go_keep)
      | exact HK.out _ (hB3.trans (hB4.mono hB3.size))
      | exact HK.out _ hB3)
    (first
      | (go_at_call 21; (with_reducible refine (cloneR_any HD1.out hb).mono ?_); rintro e w3 ⟨u1, rfl, hO1, hB3⟩)
      | (go_at_call 21; (with_reducible refine (cloneR_any (HD2.out _ hB3) hb2).mono ?_); rintro e w4 ⟨u2, rfl, hO2, hB4⟩))
  go_split_ands
  have hBd : Below w.heap.size w W.drew := hBW.drew
  have hs3 := hB3.size
  have hs4 := hB4.size
  have hBw3 : Below w.heap.size w w3 := hBd.trans (hB3.mono hBd.size)
  have hBw4 : Below w.heap.size w w4 := hBw3.trans (hB4.mono hBw3.size)
  have hr1 : ∀ r ∈ R1, RB W.heap.size w4 r := fun r hr => (((HC1.out r hr).below (Below.refl W.heap.size W).drew).below hB3).below hB4
  have hr2 : ∀ r ∈ R2, RB W.heap.size w4 r := fun r hr => (((HC2.out r hr).below (Below.refl W.heap.size W).drew).below hB3).below hB4
  have hO1' := hO1.below hB4
  have hos1 := fun k => hO1.own (k := k)
  have hos2 := fun k => hO2.own (k := k)
  have HOS1 := Lib.hid hos1
  have HOS2 := Lib.hid hos2
  have hn1 : R1.length < 4611686018427387904 := by omega
  have hn2 : R2.length < 4611686018427387904 := by omega
  have HR1 := Lib.hid hr1
  have HR2 := Lib.hid hr2
  clear hos1 hos2 hr1 hr2 x0 x1 y0 y1 HK HD1 HD2
  go_wp2_with fail
  refine (sortR_any hO1' (fun r hr => (HR1.out r hr)) hn1).mono ?_
  rintro e w5 ⟨S1, rfl, hp1, hst1, hP1, hsz5, ho5, ht5, hu5, hk5⟩
  have hlow5 : ∀ k, k < W.heap.size → k < w4.heap.size → w5.heap[k]? = w4.heap[k]? := fun k hk hk4 => hk5 k hk4 (fun e => by
    have h9 := (HOS1.out k e).1
    have h8 : W.drew.heap.size = W.heap.size := rfl
    omega)
  have hP2 : ROwn w5 w3.heap.size u2 R2 := hO2.kept fun k hk e => hk5 k hk (fun e2 => by
    have h9 := (HOS1.out k e2).2
    have h8 := (HOS2.out k e).1
    omega)
  have hw43 : W.heap.size ≤ w3.heap.size := hs3
  have hR2' : ∀ r ∈ R2, RB w3.heap.size w5 r := fun r hr => ((HR2.out r hr).kept hsz5 hlow5).mono hw43
  have HR2' := Lib.hid hR2'
  clear hR2'
  go_wp2_with fail
  refine (sortR_any hP2 (fun r hr => (HR2'.out r hr)) hn2).mono ?_
  rintro e w6 ⟨S2, rfl, hp2, hst2, hP3, hsz6, ho6, ht6, hu6, hk6⟩
  have hP4 : ROwn w6 W.drew.heap.size u1 S1 := hP1.kept fun k hk e => hk6 k hk (fun e2 => by
    have h9 := (HOS1.out k e).2
    have h8 := (HOS2.out k e2).1
    omega)
  have hlow6 : ∀ k, k < W.heap.size → k < w5.heap.size → w6.heap[k]? = w5.heap[k]? := fun k hk hk4 => hk6 k hk4 (fun e => by
    have h9 := (HOS2.out k e).1
    omega)
  have hc1 : ∀ r ∈ S1, VAt w6 r.A r.l ∧ r.l.length ≤ 9223372036854775807 := fun r hr => by
    have h1 := ((HR1.out r (hp1.mem_iff.1 hr)).kept hsz5 hlow5).kept hsz6 hlow6
    exact ⟨h1.1, h1.2.2⟩
  have hc2 : ∀ r ∈ S2, VAt w6 r.A r.l := fun r hr => by
    have h1 := ((HR2.out r (hp2.mem_iff.1 hr)).kept hsz5 hlow5).kept hsz6 hlow6
    exact h1.1
  have hee : S1.map (·.l) = S2.map (·.l) := by
    refine sorted_eq (((hp1.map _).trans HP.out).trans (hp2.map _).symm) ?_ ?_
    · rw [List.pairwise_map]; exact hst1
    · rw [List.pairwise_map]; exact hst2
  have hcon := equalFunc_any hP4.read hP3.read hc1 hc2 hee (by rw [hp1.length_eq]; omega)
  have hB46 : Below w.heap.size w4 w6 := ⟨ho6.trans ho5, ht6.trans ht5, hu6.trans hu5, by omega, fun k hk => by
    have h8 := hBw4.size
    have h7 := HSZ.out
    rw [hlow6 k (by omega) (by omega), hlow5 k (by omega) (by omega)]⟩
  have hBw6 := hBw4.trans hB46
  clear hc1 hc2 hee hlow5 hlow6
  go_wp2_with fail
  refine hcon.mono ?_
  rintro e w7 ⟨rfl, hB7⟩
  go_wp2_with fail
  go_ret
  exact ⟨rfl, hBw6.trans (hB7.mono hBw6.size)⟩
end Go.Proofs.YtjonmcbglcidhaaGreat
