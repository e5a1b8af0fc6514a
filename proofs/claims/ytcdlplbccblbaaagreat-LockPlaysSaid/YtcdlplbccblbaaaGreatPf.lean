import Derived.Test.YtcdlplbccblbaaaGreatPe
import Derived.BigQuiet
namespace Go.Proofs.YtcdlplbccblbaaaGreat
open Go.RowKit
set_option linter.unusedVariables false
set_option linter.unusedSimpArgs false

/-- What holds while the two tables are asked. -/
structure Sy (w : World) (B T QB WB i : Nat) (L : List (Nm × List Ak)) (W : List (Int × Nm)) (M : List (Nm × List Ak)) (v : Value) : Prop where
  ta : TA B w T QB WB L W
  rt : RT w v M
  st : St i L W M
  le : i ≤ 60
theorem Sy.below {w w' : World} {B T QB WB i : Nat} {L : List (Nm × List Ak)} {W : List (Int × Nm)} {M : List (Nm × List Ak)} {v : Value} (h : Sy w B T QB WB i L W M v) (hb : Below w.heap.size w w') : Sy w' B T QB WB i L W M v := ⟨h.ta.below hb, h.rt.below hb, h.st, h.le⟩

section
variable {w : World} {B T QB WB i : Nat} {L M : List (Nm × List Ak)} {W : List (Int × Nm)} {v : Value}
theorem Sy.for_ (h : Sy w B T QB WB i L W M v) (tx : Int) : Calls Tryz.prog 19 #[.pointer (some ⟨T, 0, none⟩), .int .i64 tx] w fun e w' =>
    e = .returned (.tuple #[.agg #[.int .i64 (wz W tx).kind, .int .i64 (wz W tx).of_, .int .u32 (wz W tx).page, .int .i64 (wz W tx).slot], .bool (wOf W tx).isSome]) ∧ Below w.heap.size w w' := by
  obtain ⟨R, ht, _⟩ := h.ta
  exact for_tab ht tx
theorem Sy.rfor (h : Sy w B T QB WB i L W M v) (tx : Int) : Calls Tryz.prog 20 #[v, .int .i64 tx] w fun e w' =>
    e = .returned (.tuple #[.agg #[.int .i64 (wz W tx).kind, .int .i64 (wz W tx).of_, .int .u32 (wz W tx).page, .int .i64 (wz W tx).slot], .bool (wOf W tx).isSome]) ∧ Below w.heap.size w w' := by
  have := rfor_m h.rt tx
  unfold forMZ at this
  rw [for_same h.st.eq h.st.ti] at this
  exact this
theorem Sy.waits_ (h : Sy w B T QB WB i L W M v) (tx : Int) : Calls Tryz.prog 9 #[.pointer (some ⟨T, 0, none⟩), .int .i64 tx] w fun e w' => e = .returned (.bool (wOf W tx).isSome) ∧ Below w.heap.size w w' := by
  obtain ⟨R, ht, _⟩ := h.ta
  exact waits_any ht tx
theorem ints_same {b1 b2 : Nat} {v1 v2 : Value} {l : List Int} (h1 : IO w b1 v1 l) (h2 : IO w b2 v2 l) : Calls Tryz.prog 13 #[v1, v2] w fun e w' => e = .returned (.bool true) ∧ Below w.heap.size w w' :=
  (ints_any h1 h2).mono fun e w' ⟨h, hb⟩ => ⟨by rw [h, decide_eq_true rfl], hb⟩
theorem Sy.bl (h : Sy w B T QB WB i L W M v) (tx : Int) : Calls Tryz.prog 21 #[.pointer (some ⟨T, 0, none⟩), .int .i64 tx] w fun e w' => ∃ v, e = .returned v ∧ IO w' w.heap.size v (blkL L W tx) ∧ Below w.heap.size w w' :=
  (blockers_ta h.ta h.st.ti (h.st.fit h.le) tx).mono fun e w' ⟨v, h1, h2, h3⟩ => ⟨v, h1, h2.1, h3⟩
theorem Sy.rbl (h : Sy w B T QB WB i L W M v) (tx : Int) : Calls Tryz.prog 22 #[v, .int .i64 tx] w fun e w' => ∃ v, e = .returned v ∧ IO w' w.heap.size v (blkL L W tx) ∧ Below w.heap.size w w' := by
  rw [← blk_same h.st.eq h.st.ti]
  exact rblockers_m h.rt (h.st.mb h.le) h.st.eq.srt.nodup tx
theorem Sy.cy (h : Sy w B T QB WB i L W M v) (tx : Int) : Calls Tryz.prog 23 #[.pointer (some ⟨T, 0, none⟩), .int .i64 tx] w fun e w' => ∃ v, e = .returned v ∧ IO w' w.heap.size v (cyc (blkL L W) W.length tx) ∧ Below w.heap.size w w' :=
  (cycle_ta h.ta h.st.ti (h.st.fit h.le) (by have := h.st.wl; have := h.le; omega) tx).mono fun e w' ⟨v, h1, h2, h3⟩ => ⟨v, h1, h2.1, h3⟩
theorem Sy.rcy (h : Sy w B T QB WB i L W M v) (tx : Int) : Calls Tryz.prog 24 #[v, .int .i64 tx] w fun e w' => ∃ v, e = .returned v ∧ IO w' w.heap.size v (cyc (blkL L W) W.length tx) ∧ Below w.heap.size w w' := by
  rw [← cyc_same h.st.eq h.st.ti]
  exact rcycle_m h.rt (h.st.mb h.le) h.st.eq.srt.nodup (fun t ht => (for_same h.st.eq h.st.ti t).trans ht) (by have := h.st.wl; have := h.le; omega) tx
theorem Sy.held_ (h : Sy w B T QB WB i L W M v) (tx : Int) : Calls Tryz.prog 25 #[.pointer (some ⟨T, 0, none⟩), .int .i64 tx] w fun e w' => ∃ v, e = .returned v ∧ HeldAt w' w.heap.size v (heldM M tx) ∧ Below w.heap.size w w' := by
  rw [← held_same h.st.eq]
  exact held_ta h.ta (h.st.fit h.le).1 tx
theorem Sy.rhas (h : Sy w B T QB WB i L W M v) (tx k o p s : Int) : Calls Tryz.prog 26 #[v, .int .i64 tx, .agg #[.int .i64 k, .int .i64 o, .int .u32 p, .int .i64 s]] w fun e w' => e = .returned (.int .i64 (hasQ (qL M ⟨k, o, p, s⟩) tx)) ∧ Below w.heap.size w w' :=
  rhas_m h.rt (fun p hp => by have := (h.st.mb h.le).2 p hp; omega) tx k o p s
theorem Sy.has_ (h : Sy w B T QB WB i L W M v) (tx k o p s : Int) : Calls Tryz.prog 28 #[.pointer (some ⟨T, 0, none⟩), .int .i64 tx, .agg #[.int .i64 k, .int .i64 o, .int .u32 p, .int .i64 s]] w fun e w' => e = .returned (.int .i64 (hasQ (qL M ⟨k, o, p, s⟩) tx)) ∧ Below w.heap.size w w' := by
  rw [h.st.eq.q]
  exact has_ta h.ta tx k o p s
theorem Sy.free_ (h : Sy w B T QB WB i L W M v) (tx k o p s : Int) : Calls Tryz.prog 29 #[.pointer (some ⟨T, 0, none⟩), .int .i64 tx, .agg #[.int .i64 k, .int .i64 o, .int .u32 p, .int .i64 s]] w fun e w' => e = .returned (.bool ((qL M ⟨k, o, p, s⟩).all (fun a => a.tx == tx))) ∧ Below w.heap.size w w' := by
  rw [h.st.eq.q]
  exact free_ta h.ta tx k o p s
theorem Sy.rq (h : Sy w B T QB WB i L W M v) (k o p s : Int) : Calls Tryz.prog 27 #[v, .agg #[.int .i64 k, .int .i64 o, .int .u32 p, .int .i64 s]] w fun e w' => ∃ v', e = .returned v' ∧ AO w' w.heap.size v' (qL M ⟨k, o, p, s⟩) ∧ Below w.heap.size w w' :=
  rqueue_m h.rt (fun p hp => by have := (h.st.mb h.le).2 p hp; omega) k o p s
theorem RT.cells {a : Option Addr} {n c : Nat} (h : RT w (.slice a n c) M) {j : Nat} (hj : j < M.length) : ∃ g, a = some ⟨g, 0, none⟩ ∧ n = M.length ∧ M.length ≤ c ∧ c ≤ maxLen ∧ g < w.heap.size ∧
    w.cell? ⟨g, j * 5, none⟩ = some (.int .i64 M[j].1.kind) ∧ w.cell? ⟨g, j * 5 + 1, none⟩ = some (.int .i64 M[j].1.of_) ∧ w.cell? ⟨g, j * 5 + 2, none⟩ = some (.int .u32 M[j].1.page) ∧ w.cell? ⟨g, j * 5 + 3, none⟩ = some (.int .i64 M[j].1.slot) := by
  obtain ⟨E, rfl, h⟩ := h
  have hj' : j < E.length := by simpa using hj
  obtain ⟨g, h1, h2, h3, h4, h5, h6, c0, c1, c2, c3, -⟩ := h.cell hj'
  refine ⟨g, h1, by simpa using h2, by simpa using h3, h4, h6, ?_⟩
  simp only [List.getElem_map, eq2]
  exact ⟨c0, c1, c2, c3⟩
def hG (M : List (Nm × List Ak)) (tx : Int) (p : Nm × List Ak) : Option (Nm × Int) := if hasQ (qL M p.1) tx = 0 then none else some (p.1, hasQ (qL M p.1) tx)
def hC (M : List (Nm × List Ak)) (tx : Int) (j : Nat) : Nat := ((M.take j).filterMap (hG M tx)).length
theorem hC_none {tx : Int} {j : Nat} (hj : j < M.length) (h : hasQ (qL M M[j].1) tx = 0) : hC M tx (j + 1) = hC M tx j := by
  unfold hC
  rw [List.take_succ_eq_append_getElem hj, List.filterMap_append]
  have : hG M tx M[j] = none := by unfold hG; rw [if_pos h]
  simp [this]
theorem hC_some {tx : Int} {j : Nat} (hj : j < M.length) (h : hasQ (qL M M[j].1) tx ≠ 0) : hC M tx (j + 1) = hC M tx j + 1 ∧ ∃ hlt : hC M tx j < (heldM M tx).length, (heldM M tx)[hC M tx j] = (M[j].1, hasQ (qL M M[j].1) tx) := by
  have hg : hG M tx M[j] = some (M[j].1, hasQ (qL M M[j].1) tx) := by unfold hG; rw [if_neg h]
  have e : heldM M tx = (M.take j).filterMap (hG M tx) ++ (M[j].1, hasQ (qL M M[j].1) tx) :: (M.drop (j + 1)).filterMap (hG M tx) := by
    have key : ∀ (g : Nm × List Ak → Option (Nm × Int)) y, g M[j] = some y → M.filterMap g = (M.take j).filterMap g ++ y :: (M.drop (j + 1)).filterMap g := by
      intro g y hy
      have e : M = M.take j ++ M[j] :: M.drop (j + 1) := by rw [← List.drop_eq_getElem_cons hj, List.take_append_drop]
      conv => lhs; rw [e]
      rw [List.filterMap_append, List.filterMap_cons, hy]
    exact key (hG M tx) _ hg
  refine ⟨?_, ?_⟩
  · unfold hC
    rw [List.take_succ_eq_append_getElem hj, List.filterMap_append]
    simp [hg]
  · have h1 : (heldM M tx)[hC M tx j]? = some (M[j].1, hasQ (qL M M[j].1) tx) := by
      rw [e]
      unfold hC
      rw [List.getElem?_append_right (Nat.le_refl _)]
      simp
    exact List.getElem?_eq_some_iff.1 h1
theorem hC_all (tx : Int) : hC M tx M.length = (heldM M tx).length := by
  unfold hC
  rw [List.take_length]
  rfl
theorem hC_le (tx : Int) (j : Nat) : hC M tx j ≤ j := by
  unfold hC
  have h1 := List.length_filterMap_le (hG M tx) (M.take j)
  have h2 := List.length_take_le j M
  omega
end

set_option maxRecDepth 100000 in
set_option maxHeartbeats 4000000 in
theorem says_any {w : World} {B T QB WB i : Nat} {L M : List (Nm × List Ak)} {W : List (Int × Nm)} {v : Value} (h : Sy w B T QB WB i L W M v) :
    Calls Tryz.prog 7 #[.pointer (some ⟨T, 0, none⟩), v] w fun e w' => e = .returned (.bool true) ∧ Below w.heap.size w w' := by
  obtain ⟨a, c, rfl⟩ := h.rt.form
  have HS := Lib.hid h
  have hcl := len_ta h.ta
  rw [← h.st.eq.len] at hcl
  have HSY : Hid (∀ {wx : World}, Below w.heap.size w wx → Sy wx B T QB WB i L W M (.slice a M.length c)) := Lib.hid (fun hb => HS.out.below hb)
  clear h
  go_enter Tryz.func7, Tryz.ntmps7
  go_wp2_with fail
  refine hcl.mono ?_
  rintro e w1 ⟨rfl, hB1⟩
  go_wp2_with fail
  go_loopw [5] (fun t wr => ∃ x : Nat, x ≤ 7 ∧ t = .int .i64 x ∧ Below w.heap.size w wr) (fun t _ => 7 - (intOf t).toNat)
  case atStart => exact ⟨0, by omega, rfl, hB1⟩
  case round =>
    obtain ⟨x, hx, rfl, hB⟩ := hrel
    by_cases hx7 : x < 7
    · have hd7 : decide ((x : Int) < 7) = true := by simp; omega
      go_upto_block 1 with fail
      have hcf := fun (wx : World) (hb : Below w.heap.size w wx) => (HSY.out hb).for_ x
      have hcr := fun (wx : World) (hb : Below w.heap.size w wx) => (HSY.out hb).rfor x
      obtain ⟨⟨k, o, p, s⟩, hn⟩ : ∃ n, n = wz W x := ⟨_, rfl⟩
      obtain ⟨b, hb⟩ : ∃ b, b = (wOf W x).isSome := ⟨_, rfl⟩
      rw [← hn, ← hb] at hcf hcr
      have HWB := Lib.hid hb
      have HCF := Lib.hid hcf
      have HCR := Lib.hid hcr
      clear hn hb hcf hcr
      have hsz := hB.size
      go_wp2_with fail
      refine (HCF.out _ hB).mono ?_
      rintro e w2 ⟨rfl, hB2⟩
      have hBw2 := hB.trans (hB2.mono hsz)
      obtain ⟨w3, hw3⟩ : ∃ w3, w3 = w2.alloc (.cells #[.int .i64 k, .int .i64 o, .int .u32 p, .int .i64 s] 46) := ⟨_, rfl⟩
      have hBw3 : Below w.heap.size w w3 := by rw [hw3]; exact hBw2.alloc hBw2.size _
      have hbn : Blk w3 w2.heap.size 46 #[.int .i64 k, .int .i64 o, .int .u32 p, .int .i64 s] := by rw [hw3]; exact Blk.new _ _ _
      obtain ⟨NB, hNB⟩ : ∃ NB, NB = w2.heap.size := ⟨_, rfl⟩
      have HW3 := Lib.hid hw3
      clear hw3
      go_wp2_with fail
      rw [← HW3.out, ← hNB]
      rw [← hNB] at hbn
      clear hNB HW3
      refine (HCR.out _ hBw3).mono ?_
      rintro e w4 ⟨rfl, hB4⟩
      have hBw4 := hBw3.trans (hB4.mono hBw3.size)
      have hbn4 := hbn.of_block (hB4.block _ hbn.lt)
      obtain ⟨w5, hw5⟩ : ∃ w5, w5 = w4.alloc (.cells #[.int .i64 k, .int .i64 o, .int .u32 p, .int .i64 s] 49) := ⟨_, rfl⟩
      have hBw5 : Below w.heap.size w w5 := by rw [hw5]; exact hBw4.alloc hBw4.size _
      have hbn5 : Blk w5 NB 46 #[.int .i64 k, .int .i64 o, .int .u32 p, .int .i64 s] := by rw [hw5]; exact hbn4.alloc _
      have hbk5 : Blk w5 w4.heap.size 49 #[.int .i64 k, .int .i64 o, .int .u32 p, .int .i64 s] := by rw [hw5]; exact Blk.new _ _ _
      obtain ⟨KB, hKB⟩ : ∃ KB, KB = w4.heap.size := ⟨_, rfl⟩
      go_upto_region 8 with fail
      rw [← hw5, ← hKB]
      rw [← hKB] at hbk5
      clear hKB hw5 hbn hbn4 hB4 hBw4 hBw3 hB2 hBw2 hB
      go_wp2_with fail
      refine ((HSY.out hBw5).waits_ x).mono ?_
      rw [← HWB.out]
      rintro e w6 ⟨rfl, hB6⟩
      have hBw6 := hBw5.trans (hB6.mono hBw5.size)
      have hbn6 := hbn5.of_block (hB6.block _ hbn5.lt)
      have hbk6 := hbk5.of_block (hB6.block _ hbk5.lt)
      have n0 := hbn6.cell 0
      have n1 := hbn6.cell 1
      have n2 := hbn6.cell 2
      have n3 := hbn6.cell 3
      have k0 := hbk6.cell 0
      have k1 := hbk6.cell 1
      have k2 := hbk6.cell 2
      have k3 := hbk6.cell 3
      simp at n0 n1 n2 n3 k0 k1 k2 k3
      clear hbn5 hbk5 hB6 hBw5 HCF HCR
      go_wp2_with fail
      refine ((HSY.out hBw6).bl x).mono ?_
      rintro e w7 ⟨v7, rfl, hI7, hB7⟩
      have hBw7 := hBw6.trans (hB7.mono hBw6.size)
      clear n0 n1 n2 n3 k0 k1 k2 k3
      go_wp2_with fail
      refine ((HSY.out hBw7).rbl x).mono ?_
      rintro e w8 ⟨v8, rfl, hI8, hB8⟩
      have hBw8 := hBw7.trans (hB8.mono hBw7.size)
      have hI78 := hI7.below hB8
      clear hI7
      go_wp2_with fail
      refine (ints_same hI78 hI8).mono ?_
      rintro e w9 ⟨rfl, hB9⟩
      have hBw9 := hBw8.trans (hB9.mono hBw8.size)
      clear hI78 hI8
      go_wp2_with fail
      refine ((HSY.out hBw9).cy x).mono ?_
      rintro e wa ⟨va, rfl, hIa, hBa⟩
      have hBwa := hBw9.trans (hBa.mono hBw9.size)
      go_wp2_with fail
      refine ((HSY.out hBwa).rcy x).mono ?_
      rintro e wb ⟨vb, rfl, hIb, hBb⟩
      have hBwb := hBwa.trans (hBb.mono hBwa.size)
      have hIab := hIa.below hBb
      clear hIa
      go_wp2_with fail
      refine (ints_same hIab hIb).mono ?_
      rintro e wc ⟨rfl, hBc⟩
      have hBwc := hBwb.trans (hBc.mono hBwb.size)
      clear hIab hIb hB7 hB8 hB9 hBa hBb hBc hBw6 hBw7 hBw8 hBw9 hBwa hBwb hbn6 hbk6
      go_wp2_with fail
      refine ((HSY.out hBwc).held_ x).mono ?_
      rintro e wd ⟨hv, rfl, hH, hBd⟩
      have hBwd := hBwc.trans (hBd.mono hBwc.size)
      obtain ⟨ha, hc, rfl⟩ := hH.form
      obtain ⟨hl, hhl⟩ : ∃ hl, hl = heldM M x := ⟨_, rfl⟩
      rw [← hhl] at hH ⊢
      have HHL := Lib.hid hhl
      have hml : M.length ≤ 200 := ((HSY.out hBwd).st.mb (HSY.out hBwd).le).1
      clear hhl hBd hBwc
      go_wp2_with fail
      go_loopw [11, 12] (fun at_ i wr => ∃ j : Nat, j ≤ M.length ∧ i = .int .i64 j ∧ at_ = .int .i64 (hC M x j) ∧ Below w.heap.size w wr ∧ HeldAt wr wc.heap.size (.slice ha hl.length hc) hl) (fun _ i _ => M.length - (intOf i).toNat)
      case atStart => exact ⟨0, by omega, rfl, by simp [hC], hBwd, hH⟩
      case round =>
        obtain ⟨j, hj, rfl, rfl, hBr, hHr⟩ := hrel
        by_cases hjm : j < M.length
        · obtain ⟨g, rfl, -, hmc, hcx, hgl, m0, m1, m2, m3⟩ := (HSY.out hBr).rt.cells hjm
          obtain ⟨⟨k', o', p', s'⟩, hnm⟩ : ∃ n, n = M[j].1 := ⟨_, rfl⟩
          rw [← hnm] at m0 m1 m2 m3
          simp only at m0 m1 m2 m3
          unfold maxLen at hcx
          have HNM := Lib.hid hnm
          clear hnm
          go_wp2_with fail
          refine ((HSY.out hBr).rhas x k' o' p' s').mono ?_
          rintro e we ⟨rfl, hBe⟩
          have hBwe := hBr.trans (hBe.mono hBr.size)
          have hHe := hHr.below hBe
          have c0 := (hBe.cell (p := ⟨g, j * 5, none⟩) hgl).trans m0
          have c1 := (hBe.cell (p := ⟨g, j * 5 + 1, none⟩) hgl).trans m1
          have c2 := (hBe.cell (p := ⟨g, j * 5 + 2, none⟩) hgl).trans m2
          have c3 := (hBe.cell (p := ⟨g, j * 5 + 3, none⟩) hgl).trans m3
          obtain ⟨md, hmd⟩ : ∃ md, md = hasQ (qL M ⟨k', o', p', s'⟩) x := ⟨_, rfl⟩
          rw [← hmd]
          have HMD : Hid (hasQ (qL M M[j].1) x = md) := Lib.hid (by rw [hmd, HNM.out])
          obtain ⟨cn, hcn⟩ : ∃ cn, cn = hC M x j := ⟨_, rfl⟩
          rw [← hcn]
          have HCN := Lib.hid hcn
          have hcl : cn ≤ j := by rw [hcn]; exact hC_le x j
          clear hmd hcn m0 m1 m2 m3 hHr
          by_cases h0 : md = 0
          · as_aux_lemma =>
              have hbe : (md == 0) = true := by simpa using h0
              have HN : Hid (hC M x (j + 1) = cn) := Lib.hid (by rw [HCN.out]; exact hC_none hjm (HMD.out.trans h0))
              clear h0
              go_wp2_with fail
              go_roundw
              case rel => exact ⟨j + 1, by omega, by go_num, by rw [HN.out], hBwe, hHe⟩
              case measure => simp [intOf]; omega
          · as_aux_lemma =>
              have hbe : (md == 0) = false := by simpa using h0
              obtain ⟨hs1, hlt, hat⟩ := hC_some (tx := x) hjm (by rw [HMD.out]; exact h0)
              rw [← HCN.out] at hs1
              have hlt' : cn < hl.length := by rw [HHL.out, HCN.out]; exact hlt
              have hat' : hl[cn] = (⟨k', o', p', s'⟩, md) := by
                simp only [HHL.out, HCN.out, hat, HMD.out, HNM.out]
              obtain ⟨gh, cap, e1, hr1, hr2, hghl, d0, d1, d2, d3, d4⟩ := hHe.cell hlt'
              rw [hat'] at d0 d1 d2 d3 d4
              simp only [Value.slice.injEq] at e1
              obtain ⟨rfl, -, rfl⟩ := e1
              simp only at d0 d1 d2 d3 d4
              unfold maxLen at hr2
              have HN := Lib.hid hs1
              have hge : decide (hl.length ≤ cn) = false := by simp; omega
              clear h0 hs1 hat hat' hlt
              have e0 : (md != md) = false := by simp
              have e1 : (k' != k') = false := by simp
              have e2 : (o' != o') = false := by simp
              have e3 : (p' != p') = false := by simp
              have e4 : (s' != s') = false := by simp
              go_wp2_with fail
              refine wp_region_quiet_lit (by kernel_rfl) (by kernel_rfl) ?_
              simp only [List.append, List.toList_toArray]
              repeat (go_big_quiet_step (fail))
              refine wpQuiet_nil ?_
              intro _ hw'
              obtain ⟨nq, hw''⟩ := hw'
              subst hw''
              go_wp2_with fail
              go_roundw
              case rel => exact ⟨j + 1, by omega, by go_num, by rw [HN.out]; go_num, below_drewN hBwe _, hHe.below (below_drewN (Below.refl _ _) _)⟩
              case measure => simp [intOf]; omega
        · obtain rfl : j = M.length := by omega
          rw [hC_all, ← HHL.out]
          go_wp2_with fail
          as_aux_lemma =>
            obtain ⟨wq, hwq⟩ : ∃ wq, wq = wr := ⟨_, rfl⟩
            rw [← hwq] at hBr ⊢
            clear hwq hHr hH hBwd hj hml hcl HHL
            go_loopw [14] (fun t wr => ∃ y : Nat, y ≤ 8 ∧ t = .int .i64 y ∧ Below w.heap.size w wr) (fun t _ => 8 - (intOf t).toNat)
            case atStart => exact ⟨0, by omega, rfl, hBr⟩
            case round =>
              clear hBr
              obtain ⟨y, hy, rfl, hB⟩ := hrel
              obtain ⟨w3, hw3⟩ : ∃ w3, w3 = wr := ⟨_, rfl⟩
              rw [← hw3] at hB ⊢
              clear hw3
              by_cases hy8 : y < 8
              · have hd8 : decide ((y : Int) < 8) = true := by simp; omega
                go_upto_block 1 with fail
                go_wp2_with fail
                refine (name_any y _).mono ?_
                rintro e w4 ⟨rfl, hB4⟩
                have hBw4 := hB.trans (hB4.mono hB.size)
                obtain ⟨nm, hnm⟩ : ∃ nm, nm = nmA (y : Int) := ⟨_, rfl⟩
                rw [← hnm]
                obtain ⟨nk, no, np, ns⟩ := nm
                clear hnm hB hB4
                obtain ⟨w5, hw5⟩ : ∃ w5, w5 = (w4.alloc (.cells #[.int .i64 nk, .int .i64 no, .int .u32 np, .int .i64 ns] 46)).alloc (.cells #[.int .i64 nk, .int .i64 no, .int .u32 np, .int .i64 ns] 49) := ⟨_, rfl⟩
                have hBw5 : Below w.heap.size w w5 := by rw [hw5]; exact (hBw4.alloc hBw4.size _).alloc (by have := hBw4.size; simp; omega) _
                have hbn : Blk w5 w4.heap.size 46 #[.int .i64 nk, .int .i64 no, .int .u32 np, .int .i64 ns] := by rw [hw5]; exact (Blk.new w4 _ _).alloc _
                have hbk : Blk w5 (w4.heap.size + 1) 49 #[.int .i64 nk, .int .i64 no, .int .u32 np, .int .i64 ns] := by
                  rw [hw5]
                  have := Blk.new (w4.alloc (.cells #[.int .i64 nk, .int .i64 no, .int .u32 np, .int .i64 ns] 46)) 49 #[.int .i64 nk, .int .i64 no, .int .u32 np, .int .i64 ns]
                  simpa using this
                obtain ⟨NB, hNB⟩ : ∃ NB, NB = w4.heap.size := ⟨_, rfl⟩
                go_upto_region 27 with fail
                rw [← hw5, ← hNB]
                rw [← hNB] at hbn hbk
                clear hw5 hNB hBw4
                have n0 := hbn.cell 0
                have n1 := hbn.cell 1
                have n2 := hbn.cell 2
                have n3 := hbn.cell 3
                have k0 := hbk.cell 0
                have k1 := hbk.cell 1
                have k2 := hbk.cell 2
                have k3 := hbk.cell 3
                simp at n0 n1 n2 n3 k0 k1 k2 k3
                go_wp2_with fail
                refine ((HSY.out hBw5).rq nk no np ns).mono ?_
                rintro e w6 ⟨v6, rfl, hq6, hB6⟩
                have hBw6 := hBw5.trans (hB6.mono hBw5.size)
                have hbn6 := hbn.of_block (hB6.block _ hbn.lt)
                have hbk6 := hbk.of_block (hB6.block _ hbk.lt)
                obtain ⟨qa, qc, rfl, hqc, hqm⟩ := hq6.form
                obtain ⟨q, hq⟩ : ∃ q, q = qL M ⟨nk, no, np, ns⟩ := ⟨_, rfl⟩
                rw [← hq] at hq6 hqc ⊢
                have HQ := Lib.hid hq
                clear n0 n1 n2 n3 k0 k1 k2 k3 hbn hbk hB6 hBw5 hq
                unfold maxLen at hqm
                go_wp2_with fail
                go_loopw [17, 19] (fun fr t wr => ∃ j : Nat, j ≤ q.length ∧ t = .int .i64 j ∧ fr = .bool ((q.take j).all (fun a => a.tx == (x : Int))) ∧ Below w6.heap.size w6 wr) (fun _ t _ => q.length - (intOf t).toNat)
                case atStart => exact ⟨0, by omega, rfl, by simp, Below.refl _ _⟩
                case round =>
                  obtain ⟨j, hj, rfl, rfl, hBr⟩ := hrel
                  by_cases hjq : j < q.length
                  · as_aux_lemma =>
                      have hqr := hq6.below hBr
                      obtain ⟨g, rfl, -, -, -, -, hgl, c0, -, -, -⟩ := hqr.cell hjq
                      obtain ⟨fv, hfv⟩ : ∃ fv, fv = (q.take j).all (fun a => a.tx == (x : Int)) := ⟨_, rfl⟩
                      obtain ⟨tv, htv⟩ : ∃ tv, tv = q[j].tx := ⟨_, rfl⟩
                      rw [← htv] at c0
                      rw [← hfv]
                      have HF : Hid ((q.take (j + 1)).all (fun a => a.tx == (x : Int)) = (fv && (tv == (x : Int)))) := Lib.hid (by
                        rw [List.take_succ_eq_append_getElem hjq, List.all_append, ← hfv, htv]
                        simp)
                      clear hfv htv
                      cases fv with
                      | true =>
                        go_wp2_with fail
                        go_roundw
                        case rel => exact ⟨j + 1, by omega, by go_num, by rw [HF.out, Bool.true_and], hBr⟩
                        case measure => simp [intOf]; omega
                      | false =>
                        go_wp2_with fail
                        go_roundw
                        case rel => exact ⟨j + 1, by omega, by go_num, by rw [HF.out, Bool.false_and], hBr⟩
                        case measure => simp [intOf]; omega
                  · as_aux_lemma =>
                      obtain rfl : j = q.length := by omega
                      rw [List.take_length]
                      obtain ⟨fv, hfv⟩ : ∃ fv, fv = q.all (fun a => a.tx == (x : Int)) := ⟨_, rfl⟩
                      rw [← hfv]
                      obtain ⟨w7, hw7⟩ : ∃ w7, w7 = wr := ⟨_, rfl⟩
                      rw [← hw7] at hBr ⊢
                      clear hw7
                      go_upto_region 32 with fail
                      have hBw7 : Below w.heap.size w w7.drew := hBw6.trans ((hBr.drew).mono hBw6.size)
                      have hbn7 := hbn6.of_block (hBr.block _ hbn6.lt)
                      have hbk7 := hbk6.of_block (hBr.block _ hbk6.lt)
                      have n0 := hbn7.cell 0
                      have n1 := hbn7.cell 1
                      have n2 := hbn7.cell 2
                      have n3 := hbn7.cell 3
                      have k0 := hbk7.cell 0
                      have k1 := hbk7.cell 1
                      have k2 := hbk7.cell 2
                      have k3 := hbk7.cell 3
                      simp at n0 n1 n2 n3 k0 k1 k2 k3
                      have HK : Hid (∀ w', Below w7.drew.heap.size w7.drew w' → w'.cell? ⟨NB, 0, none⟩ = some (.int .i64 nk) ∧ w'.cell? ⟨NB, 1, none⟩ = some (.int .i64 no) ∧ w'.cell? ⟨NB, 2, none⟩ = some (.int .u32 np) ∧ w'.cell? ⟨NB, 3, none⟩ = some (.int .i64 ns) ∧ w'.cell? ⟨NB + 1, 0, none⟩ = some (.int .i64 nk) ∧ w'.cell? ⟨NB + 1, 1, none⟩ = some (.int .i64 no) ∧ w'.cell? ⟨NB + 1, 2, none⟩ = some (.int .u32 np) ∧ w'.cell? ⟨NB + 1, 3, none⟩ = some (.int .i64 ns)) :=
                        Lib.hid (fun w8 hb => ⟨(hb.cell hbn7.lt).trans n0, (hb.cell hbn7.lt).trans n1, (hb.cell hbn7.lt).trans n2, (hb.cell hbn7.lt).trans n3, (hb.cell hbk7.lt).trans k0, (hb.cell hbk7.lt).trans k1, (hb.cell hbk7.lt).trans k2, (hb.cell hbk7.lt).trans k3⟩)
                      obtain ⟨hv, hhv⟩ : ∃ hv, hv = hasQ q (x : Int) := ⟨_, rfl⟩
                      have HCH : Hid (∀ {w'}, Below w.heap.size w w' → Calls Tryz.prog 28 #[.pointer (some ⟨T, 0, none⟩), .int .i64 (x : Int), .agg #[.int .i64 nk, .int .i64 no, .int .u32 np, .int .i64 ns]] w' fun e w'' => e = .returned (.int .i64 hv) ∧ Below w'.heap.size w' w'') := Lib.hid (fun h => by rw [hhv, HQ.out]; exact (HSY.out h).has_ (x : Int) nk no np ns)
                      have HCR : Hid (∀ {w'}, Below w.heap.size w w' → Calls Tryz.prog 26 #[.slice a M.length c, .int .i64 (x : Int), .agg #[.int .i64 nk, .int .i64 no, .int .u32 np, .int .i64 ns]] w' fun e w'' => e = .returned (.int .i64 hv) ∧ Below w'.heap.size w' w'') := Lib.hid (fun h => by rw [hhv, HQ.out]; exact (HSY.out h).rhas (x : Int) nk no np ns)
                      have HCF : Hid (∀ {w'}, Below w.heap.size w w' → Calls Tryz.prog 29 #[.pointer (some ⟨T, 0, none⟩), .int .i64 (x : Int), .agg #[.int .i64 nk, .int .i64 no, .int .u32 np, .int .i64 ns]] w' fun e w'' => e = .returned (.bool fv) ∧ Below w'.heap.size w' w'') := Lib.hid (fun h => by rw [hfv, HQ.out]; exact (HSY.out h).free_ (x : Int) nk no np ns)
                      have e0 : (hv != hv) = false := by simp
                      have e1 : (fv != fv) = false := by simp
                      clear hhv hfv hbn6 hbk6 hbn7 hbk7 hqc hqm hjq
                      go_region_held3 (fun w' => w'.cell? ⟨NB, 0, none⟩ = some (.int .i64 nk) ∧ w'.cell? ⟨NB, 1, none⟩ = some (.int .i64 no) ∧ w'.cell? ⟨NB, 2, none⟩ = some (.int .u32 np) ∧ w'.cell? ⟨NB, 3, none⟩ = some (.int .i64 ns) ∧ w'.cell? ⟨NB + 1, 0, none⟩ = some (.int .i64 nk) ∧ w'.cell? ⟨NB + 1, 1, none⟩ = some (.int .i64 no) ∧ w'.cell? ⟨NB + 1, 2, none⟩ = some (.int .u32 np) ∧ w'.cell? ⟨NB + 1, 3, none⟩ = some (.int .i64 ns))
                        (first
                          | exact HK.out _ hC10
                          | exact HK.out _ hC9
                          | exact HK.out _ hC8
                          | (go_split_ands; refine ⟨?_, ?_, ?_, ?_, ?_, ?_, ?_, ?_⟩ <;> go_keep))
                        (first
                          | (go_at_call 28; (with_reducible refine (HCH.out hBw7).mono ?_); rintro e w8 ⟨rfl, hC8⟩; have hD8 := hBw7.trans (hC8.mono hBw7.size))
                          | (go_at_call 26; (with_reducible refine (HCR.out hD8).mono ?_); rintro e w9 ⟨rfl, hB9⟩; have hC9 := hC8.trans (hB9.mono hC8.size); have hD9 := hD8.trans (hB9.mono hD8.size))
                          | (go_at_call 29; (with_reducible refine (HCF.out hD9).mono ?_); rintro e w10 ⟨rfl, hB10⟩; have hC10 := hC9.trans (hB10.mono hC9.size); have hD10 := hD9.trans (hB10.mono hD9.size)))
                      go_split_ands
                      clear n0 n1 n2 n3 k0 k1 k2 k3
                      go_wp2_with fail
                      go_roundw
                      case rel => exact ⟨y + 1, by omega, by go_num, hD10⟩
                      case measure => simp [intOf]; omega
              · obtain rfl : y = 8 := by omega
                go_wp2_with fail
                go_roundw
                case rel => exact ⟨x + 1, by omega, by go_num, hB⟩
                case measure => simp [intOf]; omega
    · obtain rfl : x = 7 := by omega
      go_wp2_with fail
      go_ret
      exact ⟨rfl, hB⟩
end Go.Proofs.YtcdlplbccblbaaaGreat
