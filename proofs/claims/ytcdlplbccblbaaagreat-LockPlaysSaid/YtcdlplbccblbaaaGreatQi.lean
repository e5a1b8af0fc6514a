import Derived.Test.YtcdlplbccblbaaaGreatQh
namespace Go.Proofs.YtcdlplbccblbaaaGreat
open Go.RowKit
set_option linter.unusedVariables false
set_option linter.unusedSimpArgs false

/-! ### To wait no more -/
def canM (tx : Int) (M : List (Nm × List Ak)) : Rr := match forM M tx with
  | none => ⟨M, []⟩
  | some n => match (qL M n).findIdx? fun a => a.tx == tx with
    | none => ⟨M, []⟩
    | some i => grantM (withM n ((qL M n).set i ⟨tx, ((qL M n).getD i ak0).has, 0, false⟩) M) n
theorem forM_some {M : List (Nm × List Ak)} (hnd : (M.map (·.1)).Nodup) {tx : Int} {n : Nm} (h : forM M tx = some n) : ∃ i, ((qL M n).findIdx? fun a => a.tx == tx) = some i ∧ ((qL M n).getD i ak0).wants ≠ 0 := by
  unfold forM at h
  obtain ⟨p, hp, rfl⟩ := Option.map_eq_some_iff.1 h
  have hm := List.mem_of_find?_eq_some hp
  have hw := List.find?_some hp
  have hq : qL M p.1 = p.2 := by
    unfold qL
    obtain ⟨j, hj, rfl⟩ := List.getElem_of_mem hm
    rw [List.find?_eq_some_iff_getElem.2 ⟨by simp, j, hj, rfl, fun j' hj' => ?_⟩]
    · rfl
    · simp only [Bool.not_eq_true', beq_eq_false_iff_ne]
      intro e
      have h1 : j' < (M.map (·.1)).length := by simp; omega
      have h2 : j < (M.map (·.1)).length := by simpa using hj
      have := (List.getElem_inj (h₀ := h1) (h₁ := h2) hnd).1 (by simpa using e)
      omega
  rw [hq]
  unfold waitsB at hw
  cases hf : p.2.findIdx? fun a => a.tx == tx with
  | none => rw [hf] at hw; simp at hw
  | some i =>
    rw [hf] at hw
    exact ⟨i, rfl, by simpa using hw⟩

set_option maxRecDepth 100000 in
set_option maxHeartbeats 4000000 in
theorem rcancel_m {w : World} {v : Value} {M : List (Nm × List Ak)} (h : RT w v M) (hM : Mb 200 M) (hnd : (M.map (·.1)).Nodup) (tx : Int) :
    Calls Tryz.prog 15 #[v, .int .i64 tx] w fun e w' => ∃ v' ov, e = .returned (.tuple #[v', ov]) ∧ RT w' v' (canM tx M).M ∧ IO w' w.heap.size ov (canM tx M).out ∧ Below w.heap.size w w' := by
  have hcf := rfor_m h tx
  cases hfor : forM M tx with
  | none =>
    have hz : forMZ M tx = n0 := by unfold forMZ; rw [hfor]; rfl
    have HC : Hid (canM tx M = ⟨M, []⟩) := Lib.hid (by unfold canM; rw [hfor])
    rw [hfor, hz] at hcf
    simp only [Option.isSome_none, n0] at hcf
    clear hz hfor
    go_enter Tryz.func15, Tryz.ntmps15
    go_wp2_with fail
    refine hcf.mono ?_
    rintro e w1 ⟨rfl, hB1⟩
    go_wp2_with fail
    go_ret2
    rw [HC.out]
    exact ⟨_, _, rfl, h.below (hB1.alloc hB1.size _), IO.nil _ _, hB1.alloc hB1.size _⟩
  | some n =>
    have hz : forMZ M tx = n := by unfold forMZ; rw [hfor]; rfl
    rw [hfor, hz] at hcf
    simp only [Option.isSome_some] at hcf
    obtain ⟨ix, hf, -⟩ := forM_some hnd hfor
    have hcan : canM tx M = grantM (withM n ((qL M n).set ix ⟨tx, ((qL M n).getD ix ak0).has, 0, false⟩) M) n := by unfold canM; rw [hfor]; simp only [hf]
    clear hz hfor
    obtain ⟨hix, hil⟩ := idx_of_some hf
    have hql := hM.qL n
    have HCAN := Lib.hid hcan
    have HIX := Lib.hid hix
    clear hcan hf hix
    obtain ⟨k, o, p, s⟩ := n
    have hcq := fun {w'} (hb : Below w.heap.size w w') => rqueue_m (h.below hb) (fun p hp => Nat.le_trans (hM.2 p hp) (by omega)) k o p s
    obtain ⟨q, hqd⟩ : ∃ q, q = qL M ⟨k, o, p, s⟩ := ⟨_, rfl⟩
    rw [← hqd] at hil hql HCAN HIX hcq
    have hgd : q.getD ix ak0 = q[ix] := by simp [List.getD, hil]
    rw [hgd] at HCAN
    clear hgd
    have HCQ := Lib.hid (fun w' (hb : Below w.heap.size w w') => hcq hb)
    clear hqd hcq
    obtain ⟨hs, hhs⟩ : ∃ hs, hs = q[ix].has := ⟨_, rfl⟩
    rw [← hhs] at HCAN
    obtain ⟨M2, hM2⟩ : ∃ M2, M2 = withM ⟨k, o, p, s⟩ (q.set ix ⟨tx, hs, 0, false⟩) M := ⟨_, rfl⟩
    rw [← hM2] at HCAN
    have hM2b : Mb 999 M2 := by
      rw [hM2]
      exact ((hM.with_ _ (by simpa using hql)).mono (by omega))
    have HM2 := Lib.hid hM2
    have HHS := Lib.hid hhs
    have HH := Lib.hid h
    clear hM2 hhs h
    go_enter Tryz.func15, Tryz.ntmps15
    go_wp2_with fail
    refine hcf.mono ?_
    rintro e w1 ⟨rfl, hB1⟩
    clear hcf
    obtain ⟨wa, hwa⟩ : ∃ wa, wa = w1.alloc (.cells #[.int .i64 k, .int .i64 o, .int .u32 p, .int .i64 s] 49) := ⟨_, rfl⟩
    have hBa : Below w.heap.size w wa := by rw [hwa]; exact hB1.alloc hB1.size _
    have hbn : Blk wa w1.heap.size 49 #[.int .i64 k, .int .i64 o, .int .u32 p, .int .i64 s] := by rw [hwa]; exact Blk.new _ _ _
    have hw1 : w.heap.size ≤ w1.heap.size := hB1.size
    have b0 := hbn.cell 0
    have b1 := hbn.cell 1
    have b2 := hbn.cell 2
    have b3 := hbn.cell 3
    simp at b0 b1 b2 b3
    go_upto_region 4 with fail
    rw [← hwa]
    clear hwa
    go_wp2_with fail
    refine (HCQ.out wa hBa).mono ?_
    rintro e w2 ⟨qv, rfl, hao, hB2⟩
    obtain ⟨sa, sc, rfl, hs1, hs2⟩ := hao.form
    unfold maxLen at hs2
    go_wp2_with fail
    refine (rfind_any (hao.base_ (Nat.zero_le _)) tx).mono ?_
    rintro e w3 ⟨rfl, hB3⟩
    rw [HIX.out]
    have hBa3 : Below wa.heap.size wa w3 := hB2.trans (hB3.mono hB2.size)
    have hBw3 : Below w.heap.size w w3 := hBa.trans (hBa3.mono hBa.size)
    have hbn3 := hbn.of_block (hBa3.block _ hbn.lt)
    replace hao := (hao.base_ hBa.size).below hB3
    clear hB2 hB3 hBa3 hbn b0 b1 b2 b3
    obtain ⟨g, rfl, -, -, -, hgb, hgl, c0, c1, c2, c3⟩ := hao.cell hil
    have f0 := hao.frozen (ix * 4)
    have f1 := hao.frozen (ix * 4 + 1)
    have f2 := hao.frozen (ix * 4 + 2)
    have f3 := hao.frozen (ix * 4 + 3)
    rw [← HHS.out] at c1
    have hao7 := hao.put4 hil ⟨tx, hs, 0, false⟩
    have hB7 := below_set4i hBw3 hgb (ix * 4) (.int .i64 tx) (.int .i64 hs) (.int .i64 0) (.bool false)
    have hbn7 := hbn3.set4i (g := g) (fun e => by
      have := hao.other hbn3 (by decide)
      simp [Value.ownBlock, e] at this) (ix * 4) (.int .i64 tx) (.int .i64 hs) (.int .i64 0) (.bool false)
    go_upto_region 7 with fail
    clear c0 c1 c2 c3 f0 f1 f2 f3
    (try simp only at hao7)
    generalize ((((w3.setCell ⟨g, ix * 4, none⟩ (.int .i64 tx)).setCell ⟨g, ix * 4 + 1, none⟩ (.int .i64 hs)).setCell ⟨g, ix * 4 + 2, none⟩ (.int .i64 0)).setCell ⟨g, ix * 4 + 3, none⟩ (.bool false)) = w7 at hao7 hB7 hbn7 ⊢
    have b0 := hbn7.cell 0
    have b1 := hbn7.cell 1
    have b2 := hbn7.cell 2
    have b3 := hbn7.cell 3
    simp at b0 b1 b2 b3
    have hnl : w1.heap.size < w7.drew.heap.size := hbn7.lt
    have hTd : RT w7.drew v M := (HH.out.below hB7).below (Below.refl _ _).drew
    have haod : AO w7.drew 0 (.slice (some ⟨g, 0, none⟩) q.length sc) (q.set ix ⟨tx, hs, 0, false⟩) := hao7.base_ (Nat.zero_le _)
    go_region_held3 (fun w' => w'.cell? ⟨w1.heap.size, 0, none⟩ = some (.int .i64 k) ∧ w'.cell? ⟨w1.heap.size, 1, none⟩ = some (.int .i64 o) ∧
        w'.cell? ⟨w1.heap.size, 2, none⟩ = some (.int .u32 p) ∧ w'.cell? ⟨w1.heap.size, 3, none⟩ = some (.int .i64 s))
      ((go_split_ands; refine ⟨?_, ?_, ?_, ?_⟩ <;> first
        | go_keep
        | (rw [World.cell?_of_block (hB8.block _ hnl)]; assumption)
        | (rw [World.cell?_of_block (hB9.block _ hnl8)]; assumption)))
      (first
        | (go_at_call 39; refine (rwith_m hTd haod (by have := hM.1; omega) k o p s).mono ?_; rintro e w8 ⟨v8, rfl, hT8, hB8⟩; rw [← HM2.out] at hT8; have hnl8 := Nat.lt_of_lt_of_le hnl hB8.size)
        | (go_at_call 40; refine (rgrant_m hT8 (by have := hM2b.1; omega) hM2b.2 k o p s).mono ?_; rintro e w9 ⟨v9, gv, rfl, hT9, hO9, hB9⟩))
    go_wp2_with fail
    go_ret2
    rw [HCAN.out]
    have hB79 : Below w7.heap.size w7 w9 := (Below.refl w7.heap.size w7).drew.trans (hB8.trans (hB9.mono hB8.size))
    have hB9w : Below w.heap.size w w9 := hB7.trans (hB79.mono hB7.size)
    refine ⟨_, _, rfl, hT9, hO9.base_ ?_, hB9w⟩
    have h1 : w7.drew.heap.size ≤ w8.heap.size := hB8.size
    have h2 : w.heap.size ≤ w7.drew.heap.size := hB7.size
    omega
end Go.Proofs.YtcdlplbccblbaaaGreat
