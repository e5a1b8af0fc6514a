import Derived.Test.YtcdlplbccblbaaaGreatQj
namespace Go.Proofs.YtcdlplbccblbaaaGreat
open Go.RowKit
set_option linter.unusedVariables false
set_option linter.unusedSimpArgs false

set_option maxRecDepth 100000 in
set_option maxHeartbeats 4000000 in
theorem rblockers_m {w : World} {v : Value} {M : List (Nm × List Ak)} (h : RT w v M) (hM : Mb 200 M) (hnd : (M.map (·.1)).Nodup) (tx : Int) :
    Calls Tryz.prog 22 #[v, .int .i64 tx] w fun e w' => ∃ ov, e = .returned ov ∧ IO w' w.heap.size ov (rblkM M tx) ∧ Below w.heap.size w w' := by
  have hcf := rfor_m h tx
  cases hfor : forM M tx with
  | none =>
    have hz : forMZ M tx = n0 := by unfold forMZ; rw [hfor]; rfl
    have HC : Hid (rblkM M tx = []) := Lib.hid (by unfold rblkM; rw [hfor])
    rw [hfor, hz] at hcf
    simp only [Option.isSome_none, n0] at hcf
    clear hz hfor
    go_enter Tryz.func22, Tryz.ntmps22
    go_wp2_with fail
    refine hcf.mono ?_
    rintro e w1 ⟨rfl, hB1⟩
    go_wp2_with fail
    go_ret
    rw [HC.out]
    exact ⟨_, rfl, IO.nil _ _, hB1.alloc hB1.size _⟩
  | some n =>
    have hz : forMZ M tx = n := by unfold forMZ; rw [hfor]; rfl
    rw [hfor, hz] at hcf
    simp only [Option.isSome_some] at hcf
    obtain ⟨m, hf, -⟩ := forM_some hnd hfor
    have hblk : rblkM M tx = rblkTo (qL M n) m (qL M n).length := by unfold rblkM; rw [hfor]; simp only [rblkQ, hf]
    clear hz hfor
    obtain ⟨hix, hml⟩ := idx_of_some hf
    have hql := hM.qL n
    have HBLK := Lib.hid hblk
    have HIX := Lib.hid hix
    clear hblk hf hix
    obtain ⟨k, o, p, s⟩ := n
    have hcq := fun {w'} (hb : Below w.heap.size w w') => rqueue_m (h.below hb) (fun p hp => Nat.le_trans (hM.2 p hp) (by omega)) k o p s
    obtain ⟨q, hqd⟩ : ∃ q, q = qL M ⟨k, o, p, s⟩ := ⟨_, rfl⟩
    rw [← hqd] at hml hql HBLK HIX hcq
    have HCQ := Lib.hid (fun w' (hb : Below w.heap.size w w') => hcq hb)
    clear hqd hcq
    obtain ⟨me, hme⟩ : ∃ me, me = q[m] := ⟨_, rfl⟩
    have HME := Lib.hid hme
    have HMED : Hid (q.getD m ak0 = me) := Lib.hid (by simp [List.getD, hml, hme])
    clear hme
    go_enter Tryz.func22, Tryz.ntmps22
    go_wp2_with fail
    refine hcf.mono ?_
    rintro e w1 ⟨rfl, hB1⟩
    clear hcf
    obtain ⟨wa, hwa⟩ : ∃ wa, wa = w1.alloc (.cells #[.int .i64 k, .int .i64 o, .int .u32 p, .int .i64 s] 49) := ⟨_, rfl⟩
    have hBa : Below w.heap.size w wa := by rw [hwa]; exact hB1.alloc hB1.size _
    have hbn : Blk wa w1.heap.size 49 #[.int .i64 k, .int .i64 o, .int .u32 p, .int .i64 s] := by rw [hwa]; exact Blk.new _ _ _
    have b0 := hbn.cell 0
    have b1 := hbn.cell 1
    have b2 := hbn.cell 2
    have b3 := hbn.cell 3
    simp at b0 b1 b2 b3
    go_upto_region 4 with fail
    rw [← hwa]
    clear hwa
    go_wp2_with fail
    refine (HCQ.out wa hBa).mono ?_
    rintro e w2 ⟨qv, rfl, hao, hB2⟩
    obtain ⟨sa, sc, rfl, hs1, hs2⟩ := hao.form
    unfold maxLen at hs2
    go_wp2_with fail
    refine (rfind_any (hao.base_ (Nat.zero_le _)) tx).mono ?_
    rintro e w3 ⟨rfl, hB3⟩
    rw [HIX.out]
    have hBa3 : Below wa.heap.size wa w3 := hB2.trans (hB3.mono hB2.size)
    have hBw3 : Below w.heap.size w w3 := hBa.trans (hBa3.mono hBa.size)
    replace hao := (hao.base_ hBa.size).below hB3
    clear hB2 hB3 hBa3 hbn b0 b1 b2 b3 hBa
    have hio := IO.made w3
    have hB30 : Below w3.heap.size w3 (w3.alloc (.cells #[] 3)) := (Below.refl _ _).alloc (Nat.le_refl _) _
    go_wp2_with fail
    go_loopw [9, 10] (fun ov iv' wr => ∃ (i go oc : Nat), i ≤ q.length ∧ iv' = .int .i64 i ∧ ov = .slice (some ⟨go, 0, none⟩) (rblkTo q m i).length oc ∧ IO wr w3.heap.size ov (rblkTo q m i) ∧ Below w3.heap.size w3 wr) (fun _ iv' _ => q.length - (intOf iv').toNat)
    case atStart => exact ⟨0, _, _, by omega, rfl, rfl, by simpa [rblkTo] using hio, hB30⟩
    case round =>
      clear hio hB30
      obtain ⟨i, go, oc, hi, rfl, rfl, hO, hB⟩ := hrel
      have hol := rblkTo_len q m i
      by_cases hlt : i < q.length
      · have hstep : rblkTo q m (i + 1) = if i = m then rblkTo q m i else if blkA q[i] me i m = true then insI ltI (rblkTo q m i) q[i].tx else rblkTo q m i := by
          have hgd : q.getD i ak0 = q[i] := by simp [List.getD, hlt]
          show (if i = m then rblkTo q m i else if blkA (q.getD i ak0) (q.getD m ak0) i m = true then insI ltI (rblkTo q m i) (q.getD i ak0).tx else rblkTo q m i) = _
          rw [hgd, HMED.out]
        have haor := hao.below hB
        obtain ⟨g, hge, -, -, -, -, hgl, m0, m1, m2, m3⟩ := haor.cell hml
        obtain ⟨g', hge', -, -, -, -, -, a0, a1, a2, a3⟩ := haor.cell hlt
        subst hge
        obtain rfl : g = g' := by simpa using hge'
        rw [← HME.out] at m0 m1 m2 m3
        obtain ⟨a, ha⟩ : ∃ a, a = q[i] := ⟨_, rfl⟩
        rw [← ha] at a0 a1 a2 a3 hstep
        obtain ⟨ol, holD⟩ : ∃ ol, ol = rblkTo q m i := ⟨_, rfl⟩
        rw [← holD] at hO hol hstep ⊢
        have HSTEP := Lib.hid hstep
        clear ha holD hstep hge'
        by_cases him : i = m
        · have HS1 : Hid (rblkTo q m (i + 1) = ol) := Lib.hid (by rw [HSTEP.out, if_pos him])
          have hbe : ((i : Int) == (m : Int)) = true := by rw [beq_iff_eq]; omega
          clear him
          go_wp2_with fail
          go_roundw
          case rel => exact ⟨i + 1, go, oc, by omega, by go_num, by rw [HS1.out], by rw [HS1.out]; exact hO, hB⟩
          case measure => simp [intOf]; omega
        · have hbe : ((i : Int) == (m : Int)) = false := by rw [beq_eq_false_iff_ne]; omega
          have HS0 : Hid (rblkTo q m (i + 1) = if blkA a me i m = true then insI ltI ol a.tx else ol) := Lib.hid (by rw [HSTEP.out, if_neg him])
          have hdec : decide ((i : Int) < (m : Int)) = decide (i < m) := by rw [decide_eq_decide]; omega
          clear him HSTEP
          obtain ⟨ah, hah⟩ : ∃ ah, (a.has != 0) = ah := ⟨_, rfl⟩
          obtain ⟨mh, hmh⟩ : ∃ mh, (me.has != 0) = mh := ⟨_, rfl⟩
          obtain ⟨aw, haw⟩ : ∃ aw, (a.wants != 0) = aw := ⟨_, rfl⟩
          obtain ⟨cp, hcp⟩ : ∃ cp, compat a.has me.wants = cp := ⟨_, rfl⟩
          obtain ⟨dd, hdd⟩ : ∃ dd, decide (i < m) = dd := ⟨_, rfl⟩
          rw [hdd] at hdec
          obtain ⟨hh, hhh⟩ : ∃ hh, hh = (ah && !cp) := ⟨_, rfl⟩
          obtain ⟨aa, haa⟩ : ∃ aa, aa = (aw && ((ah && !mh) || ((ah == mh) && dd))) := ⟨_, rfl⟩
          have hbd : blkA a me i m = (hh || aa) := by
            have hme : (me.has == 0) = !mh := by rw [← hmh]; simp [bne]
            rw [hhh, haa]
            unfold blkA
            rw [hah, hmh, haw, hcp, hdd, hme]
          rw [hbd] at HS0
          clear hbd
          go_upto_region 11 with fail
          go_cut [11] (fun s11 wx => s11 = .bool hh ∧ Below wr.heap.size wr wx)
          case first =>
            have HHH := Lib.hid hhh
            clear hhh haa
            cases ah with
            | false =>
              have HR : Hid (hh = false) := Lib.hid (by rw [HHH.out]; rfl)
              go_wp2_with fail
              go_quiet (fail)
              go_wp2_with fail
              go_meet
              exact ⟨by rw [HR.out], below_drewN (Below.refl _ _) _⟩
            | true =>
              have HR : Hid (hh = !cp) := Lib.hid (by rw [HHH.out]; rfl)
              have HCP := Lib.hid hcp
              clear hcp
              go_wp2_with fail
              go_region_held3 (fun w' => w'.cell? ⟨g, i * 4 + 1, none⟩ = some (.int .i64 a.has) ∧ w'.cell? ⟨g, m * 4 + 2, none⟩ = some (.int .i64 me.wants))
                ((go_split_ands; refine ⟨?_, ?_⟩ <;> go_keep))
                ((go_at_call 47; refine (together_any _ _ _).mono ?_; rintro e w' ⟨rfl, rfl⟩))
              go_wp2_with fail
              go_meet
              exact ⟨by rw [HR.out, HCP.out], (Below.refl _ _).drew⟩
          case rest =>
            obtain ⟨rfl, hwc⟩ := hcut
            obtain ⟨wq, hwq⟩ : ∃ wq, wq = wc := ⟨_, rfl⟩
            subst hwq
            have hBq := hwc
            have hOq := hO.below hBq
            have m1q := below_cell hBq (p := ⟨g, m * 4 + 1, none⟩) hgl m1
            have a0q := below_cell hBq (p := ⟨g, i * 4, none⟩) hgl a0
            have a1q := below_cell hBq (p := ⟨g, i * 4 + 1, none⟩) hgl a1
            have a2q := below_cell hBq (p := ⟨g, i * 4 + 2, none⟩) hgl a2
            have hglq : g < wq.heap.size := Nat.lt_of_lt_of_le hgl hBq.size
            have hBwq : Below w3.heap.size w3 wq := hB.trans (hBq.mono hB.size)
            clear hwc m0 m1 m2 m3 a0 a1 a2 a3 hO hBq hB
            go_upto_region 14 with fail
            go_cut [14] (fun s14 wx => s14 = .bool aa ∧ wx = wq)
            case first =>
              have HAA := Lib.hid haa
              clear haa
              cases aw <;> cases ah <;> cases mh <;> cases dd
              all_goals
                go_wp2_with fail
                go_meet
                exact ⟨by rw [HAA.out]; rfl, rfl⟩
            case rest =>
              obtain ⟨rfl, rfl⟩ := hcut
              obtain ⟨wq, hwq2⟩ : ∃ wq, wq = wc := ⟨_, rfl⟩
              subst hwq2
              clear haa hdec hdd hah hmh haw hcp hhh a1q a2q m1q
              cases hc : (hh || aa) with
              | false =>
                obtain ⟨rfl, rfl⟩ : hh = false ∧ aa = false := by simpa using hc
                have HS1 : Hid (rblkTo q m (i + 1) = ol) := Lib.hid (by rw [HS0.out, hc]; simp)
                clear hc
                go_wp2_with fail
                go_roundw
                case rel => exact ⟨i + 1, go, oc, by omega, by go_num, by rw [HS1.out], by rw [HS1.out]; exact hOq, hBwq⟩
                case measure => simp [intOf]; omega
              | true =>
                have HS1 : Hid (rblkTo q m (i + 1) = insI ltI ol a.tx) := Lib.hid (by rw [HS0.out, hc]; simp)
                go_upto_region 15 with fail
                go_cut [98] (fun s98 wx => s98 = .bool true ∧ wx = wq)
                case first =>
                  cases hh with
                  | true =>
                    go_wp2_with fail
                    go_meet
                    exact ⟨rfl, rfl⟩
                  | false =>
                    obtain rfl : aa = true := by simpa using hc
                    go_wp2_with fail
                    go_meet
                    exact ⟨rfl, rfl⟩
                case rest =>
                  obtain ⟨rfl, rfl⟩ := hcut
                  obtain ⟨wy, hwy⟩ : ∃ wy, wy = wc := ⟨_, rfl⟩
                  subst hwy
                  clear hc
                  go_wp2_with fail
                  go_loopw [15] (fun kv wr => ∃ kk : Nat, kk ≤ insAt ltI ol a.tx ∧ kv = .int .i64 kk ∧ Below wy.heap.size wy wr) (fun kv _ => ol.length - (intOf kv).toNat)
                  case atStart => exact ⟨0, by omega, rfl, Below.refl _ _⟩
                  case round =>
                    obtain ⟨kk, hkle, rfl, hBr⟩ := hrel
                    have hia := insAt_le ltI ol a.tx
                    have a0r := below_cell hBr (p := ⟨g, i * 4, none⟩) hglq a0q
                    have hglr : g < wr.heap.size := Nat.lt_of_lt_of_le hglq hBr.size
                    have hOr := hOq.below hBr
                    have hBwr : Below w3.heap.size w3 wr := hBwq.trans (hBr.mono hBwq.size)
                    clear a0q hOq hBwq
                    by_cases hkl : kk < ol.length
                    · obtain ⟨g9, hg9, -, hk1, hk2, -, -, e0⟩ := hOr.cell hkl
                      obtain rfl : go = g9 := by simpa using hg9
                      unfold maxLen at hk2
                      have hdk : decide ((kk : Int) < (ol.length : Int)) = true := by simp; exact hkl
                      by_cases hpl : ltI ol[kk] a.tx = true
                      · have hst := insAt_step hkle hkl hpl
                        have hdl : decide (ol[kk] < a.tx) = true := hpl
                        clear hpl
                        go_wp2_with fail
                        go_quiet (fail)
                        go_wp2_with fail
                        go_roundw
                        case rel => exact ⟨kk + 1, hst, by go_num, below_drewN hBr _⟩
                        case measure => simp [intOf]; omega
                      · have HKK : Hid (kk = insAt ltI ol a.tx) := Lib.hid (insAt_eq hkle (fun h => by simpa using hpl))
                        have hdl : decide (ol[kk] < a.tx) = false := by
                          have := hpl
                          unfold ltI at this
                          simpa using this
                        clear hpl
                        go_wp2_with fail
                        go_quiet (fail)
                        obtain ⟨wx, hwx⟩ : ∃ wx, wx = wr.drewN nq := ⟨_, rfl⟩
                        have hBx : Below w3.heap.size w3 wx := by rw [hwx]; exact below_drewN hBwr nq
                        have hOx : IO wx w3.heap.size (.slice (some ⟨go, 0, none⟩) ol.length oc) ol := by rw [hwx]; exact hOr.below (below_drewN (Below.refl _ _) nq)
                        have a0x : wx.cell? ⟨g, i * 4, none⟩ = some (.int .i64 a.tx) := by rw [hwx]; exact a0r
                        have hglx : g < wx.heap.size := by rw [hwx]; exact hglr
                        rw [← hwx]
                        clear hwx a0r hOr hBwr hglr e0 hdl hdk hk1 hk2
                        have HS2 : Hid (rblkTo q m (i + 1) = ol.take kk ++ [a.tx] ++ ol.drop kk) := Lib.hid (by rw [HS1.out]; unfold insI; rw [← HKK.out])
                        have hkk : kk ≤ ol.length := by rw [HKK.out]; exact insAt_le _ _ _
                        clear HKK
                        have hgox : go < wx.heap.size := by
                          rcases hOx.2 with ⟨e, _⟩ | ⟨g0, c0, cur, e, _, hh0, _⟩
                          · simp at e
                          · have e2 : go = g0 := by simpa [Value.ownBlock] using congrArg Value.ownBlock e
                            rw [e2]
                            exact (Array.getElem?_eq_some_iff.1 hh0).1
                        have hO0 : IO wx.drew w3.heap.size (.slice (some ⟨go, 0, none⟩) ol.length oc) ol := hOx.below (Below.refl _ _).drew
                        have hg0 : g < wx.drew.heap.size := hglx
                        have hgo0 : go < wx.drew.heap.size := hgox
                        have hBW0 : Below wx.heap.size wx wx.drew := (Below.refl _ _).drew
                        have hBA0 : Below wx.drew.heap.size wx.drew (wx.drew.alloc (.cells #[] 3)) := (Below.refl _ _).alloc (Nat.le_refl _) _
                        have hBA1 : Below wx.drew.heap.size wx.drew (wx.drew.alloc (.cells #[.int .i64 a.tx] 3)) := (Below.refl _ _).alloc (Nat.le_refl _) _
                        have hBA01 : Below wx.drew.heap.size wx.drew ((wx.drew.alloc (.cells #[] 3)).alloc (.cells #[.int .i64 a.tx] 3)) := hBA0.alloc hBA0.size _
                        have hBA10 : Below wx.drew.heap.size wx.drew ((wx.drew.alloc (.cells #[.int .i64 a.tx] 3)).alloc (.cells #[] 3)) := hBA1.alloc hBA1.size _
                        have him0 := IO.made wx.drew
                        have him01 := him0.below ((Below.refl (wx.drew.alloc (.cells #[] 3)).heap.size _).alloc (Nat.le_refl _) (.cells #[.int .i64 a.tx] 3))
                        have hsz1 : (wx.drew.alloc (.cells #[.int .i64 a.tx] 3)).heap.size = wx.heap.size + 1 := World.size_alloc _ _
                        have hsz0 : (wx.drew.alloc (.cells #[] 3)).heap.size = wx.heap.size + 1 := World.size_alloc _ _
                        have him10 : IO ((wx.drew.alloc (.cells #[.int .i64 a.tx] 3)).alloc (.cells #[] 3)) wx.drew.heap.size (.slice (some ⟨wx.heap.size + 1, 0, none⟩) 0 0) [] := by
                          have := (IO.made (wx.drew.alloc (.cells #[.int .i64 a.tx] 3))).base_ hBA1.size
                          rw [hsz1] at this
                          exact this
                        have hio0 := hO0.below hBA0
                        have hio01 := hO0.below hBA01
                        have hio10 := hO0.below hBA10
                        have hgf0 := him0.far hg0
                        have hgf10 := him10.far hg0
                        have hgof0 := him0.far hgo0
                        have hgof10 := him10.far hgo0
                        have hdg : ∀ {ob : Option Nat}, some go ≠ ob → ∀ k', some k' = (Value.slice (some ⟨go, 0, none⟩) ol.length oc).ownBlock → some k' ≠ ob := fun hn k' e => by
                          have h1 : k' = go := by simpa [Value.ownBlock] using e
                          rw [h1]
                          exact hn
                        have hgl0 : g < (wx.drew.alloc (.cells #[] 3)).heap.size := Nat.lt_of_lt_of_le hg0 hBA0.size
                        have hgl01 : g < ((wx.drew.alloc (.cells #[] 3)).alloc (.cells #[.int .i64 a.tx] 3)).heap.size := Nat.lt_of_lt_of_le hg0 hBA01.size
                        have hgl10 : g < ((wx.drew.alloc (.cells #[.int .i64 a.tx] 3)).alloc (.cells #[] 3)).heap.size := Nat.lt_of_lt_of_le hg0 hBA10.size
                        have hx01 : Blk ((wx.drew.alloc (.cells #[] 3)).alloc (.cells #[.int .i64 a.tx] 3)) (wx.heap.size + 1) 3 #[.int .i64 a.tx] := by
                          have := Blk.new (wx.drew.alloc (.cells #[] 3)) 3 #[.int .i64 a.tx]
                          rw [hsz0] at this
                          exact this
                        have hx10 : Blk ((wx.drew.alloc (.cells #[.int .i64 a.tx] 3)).alloc (.cells #[] 3)) wx.heap.size 3 #[.int .i64 a.tx] := (Blk.new _ _ _).alloc _
                        clear hsz0 hsz1
                        have hxn01 : some (wx.heap.size + 1) ≠ (Value.slice (some ⟨wx.drew.heap.size, 0, none⟩) 0 0).ownBlock := by simp [Value.ownBlock]
                        have hxn10 : some wx.heap.size ≠ (Value.slice (some ⟨wx.heap.size + 1, 0, none⟩) 0 0).ownBlock := by simp [Value.ownBlock]
                        have HL0 : Hid (kk = (ol.take kk).length) := Lib.hid (by rw [List.length_take]; omega)
                        have HL1 : Hid (([] : List Int).length + (ol.take kk).length ≤ 1000000000) := Lib.hid (by rw [List.length_take]; simp; omega)
                        have HL2 : Hid ((ol.take kk).length + [a.tx].length ≤ 1000000000) := Lib.hid (by rw [List.length_take]; simp; omega)
                        have HL3 : Hid ((ol.take kk ++ [a.tx]).length + (ol.drop kk).length ≤ 1000000000) := Lib.hid (by rw [List.length_append, List.length_take, List.length_drop]; simp; omega)
                        obtain ⟨hoc1, hoc2⟩ : ol.length ≤ oc ∧ oc ≤ maxLen := by
                          obtain ⟨a', c', e, h1, h2⟩ := hOx.form
                          have e2 : oc = c' := by have := e; simp at this; exact this.2
                          rw [e2]; exact ⟨h1, h2⟩
                        unfold maxLen at hoc2
                        have hi1 : (0 : Int) ≤ (kk : Int) := by omega
                        have hi2 : (kk : Int) ≤ (oc : Int) := by omega
                        have hi4 : (kk : Int) ≤ (ol.length : Int) := by omega
                        by_cases hcz : oc = kk
                        · have hsrE : ∀ {w'}, SrcAt w' (some ⟨go, 0, none⟩) ((ol.drop kk).map iv) := fun {w'} j u hj => by
                            rw [List.drop_of_length_le (by omega)] at hj
                            simp at hj
                          have hczt : (oc = kk) = True := eq_true hcz
                          clear hcz
                          go_wp2_with fail
                          go_region_held3 (fun w' => w'.cell? ⟨g, i * 4, none⟩ = some (.int .i64 a.tx))
                            (first
                              | go_keep
                              | (rw [World.cell?_of_block (hg5.block g hgl0 hgf0)]; assumption)
                              | (rw [World.cell?_of_block (hg5.block g hgl01 hgf0)]; assumption)
                              | (rw [World.cell?_of_block (hg5.block g hgl10 hgf10)]; assumption)
                              | (rw [World.cell?_of_block (hg6.block g hgl2 hgf5)]; assumption)
                              | (rw [World.cell?_of_block (hg7.block g hgl6 hgf6)]; assumption))
                            (first
                              | (refine step_append_io rfl _ _ rfl wx.drew.heap.size _ [] (ol.take kk) rfl him0 (some ⟨go, 0, none⟩) kk _ rfl HL0.out (fun h => by simp at h) (hio0.src.takeI kk) HL1.out hBA0.size ?_; intro v5 w5 ho5 hg5; have hgl5 := Nat.lt_of_lt_of_le hgl0 hg5.size; have hB5 := him0.grownBelow hBA0 hg5 hBA0.size; have hio5 := hio0.grown hg5 (hdg hgof0); have hgl2 := Nat.lt_of_lt_of_le hgl5 (((Below.refl w5.heap.size w5).alloc (Nat.le_refl _) (.cells #[.int .i64 a.tx] 3)).size); have ho2 := ho5.below ((Below.refl w5.heap.size w5).alloc (Nat.le_refl _) (.cells #[.int .i64 a.tx] 3)); have hio2 := hio5.below ((Below.refl w5.heap.size w5).alloc (Nat.le_refl _) (.cells #[.int .i64 a.tx] 3)); have hB2 := hB5.alloc hB5.size (.cells #[.int .i64 a.tx] 3); have hsx := src_int w5 a.tx; have hgf5 := ho5.far hg0; have hgof5 := ho5.far hgo0)
                              | (refine step_append_io rfl _ _ rfl wx.drew.heap.size _ [] (ol.take kk) rfl him01 (some ⟨go, 0, none⟩) kk _ rfl HL0.out (fun h => by simp at h) (hio01.src.takeI kk) HL1.out hBA01.size ?_; intro v5 w5 ho5 hg5; have hgl5 := Nat.lt_of_lt_of_le hgl01 hg5.size; have hB5 := him01.grownBelow hBA01 hg5 hBA01.size; have hio5 := hio01.grown hg5 (hdg hgof0); have hgl2 := hgl5; have ho2 := ho5; have hio2 := hio5; have hB2 := hB5; have hsx := src_blk (hx01.of_block (hg5.block _ hx01.lt hxn01)); have hgf5 := ho5.far hg0; have hgof5 := ho5.far hgo0)
                              | (refine step_append_io rfl _ _ rfl wx.drew.heap.size _ [] (ol.take kk) rfl him10 (some ⟨go, 0, none⟩) kk _ rfl HL0.out (fun h => by simp at h) (hio10.src.takeI kk) HL1.out hBA10.size ?_; intro v5 w5 ho5 hg5; have hgl5 := Nat.lt_of_lt_of_le hgl10 hg5.size; have hB5 := him10.grownBelow hBA10 hg5 hBA10.size; have hio5 := hio10.grown hg5 (hdg hgof10); have hgl2 := hgl5; have ho2 := ho5; have hio2 := hio5; have hB2 := hB5; have hsx := src_blk (hx10.of_block (hg5.block _ hx10.lt hxn10)); have hgf5 := ho5.far hg0; have hgof5 := ho5.far hgo0)
                              | (refine step_append_io rfl _ _ rfl wx.drew.heap.size _ (ol.take kk) [a.tx] rfl ho2 (some ⟨_, 0, none⟩) 1 1 rfl rfl (fun h => by simp at h) hsx HL2.out hB2.size ?_; intro v6 w6 ho6 hg6; have hgl6 := Nat.lt_of_lt_of_le hgl2 hg6.size; have hB6 := ho2.grownBelow hB2 hg6 hB2.size; have hio6 := hio2.grown hg6 (hdg hgof5); have hgf6 := ho6.far hg0)
                              | (refine step_append_io rfl _ _ rfl wx.drew.heap.size _ (ol.take kk ++ [a.tx]) (ol.drop kk) rfl ho6 (some ⟨go, 0, none⟩) (ol.length - kk) _ rfl List.length_drop.symm (fun h => by simp at h) hsrE HL3.out hB6.size ?_; intro v7 w7 ho7 hg7; have hB7 := ho6.grownBelow hB6 hg7 hB6.size))
                          all_goals
                            have hlen7 : 0 < (ol.take kk ++ [a.tx] ++ ol.drop kk).length := by simp only [List.length_append, List.length_cons]; omega
                            obtain ⟨gn, cn, rfl, -, -⟩ := ho7.some hlen7
                            have hll7 : (ol.take kk ++ [a.tx] ++ ol.drop kk).length = (rblkTo q m (i + 1)).length := by rw [HS2.out]
                            have hB7w : Below w3.heap.size w3 w7 := hBx.trans ((hBW0.trans (hB7.mono hBW0.size)).mono hBx.size)
                            have hs30 : w3.heap.size ≤ wx.drew.heap.size := Nat.le_trans hBx.size hBW0.size
                            have HI7 := Lib.hid (ho7.base_ hs30)
                            rw [hll7] at HI7 ⊢
                            clear hlen7 hll7
                            go_wp2_with fail
                            go_roundw
                            case rel => exact ⟨i + 1, gn, cn, by omega, by go_num, rfl, by rw [HS2.out] at HI7 ⊢; exact HI7.out, hB7w⟩
                            case measure => simp [intOf]; omega
                        · have hczt : (oc = kk) = False := eq_false hcz
                          clear hcz
                          go_wp2_with fail
                          go_region_held3 (fun w' => w'.cell? ⟨g, i * 4, none⟩ = some (.int .i64 a.tx))
                            (first
                              | go_keep
                              | (rw [World.cell?_of_block (hg5.block g hgl0 hgf0)]; assumption)
                              | (rw [World.cell?_of_block (hg5.block g hgl01 hgf0)]; assumption)
                              | (rw [World.cell?_of_block (hg5.block g hgl10 hgf10)]; assumption)
                              | (rw [World.cell?_of_block (hg6.block g hgl2 hgf5)]; assumption)
                              | (rw [World.cell?_of_block (hg7.block g hgl6 hgf6)]; assumption))
                            (first
                              | (refine step_append_io rfl _ _ rfl wx.drew.heap.size _ [] (ol.take kk) rfl him0 (some ⟨go, 0, none⟩) kk _ rfl HL0.out (fun h => by simp at h) (hio0.src.takeI kk) HL1.out hBA0.size ?_; intro v5 w5 ho5 hg5; have hgl5 := Nat.lt_of_lt_of_le hgl0 hg5.size; have hB5 := him0.grownBelow hBA0 hg5 hBA0.size; have hio5 := hio0.grown hg5 (hdg hgof0); have hgl2 := Nat.lt_of_lt_of_le hgl5 (((Below.refl w5.heap.size w5).alloc (Nat.le_refl _) (.cells #[.int .i64 a.tx] 3)).size); have ho2 := ho5.below ((Below.refl w5.heap.size w5).alloc (Nat.le_refl _) (.cells #[.int .i64 a.tx] 3)); have hio2 := hio5.below ((Below.refl w5.heap.size w5).alloc (Nat.le_refl _) (.cells #[.int .i64 a.tx] 3)); have hB2 := hB5.alloc hB5.size (.cells #[.int .i64 a.tx] 3); have hsx := src_int w5 a.tx; have hgf5 := ho5.far hg0; have hgof5 := ho5.far hgo0)
                              | (refine step_append_io rfl _ _ rfl wx.drew.heap.size _ [] (ol.take kk) rfl him01 (some ⟨go, 0, none⟩) kk _ rfl HL0.out (fun h => by simp at h) (hio01.src.takeI kk) HL1.out hBA01.size ?_; intro v5 w5 ho5 hg5; have hgl5 := Nat.lt_of_lt_of_le hgl01 hg5.size; have hB5 := him01.grownBelow hBA01 hg5 hBA01.size; have hio5 := hio01.grown hg5 (hdg hgof0); have hgl2 := hgl5; have ho2 := ho5; have hio2 := hio5; have hB2 := hB5; have hsx := src_blk (hx01.of_block (hg5.block _ hx01.lt hxn01)); have hgf5 := ho5.far hg0; have hgof5 := ho5.far hgo0)
                              | (refine step_append_io rfl _ _ rfl wx.drew.heap.size _ [] (ol.take kk) rfl him10 (some ⟨go, 0, none⟩) kk _ rfl HL0.out (fun h => by simp at h) (hio10.src.takeI kk) HL1.out hBA10.size ?_; intro v5 w5 ho5 hg5; have hgl5 := Nat.lt_of_lt_of_le hgl10 hg5.size; have hB5 := him10.grownBelow hBA10 hg5 hBA10.size; have hio5 := hio10.grown hg5 (hdg hgof10); have hgl2 := hgl5; have ho2 := ho5; have hio2 := hio5; have hB2 := hB5; have hsx := src_blk (hx10.of_block (hg5.block _ hx10.lt hxn10)); have hgf5 := ho5.far hg0; have hgof5 := ho5.far hgo0)
                              | (refine step_append_io rfl _ _ rfl wx.drew.heap.size _ (ol.take kk) [a.tx] rfl ho2 (some ⟨_, 0, none⟩) 1 1 rfl rfl (fun h => by simp at h) hsx HL2.out hB2.size ?_; intro v6 w6 ho6 hg6; have hgl6 := Nat.lt_of_lt_of_le hgl2 hg6.size; have hB6 := ho2.grownBelow hB2 hg6 hB2.size; have hio6 := hio2.grown hg6 (hdg hgof5); have hgf6 := ho6.far hg0)
                              | (refine step_append_io rfl _ _ rfl wx.drew.heap.size _ (ol.take kk ++ [a.tx]) (ol.drop kk) rfl ho6 (some ⟨go, kk, none⟩) (ol.length - kk) _ rfl List.length_drop.symm (fun h => by simp at h) (hio6.src.dropI kk) HL3.out hB6.size ?_; intro v7 w7 ho7 hg7; have hB7 := ho6.grownBelow hB6 hg7 hB6.size))
                          all_goals
                            have hlen7 : 0 < (ol.take kk ++ [a.tx] ++ ol.drop kk).length := by simp only [List.length_append, List.length_cons]; omega
                            obtain ⟨gn, cn, rfl, -, -⟩ := ho7.some hlen7
                            have hll7 : (ol.take kk ++ [a.tx] ++ ol.drop kk).length = (rblkTo q m (i + 1)).length := by rw [HS2.out]
                            have hB7w : Below w3.heap.size w3 w7 := hBx.trans ((hBW0.trans (hB7.mono hBW0.size)).mono hBx.size)
                            have hs30 : w3.heap.size ≤ wx.drew.heap.size := Nat.le_trans hBx.size hBW0.size
                            have HI7 := Lib.hid (ho7.base_ hs30)
                            rw [hll7] at HI7 ⊢
                            clear hlen7 hll7
                            go_wp2_with fail
                            go_roundw
                            case rel => exact ⟨i + 1, gn, cn, by omega, by go_num, rfl, by rw [HS2.out] at HI7 ⊢; exact HI7.out, hB7w⟩
                            case measure => simp [intOf]; omega
                    · have HKK : Hid (kk = insAt ltI ol a.tx) := Lib.hid (insAt_eq hkle (fun h => absurd h hkl))
                      have hdk : decide ((kk : Int) < (ol.length : Int)) = false := by simp; omega
                      go_wp2_with fail
                      go_quiet (fail)
                      clear hdk
                      obtain ⟨wx, hwx⟩ : ∃ wx, wx = wr.drewN nq := ⟨_, rfl⟩
                      have hBx : Below w3.heap.size w3 wx := by rw [hwx]; exact below_drewN hBwr nq
                      have hOx : IO wx w3.heap.size (.slice (some ⟨go, 0, none⟩) ol.length oc) ol := by rw [hwx]; exact hOr.below (below_drewN (Below.refl _ _) nq)
                      have a0x : wx.cell? ⟨g, i * 4, none⟩ = some (.int .i64 a.tx) := by rw [hwx]; exact a0r
                      have hglx : g < wx.heap.size := by rw [hwx]; exact hglr
                      rw [← hwx]
                      clear hwx a0r hOr hBwr hglr
                      have HS2 : Hid (rblkTo q m (i + 1) = ol.take kk ++ [a.tx] ++ ol.drop kk) := Lib.hid (by rw [HS1.out]; unfold insI; rw [← HKK.out])
                      have hkk : kk ≤ ol.length := by rw [HKK.out]; exact insAt_le _ _ _
                      clear HKK
                      have hgox : go < wx.heap.size := by
                        rcases hOx.2 with ⟨e, _⟩ | ⟨g0, c0, cur, e, _, hh0, _⟩
                        · simp at e
                        · have e2 : go = g0 := by simpa [Value.ownBlock] using congrArg Value.ownBlock e
                          rw [e2]
                          exact (Array.getElem?_eq_some_iff.1 hh0).1
                      have hO0 : IO wx.drew w3.heap.size (.slice (some ⟨go, 0, none⟩) ol.length oc) ol := hOx.below (Below.refl _ _).drew
                      have hg0 : g < wx.drew.heap.size := hglx
                      have hgo0 : go < wx.drew.heap.size := hgox
                      have hBW0 : Below wx.heap.size wx wx.drew := (Below.refl _ _).drew
                      have hBA0 : Below wx.drew.heap.size wx.drew (wx.drew.alloc (.cells #[] 3)) := (Below.refl _ _).alloc (Nat.le_refl _) _
                      have hBA1 : Below wx.drew.heap.size wx.drew (wx.drew.alloc (.cells #[.int .i64 a.tx] 3)) := (Below.refl _ _).alloc (Nat.le_refl _) _
                      have hBA01 : Below wx.drew.heap.size wx.drew ((wx.drew.alloc (.cells #[] 3)).alloc (.cells #[.int .i64 a.tx] 3)) := hBA0.alloc hBA0.size _
                      have hBA10 : Below wx.drew.heap.size wx.drew ((wx.drew.alloc (.cells #[.int .i64 a.tx] 3)).alloc (.cells #[] 3)) := hBA1.alloc hBA1.size _
                      have him0 := IO.made wx.drew
                      have him01 := him0.below ((Below.refl (wx.drew.alloc (.cells #[] 3)).heap.size _).alloc (Nat.le_refl _) (.cells #[.int .i64 a.tx] 3))
                      have hsz1 : (wx.drew.alloc (.cells #[.int .i64 a.tx] 3)).heap.size = wx.heap.size + 1 := World.size_alloc _ _
                      have hsz0 : (wx.drew.alloc (.cells #[] 3)).heap.size = wx.heap.size + 1 := World.size_alloc _ _
                      have him10 : IO ((wx.drew.alloc (.cells #[.int .i64 a.tx] 3)).alloc (.cells #[] 3)) wx.drew.heap.size (.slice (some ⟨wx.heap.size + 1, 0, none⟩) 0 0) [] := by
                        have := (IO.made (wx.drew.alloc (.cells #[.int .i64 a.tx] 3))).base_ hBA1.size
                        rw [hsz1] at this
                        exact this
                      have hio0 := hO0.below hBA0
                      have hio01 := hO0.below hBA01
                      have hio10 := hO0.below hBA10
                      have hgf0 := him0.far hg0
                      have hgf10 := him10.far hg0
                      have hgof0 := him0.far hgo0
                      have hgof10 := him10.far hgo0
                      have hdg : ∀ {ob : Option Nat}, some go ≠ ob → ∀ k', some k' = (Value.slice (some ⟨go, 0, none⟩) ol.length oc).ownBlock → some k' ≠ ob := fun hn k' e => by
                        have h1 : k' = go := by simpa [Value.ownBlock] using e
                        rw [h1]
                        exact hn
                      have hgl0 : g < (wx.drew.alloc (.cells #[] 3)).heap.size := Nat.lt_of_lt_of_le hg0 hBA0.size
                      have hgl01 : g < ((wx.drew.alloc (.cells #[] 3)).alloc (.cells #[.int .i64 a.tx] 3)).heap.size := Nat.lt_of_lt_of_le hg0 hBA01.size
                      have hgl10 : g < ((wx.drew.alloc (.cells #[.int .i64 a.tx] 3)).alloc (.cells #[] 3)).heap.size := Nat.lt_of_lt_of_le hg0 hBA10.size
                      have hx01 : Blk ((wx.drew.alloc (.cells #[] 3)).alloc (.cells #[.int .i64 a.tx] 3)) (wx.heap.size + 1) 3 #[.int .i64 a.tx] := by
                        have := Blk.new (wx.drew.alloc (.cells #[] 3)) 3 #[.int .i64 a.tx]
                        rw [hsz0] at this
                        exact this
                      have hx10 : Blk ((wx.drew.alloc (.cells #[.int .i64 a.tx] 3)).alloc (.cells #[] 3)) wx.heap.size 3 #[.int .i64 a.tx] := (Blk.new _ _ _).alloc _
                      clear hsz0 hsz1
                      have hxn01 : some (wx.heap.size + 1) ≠ (Value.slice (some ⟨wx.drew.heap.size, 0, none⟩) 0 0).ownBlock := by simp [Value.ownBlock]
                      have hxn10 : some wx.heap.size ≠ (Value.slice (some ⟨wx.heap.size + 1, 0, none⟩) 0 0).ownBlock := by simp [Value.ownBlock]
                      have HL0 : Hid (kk = (ol.take kk).length) := Lib.hid (by rw [List.length_take]; omega)
                      have HL1 : Hid (([] : List Int).length + (ol.take kk).length ≤ 1000000000) := Lib.hid (by rw [List.length_take]; simp; omega)
                      have HL2 : Hid ((ol.take kk).length + [a.tx].length ≤ 1000000000) := Lib.hid (by rw [List.length_take]; simp; omega)
                      have HL3 : Hid ((ol.take kk ++ [a.tx]).length + (ol.drop kk).length ≤ 1000000000) := Lib.hid (by rw [List.length_append, List.length_take, List.length_drop]; simp; omega)
                      obtain ⟨hoc1, hoc2⟩ : ol.length ≤ oc ∧ oc ≤ maxLen := by
                        obtain ⟨a', c', e, h1, h2⟩ := hOx.form
                        have e2 : oc = c' := by have := e; simp at this; exact this.2
                        rw [e2]; exact ⟨h1, h2⟩
                      unfold maxLen at hoc2
                      have hi1 : (0 : Int) ≤ (kk : Int) := by omega
                      have hi2 : (kk : Int) ≤ (oc : Int) := by omega
                      have hi4 : (kk : Int) ≤ (ol.length : Int) := by omega
                      by_cases hcz : oc = kk
                      · have hsrE : ∀ {w'}, SrcAt w' (some ⟨go, 0, none⟩) ((ol.drop kk).map iv) := fun {w'} j u hj => by
                          rw [List.drop_of_length_le (by omega)] at hj
                          simp at hj
                        have hczt : (oc = kk) = True := eq_true hcz
                        clear hcz
                        go_wp2_with fail
                        go_region_held3 (fun w' => w'.cell? ⟨g, i * 4, none⟩ = some (.int .i64 a.tx))
                          (first
                            | go_keep
                            | (rw [World.cell?_of_block (hg5.block g hgl0 hgf0)]; assumption)
                            | (rw [World.cell?_of_block (hg5.block g hgl01 hgf0)]; assumption)
                            | (rw [World.cell?_of_block (hg5.block g hgl10 hgf10)]; assumption)
                            | (rw [World.cell?_of_block (hg6.block g hgl2 hgf5)]; assumption)
                            | (rw [World.cell?_of_block (hg7.block g hgl6 hgf6)]; assumption))
                          (first
                            | (refine step_append_io rfl _ _ rfl wx.drew.heap.size _ [] (ol.take kk) rfl him0 (some ⟨go, 0, none⟩) kk _ rfl HL0.out (fun h => by simp at h) (hio0.src.takeI kk) HL1.out hBA0.size ?_; intro v5 w5 ho5 hg5; have hgl5 := Nat.lt_of_lt_of_le hgl0 hg5.size; have hB5 := him0.grownBelow hBA0 hg5 hBA0.size; have hio5 := hio0.grown hg5 (hdg hgof0); have hgl2 := Nat.lt_of_lt_of_le hgl5 (((Below.refl w5.heap.size w5).alloc (Nat.le_refl _) (.cells #[.int .i64 a.tx] 3)).size); have ho2 := ho5.below ((Below.refl w5.heap.size w5).alloc (Nat.le_refl _) (.cells #[.int .i64 a.tx] 3)); have hio2 := hio5.below ((Below.refl w5.heap.size w5).alloc (Nat.le_refl _) (.cells #[.int .i64 a.tx] 3)); have hB2 := hB5.alloc hB5.size (.cells #[.int .i64 a.tx] 3); have hsx := src_int w5 a.tx; have hgf5 := ho5.far hg0; have hgof5 := ho5.far hgo0)
                            | (refine step_append_io rfl _ _ rfl wx.drew.heap.size _ [] (ol.take kk) rfl him01 (some ⟨go, 0, none⟩) kk _ rfl HL0.out (fun h => by simp at h) (hio01.src.takeI kk) HL1.out hBA01.size ?_; intro v5 w5 ho5 hg5; have hgl5 := Nat.lt_of_lt_of_le hgl01 hg5.size; have hB5 := him01.grownBelow hBA01 hg5 hBA01.size; have hio5 := hio01.grown hg5 (hdg hgof0); have hgl2 := hgl5; have ho2 := ho5; have hio2 := hio5; have hB2 := hB5; have hsx := src_blk (hx01.of_block (hg5.block _ hx01.lt hxn01)); have hgf5 := ho5.far hg0; have hgof5 := ho5.far hgo0)
                            | (refine step_append_io rfl _ _ rfl wx.drew.heap.size _ [] (ol.take kk) rfl him10 (some ⟨go, 0, none⟩) kk _ rfl HL0.out (fun h => by simp at h) (hio10.src.takeI kk) HL1.out hBA10.size ?_; intro v5 w5 ho5 hg5; have hgl5 := Nat.lt_of_lt_of_le hgl10 hg5.size; have hB5 := him10.grownBelow hBA10 hg5 hBA10.size; have hio5 := hio10.grown hg5 (hdg hgof10); have hgl2 := hgl5; have ho2 := ho5; have hio2 := hio5; have hB2 := hB5; have hsx := src_blk (hx10.of_block (hg5.block _ hx10.lt hxn10)); have hgf5 := ho5.far hg0; have hgof5 := ho5.far hgo0)
                            | (refine step_append_io rfl _ _ rfl wx.drew.heap.size _ (ol.take kk) [a.tx] rfl ho2 (some ⟨_, 0, none⟩) 1 1 rfl rfl (fun h => by simp at h) hsx HL2.out hB2.size ?_; intro v6 w6 ho6 hg6; have hgl6 := Nat.lt_of_lt_of_le hgl2 hg6.size; have hB6 := ho2.grownBelow hB2 hg6 hB2.size; have hio6 := hio2.grown hg6 (hdg hgof5); have hgf6 := ho6.far hg0)
                            | (refine step_append_io rfl _ _ rfl wx.drew.heap.size _ (ol.take kk ++ [a.tx]) (ol.drop kk) rfl ho6 (some ⟨go, 0, none⟩) (ol.length - kk) _ rfl List.length_drop.symm (fun h => by simp at h) hsrE HL3.out hB6.size ?_; intro v7 w7 ho7 hg7; have hB7 := ho6.grownBelow hB6 hg7 hB6.size))
                        all_goals
                          have hlen7 : 0 < (ol.take kk ++ [a.tx] ++ ol.drop kk).length := by simp only [List.length_append, List.length_cons]; omega
                          obtain ⟨gn, cn, rfl, -, -⟩ := ho7.some hlen7
                          have hll7 : (ol.take kk ++ [a.tx] ++ ol.drop kk).length = (rblkTo q m (i + 1)).length := by rw [HS2.out]
                          have hB7w : Below w3.heap.size w3 w7 := hBx.trans ((hBW0.trans (hB7.mono hBW0.size)).mono hBx.size)
                          have hs30 : w3.heap.size ≤ wx.drew.heap.size := Nat.le_trans hBx.size hBW0.size
                          have HI7 := Lib.hid (ho7.base_ hs30)
                          rw [hll7] at HI7 ⊢
                          clear hlen7 hll7
                          go_wp2_with fail
                          go_roundw
                          case rel => exact ⟨i + 1, gn, cn, by omega, by go_num, rfl, by rw [HS2.out] at HI7 ⊢; exact HI7.out, hB7w⟩
                          case measure => simp [intOf]; omega
                      · have hczt : (oc = kk) = False := eq_false hcz
                        clear hcz
                        go_wp2_with fail
                        go_region_held3 (fun w' => w'.cell? ⟨g, i * 4, none⟩ = some (.int .i64 a.tx))
                          (first
                            | go_keep
                            | (rw [World.cell?_of_block (hg5.block g hgl0 hgf0)]; assumption)
                            | (rw [World.cell?_of_block (hg5.block g hgl01 hgf0)]; assumption)
                            | (rw [World.cell?_of_block (hg5.block g hgl10 hgf10)]; assumption)
                            | (rw [World.cell?_of_block (hg6.block g hgl2 hgf5)]; assumption)
                            | (rw [World.cell?_of_block (hg7.block g hgl6 hgf6)]; assumption))
                          (first
                            | (refine step_append_io rfl _ _ rfl wx.drew.heap.size _ [] (ol.take kk) rfl him0 (some ⟨go, 0, none⟩) kk _ rfl HL0.out (fun h => by simp at h) (hio0.src.takeI kk) HL1.out hBA0.size ?_; intro v5 w5 ho5 hg5; have hgl5 := Nat.lt_of_lt_of_le hgl0 hg5.size; have hB5 := him0.grownBelow hBA0 hg5 hBA0.size; have hio5 := hio0.grown hg5 (hdg hgof0); have hgl2 := Nat.lt_of_lt_of_le hgl5 (((Below.refl w5.heap.size w5).alloc (Nat.le_refl _) (.cells #[.int .i64 a.tx] 3)).size); have ho2 := ho5.below ((Below.refl w5.heap.size w5).alloc (Nat.le_refl _) (.cells #[.int .i64 a.tx] 3)); have hio2 := hio5.below ((Below.refl w5.heap.size w5).alloc (Nat.le_refl _) (.cells #[.int .i64 a.tx] 3)); have hB2 := hB5.alloc hB5.size (.cells #[.int .i64 a.tx] 3); have hsx := src_int w5 a.tx; have hgf5 := ho5.far hg0; have hgof5 := ho5.far hgo0)
                            | (refine step_append_io rfl _ _ rfl wx.drew.heap.size _ [] (ol.take kk) rfl him01 (some ⟨go, 0, none⟩) kk _ rfl HL0.out (fun h => by simp at h) (hio01.src.takeI kk) HL1.out hBA01.size ?_; intro v5 w5 ho5 hg5; have hgl5 := Nat.lt_of_lt_of_le hgl01 hg5.size; have hB5 := him01.grownBelow hBA01 hg5 hBA01.size; have hio5 := hio01.grown hg5 (hdg hgof0); have hgl2 := hgl5; have ho2 := ho5; have hio2 := hio5; have hB2 := hB5; have hsx := src_blk (hx01.of_block (hg5.block _ hx01.lt hxn01)); have hgf5 := ho5.far hg0; have hgof5 := ho5.far hgo0)
                            | (refine step_append_io rfl _ _ rfl wx.drew.heap.size _ [] (ol.take kk) rfl him10 (some ⟨go, 0, none⟩) kk _ rfl HL0.out (fun h => by simp at h) (hio10.src.takeI kk) HL1.out hBA10.size ?_; intro v5 w5 ho5 hg5; have hgl5 := Nat.lt_of_lt_of_le hgl10 hg5.size; have hB5 := him10.grownBelow hBA10 hg5 hBA10.size; have hio5 := hio10.grown hg5 (hdg hgof10); have hgl2 := hgl5; have ho2 := ho5; have hio2 := hio5; have hB2 := hB5; have hsx := src_blk (hx10.of_block (hg5.block _ hx10.lt hxn10)); have hgf5 := ho5.far hg0; have hgof5 := ho5.far hgo0)
                            | (refine step_append_io rfl _ _ rfl wx.drew.heap.size _ (ol.take kk) [a.tx] rfl ho2 (some ⟨_, 0, none⟩) 1 1 rfl rfl (fun h => by simp at h) hsx HL2.out hB2.size ?_; intro v6 w6 ho6 hg6; have hgl6 := Nat.lt_of_lt_of_le hgl2 hg6.size; have hB6 := ho2.grownBelow hB2 hg6 hB2.size; have hio6 := hio2.grown hg6 (hdg hgof5); have hgf6 := ho6.far hg0)
                            | (refine step_append_io rfl _ _ rfl wx.drew.heap.size _ (ol.take kk ++ [a.tx]) (ol.drop kk) rfl ho6 (some ⟨go, kk, none⟩) (ol.length - kk) _ rfl List.length_drop.symm (fun h => by simp at h) (hio6.src.dropI kk) HL3.out hB6.size ?_; intro v7 w7 ho7 hg7; have hB7 := ho6.grownBelow hB6 hg7 hB6.size))
                        all_goals
                          have hlen7 : 0 < (ol.take kk ++ [a.tx] ++ ol.drop kk).length := by simp only [List.length_append, List.length_cons]; omega
                          obtain ⟨gn, cn, rfl, -, -⟩ := ho7.some hlen7
                          have hll7 : (ol.take kk ++ [a.tx] ++ ol.drop kk).length = (rblkTo q m (i + 1)).length := by rw [HS2.out]
                          have hB7w : Below w3.heap.size w3 w7 := hBx.trans ((hBW0.trans (hB7.mono hBW0.size)).mono hBx.size)
                          have hs30 : w3.heap.size ≤ wx.drew.heap.size := Nat.le_trans hBx.size hBW0.size
                          have HI7 := Lib.hid (ho7.base_ hs30)
                          rw [hll7] at HI7 ⊢
                          clear hlen7 hll7
                          go_wp2_with fail
                          go_roundw
                          case rel => exact ⟨i + 1, gn, cn, by omega, by go_num, rfl, by rw [HS2.out] at HI7 ⊢; exact HI7.out, hB7w⟩
                          case measure => simp [intOf]; omega
      · obtain rfl : i = q.length := by omega
        have hBw : Below w.heap.size w wr := hBw3.trans (hB.mono hBw3.size)
        go_wp2_with fail
        go_ret
        rw [HBLK.out]
        exact ⟨_, rfl, hO.base_ hBw3.size, hBw⟩
end Go.Proofs.YtcdlplbccblbaaaGreat
