import Derived.Test.YtpggillecedocaaAc
namespace Go.Proofs.Ytpggillecedocaa
open Go.RowKit
set_option linter.unusedVariables false

/-- No name of the law's is the fresh one. -/
def notFresh (n : Nm) : Prop := n.kind ≠ 3
theorem nmA_notFresh (n : Int) : notFresh (nmA n) := by
  unfold notFresh
  rw [nmA_eq]
  simp only
  omega

theorem waits_ta {B : Nat} {w : World} {T QB WB : Nat} {L : List (Nm × List Ak)} {W : List (Int × Nm)} (h : TA B w T QB WB L W) (tx : Int) : Calls Try.prog 19 #[.pointer (some ⟨T, 0, none⟩), .int .i64 tx] w fun e w' => e = .returned (.bool (wOf W tx).isSome) ∧ Below w.heap.size w w' := by
  obtain ⟨R, ht, _⟩ := h
  exact waits_any ht tx

set_option maxRecDepth 100000 in
set_option maxHeartbeats 4000000 in
theorem once_any (l : List Act4) (A : Option Addr) (cap : Nat) (mode : Int) (w : World) (hA : ActsAt w A l) (hl : l.length ≤ 9223372036854775807) :
    Calls Try.prog 5 #[.slice A l.length cap, .int .i64 mode] w fun e w' => e = .returned (.bool true) ∧ Below w.heap.size w w' := by
  go_enter Try.func5, Try.ntmps5
  go_wp2_with fail
  refine (new_any w).mono ?_
  rintro e w1 ⟨rfl, hT1, hB1⟩
  obtain ⟨T, hTd⟩ : ∃ T, T = w.heap.size + 2 := ⟨_, rfl⟩
  obtain ⟨QB, hQd⟩ : ∃ QB, QB = w.heap.size := ⟨_, rfl⟩
  obtain ⟨WB, hWd⟩ : ∃ WB, WB = w.heap.size + 1 := ⟨_, rfl⟩
  have hTA1 : TA w.heap.size w1 T QB WB [] [] := by
    refine ⟨[], by rw [hTd, hQd, hWd]; exact hT1, rfl, fun k hk => ?_⟩
    rcases hk with h | h | h | h
    · omega
    · omega
    · omega
    · simp at h
  rw [← hTd]
  clear hTd hQd hWd hT1
  go_wp2_with fail
  refine (awake_any _).mono ?_
  rintro e w2 ⟨rfl, hB2⟩
  have hTA2 := hTA1.below hB2
  have hBw2 : Below w.heap.size w w2 := hB1.trans (hB2.mono hB1.size)
  go_wp2_with fail
  go_loopw [6] (fun j wr => ∃ (i : Nat) (L : List (Nm × List Ak)) (W : List (Int × Nm)), i ≤ l.length ∧ i ≤ 30 ∧ j = .int .i64 i ∧ TA w.heap.size wr T QB WB L W ∧ Below w.heap.size w wr ∧ Fits i L ∧ Good notFresh L) (fun j _ => 30 - (intOf j).toNat)
  case atStart => exact ⟨0, [], [], by omega, by omega, rfl, hTA2, hBw2, ⟨by simp, by simp⟩, fun p hp => by simp at hp⟩
  case round =>
    obtain ⟨i, L, W, hil, hi30, rfl, hTA, hB, hfit, hgood⟩ := hrel
    by_cases hgo : i < l.length ∧ i < 30
    · have hlt := hgo.1
      have hlt2 := hgo.2
      · obtain ⟨ad, ha⟩ := hA i hlt
        obtain ⟨rfl, halt, a0, a1, a2, a3⟩ := ha.below (hB.mono (Nat.le_refl _))
        obtain ⟨a, had⟩ : ∃ a, a = l[i] := ⟨_, rfl⟩
        rw [← had] at a0 a1 a2 a3
        have hac : ∀ {w'}, Below w.heap.size w w' → ActAt w' (some ad) i a ad := fun hb => by rw [had]; exact ha.below hb
        have HAC : Hid (∀ {w'}, Below w.heap.size w w' → ActAt w' (some ad) i a ad) := Lib.hid hac
        clear had
        go_wp2_with fail
        refine (name_any a.name _).mono ?_
        rintro e w3 ⟨rfl, hB3⟩
        obtain ⟨nm, hnm⟩ : ∃ nm, nm = nmA a.name := ⟨_, rfl⟩
        rw [← hnm]
        have hnf : notFresh nm := by rw [hnm]; exact nmA_notFresh _
        obtain ⟨k, o, p, s⟩ := nm
        clear hnm
        have hBw3 : Below w.heap.size w w3 := hB.trans (hB3.mono hB.size)
        have hTA3 := hTA.below hB3
        obtain ⟨w4, hw4⟩ : ∃ w4, w4 = (w3.alloc (.cells #[.int .i64 k, .int .i64 o, .int .u32 p, .int .i64 s] 34)).alloc (.cells #[.int .i64 k, .int .i64 o, .int .u32 p, .int .i64 s] 43) := ⟨_, rfl⟩
        have hB4 : Below w3.heap.size w3 w4 := by rw [hw4]; exact ((Below.refl _ _).alloc (Nat.le_refl _) _).alloc (by simp) _
        have hBw4 : Below w.heap.size w w4 := hBw3.trans (hB4.mono hBw3.size)
        have hTA4 := hTA3.below hB4
        have hbn : Blk w4 w3.heap.size 34 #[.int .i64 k, .int .i64 o, .int .u32 p, .int .i64 s] := by rw [hw4]; exact (Blk.new w3 _ _).alloc _
        obtain ⟨-, halt4, d0, d1, d2, d3⟩ := HAC.out hBw4
        have b0 := hbn.cell 0
        have b1 := hbn.cell 1
        have b2 := hbn.cell 2
        have b3 := hbn.cell 3
        simp at b0 b1 b2 b3
        obtain ⟨txv, htx⟩ : ∃ txv, txv = wrap64 (bits BinOp.and IntKind.i64 a.tx 3 + 1) := ⟨_, rfl⟩
        have hfit1 : Fits 1000 L := hfit.mono (by omega)
        have e0 := d0
        have e1 := d1
        rw [hw4] at e0 e1
        clear a0 a1 a2 a3
        by_cases hk5 : a.kind = 5
        · have hke : (a.kind == 5) = true := by simpa using hk5
          clear hk5
          go_wp2_with fail
          rw [← hw4, ← htx]
          clear hw4 htx e0 e1
          refine (release_ta hTA4 hfit1 txv).mono ?_
          rintro e w5 ⟨v5, rfl, -, hTA5, hF5⟩
          have hfr := hfit.rel txv W
          have hgr := hgood.rel txv W
          go_wp2_with fail
          go_roundw
          case rel => exact ⟨i + 1, _, _, by omega, by omega, by go_num, hTA5, hBw4.trans hF5.below, hfr.mono (by omega), hgr⟩
          case measure => simp [intOf]; omega
        · have hke : (a.kind == 5) = false := by simpa using hk5
          clear hk5
          go_wp2_with fail
          rw [← hw4, ← htx]
          clear hw4 htx e0 e1
          have hTA4d := hTA4.below (Below.refl _ _).drew
          have hB4d : Below w.heap.size w w4.drew := hBw4.trans ((Below.refl _ _).drew.mono hBw4.size)
          have K0 : ∀ w6, Frame w.heap.size w4.drew w6 → w6.cell? ⟨(ad.add (i * 4)).block, (ad.add (i * 4)).off + 3, none⟩ = some (.int .i64 a.mode) ∧ w6.cell? ⟨w3.heap.size, 0, none⟩ = some (.int .i64 k) ∧ w6.cell? ⟨w3.heap.size, 1, none⟩ = some (.int .i64 o) ∧
              w6.cell? ⟨w3.heap.size, 2, none⟩ = some (.int .u32 p) ∧ w6.cell? ⟨w3.heap.size, 3, none⟩ = some (.int .i64 s) := by
            intro w6 hF
            obtain ⟨-, -, -, -, -, g3⟩ := HAC.out (hB4d.trans hF.below)
            have hb6 := hF.others _ _ _ (by decide) (by decide) (hbn.of_block (w' := w4.drew) rfl)
            exact ⟨g3, hb6.cell 0, hb6.cell 1, hb6.cell 2, hb6.cell 3⟩
          go_region_held3 (fun w' => w'.cell? ⟨(ad.add (i * 4)).block, (ad.add (i * 4)).off + 3, none⟩ = some (.int .i64 a.mode) ∧ w'.cell? ⟨w3.heap.size, 0, none⟩ = some (.int .i64 k) ∧ w'.cell? ⟨w3.heap.size, 1, none⟩ = some (.int .i64 o) ∧
              w'.cell? ⟨w3.heap.size, 2, none⟩ = some (.int .u32 p) ∧ w'.cell? ⟨w3.heap.size, 3, none⟩ = some (.int .i64 s))
            (first
              | (go_split_ands; refine ⟨?_, ?_, ?_, ?_, ?_⟩ <;> go_keep)
              | exact K0 _ hF6)
            ((go_at_call 16; refine (ask_ta hTA4d hfit1 txv _ k o p s false true).mono ?_; rintro e w6 ⟨rfl, hTA6, hF6⟩))
          go_split_ands
          obtain ⟨hgk, hfk⟩ := ask_keeps (n := ⟨k, o, p, s⟩) hgood hfit W txv hnf a.mode false true
          go_wp2_with fail
          go_roundw
          case rel => exact ⟨i + 1, _, _, by omega, by omega, by go_num, hTA6, hB4d.trans hF6.below, hfk, hgk⟩
          case measure => simp [intOf]; omega
    · have hfit2 : Fits 1000 L := hfit.mono (by omega)
      have hng : notFresh ⟨3, 99, 0, 0⟩ → False := fun h => h rfl
      have hnf : (⟨3, 99, 0, 0⟩ : Nm) ∉ L.map (·.1) := fun hm => by
        obtain ⟨p0, h0, e0⟩ := List.mem_map.1 hm
        exact hng (e0 ▸ (hgood p0 h0).1)
      have hmd : ∀ tx, ∀ x ∈ held L tx, x.2 ≠ 0 ∧ hasQ (qL L x.1) tx = x.2 ∧ okMode x.2 := fun tx x hx => by
        obtain ⟨n, m⟩ := x
        obtain ⟨h1, h2⟩ := held_mem hx
        exact ⟨h1, h2, by show okMode m; rw [← h2]; exact hasQ_ok (hgood.qL n) tx⟩
      have HMD := Lib.hid hmd
      have HNF := Lib.hid hnf
      clear hgood hfit hng hmd hnf
      have hfitL := hfit2.1
      by_cases hlt : i < l.length
      all_goals
        try have h30 : ¬ i < 30 := by omega
        clear hA
        go_wp2_with fail
        go_loopw [10] (fun j wr => ∃ tx : Int, 1 ≤ tx ∧ tx ≤ 5 ∧ j = .int .i64 tx ∧ TA w.heap.size wr T QB WB L W ∧ Below w.heap.size w wr) (fun j _ => 5 - (intOf j).toNat)
        case atStart => exact ⟨1, by omega, by omega, rfl, hTA, hB⟩
        case round =>
          obtain ⟨tx, htx1, htx5, rfl, hT2, hB2'⟩ := hrel
          by_cases htx4 : tx ≤ 4
          · go_wp2_with fail
            refine (waits_ta hT2 tx).mono ?_
            rintro e w3 ⟨rfl, hB3⟩
            have hT3 := hT2.below hB3
            have hBw3 : Below w.heap.size w w3 := hB2'.trans (hB3.mono hB2'.size)
            cases hww : (wOf W tx).isSome with
            | true =>
              go_wp2_with fail
              go_roundw
              case rel => exact ⟨tx + 1, by omega, by omega, by go_num, hT3, hBw3⟩
              case measure => simp [intOf]; omega
            | false =>
              go_wp2_with fail
              refine (held_ta hT3 hfitL tx).mono ?_
              rintro e w4 ⟨hv, rfl, hH4, hB4⟩
              obtain ⟨hl, hhl⟩ : ∃ hl, hl = held L tx := ⟨_, rfl⟩
              rw [← hhl] at hH4
              have HHL := Lib.hid hhl
              clear hhl
              obtain ⟨na, nc, rfl⟩ := hH4.form
              have hT4 := hT3.below hB4
              have hBw4 : Below w.heap.size w w4 := hBw3.trans (hB4.mono hBw3.size)
              go_wp2_with fail
              go_loopw [12] (fun j wr => ∃ ii : Nat, ii ≤ hl.length ∧ j = .int .i64 ii ∧ TA w.heap.size wr T QB WB L W ∧ Below w.heap.size w wr ∧ HeldAt wr w3.heap.size (.slice na hl.length nc) hl) (fun j _ => hl.length - (intOf j).toNat)
              case atStart => exact ⟨0, by omega, rfl, hT4, hBw4, hH4⟩
              case round =>
                obtain ⟨ii, hii, rfl, hT5, hBw5, hH5⟩ := hrel
                by_cases hlt3 : ii < hl.length
                · obtain ⟨gh, ch, hve, hc1, hc2, hgh, x0, x1, x2, x3, x4⟩ := hH5.cell hlt3
                  obtain ⟨rfl, rfl⟩ : na = some ⟨gh, 0, none⟩ ∧ nc = ch := by simpa using hve
                  unfold maxLen at hc2
                  obtain ⟨hmd0, hmdq, hmdo1, hmdo2⟩ := HMD.out tx (hl[ii]) (by rw [← HHL.out]; exact List.getElem_mem hlt3)
                  have hcell : ∀ w', HeldAt w' w3.heap.size (.slice (some ⟨gh, 0, none⟩) hl.length nc) hl → w'.cell? ⟨gh, ii * 5, none⟩ = some (.int .i64 hl[ii].1.kind) ∧ w'.cell? ⟨gh, ii * 5 + 1, none⟩ = some (.int .i64 hl[ii].1.of_) ∧ w'.cell? ⟨gh, ii * 5 + 2, none⟩ = some (.int .u32 hl[ii].1.page) ∧ w'.cell? ⟨gh, ii * 5 + 3, none⟩ = some (.int .i64 hl[ii].1.slot) ∧ w'.cell? ⟨gh, ii * 5 + 4, none⟩ = some (.int .i64 hl[ii].2) := by
                    intro w' hH
                    obtain ⟨g2, c2, hve2, _, _, _, y0, y1, y2, y3, y4⟩ := hH.cell hlt3
                    obtain ⟨rfl, rfl⟩ : gh = g2 ∧ nc = c2 := by simpa using hve2
                    exact ⟨y0, y1, y2, y3, y4⟩
                  obtain ⟨x, hx⟩ : ∃ x, x = hl[ii] := ⟨_, rfl⟩
                  rw [← hx] at x0 x1 x2 x3 x4 hmd0 hmdq hmdo1 hmdo2 hcell
                  obtain ⟨⟨k, o, p, s⟩, md⟩ := x
                  simp only at x0 x1 x2 x3 x4 hmd0 hmdq hmdo1 hmdo2 hcell
                  have HCELL := Lib.hid hcell
                  have HQ := Lib.hid hmdq
                  have H0 := Lib.hid hmd0
                  clear hx hcell hmdq hmd0 x0 x1 x2 x3 x4
                  go_wp2_with fail
                  go_loopw [13] (fun j wr => ∃ m : Int, 1 ≤ m ∧ m ≤ 6 ∧ j = .int .i64 m ∧ TA w.heap.size wr T QB WB L W ∧ Below w.heap.size w wr ∧ HeldAt wr w3.heap.size (.slice (some ⟨gh, 0, none⟩) hl.length nc) hl) (fun j _ => 6 - (intOf j).toNat)
                  case atStart => exact ⟨1, by omega, by omega, rfl, hT5, hBw5, hH5⟩
                  case round =>
                    obtain ⟨m, hm1, hm6, rfl, hT6, hBw6, hH6⟩ := hrel
                    obtain ⟨x0, x1, x2, x3, x4⟩ := HCELL.out _ hH6
                    by_cases hmm : m ≤ md
                    · have hmo : isMode m = true := by rw [isMode_iff]; omega
                      by_cases hj : join md m = md
                      · have hjb : (join md m != md) = false := by simpa using hj
                        have hask := ask_again (W := W) htx1 hww HQ.out H0.out hmo hj
                        clear hj
                        go_wp2_with fail
                        go_quiet ((go_at_call 13; refine Calls.quiet_of_same ((join_any _ _ _).mono fun _ _ ⟨a, b⟩ => ⟨a, b.symm⟩)))
                        go_wp2_with fail
                        have hT6d := hT6.below (below_drewN (Below.refl _ _) nq)
                        have hBw6d := below_drewN hBw6 nq
                        have hH6d := hH6.below (below_drewN (Below.refl _ _) nq)
                        have hcon := ask_ta hT6d hfit2 tx m k o p s false false
                        rw [hask] at hcon
                        refine hcon.mono ?_
                        rintro e w7 ⟨rfl, hT7, hF7⟩
                        have hH7 := hH6d.others hF7
                        have hBw7 := hBw6d.trans hF7.below
                        clear x0 x1 x2 x3 x4 hcon
                        obtain ⟨x0, x1, x2, x3, x4⟩ := HCELL.out _ hH7
                        have hcon2 := has_ta (hT7.below (Below.refl _ _).drew) tx k o p s
                        rw [HQ.out] at hcon2
                        have HK : Hid (∀ w8, Below w7.drew.heap.size w7.drew w8 → w8.cell? ⟨gh, ii * 5, none⟩ = some (.int .i64 k) ∧ w8.cell? ⟨gh, ii * 5 + 1, none⟩ = some (.int .i64 o) ∧ w8.cell? ⟨gh, ii * 5 + 2, none⟩ = some (.int .u32 p) ∧ w8.cell? ⟨gh, ii * 5 + 3, none⟩ = some (.int .i64 s) ∧ w8.cell? ⟨gh, ii * 5 + 4, none⟩ = some (.int .i64 md)) :=
                          Lib.hid (fun w8 hb => HCELL.out w8 ((hH7.below (Below.refl _ _).drew).below hb))
                        go_wp2_with fail
                        go_region_held3 (fun w' => w'.cell? ⟨gh, ii * 5, none⟩ = some (.int .i64 k) ∧ w'.cell? ⟨gh, ii * 5 + 1, none⟩ = some (.int .i64 o) ∧ w'.cell? ⟨gh, ii * 5 + 2, none⟩ = some (.int .u32 p) ∧ w'.cell? ⟨gh, ii * 5 + 3, none⟩ = some (.int .i64 s) ∧ w'.cell? ⟨gh, ii * 5 + 4, none⟩ = some (.int .i64 md))
                          (first
                            | (go_split_ands; refine ⟨?_, ?_, ?_, ?_, ?_⟩ <;> go_keep)
                            | exact HK.out _ hB8)
                          ((go_at_call 18; refine hcon2.mono ?_; rintro e w8 ⟨rfl, hB8⟩))
                        go_wp2_with fail
                        go_roundw
                        case rel => exact ⟨m + 1, by omega, by omega, by go_num, (hT7.below (Below.refl _ _).drew).below hB8, (hBw7.trans ((Below.refl _ _).drew.mono hBw7.size)).trans (hB8.mono hBw7.size), (hH7.below (Below.refl _ _).drew).below hB8⟩
                        case measure => simp [intOf]; omega
                      · have hjb : (join md m != md) = true := by simpa using hj
                        clear hj
                        go_wp2_with fail
                        go_quiet ((go_at_call 13; refine Calls.quiet_of_same ((join_any _ _ _).mono fun _ _ ⟨a, b⟩ => ⟨a, b.symm⟩)))
                        go_wp2_with fail
                        go_roundw
                        case rel => exact ⟨m + 1, by omega, by omega, by go_num, hT6.below (below_drewN (Below.refl _ _) _), below_drewN hBw6 _, hH6.below (below_drewN (Below.refl _ _) _)⟩
                        case measure => simp [intOf]; omega
                    · go_wp2_with fail
                      go_roundw
                      case rel => exact ⟨ii + 1, by omega, by go_num, hT6, hBw6, hH6⟩
                      case measure => simp [intOf]; omega
                · obtain rfl : ii = hl.length := by omega
                  have hfresh := ask_instant (W := W) (m := 5) htx1 hww HNF.out rfl
                  have hBf : Below wr.heap.size wr (wr.alloc (.cells #[.int .i64 3, .int .i64 99, .int .u32 0, .int .i64 0] 34)) := (Below.refl _ _).alloc (Nat.le_refl _) _
                  have hbf : Blk (wr.alloc (.cells #[.int .i64 3, .int .i64 99, .int .u32 0, .int .i64 0] 34)) wr.heap.size 34 #[.int .i64 3, .int .i64 99, .int .u32 0, .int .i64 0] := Blk.new _ _ _
                  have hTf := hT5.below hBf
                  have hBwf : Below w.heap.size w (wr.alloc (.cells #[.int .i64 3, .int .i64 99, .int .u32 0, .int .i64 0] 34)) := hBw5.trans (hBf.mono hBw5.size)
                  go_wp2_with fail
                  refine (len_ta hTf).mono ?_
                  rintro e w6 ⟨rfl, hB6⟩
                  have hT6 := hTf.below hB6
                  have hBw6 := hBwf.trans (hB6.mono hBwf.size)
                  have hbf6 := hbf.of_block (hB6.block _ hbf.lt)
                  have f0 := hbf6.cell 0
                  have f1 := hbf6.cell 1
                  have f2 := hbf6.cell 2
                  have f3 := hbf6.cell 3
                  simp at f0 f1 f2 f3
                  have hcon := ask_ta hT6 hfit2 tx 5 3 99 0 0 true true
                  rw [hfresh.1] at hcon
                  go_wp2_with fail
                  refine hcon.mono ?_
                  rintro e w7 ⟨rfl, hT7, hF7⟩
                  have hBw7 := hBw6.trans hF7.below
                  have hbf7 := hF7.others _ _ _ (by decide) (by decide) hbf6
                  clear f0 f1 f2 f3 hcon
                  go_wp2_with fail
                  refine (len_ta hT7).mono ?_
                  rintro e w8 ⟨rfl, hB8⟩
                  have hT8 := hT7.below hB8
                  have hBw8 := hBw7.trans (hB8.mono hBw7.size)
                  have hbf8 := hbf7.of_block (hB8.block _ hbf7.lt)
                  have f0 := hbf8.cell 0
                  have f1 := hbf8.cell 1
                  have f2 := hbf8.cell 2
                  have f3 := hbf8.cell 3
                  simp at f0 f1 f2 f3
                  have hcon := has_ta hT8 tx 3 99 0 0
                  rw [hfresh.2] at hcon
                  go_wp2_with fail
                  refine hcon.mono ?_
                  rintro e w9 ⟨rfl, hB9⟩
                  go_wp2_with fail
                  go_roundw
                  case rel => exact ⟨tx + 1, by omega, by omega, by go_num, hT8.below hB9, hBw8.trans (hB9.mono hBw8.size)⟩
                  case measure => simp [intOf]; omega
          · have htx : tx = 5 := by omega
            subst htx
            by_cases hm1 : 1 ≤ mode
            all_goals by_cases hm5 : mode ≤ 5
            all_goals
              try have hmo : isMode mode = true := by rw [isMode_iff]; omega
              try have hmo : isMode mode = false := by unfold isMode; simp; omega
              try have hd5 : decide (mode ≤ 5) = true := by simp; omega
              try have hd5 : decide (mode ≤ 5) = false := by simp; omega
              go_wp2_with (go_at_call 9; refine (mode_any _ _).mono ?_; rintro e w' ⟨rfl, rfl⟩)
              try any_goals (go_ret; exact ⟨rfl, hB2'⟩)
end Go.Proofs.Ytpggillecedocaa
