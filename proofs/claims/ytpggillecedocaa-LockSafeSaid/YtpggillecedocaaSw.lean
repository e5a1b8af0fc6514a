import Derived.Test.YtpggillecedocaaSf
import Derived.Deep.DeepCutAuto
import Derived.Deep.CutBlock
import Derived.Deep.Light
namespace Go.Proofs.Ytpggillecedocaa
open Go.RowKit
set_option linter.unusedVariables false

set_option maxRecDepth 100000 in
set_option maxHeartbeats 4000000 in
theorem safe_any (l : List Act4) (A : Option Addr) (cap : Nat) (w : World) (hA : ActsAt w A l) (hl : l.length ≤ 9223372036854775807) :
    Calls Try.prog 6 #[.slice A l.length cap] w fun e w' => e = .returned (.bool true) ∧ Below w.heap.size w w' := by
  go_enter Try.func6, Try.ntmps6
  go_wp2_with fail
  refine (new_any w).mono ?_
  rintro e w1 ⟨rfl, hT1, hB1⟩
  obtain ⟨T, hTd⟩ : ∃ T, T = w.heap.size + 2 := ⟨_, rfl⟩
  obtain ⟨QB, hQd⟩ : ∃ QB, QB = w.heap.size := ⟨_, rfl⟩
  obtain ⟨WB, hWd⟩ : ∃ WB, WB = w.heap.size + 1 := ⟨_, rfl⟩
  have hTA1 : TA w.heap.size w1 T QB WB [] [] := by
    refine ⟨[], by rw [hTd, hQd, hWd]; exact hT1, rfl, fun k hk => ?_⟩
    rcases hk with h | h | h | h
    · omega
    · omega
    · omega
    · simp at h
  rw [← hTd]
  clear hTd hQd hWd hT1
  go_wp2_with fail
  refine (awake_any _).mono ?_
  rintro e w2 ⟨rfl, hB2⟩
  have hTA2 := hTA1.below hB2
  have hBw2 : Below w.heap.size w w2 := hB1.trans (hB2.mono hB1.size)
  go_wp2_with fail
  go_loopw [4] (fun j wr => ∃ (i : Nat) (L : List (Nm × List Ak)) (W : List (Int × Nm)), i ≤ l.length ∧ i ≤ 60 ∧ j = .int .i64 i ∧ TA w.heap.size wr T QB WB L W ∧ Below w.heap.size w wr ∧ Fits i L ∧ TI L W nobody ∧ W.length ≤ i) (fun j _ => 60 - (intOf j).toNat)
  case atStart => exact ⟨0, [], [], by omega, by omega, rfl, hTA2, hBw2, ⟨by simp, by simp⟩, TI.start, by simp⟩
  case round =>
    obtain ⟨i, L, W, hil, hi60, rfl, hTA, hB, hfit, hTI, hwl⟩ := hrel
    by_cases hgo : i < l.length ∧ i < 60
    · have hlt := hgo.1
      have hlt2 := hgo.2
      have hd60 : decide ((i : Int) < 60) = true := by simp; omega
      obtain ⟨ad, ha⟩ := hA i hlt
      obtain ⟨rfl, halt, a0, a1, a2, a3⟩ := ha.below (hB.mono (Nat.le_refl _))
      obtain ⟨a, had⟩ : ∃ a, a = l[i] := ⟨_, rfl⟩
      rw [← had] at a0 a1 a2 a3
      clear had ha
      obtain ⟨txv, htx⟩ : ∃ txv, txv = wrap64 (bits BinOp.and IntKind.i64 a.tx 3 + 1) := ⟨_, rfl⟩
      have htxv : 1 ≤ txv ∧ txv ≤ 4 := by rw [htx]; exact txv_ok a.tx
      obtain ⟨w2, hw2⟩ : ∃ w2, w2 = wr.alloc (.cells #[.int .i64 a.kind, .int .i64 txv, .int .i64 a.name, .int .i64 a.mode] 47) := ⟨_, rfl⟩
      have hB2 : Below wr.heap.size wr w2 := by rw [hw2]; exact (Below.refl _ _).alloc (Nat.le_refl _) _
      have hba : Blk w2 wr.heap.size 47 #[.int .i64 a.kind, .int .i64 txv, .int .i64 a.name, .int .i64 a.mode] := by rw [hw2]; exact Blk.new _ _ _
      have hBw2 : Below w.heap.size w w2 := hB.trans (hB2.mono hB.size)
      have HTX := Lib.hid htx
      have HW2 := Lib.hid hw2
      clear htx hw2
      go_upto_region 9 with fail
      rw [← HTX.out, ← HW2.out]
      clear a0 a1 a2 a3
      have z0 := hba.cell 0
      have z1 := hba.cell 1
      have z2 := hba.cell 2
      have z3 := hba.cell 3
      simp at z0 z1 z2 z3
      go_wp2_with fail
      refine (name_any a.name _).mono ?_
      rintro e w3 ⟨rfl, hB3⟩
      have hBw3 : Below w.heap.size w w3 := hBw2.trans (hB3.mono hBw2.size)
      have hba3 := hba.of_block (hB3.block _ hba.lt)
      obtain ⟨nm, hnm⟩ : ∃ nm, nm = nmA a.name := ⟨_, rfl⟩
      rw [← hnm]
      obtain ⟨k, o, p, s⟩ := nm
      clear hnm z0 z1 z2 z3
      obtain ⟨w4, hw4⟩ : ∃ w4, w4 = (w3.alloc (.cells #[.int .i64 k, .int .i64 o, .int .u32 p, .int .i64 s] 34)).alloc (.cells #[.int .i64 k, .int .i64 o, .int .u32 p, .int .i64 s] 43) := ⟨_, rfl⟩
      have hB4 : Below w3.heap.size w3 w4 := by rw [hw4]; exact ((Below.refl _ _).alloc (Nat.le_refl _) _).alloc (by simp) _
      have hBw4 : Below w.heap.size w w4 := hBw3.trans (hB4.mono hBw3.size)
      have hTA4 := (hTA.below hB2).below (hB3.trans (hB4.mono hB3.size))
      have hbn : Blk w4 w3.heap.size 34 #[.int .i64 k, .int .i64 o, .int .u32 p, .int .i64 s] := by rw [hw4]; exact (Blk.new w3 _ _).alloc _
      have hba4 := hba3.of_block (hB4.block _ hba3.lt)
      obtain ⟨NB, hNB⟩ : ∃ NB, NB = w3.heap.size := ⟨_, rfl⟩
      obtain ⟨AB, hAB⟩ : ∃ AB, AB = wr.heap.size := ⟨_, rfl⟩
      go_upto_region 10 with fail
      rw [← hw4, ← hNB, ← hAB]
      rw [← hNB] at hbn
      rw [← hAB] at hba4
      clear hw4 hNB hAB hB4 hba3 hba hB3 hBw3 hBw2 hB2 HW2 HTX hTA hB
      have b0 := hbn.cell 0
      have b1 := hbn.cell 1
      have b2 := hbn.cell 2
      have b3 := hbn.cell 3
      have z0 := hba4.cell 0
      have z1 := hba4.cell 1
      have z2 := hba4.cell 2
      have z3 := hba4.cell 3
      simp at b0 b1 b2 b3 z0 z1 z2 z3
      have hfit1 : Fits 1000 L := hfit.mono (by omega)
      have hTIr := hTI.rel txv
      have hTIc := hTI.can txv
      have hTIa := fun inst wt => hTI.ask htxv ⟨k, o, p, s⟩ a.mode inst wt
      have hWin := fun tx n => hTI.waitsIn tx n
      have HTIR := Lib.hid hTIr
      have HTIC := Lib.hid hTIc
      have HTIA := Lib.hid hTIa
      have HWIN := Lib.hid hWin
      clear hTIr hTIc hTIa hWin hTI
      go_upto_block 2 with fail
      go_cut [3] (fun s3 wx => s3 = .pointer (some ⟨T, 0, none⟩) ∧ ∃ (L' : List (Nm × List Ak)) (W' : List (Int × Nm)), TA w.heap.size wx T QB WB L' W' ∧ Below w.heap.size w wx ∧ Fits (i + 1) L' ∧ TI L' W' nobody ∧ W'.length ≤ i + 1)
      case first =>
        by_cases hk5 : a.kind = 5
        · have hke : (a.kind == 5) = true := by simpa using hk5
          clear hk5
          go_wp2_with fail
          refine (release_ta hTA4 hfit1 txv).mono ?_
          rintro e w5 ⟨v5, rfl, -, hTA5, hF5⟩
          have hf5 := hfit.rel txv W
          have hw5 := rel_wlen (L := L) (W := W) txv
          go_wp2_with fail
          go_meet
          exact ⟨rfl, _, _, hTA5, hBw4.trans hF5.below, hf5.mono (by omega), HTIR.out, by omega⟩
        · have hke5 : (a.kind == 5) = false := by simpa using hk5
          clear hk5
          by_cases hk6 : a.kind = 6
          · have hke : (a.kind == 6) = true := by simpa using hk6
            clear hk6
            go_wp2_with fail
            refine (cancel_ta hTA4 hfit1 HWIN.out txv).mono ?_
            rintro e w5 ⟨v5, rfl, -, hTA5, hF5⟩
            have hf5 := can_fits (W := W) hfit txv
            have hw5 := can_wlen (L := L) (W := W) txv
            go_wp2_with fail
            go_meet
            exact ⟨rfl, _, _, hTA5, hBw4.trans hF5.below, hf5.mono (by omega), HTIC.out, by omega⟩
          · have hke : (a.kind == 6) = false := by simpa using hk6
            clear hk6
            go_wp2_with fail
            refine (ask_ta hTA4 hfit1 txv a.mode k o p s (a.kind == 4) (a.kind != 3)).mono ?_
            rintro e w5 ⟨rfl, hTA5, hF5⟩
            have hf5 : Fits (i + 1) (ask L W txv ⟨k, o, p, s⟩ a.mode (a.kind == 4) (a.kind != 3)).L := ask_fits hfit W txv ⟨k, o, p, s⟩ a.mode (a.kind == 4) (a.kind != 3)
            have hw5 := ask_wlen (L := L) (W := W) txv ⟨k, o, p, s⟩ a.mode (a.kind == 4) (a.kind != 3)
            go_wp2_with fail
            go_meet
            exact ⟨rfl, _, _, hTA5, hBw4.trans hF5.below, hf5, HTIA.out _ _, by omega⟩
      case rest =>
        obtain ⟨rfl, L', W', hTA5, hB5, hfit5, hTI5, hwl5⟩ := hcut
        clear hTA4 hBw4 hbn hba4 b0 b1 b2 b3 z0 z1 z2 z3 HTIR HTIC HTIA HWIN hfit hfit1 hwl
        have hWl : W'.length < 1000000 := by omega
        have hfit6 : Fits 1000 L' := hfit5.mono (by omega)
        go_wp2_with fail
        go_loopw [8, 9, 10, 11] (fun ws fs cs xv wr => ∃ x : Nat, 1 ≤ x ∧ x ≤ 5 ∧ xv = .int .i64 x ∧ ws = .int .i64 (wK W' x) ∧ fs = .int .i64 (fK W' x) ∧ cs = .bool (cK L' W' x) ∧ TA w.heap.size wr T QB WB L' W' ∧ Below w.heap.size w wr) (fun _ _ _ xv _ => 5 - (intOf xv).toNat)
        case atStart => exact ⟨1, by omega, by omega, rfl, by simp [wK], by simp [fK], by simp [cK], hTA5, hB5⟩
        case round =>
          clear hTA5 hB5
          obtain ⟨x, hx1, hx5, rfl, rfl, rfl, rfl, hTA, hB⟩ := hrel
          by_cases hx : x ≤ 4
          · have hx0 : x ≠ 0 := by omega
            have hwk := wK_le W' x
            have hfk := fK_le W' x
            have hw1 : wK W' (x + 1) = wK W' x + (if x ≠ 0 ∧ (wOf W' (x : Int)).isSome = true then 1 else 0) := rfl
            have hf1 : fK W' (x + 1) = fK W' x + (if x ≠ 0 ∧ (wOf W' (x : Int)).isSome = false then 1 else 0) := rfl
            have hc1 : cK L' W' (x + 1) = (cK L' W' x || (decide (x ≠ 0) && (wOf W' (x : Int)).isSome && !(cyc (blkL L' W') W'.length (x : Int)).isEmpty)) := rfl
            obtain ⟨wv, hwv⟩ : ∃ wv, wv = wK W' x := ⟨_, rfl⟩
            obtain ⟨fv, hfv⟩ : ∃ fv, fv = fK W' x := ⟨_, rfl⟩
            obtain ⟨cv, hcv⟩ : ∃ cv, cv = cK L' W' x := ⟨_, rfl⟩
            obtain ⟨bs, hbs⟩ : ∃ bs, bs = (wOf W' (x : Int)).isSome := ⟨_, rfl⟩
            rw [← hwv] at hwk hw1 ⊢
            rw [← hfv] at hfk hf1 ⊢
            rw [← hcv] at hc1 ⊢
            rw [← hbs] at hw1 hf1 hc1
            have hcon := waits_ta hTA (x : Int)
            rw [← hbs] at hcon
            have HW1 := Lib.hid hw1
            have HF1 := Lib.hid hf1
            have HC1 := Lib.hid hc1
            have HBS := Lib.hid hbs
            clear hwv hfv hcv hw1 hf1 hc1 hbs
            go_upto_if 81 with (go_at_call 19; refine hcon.mono ?_; rintro e w6 ⟨rfl, hB6⟩)
            have hTA6 := hTA.below hB6
            go_cut [8, 9, 10] (fun ws fs cs wx => ws = .int .i64 (wK W' (x + 1)) ∧ fs = .int .i64 (fK W' (x + 1)) ∧ cs = .bool (cK L' W' (x + 1)) ∧ Below w6.heap.size w6 wx)
            case first =>
              cases bs with
              | true =>
                have hwe : Hid (wK W' (x + 1) = wv + 1) := Lib.hid (by rw [HW1.out, if_pos ⟨hx0, rfl⟩])
                have hfe : Hid (fK W' (x + 1) = fv) := Lib.hid (by rw [HF1.out, if_neg (by simp)]; omega)
                have hcb := fun {w'} (h : Below w6.heap.size w6 w') => blockers_ta (hTA6.below h) hTI5 hfit6 (x : Int)
                have HCB : Hid (∀ {w'}, Below w6.heap.size w6 w' → Calls Try.prog 25 #[.pointer (some ⟨T, 0, none⟩), .int .i64 (x : Int)] w' fun e w'' => ∃ v, e = .returned v ∧ IntsAt w'' w'.heap.size v (blkL L' W' (x : Int)) ∧ Below w'.heap.size w' w'') := Lib.hid hcb
                obtain ⟨y0, hy0, -⟩ := hTI5.blockers (tx := (x : Int)) HBS.out.symm
                have hbl := blk_len hTI5 hfit6 (x : Int)
                obtain ⟨bl, hbl2⟩ : ∃ bl, bl = blkL L' W' (x : Int) := ⟨_, rfl⟩
                rw [← hbl2] at hy0 hbl HCB
                have hbl0 : bl.length ≠ 0 := fun e => by rw [List.length_eq_zero_iff.1 e] at hy0; simp at hy0
                have hble : ((bl.length : Int) == 0) = false := by rw [beq_eq_false_iff_ne]; omega
                clear hcb hbl2 hcon hy0
                cases cv with
                | true =>
                  have hce : Hid (cK L' W' (x + 1) = true) := Lib.hid (by rw [HC1.out, Bool.true_or])
                  go_wp2_with fail
                  refine (HCB.out (Below.refl _ _)).mono ?_
                  rintro e w7 ⟨v7, rfl, hi7, hB7⟩
                  obtain ⟨av, cv7, rfl⟩ := hi7.form
                  go_wp2_with fail
                  go_meet
                  exact ⟨by rw [hwe.out], by rw [hfe.out], by rw [hce.out], hB7⟩
                | false =>
                  have hcl := cyc_len (blkL L' W') W'.length (x : Int)
                  have hcc := cycle_ta hTA6 hTI5 hfit6 hWl (x : Int)
                  obtain ⟨cl, hcl2⟩ : ∃ cl, cl = cyc (blkL L' W') W'.length (x : Int) := ⟨_, rfl⟩
                  have hce : Hid (cK L' W' (x + 1) = !cl.isEmpty) := Lib.hid (by rw [HC1.out, ← hcl2]; simp [hx0])
                  rw [← hcl2] at hcl hcc
                  clear hcl2
                  go_wp2_with fail
                  refine hcc.mono ?_
                  rintro e w8 ⟨v8, rfl, hi8, hB8⟩
                  obtain ⟨a8, c8, rfl⟩ := hi8.form
                  clear hcc
                  obtain ⟨n8, hn8⟩ : ∃ n8, n8 = cl.length := ⟨_, rfl⟩
                  rw [← hn8] at hcl ⊢
                  have HN8 := Lib.hid hn8
                  clear hn8
                  by_cases hcl0 : n8 = 0
                  · have hde : decide (0 < n8) = false := by simp; omega
                    have hce2 : Hid (cK L' W' (x + 1) = false) := Lib.hid (by rw [hce.out, List.length_eq_zero_iff.1 (HN8.out.symm.trans hcl0)]; rfl)
                    clear hcl0
                    go_wp2_with fail
                    refine (HCB.out hB8).mono ?_
                    rintro e w7 ⟨v7, rfl, hi7, hB7⟩
                    obtain ⟨av, cv7, rfl⟩ := hi7.form
                    go_wp2_with fail
                    go_meet
                    exact ⟨by rw [hwe.out], by rw [hfe.out], by rw [hce2.out], hB8.trans (hB7.mono hB8.size)⟩
                  · have hde : decide (0 < n8) = true := by simp; omega
                    have hce2 : Hid (cK L' W' (x + 1) = true) := Lib.hid (by
                      rw [hce.out]
                      cases hcq : cl with
                      | nil => rw [hcq] at HN8; exact absurd HN8.out hcl0
                      | cons a b => rfl)
                    clear hcl0
                    go_wp2_with fail
                    refine (HCB.out hB8).mono ?_
                    rintro e w7 ⟨v7, rfl, hi7, hB7⟩
                    obtain ⟨av, cv7, rfl⟩ := hi7.form
                    go_wp2_with fail
                    go_meet
                    exact ⟨by rw [hwe.out], by rw [hfe.out], by rw [hce2.out], hB8.trans (hB7.mono hB8.size)⟩
              | false =>
                have hwe : Hid (wK W' (x + 1) = wv) := Lib.hid (by rw [HW1.out, if_neg (by simp)]; omega)
                have hfe : Hid (fK W' (x + 1) = fv + 1) := Lib.hid (by rw [HF1.out, if_pos ⟨hx0, rfl⟩])
                have hce : Hid (cK L' W' (x + 1) = cv) := Lib.hid (by rw [HC1.out]; simp)
                clear hcon
                go_wp2_with fail
                go_meet
                exact ⟨by rw [hwe.out], by rw [hfe.out], by rw [hce.out], Below.refl _ _⟩
            case rest =>
              obtain ⟨rfl, rfl, rfl, hB7⟩ := hcut
              have hB67 : Below w.heap.size w w6 := hB.trans (hB6.mono hB.size)
              have hTA7 := hTA6.below hB7
              have hB7' : Below w.heap.size w wc := hB67.trans (hB7.mono hB67.size)
              clear hcon hTA hB hTA6 hB6 hB67 hB7 HW1 HF1 HC1 HBS
              obtain ⟨ww, hww⟩ : ∃ ww, ww = wK W' (x + 1) := ⟨_, rfl⟩
              obtain ⟨ff, hff⟩ : ∃ ff, ff = fK W' (x + 1) := ⟨_, rfl⟩
              obtain ⟨cc, hcc⟩ : ∃ cc, cc = cK L' W' (x + 1) := ⟨_, rfl⟩
              rw [← hww, ← hff, ← hcc]
              have HWW := Lib.hid hww
              have HFF := Lib.hid hff
              have HCC := Lib.hid hcc
              clear hww hff hcc
              go_wp2_with fail
              go_loopw [12] (fun yv wr => ∃ y : Nat, 1 ≤ y ∧ y ≤ x ∧ yv = .int .i64 y ∧ TA w.heap.size wr T QB WB L' W' ∧ Below w.heap.size w wr) (fun yv _ => x - (intOf yv).toNat)
              case atStart => exact ⟨1, by omega, by omega, rfl, hTA7, hB7'⟩
              case round =>
                clear hTA7 hB7'
                obtain ⟨y, hy1, hyx, rfl, hTA, hB⟩ := hrel
                by_cases hy : y < x
                · have hxy : ((x : Int)) ≠ (y : Int) := by omega
                  go_wp2_with fail
                  go_loopw [13] (fun kv wr => ∃ k : Nat, k ≤ 8 ∧ kv = .int .i64 k ∧ TA w.heap.size wr T QB WB L' W' ∧ Below w.heap.size w wr) (fun kv _ => 8 - (intOf kv).toNat)
                  case atStart => exact ⟨0, by omega, rfl, hTA, hB⟩
                  case round =>
                    clear hTA hB
                    obtain ⟨k, hk8, rfl, hTA, hB⟩ := hrel
                    by_cases hk : k < 8
                    · go_wp2_with fail
                      refine (name_any (k : Int) _).mono ?_
                      rintro e w3 ⟨rfl, hB3⟩
                      obtain ⟨nm, hnm⟩ : ∃ nm, nm = nmA (k : Int) := ⟨_, rfl⟩
                      rw [← hnm]
                      obtain ⟨nk, no, np, ns⟩ := nm
                      clear hnm
                      obtain ⟨w4, hw4⟩ : ∃ w4, w4 = (w3.alloc (.cells #[.int .i64 nk, .int .i64 no, .int .u32 np, .int .i64 ns] 34)).alloc (.cells #[.int .i64 nk, .int .i64 no, .int .u32 np, .int .i64 ns] 43) := ⟨_, rfl⟩
                      have hB4 : Below w3.heap.size w3 w4 := by rw [hw4]; exact ((Below.refl _ _).alloc (Nat.le_refl _) _).alloc (by simp) _
                      have hBw3 : Below w.heap.size w w3 := hB.trans (hB3.mono hB.size)
                      have hBw4 : Below w.heap.size w w4 := hBw3.trans (hB4.mono hBw3.size)
                      have hTA4 := (hTA.below hB3).below hB4
                      have hbn : Blk w4 w3.heap.size 34 #[.int .i64 nk, .int .i64 no, .int .u32 np, .int .i64 ns] := by rw [hw4]; exact (Blk.new w3 _ _).alloc _
                      obtain ⟨NB, hNB⟩ : ∃ NB, NB = w3.heap.size := ⟨_, rfl⟩
                      go_upto_region 33 with fail
                      rw [← hw4, ← hNB]
                      rw [← hNB] at hbn
                      clear hw4 hNB hB4 hBw3 hB3 hTA hB
                      have hTd := hTA4.below (Below.refl _ _).drew
                      have b0 := hbn.cell 0
                      have b1 := hbn.cell 1
                      have b2 := hbn.cell 2
                      have b3 := hbn.cell 3
                      simp at b0 b1 b2 b3
                      have HK : Hid (∀ w8, Below w4.drew.heap.size w4.drew w8 → w8.cell? ⟨NB, 0, none⟩ = some (.int .i64 nk) ∧ w8.cell? ⟨NB, 1, none⟩ = some (.int .i64 no) ∧ w8.cell? ⟨NB, 2, none⟩ = some (.int .u32 np) ∧ w8.cell? ⟨NB, 3, none⟩ = some (.int .i64 ns)) :=
                        Lib.hid (fun w8 hb => ⟨(hb.cell hbn.lt).trans b0, (hb.cell hbn.lt).trans b1, (hb.cell hbn.lt).trans b2, (hb.cell hbn.lt).trans b3⟩)
                      have hcp := hTI5.compat ⟨nk, no, np, ns⟩ hxy
                      obtain ⟨hvx, hhvx⟩ : ∃ hv, hv = hasQ (qL L' ⟨nk, no, np, ns⟩) (x : Int) := ⟨_, rfl⟩
                      obtain ⟨hvy, hhvy⟩ : ∃ hv, hv = hasQ (qL L' ⟨nk, no, np, ns⟩) (y : Int) := ⟨_, rfl⟩
                      have hcx : ∀ {w'}, TA w.heap.size w' T QB WB L' W' → Calls Try.prog 18 #[.pointer (some ⟨T, 0, none⟩), .int .i64 (x : Int), .agg #[.int .i64 nk, .int .i64 no, .int .u32 np, .int .i64 ns]] w' fun e w'' => e = .returned (.int .i64 hvx) ∧ Below w'.heap.size w' w'' := fun h => by rw [hhvx]; exact has_ta h (x : Int) nk no np ns
                      have hcy : ∀ {w'}, TA w.heap.size w' T QB WB L' W' → Calls Try.prog 18 #[.pointer (some ⟨T, 0, none⟩), .int .i64 (y : Int), .agg #[.int .i64 nk, .int .i64 no, .int .u32 np, .int .i64 ns]] w' fun e w'' => e = .returned (.int .i64 hvy) ∧ Below w'.heap.size w' w'' := fun h => by rw [hhvy]; exact has_ta h (y : Int) nk no np ns
                      rw [← hhvx, ← hhvy] at hcp
                      have HCX : Hid (∀ {w'}, TA w.heap.size w' T QB WB L' W' → Calls Try.prog 18 #[.pointer (some ⟨T, 0, none⟩), .int .i64 (x : Int), .agg #[.int .i64 nk, .int .i64 no, .int .u32 np, .int .i64 ns]] w' fun e w'' => e = .returned (.int .i64 hvx) ∧ Below w'.heap.size w' w'') := Lib.hid hcx
                      have HCY : Hid (∀ {w'}, TA w.heap.size w' T QB WB L' W' → Calls Try.prog 18 #[.pointer (some ⟨T, 0, none⟩), .int .i64 (y : Int), .agg #[.int .i64 nk, .int .i64 no, .int .u32 np, .int .i64 ns]] w' fun e w'' => e = .returned (.int .i64 hvy) ∧ Below w'.heap.size w' w'') := Lib.hid hcy
                      clear hhvx hhvy hcx hcy
                      by_cases hx00 : hvx = 0
                      · have hvbx : (hvx != 0) = false := by simpa using hx00
                        clear hx00 hcp
                        refine wp_region_held_drew (S := fun w' => w'.cell? ⟨NB, 0, none⟩ = some (.int .i64 nk) ∧ w'.cell? ⟨NB, 1, none⟩ = some (.int .i64 no) ∧ w'.cell? ⟨NB, 2, none⟩ = some (.int .u32 np) ∧ w'.cell? ⟨NB, 3, none⟩ = some (.int .i64 ns)) (by kernel_rfl) ?_ (fun hHeld => ?_)
                        · exact ⟨b0, b1, b2, b3⟩
                        refine wpAnyH_take (i := 0) (v := .pointer (some ⟨T, 0, none⟩)) rfl (by kernel_rfl) (by kernel_rfl) (by kernel_rfl) (fun _ _ _ h => h) (Or.inl ⟨by kernel_rfl, ?_⟩) (by assumption) ?_
                        · (intro w hSw; (try dsimp only at hSw); go_split_ands; go_simp)
                        try simp only [List.getElem_toArray, List.getElem_cons_zero, List.getElem_cons_succ, Act.put, List.setIfInBounds_toArray, List.set_cons_zero, List.set_cons_succ]
                        refine wpAnyH_take (i := 1) (v := .int .i64 (x : Int)) rfl (by kernel_rfl) (by kernel_rfl) (by kernel_rfl) (fun _ _ _ h => h) (Or.inl ⟨by kernel_rfl, ?_⟩) (by assumption) ?_
                        · (intro w hSw; (try dsimp only at hSw); go_split_ands; go_simp)
                        try simp only [List.getElem_toArray, List.getElem_cons_zero, List.getElem_cons_succ, Act.put, List.setIfInBounds_toArray, List.set_cons_zero, List.set_cons_succ]
                        refine wpAnyH_take (i := 2) (v := .agg #[.int .i64 nk, .int .i64 no, .int .u32 np, .int .i64 ns]) rfl (by kernel_rfl) (by kernel_rfl) (by kernel_rfl) (fun _ _ _ h => h) (Or.inl ⟨by kernel_rfl, ?_⟩) (by assumption) ?_
                        · (intro w hSw; (try dsimp only at hSw); go_split_ands; go_simp)
                        try simp only [List.getElem_toArray, List.getElem_cons_zero, List.getElem_cons_succ, Act.put, List.setIfInBounds_toArray, List.set_cons_zero, List.set_cons_succ]
                        refine wpAnyH_ready (rs := [3]) (by kernel_rfl) (by simp) ?_
                        refine AllReadyH.cons rfl (fun K hK => ?_) AllReadyH.nil
                        go_simp
                        refine (HCX.out hTd).mono ?_
                        rintro e w8 ⟨rfl, hB8⟩
                        dsimp only
                        refine hK.out _ _ ?_ (fun hHeld => ?_)
                        · exact HK.out _ hB8
                        clear hK K
                        try simp only [List.getElem_toArray, List.getElem_cons_zero, List.getElem_cons_succ, Act.put, List.setIfInBounds_toArray, List.set_cons_zero, List.set_cons_succ]
                        refine wpAnyH_take (i := 4) (v := .bool false) rfl (by kernel_rfl) (by kernel_rfl) (by kernel_rfl) (fun _ _ _ h => h) (Or.inl ⟨by kernel_rfl, ?_⟩) (by assumption) ?_
                        · (intro w hSw; (try dsimp only at hSw); go_split_ands; go_simp)
                        try simp only [List.getElem_toArray, List.getElem_cons_zero, List.getElem_cons_succ, Act.put, List.setIfInBounds_toArray, List.set_cons_zero, List.set_cons_succ]
                        refine wpAnyH_take (i := 5) (v := .bool false) rfl (by kernel_rfl) (by kernel_rfl) (by kernel_rfl) (fun _ _ _ h => h) (Or.inl ⟨by kernel_rfl, ?_⟩) (by assumption) ?_
                        · (intro w hSw; (try dsimp only at hSw); go_split_ands; go_simp)
                        try simp only [List.getElem_toArray, List.getElem_cons_zero, List.getElem_cons_succ, Act.put, List.setIfInBounds_toArray, List.set_cons_zero, List.set_cons_succ]
                        refine wpAnyH_take (i := 6) (v := undef) rfl (by kernel_rfl) (by kernel_rfl) (by kernel_rfl) (fun _ _ _ h => h) (Or.inr ⟨by kernel_rfl, rfl⟩) (by assumption) ?_
                        try simp only [List.getElem_toArray, List.getElem_cons_zero, List.getElem_cons_succ, Act.put, List.setIfInBounds_toArray, List.set_cons_zero, List.set_cons_succ]
                        refine wpAnyH_take (i := 7) (v := undef) rfl (by kernel_rfl) (by kernel_rfl) (by kernel_rfl) (fun _ _ _ h => h) (Or.inr ⟨by kernel_rfl, rfl⟩) (by assumption) ?_
                        try simp only [List.getElem_toArray, List.getElem_cons_zero, List.getElem_cons_succ, Act.put, List.setIfInBounds_toArray, List.set_cons_zero, List.set_cons_succ]
                        refine wpAnyH_take (i := 8) (v := undef) rfl (by kernel_rfl) (by kernel_rfl) (by kernel_rfl) (fun _ _ _ h => h) (Or.inr ⟨by kernel_rfl, rfl⟩) (by assumption) ?_
                        try simp only [List.getElem_toArray, List.getElem_cons_zero, List.getElem_cons_succ, Act.put, List.setIfInBounds_toArray, List.set_cons_zero, List.set_cons_succ]
                        refine wpAnyH_take (i := 9) (v := undef) rfl (by kernel_rfl) (by kernel_rfl) (by kernel_rfl) (fun _ _ _ h => h) (Or.inr ⟨by kernel_rfl, rfl⟩) (by assumption) ?_
                        try simp only [List.getElem_toArray, List.getElem_cons_zero, List.getElem_cons_succ, Act.put, List.setIfInBounds_toArray, List.set_cons_zero, List.set_cons_succ]
                        refine wpAnyH_take (i := 10) (v := undef) rfl (by kernel_rfl) (by kernel_rfl) (by kernel_rfl) (fun _ _ _ h => h) (Or.inr ⟨by kernel_rfl, rfl⟩) (by assumption) ?_
                        try simp only [List.getElem_toArray, List.getElem_cons_zero, List.getElem_cons_succ, Act.put, List.setIfInBounds_toArray, List.set_cons_zero, List.set_cons_succ]
                        refine wpAnyH_take (i := 11) (v := .bool false) rfl (by kernel_rfl) (by kernel_rfl) (by kernel_rfl) (fun _ _ _ h => h) (Or.inl ⟨by kernel_rfl, ?_⟩) (by assumption) ?_
                        · (intro w hSw; (try dsimp only at hSw); go_split_ands; go_simp)
                        try simp only [List.getElem_toArray, List.getElem_cons_zero, List.getElem_cons_succ, Act.put, List.setIfInBounds_toArray, List.set_cons_zero, List.set_cons_succ]
                        refine wpAnyH_take (i := 12) (v := .bool false) rfl (by kernel_rfl) (by kernel_rfl) (by kernel_rfl) (fun _ _ _ h => h) (Or.inl ⟨by kernel_rfl, ?_⟩) (by assumption) ?_
                        · (intro w hSw; (try dsimp only at hSw); go_split_ands; go_simp)
                        try simp only [List.getElem_toArray, List.getElem_cons_zero, List.getElem_cons_succ, Act.put, List.setIfInBounds_toArray, List.set_cons_zero, List.set_cons_succ]
                        refine wpAnyH_take (i := 13) (v := undef) rfl (by kernel_rfl) (by kernel_rfl) (by kernel_rfl) (fun _ _ _ h => h) (Or.inr ⟨by kernel_rfl, rfl⟩) (by assumption) ?_
                        try simp only [List.getElem_toArray, List.getElem_cons_zero, List.getElem_cons_succ, Act.put, List.setIfInBounds_toArray, List.set_cons_zero, List.set_cons_succ]
                        refine wpAnyH_take (i := 14) (v := undef) rfl (by kernel_rfl) (by kernel_rfl) (by kernel_rfl) (fun _ _ _ h => h) (Or.inr ⟨by kernel_rfl, rfl⟩) (by assumption) ?_
                        try simp only [List.getElem_toArray, List.getElem_cons_zero, List.getElem_cons_succ, Act.put, List.setIfInBounds_toArray, List.set_cons_zero, List.set_cons_succ]
                        refine wpAnyH_take (i := 15) (v := undef) rfl (by kernel_rfl) (by kernel_rfl) (by kernel_rfl) (fun _ _ _ h => h) (Or.inr ⟨by kernel_rfl, rfl⟩) (by assumption) ?_
                        try simp only [List.getElem_toArray, List.getElem_cons_zero, List.getElem_cons_succ, Act.put, List.setIfInBounds_toArray, List.set_cons_zero, List.set_cons_succ]
                        refine wpAnyH_take (i := 16) (v := undef) rfl (by kernel_rfl) (by kernel_rfl) (by kernel_rfl) (fun _ _ _ h => h) (Or.inr ⟨by kernel_rfl, rfl⟩) (by assumption) ?_
                        try simp only [List.getElem_toArray, List.getElem_cons_zero, List.getElem_cons_succ, Act.put, List.setIfInBounds_toArray, List.set_cons_zero, List.set_cons_succ]
                        refine wpAnyH_take (i := 17) (v := undef) rfl (by kernel_rfl) (by kernel_rfl) (by kernel_rfl) (fun _ _ _ h => h) (Or.inr ⟨by kernel_rfl, rfl⟩) (by assumption) ?_
                        try simp only [List.getElem_toArray, List.getElem_cons_zero, List.getElem_cons_succ, Act.put, List.setIfInBounds_toArray, List.set_cons_zero, List.set_cons_succ]
                        refine wpAnyH_take (i := 18) (v := undef) rfl (by kernel_rfl) (by kernel_rfl) (by kernel_rfl) (fun _ _ _ h => h) (Or.inr ⟨by kernel_rfl, rfl⟩) (by assumption) ?_
                        try simp only [List.getElem_toArray, List.getElem_cons_zero, List.getElem_cons_succ, Act.put, List.setIfInBounds_toArray, List.set_cons_zero, List.set_cons_succ]
                        refine wpAnyH_take (i := 19) (v := undef) rfl (by kernel_rfl) (by kernel_rfl) (by kernel_rfl) (fun _ _ _ h => h) (Or.inr ⟨by kernel_rfl, rfl⟩) (by assumption) ?_
                        try simp only [List.getElem_toArray, List.getElem_cons_zero, List.getElem_cons_succ, Act.put, List.setIfInBounds_toArray, List.set_cons_zero, List.set_cons_succ]
                        refine wpAnyH_take (i := 20) (v := undef) rfl (by kernel_rfl) (by kernel_rfl) (by kernel_rfl) (fun _ _ _ h => h) (Or.inr ⟨by kernel_rfl, rfl⟩) (by assumption) ?_
                        try simp only [List.getElem_toArray, List.getElem_cons_zero, List.getElem_cons_succ, Act.put, List.setIfInBounds_toArray, List.set_cons_zero, List.set_cons_succ]
                        refine wpAnyH_take (i := 21) (v := undef) rfl (by kernel_rfl) (by kernel_rfl) (by kernel_rfl) (fun _ _ _ h => h) (Or.inr ⟨by kernel_rfl, rfl⟩) (by assumption) ?_
                        try simp only [List.getElem_toArray, List.getElem_cons_zero, List.getElem_cons_succ, Act.put, List.setIfInBounds_toArray, List.set_cons_zero, List.set_cons_succ]
                        refine wpAnyH_take (i := 22) (v := undef) rfl (by kernel_rfl) (by kernel_rfl) (by kernel_rfl) (fun _ _ _ h => h) (Or.inr ⟨by kernel_rfl, rfl⟩) (by assumption) ?_
                        try simp only [List.getElem_toArray, List.getElem_cons_zero, List.getElem_cons_succ, Act.put, List.setIfInBounds_toArray, List.set_cons_zero, List.set_cons_succ]
                        refine wpAnyH_take (i := 23) (v := .bool false) rfl (by kernel_rfl) (by kernel_rfl) (by kernel_rfl) (fun _ _ _ h => h) (Or.inl ⟨by kernel_rfl, ?_⟩) (by assumption) ?_
                        · (intro w hSw; (try dsimp only at hSw); go_split_ands; go_simp)
                        try simp only [List.getElem_toArray, List.getElem_cons_zero, List.getElem_cons_succ, Act.put, List.setIfInBounds_toArray, List.set_cons_zero, List.set_cons_succ]
                        refine wpAnyH_done (by kernel_rfl) ?_ _
                        clear b0 b1 b2 b3
                        go_wp2_with fail
                        go_roundw
                        case rel => exact ⟨k + 1, by omega, by go_num, hTd.below hB8, hBw4.trans (((Below.refl _ _).drew.trans hB8).mono hBw4.size)⟩
                        case measure => simp [intOf]; omega
                      · have hvbx : (hvx != 0) = true := by simpa using hx00
                        by_cases hy00 : hvy = 0
                        · have hvby : (hvy != 0) = false := by simpa using hy00
                          clear hx00 hy00 hcp
                          refine wp_region_held_drew (S := fun w' => w'.cell? ⟨NB, 0, none⟩ = some (.int .i64 nk) ∧ w'.cell? ⟨NB, 1, none⟩ = some (.int .i64 no) ∧ w'.cell? ⟨NB, 2, none⟩ = some (.int .u32 np) ∧ w'.cell? ⟨NB, 3, none⟩ = some (.int .i64 ns)) (by kernel_rfl) ?_ (fun hHeld => ?_)
                          · exact ⟨b0, b1, b2, b3⟩
                          refine wpAnyH_take (i := 0) (v := .pointer (some ⟨T, 0, none⟩)) rfl (by kernel_rfl) (by kernel_rfl) (by kernel_rfl) (fun _ _ _ h => h) (Or.inl ⟨by kernel_rfl, ?_⟩) (by assumption) ?_
                          · (intro w hSw; (try dsimp only at hSw); go_split_ands; go_simp)
                          try simp only [List.getElem_toArray, List.getElem_cons_zero, List.getElem_cons_succ, Act.put, List.setIfInBounds_toArray, List.set_cons_zero, List.set_cons_succ]
                          refine wpAnyH_take (i := 1) (v := .int .i64 (x : Int)) rfl (by kernel_rfl) (by kernel_rfl) (by kernel_rfl) (fun _ _ _ h => h) (Or.inl ⟨by kernel_rfl, ?_⟩) (by assumption) ?_
                          · (intro w hSw; (try dsimp only at hSw); go_split_ands; go_simp)
                          try simp only [List.getElem_toArray, List.getElem_cons_zero, List.getElem_cons_succ, Act.put, List.setIfInBounds_toArray, List.set_cons_zero, List.set_cons_succ]
                          refine wpAnyH_take (i := 2) (v := .agg #[.int .i64 nk, .int .i64 no, .int .u32 np, .int .i64 ns]) rfl (by kernel_rfl) (by kernel_rfl) (by kernel_rfl) (fun _ _ _ h => h) (Or.inl ⟨by kernel_rfl, ?_⟩) (by assumption) ?_
                          · (intro w hSw; (try dsimp only at hSw); go_split_ands; go_simp)
                          try simp only [List.getElem_toArray, List.getElem_cons_zero, List.getElem_cons_succ, Act.put, List.setIfInBounds_toArray, List.set_cons_zero, List.set_cons_succ]
                          refine wpAnyH_ready (rs := [3]) (by kernel_rfl) (by simp) ?_
                          refine AllReadyH.cons rfl (fun K hK => ?_) AllReadyH.nil
                          go_simp
                          refine (HCX.out hTd).mono ?_
                          rintro e w8 ⟨rfl, hB8⟩
                          have hT8 := hTd.below hB8
                          dsimp only
                          refine hK.out _ _ ?_ (fun hHeld => ?_)
                          · exact HK.out _ hB8
                          clear hK K
                          try simp only [List.getElem_toArray, List.getElem_cons_zero, List.getElem_cons_succ, Act.put, List.setIfInBounds_toArray, List.set_cons_zero, List.set_cons_succ]
                          refine wpAnyH_take (i := 4) (v := .bool true) rfl (by kernel_rfl) (by kernel_rfl) (by kernel_rfl) (fun _ _ _ h => h) (Or.inl ⟨by kernel_rfl, ?_⟩) (by assumption) ?_
                          · (intro w hSw; (try dsimp only at hSw); go_split_ands; go_simp)
                          try simp only [List.getElem_toArray, List.getElem_cons_zero, List.getElem_cons_succ, Act.put, List.setIfInBounds_toArray, List.set_cons_zero, List.set_cons_succ]
                          refine wpAnyH_take (i := 5) (v := .bool true) rfl (by kernel_rfl) (by kernel_rfl) (by kernel_rfl) (fun _ _ _ h => h) (Or.inl ⟨by kernel_rfl, ?_⟩) (by assumption) ?_
                          · (intro w hSw; (try dsimp only at hSw); go_split_ands; go_simp)
                          try simp only [List.getElem_toArray, List.getElem_cons_zero, List.getElem_cons_succ, Act.put, List.setIfInBounds_toArray, List.set_cons_zero, List.set_cons_succ]
                          refine wpAnyH_take (i := 6) (v := .pointer (some ⟨T, 0, none⟩)) rfl (by kernel_rfl) (by kernel_rfl) (by kernel_rfl) (fun _ _ _ h => h) (Or.inl ⟨by kernel_rfl, ?_⟩) (by assumption) ?_
                          · (intro w hSw; (try dsimp only at hSw); go_split_ands; go_simp)
                          try simp only [List.getElem_toArray, List.getElem_cons_zero, List.getElem_cons_succ, Act.put, List.setIfInBounds_toArray, List.set_cons_zero, List.set_cons_succ]
                          refine wpAnyH_take (i := 7) (v := .int .i64 (y : Int)) rfl (by kernel_rfl) (by kernel_rfl) (by kernel_rfl) (fun _ _ _ h => h) (Or.inl ⟨by kernel_rfl, ?_⟩) (by assumption) ?_
                          · (intro w hSw; (try dsimp only at hSw); go_split_ands; go_simp)
                          try simp only [List.getElem_toArray, List.getElem_cons_zero, List.getElem_cons_succ, Act.put, List.setIfInBounds_toArray, List.set_cons_zero, List.set_cons_succ]
                          refine wpAnyH_take (i := 8) (v := .agg #[.int .i64 nk, .int .i64 no, .int .u32 np, .int .i64 ns]) rfl (by kernel_rfl) (by kernel_rfl) (by kernel_rfl) (fun _ _ _ h => h) (Or.inl ⟨by kernel_rfl, ?_⟩) (by assumption) ?_
                          · (intro w hSw; (try dsimp only at hSw); go_split_ands; go_simp)
                          try simp only [List.getElem_toArray, List.getElem_cons_zero, List.getElem_cons_succ, Act.put, List.setIfInBounds_toArray, List.set_cons_zero, List.set_cons_succ]
                          refine wpAnyH_ready (rs := [9]) (by kernel_rfl) (by simp) ?_
                          refine AllReadyH.cons rfl (fun K hK => ?_) AllReadyH.nil
                          go_simp
                          refine (HCY.out hT8).mono ?_
                          rintro e w9 ⟨rfl, hB9⟩
                          dsimp only
                          refine hK.out _ _ ?_ (fun hHeld => ?_)
                          · exact HK.out _ (hB8.trans (hB9.mono hB8.size))
                          clear hK K
                          try simp only [List.getElem_toArray, List.getElem_cons_zero, List.getElem_cons_succ, Act.put, List.setIfInBounds_toArray, List.set_cons_zero, List.set_cons_succ]
                          refine wpAnyH_take (i := 10) (v := .bool false) rfl (by kernel_rfl) (by kernel_rfl) (by kernel_rfl) (fun _ _ _ h => h) (Or.inl ⟨by kernel_rfl, ?_⟩) (by assumption) ?_
                          · (intro w hSw; (try dsimp only at hSw); go_split_ands; go_simp)
                          try simp only [List.getElem_toArray, List.getElem_cons_zero, List.getElem_cons_succ, Act.put, List.setIfInBounds_toArray, List.set_cons_zero, List.set_cons_succ]
                          refine wpAnyH_take (i := 11) (v := .bool false) rfl (by kernel_rfl) (by kernel_rfl) (by kernel_rfl) (fun _ _ _ h => h) (Or.inl ⟨by kernel_rfl, ?_⟩) (by assumption) ?_
                          · (intro w hSw; (try dsimp only at hSw); go_split_ands; go_simp)
                          try simp only [List.getElem_toArray, List.getElem_cons_zero, List.getElem_cons_succ, Act.put, List.setIfInBounds_toArray, List.set_cons_zero, List.set_cons_succ]
                          refine wpAnyH_take (i := 12) (v := .bool false) rfl (by kernel_rfl) (by kernel_rfl) (by kernel_rfl) (fun _ _ _ h => h) (Or.inl ⟨by kernel_rfl, ?_⟩) (by assumption) ?_
                          · (intro w hSw; (try dsimp only at hSw); go_split_ands; go_simp)
                          try simp only [List.getElem_toArray, List.getElem_cons_zero, List.getElem_cons_succ, Act.put, List.setIfInBounds_toArray, List.set_cons_zero, List.set_cons_succ]
                          refine wpAnyH_take (i := 13) (v := undef) rfl (by kernel_rfl) (by kernel_rfl) (by kernel_rfl) (fun _ _ _ h => h) (Or.inr ⟨by kernel_rfl, rfl⟩) (by assumption) ?_
                          try simp only [List.getElem_toArray, List.getElem_cons_zero, List.getElem_cons_succ, Act.put, List.setIfInBounds_toArray, List.set_cons_zero, List.set_cons_succ]
                          refine wpAnyH_take (i := 14) (v := undef) rfl (by kernel_rfl) (by kernel_rfl) (by kernel_rfl) (fun _ _ _ h => h) (Or.inr ⟨by kernel_rfl, rfl⟩) (by assumption) ?_
                          try simp only [List.getElem_toArray, List.getElem_cons_zero, List.getElem_cons_succ, Act.put, List.setIfInBounds_toArray, List.set_cons_zero, List.set_cons_succ]
                          refine wpAnyH_take (i := 15) (v := undef) rfl (by kernel_rfl) (by kernel_rfl) (by kernel_rfl) (fun _ _ _ h => h) (Or.inr ⟨by kernel_rfl, rfl⟩) (by assumption) ?_
                          try simp only [List.getElem_toArray, List.getElem_cons_zero, List.getElem_cons_succ, Act.put, List.setIfInBounds_toArray, List.set_cons_zero, List.set_cons_succ]
                          refine wpAnyH_take (i := 16) (v := undef) rfl (by kernel_rfl) (by kernel_rfl) (by kernel_rfl) (fun _ _ _ h => h) (Or.inr ⟨by kernel_rfl, rfl⟩) (by assumption) ?_
                          try simp only [List.getElem_toArray, List.getElem_cons_zero, List.getElem_cons_succ, Act.put, List.setIfInBounds_toArray, List.set_cons_zero, List.set_cons_succ]
                          refine wpAnyH_take (i := 17) (v := undef) rfl (by kernel_rfl) (by kernel_rfl) (by kernel_rfl) (fun _ _ _ h => h) (Or.inr ⟨by kernel_rfl, rfl⟩) (by assumption) ?_
                          try simp only [List.getElem_toArray, List.getElem_cons_zero, List.getElem_cons_succ, Act.put, List.setIfInBounds_toArray, List.set_cons_zero, List.set_cons_succ]
                          refine wpAnyH_take (i := 18) (v := undef) rfl (by kernel_rfl) (by kernel_rfl) (by kernel_rfl) (fun _ _ _ h => h) (Or.inr ⟨by kernel_rfl, rfl⟩) (by assumption) ?_
                          try simp only [List.getElem_toArray, List.getElem_cons_zero, List.getElem_cons_succ, Act.put, List.setIfInBounds_toArray, List.set_cons_zero, List.set_cons_succ]
                          refine wpAnyH_take (i := 19) (v := undef) rfl (by kernel_rfl) (by kernel_rfl) (by kernel_rfl) (fun _ _ _ h => h) (Or.inr ⟨by kernel_rfl, rfl⟩) (by assumption) ?_
                          try simp only [List.getElem_toArray, List.getElem_cons_zero, List.getElem_cons_succ, Act.put, List.setIfInBounds_toArray, List.set_cons_zero, List.set_cons_succ]
                          refine wpAnyH_take (i := 20) (v := undef) rfl (by kernel_rfl) (by kernel_rfl) (by kernel_rfl) (fun _ _ _ h => h) (Or.inr ⟨by kernel_rfl, rfl⟩) (by assumption) ?_
                          try simp only [List.getElem_toArray, List.getElem_cons_zero, List.getElem_cons_succ, Act.put, List.setIfInBounds_toArray, List.set_cons_zero, List.set_cons_succ]
                          refine wpAnyH_take (i := 21) (v := undef) rfl (by kernel_rfl) (by kernel_rfl) (by kernel_rfl) (fun _ _ _ h => h) (Or.inr ⟨by kernel_rfl, rfl⟩) (by assumption) ?_
                          try simp only [List.getElem_toArray, List.getElem_cons_zero, List.getElem_cons_succ, Act.put, List.setIfInBounds_toArray, List.set_cons_zero, List.set_cons_succ]
                          refine wpAnyH_take (i := 22) (v := undef) rfl (by kernel_rfl) (by kernel_rfl) (by kernel_rfl) (fun _ _ _ h => h) (Or.inr ⟨by kernel_rfl, rfl⟩) (by assumption) ?_
                          try simp only [List.getElem_toArray, List.getElem_cons_zero, List.getElem_cons_succ, Act.put, List.setIfInBounds_toArray, List.set_cons_zero, List.set_cons_succ]
                          refine wpAnyH_take (i := 23) (v := .bool false) rfl (by kernel_rfl) (by kernel_rfl) (by kernel_rfl) (fun _ _ _ h => h) (Or.inl ⟨by kernel_rfl, ?_⟩) (by assumption) ?_
                          · (intro w hSw; (try dsimp only at hSw); go_split_ands; go_simp)
                          try simp only [List.getElem_toArray, List.getElem_cons_zero, List.getElem_cons_succ, Act.put, List.setIfInBounds_toArray, List.set_cons_zero, List.set_cons_succ]
                          refine wpAnyH_done (by kernel_rfl) ?_ _
                          clear b0 b1 b2 b3
                          go_wp2_with fail
                          go_roundw
                          case rel => exact ⟨k + 1, by omega, by go_num, hT8.below hB9, hBw4.trans (((Below.refl _ _).drew.trans (hB8.trans (hB9.mono hB8.size))).mono hBw4.size)⟩
                          case measure => simp [intOf]; omega
                        · have hvby : (hvy != 0) = true := by simpa using hy00
                          have hcp2 := hcp hx00 hy00
                          clear hx00 hy00 hcp
                          go_region_held3 (fun w' => w'.cell? ⟨NB, 0, none⟩ = some (.int .i64 nk) ∧ w'.cell? ⟨NB, 1, none⟩ = some (.int .i64 no) ∧ w'.cell? ⟨NB, 2, none⟩ = some (.int .u32 np) ∧ w'.cell? ⟨NB, 3, none⟩ = some (.int .i64 ns))
                            (first
                              | exact HK.out _ hC12
                              | exact HK.out _ hC11
                              | exact HK.out _ hC10
                              | exact HK.out _ hC9
                              | exact HK.out _ hC8
                              | (go_split_ands; refine ⟨?_, ?_, ?_, ?_⟩ <;> go_keep))
                            (first
                              | (go_at_call 18; (with_reducible refine (HCX.out hTd).mono ?_); rintro e w8 ⟨rfl, hC8⟩; have hT8 := hTd.below hC8)
                              | (go_at_call 18; (with_reducible refine (HCY.out hT8).mono ?_); rintro e w9 ⟨rfl, hB9⟩; have hC9 := hC8.trans (hB9.mono hC8.size); have hT9 := hT8.below hB9)
                              | (go_at_call 18; (with_reducible refine (HCX.out hT9).mono ?_); rintro e w10 ⟨rfl, hB10⟩; have hC10 := hC9.trans (hB10.mono hC9.size); have hT10 := hT9.below hB10)
                              | (go_at_call 18; (with_reducible refine (HCY.out hT10).mono ?_); rintro e w11 ⟨rfl, hB11⟩; have hC11 := hC10.trans (hB11.mono hC10.size); have hT11 := hT10.below hB11)
                              | (go_at_call 11; (with_reducible refine (compat_any _ _ _).mono ?_); rintro e w12 ⟨rfl, hB12⟩; have hC12 := hC11.trans (hB12.mono hC11.size); have hT12 := hT11.below hB12))
                          go_split_ands
                          clear b0 b1 b2 b3
                          go_wp2_with fail
                          go_roundw
                          case rel => exact ⟨k + 1, by omega, by go_num, hT12, hBw4.trans (((Below.refl _ _).drew.trans hC12).mono hBw4.size)⟩
                          case measure => simp [intOf]; omega
                    · obtain rfl : k = 8 := by omega
                      go_wp2_with fail
                      go_roundw
                      case rel => exact ⟨y + 1, by omega, by omega, by go_num, hTA, hB⟩
                      case measure => simp [intOf]; omega
                · obtain rfl : y = x := by omega
                  go_wp2_with fail
                  go_roundw
                  case rel => exact ⟨y + 1, by omega, by omega, by go_num, by rw [HWW.out], by rw [HFF.out], by rw [HCC.out], hTA, hB⟩
                  case measure => simp [intOf]; omega
          · obtain rfl : x = 5 := by omega
            have hcyc := fun h => hTI5.cycles h
            obtain ⟨wv, hwv⟩ : ∃ wv, wv = wK W' 5 := ⟨_, rfl⟩
            obtain ⟨fv, hfv⟩ : ∃ fv, fv = fK W' 5 := ⟨_, rfl⟩
            obtain ⟨cv, hcv⟩ : ∃ cv, cv = cK L' W' 5 := ⟨_, rfl⟩
            rw [← hfv, ← hcv] at hcyc
            rw [← hwv, ← hfv, ← hcv]
            clear hwv hfv hcv
            by_cases hf0 : fv = 0
            · have hct := hcyc hf0
              subst hf0 hct
              clear hcyc
              by_cases hw0 : (0 : Int) < wv
              all_goals
                go_wp2_with fail
                go_roundw
                case rel => exact ⟨i + 1, L', W', by omega, by omega, by go_num, hTA, hB, hfit5, hTI5, hwl5⟩
                case measure => simp [intOf]; omega
            · have hfb : (fv == 0) = false := by simpa using hf0
              clear hcyc hf0
              by_cases hw0 : (0 : Int) < wv
              all_goals
                go_wp2_with fail
                go_roundw
                case rel => exact ⟨i + 1, L', W', by omega, by omega, by go_num, hTA, hB, hfit5, hTI5, hwl5⟩
                case measure => simp [intOf]; omega
    · by_cases hlt : i < l.length
      all_goals
        clear hA
        try have h60 : ¬ i < 60 := by omega
        go_wp2_with fail
        go_ret
        exact ⟨rfl, hB⟩
end Go.Proofs.Ytpggillecedocaa
