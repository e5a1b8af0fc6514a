import Derived.Test.YtcdlplbccblbaaaGreatMg19
import Derived.Test.YtcdlplbccblbaaaGreatSi
namespace Go.Proofs.YtcdlplbccblbaaaGreat
open Go.RowKit
set_option linter.unusedVariables false

/-! ### Who blocks whom -/
def ak0 : Ak := ⟨0, 0, 0, false⟩
/-- Does a, at place i, block the one at place m? -/
def blkA (a me : Ak) (i m : Nat) : Bool := (a.has != 0 && !compat a.has me.wants) || (a.wants != 0 && ((a.has != 0 && me.has == 0) || ((a.has != 0) == (me.has != 0) && decide (i < m))))
def blkTo (q : List Ak) (tx : Int) (m : Nat) : Nat → List Int
  | 0 => []
  | k + 1 => blkTo q tx m k ++ (if (q.getD k ak0).tx = tx then [] else if blkA (q.getD k ak0) (q.getD m ak0) k m = true then [(q.getD k ak0).tx] else [])
/-- Those for whom a transaction waits in a queue, rising. -/
def blockersQ (q : List Ak) (tx : Int) : List Int := match q.findIdx? fun a => a.tx == tx with
  | none => []
  | some m => sortI (blkTo q tx m q.length)
theorem blkTo_len (q : List Ak) (tx : Int) (m k : Nat) : (blkTo q tx m k).length ≤ k := by
  induction k with
  | zero => exact Nat.le_refl _
  | succ k ih =>
    unfold blkTo
    rw [List.length_append]
    have : (if (q.getD k ak0).tx = tx then [] else if blkA (q.getD k ak0) (q.getD m ak0) k m = true then [(q.getD k ak0).tx] else []).length ≤ 1 := by
      split
      · simp
      · split <;> simp
    omega

section
variable {w w' : World} {T QB WB : Nat} {R : List Row} {W : List (Int × Nm)}
theorem blockers_none (h : Tab w T QB WB R W) {tx : Int} (hw : wOf W tx = none) :
    Calls Tryz.prog 21 #[.pointer (some ⟨T, 0, none⟩), .int .i64 tx] w fun e w' => e = .returned (.slice none 0 0) ∧ Below w.heap.size w w' := by
  have hcon := for_tab h tx
  rw [hw] at hcon
  simp only [Option.isSome_none] at hcon
  go_enter Tryz.func21, Tryz.ntmps21
  go_wp2_with fail
  refine hcon.mono ?_
  rintro e w1 ⟨rfl, hB⟩
  go_wp2_with fail
  go_ret
  exact ⟨rfl, hB.alloc hB.size _⟩

set_option maxRecDepth 100000 in
set_option maxHeartbeats 4000000 in
theorem blockers_tab (h : Tab w T QB WB R W) {tx : Int} {n : Nm} (hw : wOf W tx = some n) {m : Nat} (hm : (qOf R n).findIdx? (fun a => a.tx == tx) = some m) (hlen : (qOf R n).length ≤ 1000000) :
    Calls Tryz.prog 21 #[.pointer (some ⟨T, 0, none⟩), .int .i64 tx] w fun e w' => ∃ v, e = .returned v ∧ IntsAt w' w.heap.size v (blockersQ (qOf R n) tx) ∧ Below w.heap.size w w' := by
  obtain ⟨i0, hi0, hz0, hz1, hz2⟩ := info_parts infoInt
  have hcon := for_tab h tx
  have hwz : wz W tx = n := by unfold wz; rw [hw]; rfl
  rw [hwz, hw] at hcon
  simp only [Option.isSome_some] at hcon
  obtain ⟨hmx, hml⟩ := at_of_some hm
  have hres : blockersQ (qOf R n) tx = sortI (blkTo (qOf R n) tx m (qOf R n).length) := by unfold blockersQ; rw [hm]
  obtain ⟨g, cap, hve, hrow⟩ : ∃ g cap, vOf R n = .slice (some ⟨g, 0, none⟩) (qOf R n).length cap ∧ RowAt w g cap (qOf R n) := by
    rcases h.qv n with ⟨_, h0⟩ | h1
    · rw [h0] at hml; simp at hml
    · exact h1
  have hlook : ∀ w', Below w.heap.size w w' → (Instr.lookup 34 (.map (some QB)) (nv n) false).run Tryz.prog w' = .ok (vOf R n) w' := fun w' hb => (h.below hb).look n
  rw [hve] at hlook
  have HLOOK := Lib.hid hlook
  clear hlook hwz
  obtain ⟨q, hq⟩ : ∃ q, q = qOf R n := ⟨_, rfl⟩
  rw [← hq] at hm hlen hmx hml hres hrow HLOOK hve ⊢
  clear hve hq hw hm
  obtain ⟨me, hme⟩ : ∃ me, me = q[m] := ⟨_, rfl⟩
  have hmeD : q.getD m ak0 = me := by simp [List.getD, hml, hme]
  have HMD := Lib.hid hmeD
  have HRES := Lib.hid hres
  have HMX := Lib.hid hmx
  have HME := Lib.hid hme
  clear hmeD hres hmx hme
  have hqc := hrow.le
  have hqm := hrow.max
  unfold maxLen at hqm
  obtain ⟨k, o, p, s⟩ := n
  go_enter Tryz.func21, Tryz.ntmps21
  go_wp2_with fail
  refine hcon.mono ?_
  rintro e w1 ⟨rfl, hB1⟩
  obtain ⟨w2, hw2⟩ : ∃ w2, w2 = w1.alloc (.cells #[.int .i64 k, .int .i64 o, .int .u32 p, .int .i64 s] 46) := ⟨_, rfl⟩
  have hB2 : Below w.heap.size w w2 := by rw [hw2]; exact hB1.alloc hB1.size _
  have hbn : Blk w2 w1.heap.size 46 #[.int .i64 k, .int .i64 o, .int .u32 p, .int .i64 s] := by rw [hw2]; exact Blk.new _ _ _
  go_wp2_with fail
  rw [← hw2]
  clear hw2 hcon
  have t0 := (h.below hB2).head.cell 0
  have b0 := hbn.cell 0
  have b1 := hbn.cell 1
  have b2 := hbn.cell 2
  have b3 := hbn.cell 3
  simp at t0 b0 b1 b2 b3
  have hlk : ∀ q', (Instr.lookup 34 (.map (some QB)) (.agg #[.int .i64 k, .int .i64 o, .int .u32 p, .int .i64 s]) false).run Tryz.prog (w2.drewN q') = .ok (.slice (some ⟨g, 0, none⟩) q.length cap) (w2.drewN q') := fun q' => HLOOK.out _ (below_drewN hB2 q')
  go_quiet (fail)
  obtain ⟨w3, hw3⟩ : ∃ w3, w3 = w2.drewN nq := ⟨_, rfl⟩
  have hB3 : Below w.heap.size w w3 := by rw [hw3]; exact below_drewN hB2 nq
  rw [← hw3]
  clear hw3 hlk t0 b0 b1 b2 b3 hbn
  have hrow3 : RowAt w3 g cap q := hrow.of_block (hB3.block _ hrow.lt)
  go_wp2_with fail
  refine (find_any _ q tx _ (.inr ⟨g, cap, rfl, hrow3⟩)).mono ?_
  rintro e w4 ⟨rfl, hB4⟩
  rw [HMX.out]
  have hB4' : Below w.heap.size w w4 := hB3.trans (hB4.mono hB3.size)
  have hrow4 : RowAt w4 g cap q := hrow.of_block (hB4'.block _ hrow.lt)
  have m0 := hrow4.c0 hml
  have m1 := hrow4.c1 hml
  have m2 := hrow4.c2 hml
  have m3 := hrow4.c3 hml
  rw [← HME.out] at m0 m1 m2 m3
  obtain ⟨w5, hw5⟩ : ∃ w5, w5 = w4.alloc (.cells #[.int .i64 me.tx, .int .i64 me.has, .int .i64 me.wants, .bool me.inst] 80) := ⟨_, rfl⟩
  have hB5 : Below w.heap.size w w5 := by rw [hw5]; exact hB4'.alloc hB4'.size _
  have hbm : Blk w5 w4.heap.size 80 #[.int .i64 me.tx, .int .i64 me.has, .int .i64 me.wants, .bool me.inst] := by rw [hw5]; exact Blk.new _ _ _
  obtain ⟨M, hM⟩ : ∃ M, M = w4.heap.size := ⟨_, rfl⟩
  have hMw : w.heap.size ≤ M := by rw [hM]; exact hB4'.size
  go_wp2_with fail
  rw [← hw5]
  rw [← hM] at hbm ⊢
  clear hw5 hM m0 m1 m2 m3 hB1 hB2 hB3 hB4
  -- ROUND
  go_loopw [9, 36] (fun v j wr => ∃ i : Nat, i ≤ q.length ∧ j = .int .i64 i ∧ Below w.heap.size w wr ∧ Blk wr M 80 #[.int .i64 me.tx, .int .i64 me.has, .int .i64 me.wants, .bool me.inst] ∧ IntsAt wr w.heap.size v (blkTo q tx m i)) (fun _ j _ => q.length - (intOf j).toNat)
  case atStart => exact ⟨0, by omega, rfl, hB5, hbm, ⟨⟨rfl, .inl ⟨rfl, rfl⟩⟩, by simp [blkTo]⟩⟩
  case round =>
    obtain ⟨i, hi, rfl, hB, hbm, hO⟩ := hrel
    by_cases hlt : i < q.length
    · have hrowr : RowAt wr g cap q := hrow.of_block (hB.block _ hrow.lt)
      obtain ⟨a, ha⟩ : ∃ a, a = q[i] := ⟨_, rfl⟩
      have c0 := hrowr.c0 hlt
      have c1 := hrowr.c1 hlt
      have c2 := hrowr.c2 hlt
      have c3 := hrowr.c3 hlt
      rw [← ha] at c0 c1 c2 c3
      have hx : q.getD i ak0 = a := by simp [List.getD, hlt, ha]
      have HSTEP : Hid (blkTo q tx m (i + 1) = blkTo q tx m i ++ (if a.tx = tx then [] else if blkA a me i m = true then [a.tx] else [])) := Lib.hid (by rw [blkTo, hx, HMD.out])
      clear hx
      clear ha
      have hlen9 := blkTo_len q tx m i
      obtain ⟨wa, hwa⟩ : ∃ wa, wa = wr.alloc (.cells #[.int .i64 a.tx, .int .i64 a.has, .int .i64 a.wants, .bool a.inst] 80) := ⟨_, rfl⟩
      have hBra : Below wr.heap.size wr wa := by rw [hwa]; exact (Below.refl _ _).alloc (Nat.le_refl _) _
      have hba : Blk wa wr.heap.size 80 #[.int .i64 a.tx, .int .i64 a.has, .int .i64 a.wants, .bool a.inst] := by rw [hwa]; exact Blk.new _ _ _
      have hBa : Below w.heap.size w wa := hB.trans (hBra.mono hB.size)
      have hbma := hbm.of_block (hBra.block _ hbm.lt)
      have hrowa := hrowr.of_block (hBra.block _ hrowr.lt)
      have hOa := hO.of_block hBra.size (fun k hk _ => hBra.block k hk)
      have hbaa := hba
      by_cases htx : a.tx = tx
      · have htb : (a.tx == tx) = true := by simpa using htx
        have HS1 : Hid (blkTo q tx m (i + 1) = blkTo q tx m i) := Lib.hid (by rw [HSTEP.out, if_pos htx, List.append_nil])
        clear htx
        go_wp2_with fail
        rw [← hwa]
        go_roundw
        case rel => exact ⟨i + 1, by omega, by go_num, hBa, hbma, by rw [HS1.out]; exact hOa⟩
        case measure => simp [intOf]; omega
      · have htb : (a.tx == tx) = false := by simpa using htx
        have HTX := Lib.hid htx
        clear htx
        cases h1 : (a.has != 0) with
        | false =>
          go_upto_region 12 with fail
          rw [← hwa]
          clear hwa
          have m1 := hbma.cell 1
          have m2 := hbma.cell 2
          have a0 := hbaa.cell 0
          have a1 := hbaa.cell 1
          have a2 := hbaa.cell 2
          simp at m1 m2 a0 a1 a2
          cases h3 : (a.wants != 0) with
          | false =>
            have HS1 : Hid (blkTo q tx m (i + 1) = blkTo q tx m i) := Lib.hid (by rw [HSTEP.out, if_neg HTX.out, if_neg (by unfold blkA; simp [*]), List.append_nil])
            go_wp2_with fail
            go_roundw
            case rel => exact ⟨i + 1, by omega, by go_num, hBa, hbma, by rw [HS1.out]; exact hOa⟩
            case measure => simp [intOf]; omega
          | true =>
            cases h4 : (me.has == 0) with
            | true =>
              have h5 : (me.has != 0) = false := by revert h4; cases hx : (me.has == 0) <;> simp_all
              go_wp2_with fail
              refine (find_any _ q tx _ (.inr ⟨g, cap, rfl, hrowa⟩)).mono ?_
              rintro e wf ⟨rfl, hBaf⟩
              rw [HMX.out]
              have hBf : Below w.heap.size w wf := hBa.trans (hBaf.mono hBa.size)
              have hbmf := hbma.of_block (hBaf.block _ hbma.lt)
              have hbaf := hbaa.of_block (hBaf.block _ hbaa.lt)
              have hrowf := hrowa.of_block (hBaf.block _ hrowa.lt)
              have hOf := hOa.of_block hBaf.size (fun k hk _ => hBaf.block k hk)
              clear m1 m2 a0 a1 a2
              have m1 := hbmf.cell 1
              have m2 := hbmf.cell 2
              have a0 := hbaf.cell 0
              have a1 := hbaf.cell 1
              have a2 := hbaf.cell 2
              simp at m1 m2 a0 a1 a2
              by_cases h6 : i < m
              ·
                have HS1 : Hid (blkTo q tx m (i + 1) = blkTo q tx m i ++ [a.tx]) := Lib.hid (by rw [HSTEP.out, if_neg HTX.out, if_pos (by unfold blkA; simp [*])])
                have hsw : w.heap.size ≤ wf.heap.size := hBf.size
                go_wp2_with (at_builtin; refine wpList_append_own_at _ rfl _ _ 52 rfl w.heap.size 3 i0 _ 1 8 Tryz.underlying52 hi0 hz0 hz1 hz2 rfl (by decide) _ _ _ rfl (hOf.1.alloc _) ⟨wf.heap.size, 0, none⟩ 1 1 [.int .i64 a.tx] rfl rfl (cell_one_new _ _ _) (by simp [Value.oneCell']) (by unfold maxLen; omega) (by omega) (by simp; omega) ?_; intro v' w8 hown8 hgr8 hnil8 _)
                have hO8 : IntsAt w8 w.heap.size v' (blkTo q tx m i ++ [a.tx]) := ⟨by rw [List.length_append, List.map_append]; exact hown8, by simpa using hnil8⟩
                have hgr9 : (wf.alloc (.cells #[.int .i64 a.tx] 3)).grownBy w8 u9.ownBlock := hgr8
                have hB8 : Below w.heap.size w w8 := (hBf.alloc hsw _).grown hgr9 (by simp; omega) (fun kk hk => Nat.le_of_not_lt (fun hlt => hOf.far hlt hk.symm))
                have hbm8 := (hbmf.alloc _).of_block (hgr9.block _ (by have := hbmf.lt; simp; omega) (hOf.other hbmf (by decide)))
                go_wp2_with fail
                go_roundw
                case rel => exact ⟨i + 1, by omega, by go_num, hB8, hbm8, by rw [HS1.out]; exact hO8⟩
                case measure => simp [intOf]; omega
              ·
                have HS1 : Hid (blkTo q tx m (i + 1) = blkTo q tx m i) := Lib.hid (by rw [HSTEP.out, if_neg HTX.out, if_neg (by unfold blkA; simp [*]), List.append_nil])
                go_wp2_with fail
                go_roundw
                case rel => exact ⟨i + 1, by omega, by go_num, hBf, hbmf, by rw [HS1.out]; exact hOf⟩
                case measure => simp [intOf]; omega
            | false =>
              have h5 : (me.has != 0) = true := by revert h4; cases hx : (me.has == 0) <;> simp_all
              have HS1 : Hid (blkTo q tx m (i + 1) = blkTo q tx m i) := Lib.hid (by rw [HSTEP.out, if_neg HTX.out, if_neg (by unfold blkA; simp [*]), List.append_nil])
              go_wp2_with fail
              go_roundw
              case rel => exact ⟨i + 1, by omega, by go_num, hBa, hbma, by rw [HS1.out]; exact hOa⟩
              case measure => simp [intOf]; omega
        | true =>
          go_upto_region 11 with fail
          rw [← hwa]
          clear hwa
          have m1 := hbma.cell 1
          have m2 := hbma.cell 2
          have a0 := hbaa.cell 0
          have a1 := hbaa.cell 1
          have a2 := hbaa.cell 2
          simp at m1 m2 a0 a1 a2
          go_wp2_with fail
          refine (compat_any _ _ _).mono ?_
          rintro e wc ⟨rfl, hBac⟩
          have hBc : Below w.heap.size w wc := hBa.trans (hBac.mono hBa.size)
          have hbmc := hbma.of_block (hBac.block _ hbma.lt)
          have hbac := hbaa.of_block (hBac.block _ hbaa.lt)
          have hrowc := hrowa.of_block (hBac.block _ hrowa.lt)
          have hOc := hOa.of_block hBac.size (fun k hk _ => hBac.block k hk)
          clear m1 m2 a0 a1 a2
          have m1 := hbmc.cell 1
          have m2 := hbmc.cell 2
          have a0 := hbac.cell 0
          have a1 := hbac.cell 1
          have a2 := hbac.cell 2
          simp at m1 m2 a0 a1 a2
          cases h2 : compat a.has me.wants with
          | true =>
            cases h3 : (a.wants != 0) with
            | false =>
              have HS1 : Hid (blkTo q tx m (i + 1) = blkTo q tx m i) := Lib.hid (by rw [HSTEP.out, if_neg HTX.out, if_neg (by unfold blkA; simp [*]), List.append_nil])
              go_wp2_with fail
              go_roundw
              case rel => exact ⟨i + 1, by omega, by go_num, hBc, hbmc, by rw [HS1.out]; exact hOc⟩
              case measure => simp [intOf]; omega
            | true =>
              cases h4 : (me.has == 0) with
              | true =>
                have h5 : (me.has != 0) = false := by revert h4; cases hx : (me.has == 0) <;> simp_all
                have HS1 : Hid (blkTo q tx m (i + 1) = blkTo q tx m i ++ [a.tx]) := Lib.hid (by rw [HSTEP.out, if_neg HTX.out, if_pos (by unfold blkA; simp [*])])
                have hsw : w.heap.size ≤ wc.heap.size := hBc.size
                go_wp2_with (at_builtin; refine wpList_append_own_at _ rfl _ _ 52 rfl w.heap.size 3 i0 _ 1 8 Tryz.underlying52 hi0 hz0 hz1 hz2 rfl (by decide) _ _ _ rfl (hOc.1.alloc _) ⟨wc.heap.size, 0, none⟩ 1 1 [.int .i64 a.tx] rfl rfl (cell_one_new _ _ _) (by simp [Value.oneCell']) (by unfold maxLen; omega) (by omega) (by simp; omega) ?_; intro v' w8 hown8 hgr8 hnil8 _)
                have hO8 : IntsAt w8 w.heap.size v' (blkTo q tx m i ++ [a.tx]) := ⟨by rw [List.length_append, List.map_append]; exact hown8, by simpa using hnil8⟩
                have hgr9 : (wc.alloc (.cells #[.int .i64 a.tx] 3)).grownBy w8 u9.ownBlock := hgr8
                have hB8 : Below w.heap.size w w8 := (hBc.alloc hsw _).grown hgr9 (by simp; omega) (fun kk hk => Nat.le_of_not_lt (fun hlt => hOc.far hlt hk.symm))
                have hbm8 := (hbmc.alloc _).of_block (hgr9.block _ (by have := hbmc.lt; simp; omega) (hOc.other hbmc (by decide)))
                go_wp2_with fail
                go_roundw
                case rel => exact ⟨i + 1, by omega, by go_num, hB8, hbm8, by rw [HS1.out]; exact hO8⟩
                case measure => simp [intOf]; omega
              | false =>
                have h5 : (me.has != 0) = true := by revert h4; cases hx : (me.has == 0) <;> simp_all
                go_wp2_with fail
                refine (find_any _ q tx _ (.inr ⟨g, cap, rfl, hrowc⟩)).mono ?_
                rintro e wf ⟨rfl, hBcf⟩
                rw [HMX.out]
                have hBf : Below w.heap.size w wf := hBc.trans (hBcf.mono hBc.size)
                have hbmf := hbmc.of_block (hBcf.block _ hbmc.lt)
                have hbaf := hbac.of_block (hBcf.block _ hbac.lt)
                have hrowf := hrowc.of_block (hBcf.block _ hrowc.lt)
                have hOf := hOc.of_block hBcf.size (fun k hk _ => hBcf.block k hk)
                clear m1 m2 a0 a1 a2
                have m1 := hbmf.cell 1
                have m2 := hbmf.cell 2
                have a0 := hbaf.cell 0
                have a1 := hbaf.cell 1
                have a2 := hbaf.cell 2
                simp at m1 m2 a0 a1 a2
                by_cases h6 : i < m
                ·
                  have HS1 : Hid (blkTo q tx m (i + 1) = blkTo q tx m i ++ [a.tx]) := Lib.hid (by rw [HSTEP.out, if_neg HTX.out, if_pos (by unfold blkA; simp [*])])
                  have hsw : w.heap.size ≤ wf.heap.size := hBf.size
                  go_wp2_with (at_builtin; refine wpList_append_own_at _ rfl _ _ 52 rfl w.heap.size 3 i0 _ 1 8 Tryz.underlying52 hi0 hz0 hz1 hz2 rfl (by decide) _ _ _ rfl (hOf.1.alloc _) ⟨wf.heap.size, 0, none⟩ 1 1 [.int .i64 a.tx] rfl rfl (cell_one_new _ _ _) (by simp [Value.oneCell']) (by unfold maxLen; omega) (by omega) (by simp; omega) ?_; intro v' w8 hown8 hgr8 hnil8 _)
                  have hO8 : IntsAt w8 w.heap.size v' (blkTo q tx m i ++ [a.tx]) := ⟨by rw [List.length_append, List.map_append]; exact hown8, by simpa using hnil8⟩
                  have hgr9 : (wf.alloc (.cells #[.int .i64 a.tx] 3)).grownBy w8 u9.ownBlock := hgr8
                  have hB8 : Below w.heap.size w w8 := (hBf.alloc hsw _).grown hgr9 (by simp; omega) (fun kk hk => Nat.le_of_not_lt (fun hlt => hOf.far hlt hk.symm))
                  have hbm8 := (hbmf.alloc _).of_block (hgr9.block _ (by have := hbmf.lt; simp; omega) (hOf.other hbmf (by decide)))
                  go_wp2_with fail
                  go_roundw
                  case rel => exact ⟨i + 1, by omega, by go_num, hB8, hbm8, by rw [HS1.out]; exact hO8⟩
                  case measure => simp [intOf]; omega
                ·
                  have HS1 : Hid (blkTo q tx m (i + 1) = blkTo q tx m i) := Lib.hid (by rw [HSTEP.out, if_neg HTX.out, if_neg (by unfold blkA; simp [*]), List.append_nil])
                  go_wp2_with fail
                  go_roundw
                  case rel => exact ⟨i + 1, by omega, by go_num, hBf, hbmf, by rw [HS1.out]; exact hOf⟩
                  case measure => simp [intOf]; omega
          | false =>
            cases h3 : (a.wants != 0) with
            | false =>
              have HS1 : Hid (blkTo q tx m (i + 1) = blkTo q tx m i ++ [a.tx]) := Lib.hid (by rw [HSTEP.out, if_neg HTX.out, if_pos (by unfold blkA; simp [*])])
              have hsw : w.heap.size ≤ wc.heap.size := hBc.size
              go_wp2_with (at_builtin; refine wpList_append_own_at _ rfl _ _ 52 rfl w.heap.size 3 i0 _ 1 8 Tryz.underlying52 hi0 hz0 hz1 hz2 rfl (by decide) _ _ _ rfl (hOc.1.alloc _) ⟨wc.heap.size, 0, none⟩ 1 1 [.int .i64 a.tx] rfl rfl (cell_one_new _ _ _) (by simp [Value.oneCell']) (by unfold maxLen; omega) (by omega) (by simp; omega) ?_; intro v' w8 hown8 hgr8 hnil8 _)
              have hO8 : IntsAt w8 w.heap.size v' (blkTo q tx m i ++ [a.tx]) := ⟨by rw [List.length_append, List.map_append]; exact hown8, by simpa using hnil8⟩
              have hgr9 : (wc.alloc (.cells #[.int .i64 a.tx] 3)).grownBy w8 u9.ownBlock := hgr8
              have hB8 : Below w.heap.size w w8 := (hBc.alloc hsw _).grown hgr9 (by simp; omega) (fun kk hk => Nat.le_of_not_lt (fun hlt => hOc.far hlt hk.symm))
              have hbm8 := (hbmc.alloc _).of_block (hgr9.block _ (by have := hbmc.lt; simp; omega) (hOc.other hbmc (by decide)))
              go_wp2_with fail
              go_roundw
              case rel => exact ⟨i + 1, by omega, by go_num, hB8, hbm8, by rw [HS1.out]; exact hO8⟩
              case measure => simp [intOf]; omega
            | true =>
              cases h4 : (me.has == 0) with
              | true =>
                have h5 : (me.has != 0) = false := by revert h4; cases hx : (me.has == 0) <;> simp_all
                have HS1 : Hid (blkTo q tx m (i + 1) = blkTo q tx m i ++ [a.tx]) := Lib.hid (by rw [HSTEP.out, if_neg HTX.out, if_pos (by unfold blkA; simp [*])])
                have hsw : w.heap.size ≤ wc.heap.size := hBc.size
                go_wp2_with (at_builtin; refine wpList_append_own_at _ rfl _ _ 52 rfl w.heap.size 3 i0 _ 1 8 Tryz.underlying52 hi0 hz0 hz1 hz2 rfl (by decide) _ _ _ rfl (hOc.1.alloc _) ⟨wc.heap.size, 0, none⟩ 1 1 [.int .i64 a.tx] rfl rfl (cell_one_new _ _ _) (by simp [Value.oneCell']) (by unfold maxLen; omega) (by omega) (by simp; omega) ?_; intro v' w8 hown8 hgr8 hnil8 _)
                have hO8 : IntsAt w8 w.heap.size v' (blkTo q tx m i ++ [a.tx]) := ⟨by rw [List.length_append, List.map_append]; exact hown8, by simpa using hnil8⟩
                have hgr9 : (wc.alloc (.cells #[.int .i64 a.tx] 3)).grownBy w8 u9.ownBlock := hgr8
                have hB8 : Below w.heap.size w w8 := (hBc.alloc hsw _).grown hgr9 (by simp; omega) (fun kk hk => Nat.le_of_not_lt (fun hlt => hOc.far hlt hk.symm))
                have hbm8 := (hbmc.alloc _).of_block (hgr9.block _ (by have := hbmc.lt; simp; omega) (hOc.other hbmc (by decide)))
                go_wp2_with fail
                go_roundw
                case rel => exact ⟨i + 1, by omega, by go_num, hB8, hbm8, by rw [HS1.out]; exact hO8⟩
                case measure => simp [intOf]; omega
              | false =>
                have h5 : (me.has != 0) = true := by revert h4; cases hx : (me.has == 0) <;> simp_all
                go_wp2_with fail
                refine (find_any _ q tx _ (.inr ⟨g, cap, rfl, hrowc⟩)).mono ?_
                rintro e wf ⟨rfl, hBcf⟩
                rw [HMX.out]
                have hBf : Below w.heap.size w wf := hBc.trans (hBcf.mono hBc.size)
                have hbmf := hbmc.of_block (hBcf.block _ hbmc.lt)
                have hbaf := hbac.of_block (hBcf.block _ hbac.lt)
                have hrowf := hrowc.of_block (hBcf.block _ hrowc.lt)
                have hOf := hOc.of_block hBcf.size (fun k hk _ => hBcf.block k hk)
                clear m1 m2 a0 a1 a2
                have m1 := hbmf.cell 1
                have m2 := hbmf.cell 2
                have a0 := hbaf.cell 0
                have a1 := hbaf.cell 1
                have a2 := hbaf.cell 2
                simp at m1 m2 a0 a1 a2
                by_cases h6 : i < m
                ·
                  have HS1 : Hid (blkTo q tx m (i + 1) = blkTo q tx m i ++ [a.tx]) := Lib.hid (by rw [HSTEP.out, if_neg HTX.out, if_pos (by unfold blkA; simp [*])])
                  have hsw : w.heap.size ≤ wf.heap.size := hBf.size
                  go_wp2_with (at_builtin; refine wpList_append_own_at _ rfl _ _ 52 rfl w.heap.size 3 i0 _ 1 8 Tryz.underlying52 hi0 hz0 hz1 hz2 rfl (by decide) _ _ _ rfl (hOf.1.alloc _) ⟨wf.heap.size, 0, none⟩ 1 1 [.int .i64 a.tx] rfl rfl (cell_one_new _ _ _) (by simp [Value.oneCell']) (by unfold maxLen; omega) (by omega) (by simp; omega) ?_; intro v' w8 hown8 hgr8 hnil8 _)
                  have hO8 : IntsAt w8 w.heap.size v' (blkTo q tx m i ++ [a.tx]) := ⟨by rw [List.length_append, List.map_append]; exact hown8, by simpa using hnil8⟩
                  have hgr9 : (wf.alloc (.cells #[.int .i64 a.tx] 3)).grownBy w8 u9.ownBlock := hgr8
                  have hB8 : Below w.heap.size w w8 := (hBf.alloc hsw _).grown hgr9 (by simp; omega) (fun kk hk => Nat.le_of_not_lt (fun hlt => hOf.far hlt hk.symm))
                  have hbm8 := (hbmf.alloc _).of_block (hgr9.block _ (by have := hbmf.lt; simp; omega) (hOf.other hbmf (by decide)))
                  go_wp2_with fail
                  go_roundw
                  case rel => exact ⟨i + 1, by omega, by go_num, hB8, hbm8, by rw [HS1.out]; exact hO8⟩
                  case measure => simp [intOf]; omega
                ·
                  have HS1 : Hid (blkTo q tx m (i + 1) = blkTo q tx m i ++ [a.tx]) := Lib.hid (by rw [HSTEP.out, if_neg HTX.out, if_pos (by unfold blkA; simp [*])])
                  have hsw : w.heap.size ≤ wf.heap.size := hBf.size
                  go_wp2_with (at_builtin; refine wpList_append_own_at _ rfl _ _ 52 rfl w.heap.size 3 i0 _ 1 8 Tryz.underlying52 hi0 hz0 hz1 hz2 rfl (by decide) _ _ _ rfl (hOf.1.alloc _) ⟨wf.heap.size, 0, none⟩ 1 1 [.int .i64 a.tx] rfl rfl (cell_one_new _ _ _) (by simp [Value.oneCell']) (by unfold maxLen; omega) (by omega) (by simp; omega) ?_; intro v' w8 hown8 hgr8 hnil8 _)
                  have hO8 : IntsAt w8 w.heap.size v' (blkTo q tx m i ++ [a.tx]) := ⟨by rw [List.length_append, List.map_append]; exact hown8, by simpa using hnil8⟩
                  have hgr9 : (wf.alloc (.cells #[.int .i64 a.tx] 3)).grownBy w8 u9.ownBlock := hgr8
                  have hB8 : Below w.heap.size w w8 := (hBf.alloc hsw _).grown hgr9 (by simp; omega) (fun kk hk => Nat.le_of_not_lt (fun hlt => hOf.far hlt hk.symm))
                  have hbm8 := (hbmf.alloc _).of_block (hgr9.block _ (by have := hbmf.lt; simp; omega) (hOf.other hbmf (by decide)))
                  go_wp2_with fail
                  go_roundw
                  case rel => exact ⟨i + 1, by omega, by go_num, hB8, hbm8, by rw [HS1.out]; exact hO8⟩
                  case measure => simp [intOf]; omega
    · obtain rfl : i = q.length := by omega
      go_wp2_with fail
      refine (sortInts_any hO (by have := blkTo_len q tx m q.length; omega)).mono ?_
      rintro e w2 ⟨rfl, hO2, hK⟩
      go_wp2_with fail
      go_ret
      exact ⟨_, rfl, by rw [HRES.out]; exact hO2, hB.trans (hK.below hB.size (fun k hk hf => hO.far hk hf))⟩
  -- END ROUND
end
end Go.Proofs.YtcdlplbccblbaaaGreat
