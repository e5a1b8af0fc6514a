import Derived.Test.YtcdlplbccblbaaaGreatQf
namespace Go.Proofs.YtcdlplbccblbaaaGreat
open Go.RowKit
set_option linter.unusedVariables false
set_option linter.unusedSimpArgs false

theorem GR.fire {w wr : World} {n sc g : Nat} {ov : Value} {k o p s : Int} {sg : Gs} (h : GR w (.slice (some ⟨g, 0, none⟩) n sc) ov k o p s sg wr) (hg : w.heap.size ≤ g) {i : Nat} (hi : i < sg.q.length) (x : Ak) :
    GR w (.slice (some ⟨g, 0, none⟩) n sc) ov k o p s { sg with q := sg.q.set i x } ((((wr.setCell ⟨g, i * 4, none⟩ (.int .i64 x.tx)).setCell ⟨g, i * 4 + 1, none⟩ (.int .i64 x.has)).setCell ⟨g, i * 4 + 2, none⟩ (.int .i64 x.wants)).setCell ⟨g, i * 4 + 3, none⟩ (.bool x.inst)) := by
  have hgo : ∀ {k' : Nat} {t : TypeId} {cs : Array Value}, Blk wr k' t cs → t ≠ 74 → k' ≠ g := fun hb ht e => by
    have := h.row.other hb ht
    simp [Value.ownBlock, e] at this
  refine ⟨h.row.put4 hi x, h.out.of_block fun k' cs hk => ?_, h.name.set4i (hgo h.name (by decide)) _ _ _ _ _, below_set4i h.below hg _ _ _ _ _⟩
  have hb : Blk wr k' 3 cs := hk
  exact (hb.set4i (hgo hb (by decide)) (i * 4) (.int .i64 x.tx) (.int .i64 x.has) (.int .i64 x.wants) (.bool x.inst)).trans hk.symm
theorem GR.more {w wr w8 : World} {qv ov v' : Value} {k o p s : Int} {sg : Gs} {l : List Int} (h : GR w qv ov k o p s sg wr) (hg : wr.grownBy w8 ov.ownBlock) (hi : IO w8 w.heap.size v' l) : GR w qv v' k o p s { sg with out := l } w8 := by
  refine ⟨h.row.grown hg fun k' e => ?_, hi, h.name.of_block (hg.block _ h.name.lt (h.out.other h.name (by decide))), h.out.grownBelow h.below hg h.below.size⟩
  rcases h.row.2 with ⟨e2, _⟩ | ⟨g, cap, cur, e2, _, hb, _⟩
  · rw [e2] at e; simp [Value.ownBlock] at e
  · rw [e2] at e
    obtain rfl : k' = g := by simpa [Value.ownBlock] using e
    have hB : Blk wr k' 74 cur := hb
    exact h.out.other hB (by decide)

set_option maxRecDepth 100000 in
set_option maxHeartbeats 4000000 in
theorem rgrant_m {w : World} {v : Value} {M : List (Nm × List Ak)} (h : RT w v M) (hM : M.length ≤ 1000) (hq : ∀ p ∈ M, p.2.length ≤ 1000) (k o p s : Int) :
    Calls Tryz.prog 40 #[v, .agg #[.int .i64 k, .int .i64 o, .int .u32 p, .int .i64 s]] w fun e w' =>
      ∃ v' ov, e = .returned (.tuple #[v', ov]) ∧ RT w' v' (withM ⟨k, o, p, s⟩ (gq (qL M ⟨k, o, p, s⟩)) M) ∧ IO w' w.heap.size ov (gout (qL M ⟨k, o, p, s⟩)) ∧ Below w.heap.size w w' := by
  have hql : (qL M ⟨k, o, p, s⟩).length ≤ 1000 := by
    unfold qL
    cases hf : M.find? fun x => x.1 == ⟨k, o, p, s⟩ with
    | none => simp
    | some x => exact hq x (List.mem_of_find?_eq_some hf)
  obtain ⟨A, c, rfl⟩ := h.form
  obtain ⟨wa, hwa⟩ : ∃ wa, wa = w.alloc (.cells #[.int .i64 k, .int .i64 o, .int .u32 p, .int .i64 s] 49) := ⟨_, rfl⟩
  have hBa : Below w.heap.size w wa := by rw [hwa]; exact (Below.refl _ _).alloc (Nat.le_refl _) _
  have hbn : Blk wa w.heap.size 49 #[.int .i64 k, .int .i64 o, .int .u32 p, .int .i64 s] := by rw [hwa]; exact Blk.new _ _ _
  have b0 := hbn.cell 0
  have b1 := hbn.cell 1
  have b2 := hbn.cell 2
  have b3 := hbn.cell 3
  simp at b0 b1 b2 b3
  have hcq := rqueue_m (h.below hBa) (fun p hp => Nat.le_trans (hq p hp) (by omega)) k o p s
  obtain ⟨q, hqd⟩ : ∃ q, q = qL M ⟨k, o, p, s⟩ := ⟨_, rfl⟩
  rw [← hqd] at hcq hql ⊢
  clear hqd
  have HH := Lib.hid h
  clear h
  go_enter Tryz.func40, Tryz.ntmps40
  go_wp2_with fail
  rw [← hwa]
  clear hwa
  go_wp2_with fail
  refine hcq.mono ?_
  rintro e w1 ⟨qv, rfl, hao, hB1⟩
  clear hcq
  have hBw1 : Below w.heap.size w w1 := hBa.trans (hB1.mono hBa.size)
  replace hao := hao.base_ hBa.size
  have hbn1 := hbn.of_block (hB1.block _ hbn.lt)
  obtain ⟨sa, sc, rfl, hs1, hs2⟩ := hao.form
  unfold maxLen at hs2
  have hGR0 : GR w (.slice sa q.length sc) (.slice (some ⟨w1.heap.size, 0, none⟩) 0 0) k o p s (gk q 0) (w1.alloc (.cells #[] 3)) :=
    ⟨hao.below ((Below.refl _ _).alloc (Nat.le_refl _) _), (IO.made w1).base_ hBw1.size, hbn1.alloc _, hBw1.alloc hBw1.size _⟩
  clear b0 b1 b2 b3 hbn hbn1 hao hB1
  go_wp2_with fail
  go_loopw [7, 8, 9] (fun ov sv rv wr => ∃ c : Nat, c ≤ 2 ∧ rv = .int .i64 c ∧ sv = .bool (gk q c).stop ∧ GR w (.slice sa q.length sc) ov k o p s (gk q c) wr) (fun _ _ rv _ => 2 - (intOf rv).toNat)
  case atStart => exact ⟨0, by omega, rfl, rfl, hGR0⟩
  case round =>
    clear hGR0
    obtain ⟨c, hc, rfl, rfl, hG⟩ := hrel
    by_cases hc2 : c < 2
    · obtain ⟨conv, hconv⟩ : ∃ conv, conv = (c == 0) := ⟨_, rfl⟩
      have hcv : (((c : Int) == 0) : Bool) = conv := by
        rw [hconv]
        rcases (by omega : c = 0 ∨ c = 1) with rfl | rfl <;> rfl
      have hdone : ∀ s : Gs, s = gpass conv q.length (gk q c) → s = gk q (c + 1) := fun s e => by rw [e, hconv]; rfl
      have HD := Lib.hid hdone
      have hcd : decide ((c : Int) < 2) = true := by simp; omega
      clear hdone hconv
      go_wp2_with fail
      go_loopw [7, 8, 10] (fun ov sv iv' wr => ∃ i : Nat, i ≤ q.length ∧ iv' = .int .i64 i ∧ sv = .bool (gpass conv i (gk q c)).stop ∧ GR w (.slice sa q.length sc) ov k o p s (gpass conv i (gk q c)) wr) (fun _ _ iv' _ => q.length - (intOf iv').toNat)
      case atStart => exact ⟨0, by omega, rfl, rfl, hG⟩
      case round =>
        clear hG
        obtain ⟨i, hi, rfl, rfl, hG⟩ := hrel
        have hsl : (gpass conv i (gk q c)).q.length = q.length := by rw [gpass_len, gk_len]
        have hol : (gpass conv i (gk q c)).out.length ≤ 3000 := by
          have e1 := gpass_out conv i (gk q c)
          have e2 := gk_out q c
          have e3 : c * q.length ≤ 1 * q.length := Nat.mul_le_mul_right _ (by omega)
          omega
        obtain ⟨sg, hsg⟩ : ∃ sg, sg = gpass conv i (gk q c) := ⟨_, rfl⟩
        rw [← hsg] at hG hsl hol ⊢
        have HSG := Lib.hid hsg
        clear hsg
        by_cases hlt : i < q.length
        · cases hst : sg.stop with
          | true =>
            have HX : Hid (sg = gk q (c + 1)) := Lib.hid (HD.out sg (by
              rw [HSG.out]
              exact (gpass_stopped (by rw [← HSG.out]; exact hst) (by omega)).symm))
            go_wp2_with fail
            go_roundw
            case rel => exact ⟨c + 1, by omega, by go_num, by rw [← HX.out, hst], by rw [← HX.out]; exact hG⟩
            case measure => simp [intOf]; omega
          | false =>
            have hiL : i < sg.q.length := by omega
            obtain ⟨a, ha⟩ : ∃ a, a = sg.q[i] := ⟨_, rfl⟩
            have HA := Lib.hid ha
            obtain ⟨g, hge, -, -, -, hgb, hgl, c0, c1, c2, c3⟩ := hG.row.cell hiL
            subst hge
            rw [← ha] at c0 c1 c2 c3
            clear ha
            obtain ⟨wA, hwA⟩ : ∃ wA, wA = wr.alloc (.cells #[.int .i64 a.tx, .int .i64 a.has, .int .i64 a.wants, .bool a.inst] 74) := ⟨_, rfl⟩
            have hBA : Below wr.heap.size wr wA := by rw [hwA]; exact (Below.refl _ _).alloc (Nat.le_refl _) _
            have hbl : Blk wA wr.heap.size 74 #[.int .i64 a.tx, .int .i64 a.has, .int .i64 a.wants, .bool a.inst] := by rw [hwA]; exact Blk.new _ _ _
            have hGA := hG.later hBA
            by_cases hwz : a.wants = 0
            · have hwb : (a.wants == 0) = true := by simpa using hwz
              have HP2 : Hid (gpass conv (i + 1) (gk q c) = sg) := Lib.hid (by
                show gstep conv i (gpass conv i (gk q c)) = _
                rw [← HSG.out]
                exact gstep_skip hst hiL (by rw [← HA.out]; unfold passed; rw [hwb]; rfl))
              clear hwz
              go_wp2_with fail
              rw [← hwA]
              go_roundw
              case rel => exact ⟨i + 1, by omega, by go_num, by rw [HP2.out, hst], by rw [HP2.out]; exact hGA⟩
              case measure => simp [intOf]; omega
            · have hwb : (a.wants == 0) = false := by simpa using hwz
              clear hwz
              cases hpe : ((a.has != 0) == conv) with
              | false =>
                have HP2 : Hid (gpass conv (i + 1) (gk q c) = sg) := Lib.hid (by
                  show gstep conv i (gpass conv i (gk q c)) = _
                  rw [← HSG.out]
                  exact gstep_skip hst hiL (by rw [← HA.out]; unfold passed; rw [hwb, Bool.false_or, bne, hpe]; rfl))
                go_wp2_with fail
                rw [← hwA]
                go_roundw
                case rel => exact ⟨i + 1, by omega, by go_num, by rw [HP2.out, hst], by rw [HP2.out]; exact hGA⟩
                case measure => simp [intOf]; omega
              | true =>
                have HP : Hid (passed conv a = false) := Lib.hid (by unfold passed; rw [hwb, Bool.false_or, bne, hpe]; rfl)
                go_wp2_with fail
                rw [← hwA]
                have a0 := hbl.cell 0
                have a2 := hbl.cell 2
                simp at a0 a2
                go_wp2_with fail
                refine (rmay_any (hGA.row.base_ (Nat.zero_le _)) a.tx a.wants).mono ?_
                rintro e w2 ⟨rfl, hB2⟩
                have hG2 := hGA.later hB2
                have hbl2 := hbl.of_block (hB2.block _ hbl.lt)
                clear a0 a2 hwA hbl hGA hBA hG
                cases hm : mayS sg.q a.tx a.wants with
                | false =>
                  have HP2 : Hid (gpass conv (i + 1) (gk q c) = { sg with stop := true }) := Lib.hid (by
                    show gstep conv i (gpass conv i (gk q c)) = _
                    rw [← HSG.out]
                    exact gstep_halt hst hiL (by rw [← HA.out]; exact HP.out) (by rw [← HA.out]; exact hm))
                  go_wp2_with fail
                  go_roundw
                  case rel => exact ⟨i + 1, by omega, by go_num, by rw [HP2.out], by rw [HP2.out]; exact ⟨hG2.row, hG2.out, hG2.name, hG2.below⟩⟩
                  case measure => simp [intOf]; omega
                | true =>
                  have d0 := hbl2.cell 0
                  have d1 := hbl2.cell 1
                  have d2 := hbl2.cell 2
                  have d3 := hbl2.cell 3
                  simp at d0 d1 d2 d3
                  have hdl := hbl2.lt
                  cases hin : a.inst with
                  | true =>
                    obtain ⟨w3, hw3⟩ : ∃ w3, w3 = w2.alloc (.cells #[.int .i64 a.tx, .int .i64 a.has, .int .i64 0, .bool false] 74) := ⟨_, rfl⟩
                    have hbx : Blk w3 w2.heap.size 74 #[.int .i64 a.tx, .int .i64 a.has, .int .i64 0, .bool false] := by rw [hw3]; exact Blk.new _ _ _
                    have hB3 : Below w2.heap.size w2 w3 := by rw [hw3]; exact (Below.refl _ _).alloc (Nat.le_refl _) _
                    have hG3 := hG2.later hB3
                    have hbl3 := hbl2.of_block (hB3.block _ hbl2.lt)
                    have hF3 : Hid (fired a = ⟨a.tx, a.has, 0, false⟩) := Lib.hid (by unfold fired; rw [hin]; rfl)
                    go_upto_region 17 with fail
                    rw [← hw3]
                    clear hw3 hB3 d0 d1 d2 d3
                    have x0 := hbx.cell 0
                    have x1 := hbx.cell 1
                    have x2 := hbx.cell 2
                    have x3 := hbx.cell 3
                    simp at x0 x1 x2 x3
                    have hxl := hbx.lt
                    obtain ⟨g', hge', -, -, -, -, hgl3, c0, c1, c2, c3⟩ := hG3.row.cell hiL
                    obtain rfl : g = g' := by simpa using hge'
                    have f0 := hG3.row.frozen (i * 4)
                    have f1 := hG3.row.frozen (i * 4 + 1)
                    have f2 := hG3.row.frozen (i * 4 + 2)
                    have f3 := hG3.row.frozen (i * 4 + 3)
                    have hG4 := hG3.fire hgb hiL ⟨a.tx, a.has, 0, false⟩
                    have hag : wr.heap.size ≠ g := by omega
                    have hbl4 := hbl3.set4i hag (i * 4) (.int .i64 a.tx) (.int .i64 a.has) (.int .i64 0) (.bool false)
                    go_upto_region 18 with fail
                    clear c0 c1 c2 c3 f0 f1 f2 f3 x0 x1 x2 x3
                    simp only at hG4
                    generalize ((((w3.setCell ⟨g, i * 4, none⟩ (.int .i64 a.tx)).setCell ⟨g, i * 4 + 1, none⟩ (.int .i64 a.has)).setCell ⟨g, i * 4 + 2, none⟩ (.int .i64 0)).setCell ⟨g, i * 4 + 3, none⟩ (.bool false)) = w4 at hG4 hbl4 ⊢
                    have a0 := hbl4.cell 0
                    simp at a0
                    have hal := hbl4.lt
                    have hsz4 := hG4.below.size
                    have hG4a := hG4.later ((Below.refl w4.heap.size w4).alloc (Nat.le_refl _) (.cells #[.int .i64 a.tx] 3))
                    have hsrc := src_int w4 a.tx
                    go_wp2_with (at_builtin; refine wpList_append_io rfl _ _ rfl w.heap.size _ sg.out [a.tx] rfl hG4a.out (some ⟨w4.heap.size, 0, none⟩) 1 1 rfl rfl (fun h => by simp at h) hsrc (by simp; omega) (by simp; omega) ?_; intro v' w8 ho8 hg8)
                    have hG8 := hG4a.more hg8 ho8
                    have HP2 : Hid (gpass conv (i + 1) (gk q c) = ⟨sg.q.set i ⟨a.tx, a.has, 0, false⟩, sg.out ++ [a.tx], false⟩) := Lib.hid (by
                      show gstep conv i (gpass conv i (gk q c)) = _
                      rw [← HSG.out]
                      have := gstep_fire hst hiL (by rw [← HA.out]; exact HP.out) (by rw [← HA.out]; exact hm)
                      rw [← HA.out, hF3.out] at this
                      exact this)
                    simp only [hst] at hG8
                    go_wp2_with fail
                    go_roundw
                    case rel => exact ⟨i + 1, by omega, by go_num, by rw [HP2.out], by rw [HP2.out]; exact hG8⟩
                    case measure => simp [intOf]; omega
                  | false =>
                    obtain ⟨w3, hw3⟩ : ∃ w3, w3 = w2.alloc (.cells #[.int .i64 a.tx, .int .i64 a.wants, .int .i64 0, .bool false] 74) := ⟨_, rfl⟩
                    have hbx : Blk w3 w2.heap.size 74 #[.int .i64 a.tx, .int .i64 a.wants, .int .i64 0, .bool false] := by rw [hw3]; exact Blk.new _ _ _
                    have hB3 : Below w2.heap.size w2 w3 := by rw [hw3]; exact (Below.refl _ _).alloc (Nat.le_refl _) _
                    have hG3 := hG2.later hB3
                    have hbl3 := hbl2.of_block (hB3.block _ hbl2.lt)
                    have hF3 : Hid (fired a = ⟨a.tx, a.wants, 0, false⟩) := Lib.hid (by unfold fired; rw [hin]; rfl)
                    go_upto_region 17 with fail
                    rw [← hw3]
                    clear hw3 hB3 d0 d1 d2 d3
                    have x0 := hbx.cell 0
                    have x1 := hbx.cell 1
                    have x2 := hbx.cell 2
                    have x3 := hbx.cell 3
                    simp at x0 x1 x2 x3
                    have hxl := hbx.lt
                    obtain ⟨g', hge', -, -, -, -, hgl3, c0, c1, c2, c3⟩ := hG3.row.cell hiL
                    obtain rfl : g = g' := by simpa using hge'
                    have f0 := hG3.row.frozen (i * 4)
                    have f1 := hG3.row.frozen (i * 4 + 1)
                    have f2 := hG3.row.frozen (i * 4 + 2)
                    have f3 := hG3.row.frozen (i * 4 + 3)
                    have hG4 := hG3.fire hgb hiL ⟨a.tx, a.wants, 0, false⟩
                    have hag : wr.heap.size ≠ g := by omega
                    have hbl4 := hbl3.set4i hag (i * 4) (.int .i64 a.tx) (.int .i64 a.wants) (.int .i64 0) (.bool false)
                    go_upto_region 18 with fail
                    clear c0 c1 c2 c3 f0 f1 f2 f3 x0 x1 x2 x3
                    simp only at hG4
                    generalize ((((w3.setCell ⟨g, i * 4, none⟩ (.int .i64 a.tx)).setCell ⟨g, i * 4 + 1, none⟩ (.int .i64 a.wants)).setCell ⟨g, i * 4 + 2, none⟩ (.int .i64 0)).setCell ⟨g, i * 4 + 3, none⟩ (.bool false)) = w4 at hG4 hbl4 ⊢
                    have a0 := hbl4.cell 0
                    simp at a0
                    have hal := hbl4.lt
                    have hsz4 := hG4.below.size
                    have hG4a := hG4.later ((Below.refl w4.heap.size w4).alloc (Nat.le_refl _) (.cells #[.int .i64 a.tx] 3))
                    have hsrc := src_int w4 a.tx
                    go_wp2_with (at_builtin; refine wpList_append_io rfl _ _ rfl w.heap.size _ sg.out [a.tx] rfl hG4a.out (some ⟨w4.heap.size, 0, none⟩) 1 1 rfl rfl (fun h => by simp at h) hsrc (by simp; omega) (by simp; omega) ?_; intro v' w8 ho8 hg8)
                    have hG8 := hG4a.more hg8 ho8
                    have HP2 : Hid (gpass conv (i + 1) (gk q c) = ⟨sg.q.set i ⟨a.tx, a.wants, 0, false⟩, sg.out ++ [a.tx], false⟩) := Lib.hid (by
                      show gstep conv i (gpass conv i (gk q c)) = _
                      rw [← HSG.out]
                      have := gstep_fire hst hiL (by rw [← HA.out]; exact HP.out) (by rw [← HA.out]; exact hm)
                      rw [← HA.out, hF3.out] at this
                      exact this)
                    simp only [hst] at hG8
                    go_wp2_with fail
                    go_roundw
                    case rel => exact ⟨i + 1, by omega, by go_num, by rw [HP2.out], by rw [HP2.out]; exact hG8⟩
                    case measure => simp [intOf]; omega
        · obtain rfl : i = q.length := by omega
          have HX : Hid (sg = gk q (c + 1)) := Lib.hid (HD.out sg HSG.out)
          go_wp2_with fail
          go_roundw
          case rel => exact ⟨c + 1, by omega, by go_num, by rw [← HX.out], by rw [← HX.out]; exact hG⟩
          case measure => simp [intOf]; omega
    · obtain rfl : c = 2 := by omega
      obtain ⟨wo, hwo⟩ : ∃ wo, wo = wr := ⟨_, rfl⟩
      subst hwo
      obtain ⟨qf, hqf⟩ : ∃ qf, qf = (gk q 2).q := ⟨_, rfl⟩
      have hfl : qf.length = q.length := by rw [hqf, gk_len]
      have hgq : gq q = stay qf := by rw [hqf]; rfl
      have hout : gout q = (gk q 2).out := rfl
      have HGQ := Lib.hid hgq
      have HOUT := Lib.hid hout
      have hrow := hG.row
      have hio := hG.out
      have hname := hG.name
      have hBr := hG.below
      rw [← hqf] at hrow
      rw [← hout] at hio
      clear hgq hout hqf hG
      have hrs := hBr.size
      have hao2 := AO.made wo
      obtain ⟨c2, hc2e⟩ : ∃ c2 : Int, c2 = ((2 : Nat) : Int) := ⟨_, rfl⟩
      rw [← hc2e]
      have hcd : decide (c2 < 2) = false := by rw [hc2e]; rfl
      clear hc2e
      have hB2 : Below wo.heap.size wo (wo.alloc (.cells #[] 74)) := (Below.refl _ _).alloc (Nat.le_refl _) _
      go_wp2_with fail
      go_loopw [13, 14] (fun rv iv' wr => ∃ i : Nat, i ≤ q.length ∧ iv' = .int .i64 i ∧ AO wr wo.heap.size rv (stay (qf.take i)) ∧ Below wo.heap.size wo wr) (fun _ iv' _ => q.length - (intOf iv').toNat)
      case atStart => exact ⟨0, by omega, rfl, by simpa [stay] using hao2, hB2⟩
      case round =>
        clear hao2 hB2
        obtain ⟨i, hi, rfl, haor, hB2⟩ := hrel
        have hlen : (stay (qf.take i)).length ≤ 1000 := by
          have h1 := stay_len (qf.take i)
          rw [List.length_take] at h1
          omega
        by_cases hlt : i < q.length
        · have hiL : i < qf.length := by omega
          have HST := Lib.hid (stay_take hiL)
          have hrow2 := hrow.below hB2
          obtain ⟨a, ha⟩ : ∃ a, a = qf[i] := ⟨_, rfl⟩
          obtain ⟨g, hge, -, -, -, hgb, hgl, c0, c1, c2, c3⟩ := hrow2.cell hiL
          subst hge
          rw [← ha] at c0 c1 c2 c3 HST
          clear ha
          obtain ⟨rl, hrl⟩ : ∃ rl, rl = stay (qf.take i) := ⟨_, rfl⟩
          rw [← hrl] at haor hlen HST
          clear hrl
          obtain ⟨ra, rc, rfl, -, -⟩ := haor.form
          have hsz2 := hB2.size
          have hsrc := src_one wr a
          have haora := haor.below ((Below.refl wr.heap.size wr).alloc (Nat.le_refl _) (.cells #[.int .i64 a.tx, .int .i64 a.has, .int .i64 a.wants, .bool a.inst] 74))
          have hBa2 : Below wo.heap.size wo (wr.alloc (.cells #[.int .i64 a.tx, .int .i64 a.has, .int .i64 a.wants, .bool a.inst] 74)) := hB2.alloc hsz2 _
          have hBa3 : ∀ {v' w8}, AO w8 wo.heap.size v' (rl ++ [a]) → (wr.alloc (.cells #[.int .i64 a.tx, .int .i64 a.has, .int .i64 a.wants, .bool a.inst] 74)).grownBy w8 (Value.slice ra rl.length rc).ownBlock → Below wo.heap.size wo w8 := fun _ hg => below_grown hBa2 haora hg (by simp; omega)
          cases h1 : (a.has != 0) with
          | true =>
            have HS1 : Hid (stay (qf.take (i + 1)) = rl ++ [a]) := Lib.hid (by rw [HST.out, h1]; rfl)
            go_wp2_with (at_builtin; refine wpList_append_ao rfl _ _ rfl wo.heap.size _ rl [a] rfl haora (some ⟨wr.heap.size, 0, none⟩) 1 1 rfl rfl (fun h => by simp at h) hsrc (by simp; omega) (by simp; omega) ?_; intro v' w8 ho8 hg8)
            have hB8 := hBa3 ho8 hg8
            go_wp2_with fail
            go_roundw
            case rel => exact ⟨i + 1, by omega, by go_num, by rw [HS1.out]; exact ho8, hB8⟩
            case measure => simp [intOf]; omega
          | false =>
            cases h2 : (a.wants != 0) with
            | true =>
              have HS1 : Hid (stay (qf.take (i + 1)) = rl ++ [a]) := Lib.hid (by rw [HST.out, h1, h2]; rfl)
              go_wp2_with (at_builtin; refine wpList_append_ao rfl _ _ rfl wo.heap.size _ rl [a] rfl haora (some ⟨wr.heap.size, 0, none⟩) 1 1 rfl rfl (fun h => by simp at h) hsrc (by simp; omega) (by simp; omega) ?_; intro v' w8 ho8 hg8)
              have hB8 := hBa3 ho8 hg8
              go_wp2_with fail
              go_roundw
              case rel => exact ⟨i + 1, by omega, by go_num, by rw [HS1.out]; exact ho8, hB8⟩
              case measure => simp [intOf]; omega
            | false =>
              have HS1 : Hid (stay (qf.take (i + 1)) = rl) := Lib.hid (by rw [HST.out, h1, h2]; simp)
              go_wp2_with fail
              go_roundw
              case rel => exact ⟨i + 1, by omega, by go_num, by rw [HS1.out]; exact haor, hB2⟩
              case measure => simp [intOf]; omega
        · obtain rfl : i = q.length := by omega
          have hta : qf.take q.length = qf := List.take_of_length_le (by omega)
          rw [hta, ← HGQ.out] at haor
          have hBw2 : Below w.heap.size w wr := hBr.trans (hB2.mono hrs)
          have hname2 := hname.of_block (hB2.block _ hname.lt)
          have hio2 := hio.below hB2
          have b0 := hname2.cell 0
          have b1 := hname2.cell 1
          have b2 := hname2.cell 2
          have b3 := hname2.cell 3
          simp at b0 b1 b2 b3
          clear hta hlen
          go_wp2_with fail
          refine (rwith_m (HH.out.below hBw2) (haor.base_ (Nat.zero_le _)) hM k o p s).mono ?_
          rintro e w3 ⟨v3, rfl, hRT, hB3⟩
          go_wp2_with fail
          go_ret2
          exact ⟨_, _, rfl, hRT, hio2.below hB3, hBw2.trans (hB3.mono hBw2.size)⟩
end Go.Proofs.YtcdlplbccblbaaaGreat
