import Derived.Test.YtcdlplbccblbaaaGreatMg17
namespace Go.Proofs.YtcdlplbccblbaaaGreat
open Go.RowKit
set_option linter.unusedVariables false

theorem idx_of_none {q : List Ak} {tx : Int} (h : (q.findIdx? fun a => a.tx == tx) = none) : idx q tx = -1 := by unfold idx; rw [h]
theorem idx_of_some {q : List Ak} {tx : Int} {i : Nat} (h : (q.findIdx? fun a => a.tx == tx) = some i) : idx q tx = i ∧ i < q.length := by
  refine ⟨by unfold idx; rw [h], ?_⟩
  rw [List.findIdx?_eq_some_iff_getElem] at h
  exact h.1
theorem NamesAt.cell {w : World} {base : Nat} {v : Value} {l : List Nm} (h : NamesAt w base v l) {i : Nat} (hi : i < l.length) :
    ∃ g cap, v = .slice (some ⟨g, 0, none⟩) l.length cap ∧ l.length ≤ cap ∧ cap ≤ maxLen ∧ g < w.heap.size ∧ w.cell? ⟨g, i * 4, none⟩ = some (.int .i64 l[i].kind) ∧ w.cell? ⟨g, i * 4 + 1, none⟩ = some (.int .i64 l[i].of_) ∧ w.cell? ⟨g, i * 4 + 2, none⟩ = some (.int .u32 l[i].page) ∧ w.cell? ⟨g, i * 4 + 3, none⟩ = some (.int .i64 l[i].slot) := by
  rcases h.1.2 with ⟨_, h0⟩ | ⟨g, cap, cur, rfl, hg, hb, r1, r2, r3, r4⟩
  · omega
  · have hB : Blk w g 46 cur := hb
    have hc : ∀ j, j < 4 → w.cell? ⟨g, i * 4 + j, none⟩ = (nvs l[i])[j]? := by
      intro j hj
      rw [hB.cell]
      have h1 : (cur.toList.take (l.length * 4))[i * 4 + j]? = (l.flatMap nvs)[i * 4 + j]? := by rw [r4]
      rw [List.getElem?_take_of_lt (by omega), Array.getElem?_toList, nvs_get l i j hi hj] at h1
      exact h1
    exact ⟨g, cap, rfl, r1, r2, hB.lt, hc 0 (by omega), hc 1 (by omega), hc 2 (by omega), hc 3 (by omega)⟩
theorem rOf_split {R : List Row} {n : Nm} {r : Row} (h : rOf R n = some r) : ∃ R1 R2, R = R1 ++ r :: R2 ∧ r.n = n := by
  obtain ⟨hm, hn⟩ := rOf_some h
  obtain ⟨R1, R2, e⟩ := List.append_of_mem hm
  exact ⟨R1, R2, e, hn⟩

theorem iv_one (l : List Int) : ∀ u ∈ l.map iv, u.oneCell' = true := by
  intro u hu
  obtain ⟨a, _, rfl⟩ := List.mem_map.1 hu
  rfl
theorem ints_read {w : World} {g : Nat} {cur : Array Value} {t : TypeId} {l : List Int} (hb : Blk w g t cur) (ht : cur.toList.take (l.length * 1) = l.map iv) :
    ∀ j u, (l.map iv)[j]? = some u → w.cell? ((⟨g, 0, none⟩ : Addr).add j) = some u := by
  intro j u hu
  have hadd : (⟨g, 0, none⟩ : Addr).add j = ⟨g, j, none⟩ := by unfold Addr.add; split <;> simp_all
  rw [hadd, hb.cell, ← hu, ← ht]
  have hj : j < l.length := by simpa using (List.getElem?_eq_some_iff.1 hu).1
  rw [List.getElem?_take_of_lt (by omega), Array.getElem?_toList]
theorem grownBy_refl (w : World) (row : Option Nat) : w.grownBy w row := ⟨rfl, rfl, rfl, Nat.le_refl _, fun _ _ _ => rfl⟩

theorem below_cloned {w3 w4 w5 : World} {g' : Nat} (hB4 : Below w3.drew.heap.size w3.drew w4) (hg : w3.drew.heap.size ≤ g') (hk5 : Keeps w4 w5 (· = g')) : Below w3.heap.size w3 w5 := by
  have k1 : Keeps w3 w4 (fun _ => False) := (Keeps.of_below (Below.refl _ _).drew _).trans (.of_below hB4 _) (fun _ _ h => h)
  have k2 : Keeps w3 w5 (fun k => w3.heap.size ≤ k) := (k1.mono (fun _ _ h => h.elim)).trans hk5 (fun k hk e => by subst e; exact hg)
  exact k2.below (Nat.le_refl _) (fun k hk h => by omega)

section
variable {w : World} {T QB WB : Nat} {R : List Row} {W : List (Int × Nm)}
def RelPost (w : World) (T QB WB : Nat) (R : List Row) (W : List (Int × Nm)) (tx : Int) (e : Ending) (w' : World) : Prop :=
  ∃ v R', e = .returned v ∧ Tab w' T QB WB R' (rel tx (R.map nq) W).W ∧ R'.map nq = (rel tx (R.map nq) W).L ∧ IntsAt w' w.heap.size v (rel tx (R.map nq) W).out ∧
    (∀ k, Foot T QB WB R' k → Foot T QB WB R k ∨ w.heap.size ≤ k) ∧ Keeps w w' (Foot T QB WB R)

set_option maxRecDepth 100000 in
set_option maxHeartbeats 4000000 in
theorem release_any (h : Tab w T QB WB R W) (hfit : Fits 1000 (R.map nq)) (tx : Int) :
    Calls Tryz.prog 11 #[.pointer (some ⟨T, 0, none⟩), .int .i64 tx] w (RelPost w T QB WB R W tx) := by
  obtain ⟨i0, hi0, hz0, hz1, hz2⟩ := info_parts infoInt
  have c0 := h.head.cell 1
  simp at c0
  have hdel0 : ∃ w1, (∀ ty, (Builtin.delete_ #[35, 3] ty #[.map (some WB), .int .i64 tx]).run Tryz.prog w = .ok (.tuple #[]) w1) ∧ Tab w1 T QB WB R (W.filter (fun p => p.1 != tx)) ∧ Turned w w1 WB := by
    obtain ⟨w1, hr, ht, htu⟩ := h.unwait tx 0
    exact ⟨w1, fun ty => hr, ht, htu⟩
  obtain ⟨w1, hrun, t1, ht1⟩ := hdel0
  go_enter Tryz.func11, Tryz.ntmps11
  go_wp2_with fail
  have hRl : R.length ≤ 1000 := by have := hfit.1; simpa using this
  refine (names_any t1 (by omega)).mono ?_
  rintro e w2 ⟨nsv, rfl, hN, hb2⟩
  obtain ⟨ns, hns⟩ : ∃ ns, ns = sortN (R.map (·.n)) := ⟨_, rfl⟩
  have hnsl : ns.length = R.length := by rw [hns, sortN_len, List.length_map]
  rw [← hns] at hN
  obtain ⟨s0, hs0⟩ : ∃ s0, s0 = (⟨R.map nq, W.filter (fun p => p.1 != tx), []⟩ : Rs) := ⟨_, rfl⟩
  have hk1 : Keeps w w1 (Foot T QB WB R) := .of_turned ht1 (.inr (.inr (.inl rfl)))
  have hI0 : RI w T QB WB R nsv ns s0 (.slice none 0 0) w2 R := by
    refine ⟨?_, by rw [hs0], ?_, hN.base hk1.size, fun k hk => .inl hk, hk1.trans (F' := fun _ => False) (.of_below hb2 _) (fun _ _ h => h.elim)⟩
    · rw [hs0]; exact t1.below hb2
    · rw [hs0]; exact ⟨⟨rfl, .inl ⟨rfl, rfl⟩⟩, by simp⟩
  have hrel : rel tx (R.map nq) W = relK tx s0 ns := by
    unfold rel
    rw [hs0, hns, List.map_map]
    rfl
  have hfit0 : Fits 1000 s0.L := by rw [hs0]; exact hfit
  have HREL := Lib.hid hrel
  have HNS := Lib.hid hns
  have HS0 : Hid (([] : List Int) = s0.out) := Lib.hid (by rw [hs0])
  have hvs : ∃ a c, nsv = .slice a ns.length c := by
    rcases hN.1.2 with ⟨e, h0⟩ | ⟨g, cap, cur, e, _⟩
    · exact ⟨none, 0, by rw [e, h0]⟩
    · exact ⟨_, cap, e⟩
  obtain ⟨na, nc, rfl⟩ := hvs
  clear hs0 hns hrel hN c0
  go_wp2_with fail
  go_loopw [5, 20] (fun v j wr => ∃ (i : Nat) (R' : List Row), i ≤ ns.length ∧ j = .int .i64 i ∧ RI w T QB WB R (.slice na ns.length nc) ns (relK tx s0 (ns.take i)) v wr R') (fun _ j _ => ns.length - (intOf j).toNat)
  case atStart => exact ⟨0, R, by omega, rfl, by simpa [relK] using hI0⟩
  case round =>
    obtain ⟨i, R', hi, rfl, hI⟩ := hrel
    by_cases hlt : i < ns.length
    · obtain ⟨gn, cn, hve, hcn1, hcn2, hgn, x0, x1, x2, x3⟩ := hI.names.cell hlt
      obtain ⟨rfl, rfl⟩ : na = some ⟨gn, 0, none⟩ ∧ nc = cn := by simpa using hve
      unfold maxLen at hcn2
      have hstep := relK_take (tx := tx) (s := s0) hlt
      have hfi := hfit0.relK tx (ns.take i)
      obtain ⟨sI, hsI⟩ : ∃ sI, sI = relK tx s0 (ns.take i) := ⟨_, rfl⟩
      obtain ⟨n, hn⟩ : ∃ n, n = ns[i] := ⟨_, rfl⟩
      rw [← hsI] at hI hstep hfi
      rw [← hn] at x0 x1 x2 x3 hstep
      obtain ⟨k, o, p, s⟩ := n
      have hq0 : qL sI.L ⟨k, o, p, s⟩ = qOf R' ⟨k, o, p, s⟩ := by rw [← hI.map, qL_rows]
      have hout : sI.out.length ≤ 2000000 := by
        have h1 := hfi.2
        have h2 : s0.out.length = 0 := by rw [← HS0.out]; rfl
        rw [List.length_take] at h1
        omega
      have hfiL := hfi.1
      have HSTEP := Lib.hid hstep
      clear hstep hn hsI hfi
      obtain ⟨wa, hwa⟩ : ∃ wa, wa = wr.alloc (.cells #[.int .i64 k, .int .i64 o, .int .u32 p, .int .i64 s] 46) := ⟨_, rfl⟩
      have hBa : Below wr.heap.size wr wa := by rw [hwa]; exact (Below.refl _ _).alloc (Nat.le_refl _) _
      have hIa := hI.below hBa
      have hbn : Blk wa wr.heap.size 46 #[.int .i64 k, .int .i64 o, .int .u32 p, .int .i64 s] := by rw [hwa]; exact Blk.new _ _ _
      have t0 := hIa.tab.head.cell 0
      have b0 := hbn.cell 0
      have b1 := hbn.cell 1
      have b2 := hbn.cell 2
      have b3 := hbn.cell 3
      simp at t0 b0 b1 b2 b3
      have hlk : ∀ q', (Instr.lookup 34 (.map (some QB)) (.agg #[.int .i64 k, .int .i64 o, .int .u32 p, .int .i64 s]) false).run Tryz.prog (wa.drewN q') = .ok (vOf R' ⟨k, o, p, s⟩) (wa.drewN q') :=
        fun q' => (hIa.tab.below (below_drewN (Below.refl _ _) q')).look ⟨k, o, p, s⟩
      have hqv : ∀ q', QV (wa.drewN q') (vOf R' ⟨k, o, p, s⟩) (qOf R' ⟨k, o, p, s⟩) := fun q' => (hIa.tab.below (below_drewN (Below.refl _ _) q')).qv ⟨k, o, p, s⟩
      cases hr : rOf R' ⟨k, o, p, s⟩ with
      | none =>
        have hv0 : vOf R' ⟨k, o, p, s⟩ = .slice none 0 0 := by unfold vOf; rw [hr]; rfl
        have hqq : qOf R' ⟨k, o, p, s⟩ = [] := by unfold qOf; rw [hr]; rfl
        rw [hv0] at hlk hqv
        rw [hqq] at hqv hq0
        have HS1 : Hid (relK tx s0 (ns.take (i + 1)) = sI) := Lib.hid (by
          rw [HSTEP.out]
          unfold relOne
          rw [hq0]
          rfl)
        clear hv0 hqq
        go_wp2_with fail
        rw [← hwa]
        clear hwa
        go_quiet (fail)
        go_wp2_with fail
        refine (find_any _ [] tx _ (hqv _)).mono ?_
        rintro e w3 ⟨rfl, hB3⟩
        have hi3 : idx [] tx = -1 := rfl
        rw [hi3]
        have hI3 := (hIa.below (below_drewN (Below.refl _ _) nq)).below hB3
        go_wp2_with fail
        go_roundw
        case rel => exact ⟨i + 1, R', by omega, by go_num, by rw [HS1.out]; exact hI3⟩
        case measure => simp [intOf]; omega
      | some r =>
        obtain ⟨R1, R2, rfl, hrn⟩ := rOf_split hr
        have hv0 : vOf (R1 ++ r :: R2) ⟨k, o, p, s⟩ = .slice (some ⟨r.g, 0, none⟩) r.q.length r.cap := by unfold vOf; rw [hr]; rfl
        have hqq : qOf (R1 ++ r :: R2) ⟨k, o, p, s⟩ = r.q := by unfold qOf; rw [hr]; rfl
        rw [hv0] at hlk hqv
        rw [hqq] at hqv hq0
        clear hv0 hqq
        go_wp2_with fail
        rw [← hwa]
        clear hwa
        go_quiet (fail)
        go_wp2_with fail
        refine (find_any _ r.q tx _ (hqv _)).mono ?_
        rintro e w3 ⟨rfl, hB3⟩
        have hI3 := (hIa.below (below_drewN (Below.refl _ _) nq)).below hB3
        cases hf : r.q.findIdx? fun a => a.tx == tx with
        | none =>
          rw [idx_of_none hf]
          have HS1 : Hid (relK tx s0 (ns.take (i + 1)) = sI) := Lib.hid (by
            rw [HSTEP.out]
            unfold relOne
            rw [hq0, hf])
          go_wp2_with fail
          go_roundw
          case rel => exact ⟨i + 1, _, by omega, by go_num, by rw [HS1.out]; exact hI3⟩
          case measure => simp [intOf]; omega
        | some ix =>
          obtain ⟨hix, hixl⟩ := idx_of_some hf
          rw [hix]
          have hrl : r.q.length ≤ 1000 := by rw [← hq0]; exact hfiL.qL _
          have hwr : IntKind.i64.wrap ((ix : Int) + 1) = (ix : Int) + 1 := by simp [IntKind.wrap, IntKind.bits, IntKind.signed]; omega
          have hT3 := hI3.tab
          have hrow3 : RowAt w3.drew r.g r.cap r.q := (hT3.rows r (by simp)).of_block rfl
          have hTlt : T < w3.drew.heap.size := hT3.head.lt
          have hbn3 : Blk w3 wr.heap.size 46 #[.int .i64 k, .int .i64 o, .int .u32 p, .int .i64 s] := hbn.of_block (hB3.block _ hbn.lt)
          have hnlt : wr.heap.size < w3.drew.heap.size := hbn3.lt
          have hnQ : wr.heap.size ≠ QB := by have := hI.tab.qm.lt; omega
          have hTQ : T ≠ QB := hT3.kinds.1
          have t0 := hT3.head.cell 0
          have b0 := hbn3.cell 0
          have b1 := hbn3.cell 1
          have b2 := hbn3.cell 2
          have b3 := hbn3.cell 3
          simp at t0 b0 b1 b2 b3
          go_wp2_with fail
          go_region_held3 (fun w' => w'.cell? ⟨T, 0, none⟩ = some (.map (some QB)) ∧ w'.cell? ⟨wr.heap.size, 0, none⟩ = some (.int .i64 k) ∧ w'.cell? ⟨wr.heap.size, 1, none⟩ = some (.int .i64 o) ∧
              w'.cell? ⟨wr.heap.size, 2, none⟩ = some (.int .u32 p) ∧ w'.cell? ⟨wr.heap.size, 3, none⟩ = some (.int .i64 s))
            ((go_split_ands; refine ⟨?_, ?_, ?_, ?_, ?_⟩ <;> first
              | go_keep
              | (rw [World.cell?_of_block (hB4.block _ (by first | exact hTlt | exact hnlt))]; assumption)
              | (rw [World.cell?_of_block (hk5.block _ (by first | exact Nat.lt_of_lt_of_le hTlt hB4.size | exact Nat.lt_of_lt_of_le hnlt hB4.size) (by first | exact Nat.ne_of_lt (Nat.lt_of_lt_of_le hTlt hg4) | exact Nat.ne_of_lt (Nat.lt_of_lt_of_le hnlt hg4)))]; assumption)
              | (rw [World.cell?_of_block (ht6.block _ (by first | exact hTQ | exact hnQ))]; assumption)))
            (first
              | (go_at_call 36; refine (clone_row hrow3 (by omega)).mono ?_; rintro e w4 ⟨g', cap', rfl, hrow4, hg4, hB4⟩)
              | (go_at_call 35; refine (delete_row hrow4 hixl).mono ?_; rintro e w5 ⟨rfl, hrow5, hk5⟩
                 obtain ⟨w6, hrun0, t6, ht6⟩ := Tab.rerow hT3 (.of_below (below_cloned hB4 hg4 hk5) _) hrow5 (.inr hg4)
                 have hrun6 : (Instr.mapUpdate 34 (.map (some QB)) (.agg #[.int .i64 k, .int .i64 o, .int .u32 p, .int .i64 s]) (.slice (some ⟨g', 0, none⟩) (r.q.eraseIdx ix).length cap')).run Tryz.prog w5 = .ok () w6 := by
                   have := hrun0; rw [hrn] at this; exact this
                 clear hrun0))
          go_split_ands
          go_wp2_with fail
          refine (grant_any t6 (by simp only [List.length_eraseIdx]; split <;> omega) (by show _ = nv r.n; rw [hrn]; rfl)).mono ?_
          rintro e w7 ⟨v2, rfl, hi7, t7, hk7⟩
          obtain ⟨o7, hfin⟩ := hI3.grant (below_cloned hB4 hg4 hk5) hrow5 hg4 ht6 t6 t7 hk7
          have HS1 : Hid (relK tx s0 (ns.take (i + 1)) = ⟨repl sI.L r.n (gq (r.q.eraseIdx ix)), sI.W.filter fun p => !(gout (r.q.eraseIdx ix)).contains p.1, sI.out ++ gout (r.q.eraseIdx ix)⟩) := Lib.hid (by
            rw [HSTEP.out]
            unfold relOne
            rw [hq0, hf, hrn])
          have hgl : (gout (r.q.eraseIdx ix)).length ≤ 2000 := by
            have h1 := gout_len (r.q.eraseIdx ix)
            rw [List.length_eraseIdx] at h1
            split at h1 <;> omega
          rcases hi7.1.2 with ⟨rfl, h0⟩ | ⟨g2, cap2, cur2, rfl, hg2, hb2', r1, r2, r3, r4⟩
          · have hi8 : IntsAt w7 w.heap.size u5 (sI.out ++ gout (r.q.eraseIdx ix)) := by
              rw [hi7.2.1 rfl, List.append_nil]; exact o7
            have HI8 := Lib.hid (hfin w7 u5 (grownBy_refl _ _) hi8)
            rcases o7.1.2 with ⟨hu5, h0'⟩ | ⟨g5, cap5, cur5, hu5, hg5, hb5', r1', r2', r3', r4'⟩
            · rw [hu5] at HI8 ⊢
              go_wp2_with fail
              go_roundw
              case rel => exact ⟨i + 1, _, by omega, by go_num, by rw [HS1.out]; exact HI8.out⟩
              case measure => simp [intOf]; omega
            · rw [hu5] at HI8 ⊢
              go_wp2_with fail
              go_roundw
              case rel => exact ⟨i + 1, _, by omega, by go_num, by rw [HS1.out]; exact HI8.out⟩
              case measure => simp [intOf]; omega
          · have hrd := ints_read hb2' r4
            have hw7 : w.heap.size ≤ w7.heap.size := by have := o7; have h7 := hk7.size; have h6 := ht6.size; have h5 := hk5.size; have h4 := hB4.size; have h3 : w3.drew.heap.size = w3.heap.size := rfl; have := hI3.keeps.size; omega
            go_wp2_with (at_builtin; refine wpList_append_own_at _ rfl _ _ 52 rfl w.heap.size 3 i0 _ 1 8 Tryz.underlying52 hi0 hz0 hz1 hz2 rfl (by decide) _ _ _ rfl o7.1 ⟨g2, 0, none⟩ (gout (r.q.eraseIdx ix)).length cap2 ((gout (r.q.eraseIdx ix)).map iv) rfl (by simp) hrd (iv_one _) (by unfold maxLen; omega) (by omega) hw7 ?_; intro v' w8 hown8 hgr8 hnil8 _)
            have hne : gout (r.q.eraseIdx ix) ≠ [] := fun e => by have := hi7.2.2 e; simp at this
            have hne2 : ¬ (gout (r.q.eraseIdx ix)).length = 0 := fun e => hne (List.length_eq_zero_iff.1 e)
            have hi8 : IntsAt w8 w.heap.size v' (sI.out ++ gout (r.q.eraseIdx ix)) := by
              refine ⟨by rw [List.length_append, List.map_append]; exact hown8, ?_⟩
              rw [hnil8]
              simp [hne]
            have HI8 := Lib.hid (hfin w8 v' hgr8 hi8)
            go_wp2_with fail
            go_roundw
            case rel => exact ⟨i + 1, _, by omega, by go_num, by rw [HS1.out]; exact HI8.out⟩
            case measure => simp [intOf]; omega
    · obtain rfl : i = ns.length := by omega
      have HF : Hid (relK tx s0 (ns.take ns.length) = relK tx s0 ns) := Lib.hid (by rw [List.take_length])
      go_wp2_with fail
      go_ret
      rw [HF.out] at hI
      unfold RelPost
      rw [HREL.out]
      exact ⟨_, R', rfl, hI.tab, hI.map, hI.own, hI.foot, hI.keeps⟩
end
end Go.Proofs.YtcdlplbccblbaaaGreat
