import Derived.Test.YtcdlplbccblbaaaGreatQg
namespace Go.Proofs.YtcdlplbccblbaaaGreat
open Go.RowKit
set_option linter.unusedVariables false
set_option linter.unusedSimpArgs false

/-! ### How great it gets -/
def mkE (M : List (Nm × List Ak)) : List Qr := M.map fun p => ⟨p.1, p.2, .slice none 0 0⟩
theorem mkE_map (M : List (Nm × List Ak)) : (mkE M).map eq2 = M := by
  unfold mkE
  rw [List.map_map]
  exact List.map_id M
theorem withM_len (n : Nm) (l : List Ak) (M : List (Nm × List Ak)) : (withM n l M).length ≤ M.length + 1 := by
  have h := withE_map ⟨n, l, .slice none 0 0⟩ (mkE M)
  rw [mkE_map] at h
  have h2 := withE_len ⟨n, l, .slice none 0 0⟩ (mkE M)
  simp only at h
  rw [← h, List.length_map]
  simpa [mkE] using h2
theorem withM_mem {n : Nm} {l : List Ak} {M : List (Nm × List Ak)} {p : Nm × List Ak} (hp : p ∈ withM n l M) : p ∈ M ∨ p = (n, l) := by
  have h := withE_map ⟨n, l, .slice none 0 0⟩ (mkE M)
  rw [mkE_map] at h
  simp only at h
  rw [← h] at hp
  obtain ⟨e, he, rfl⟩ := List.mem_map.1 hp
  rcases withE_mem he with h1 | rfl
  · left
    have := List.mem_map_of_mem (f := eq2) h1
    rw [mkE_map] at this
    exact this
  · exact .inr rfl
/-- A table's bounds. -/
def Mb (N : Nat) (M : List (Nm × List Ak)) : Prop := M.length ≤ N ∧ ∀ p ∈ M, p.2.length ≤ 1000
theorem Mb.with_ {N : Nat} {M : List (Nm × List Ak)} (h : Mb N M) (n : Nm) {l : List Ak} (hl : l.length ≤ 1000) : Mb (N + 1) (withM n l M) :=
  ⟨Nat.le_trans (withM_len n l M) (by have := h.1; omega), fun p hp => by
    rcases withM_mem hp with h' | rfl
    · exact h.2 p h'
    · exact hl⟩
theorem Mb.mono {N N' : Nat} {M : List (Nm × List Ak)} (h : Mb N M) (hN : N ≤ N') : Mb N' M := ⟨Nat.le_trans h.1 hN, h.2⟩
theorem Mb.qL {N : Nat} {M : List (Nm × List Ak)} (h : Mb N M) (n : Nm) : (qL M n).length ≤ 1000 := by
  unfold YtcdlplbccblbaaaGreat.qL
  cases hf : M.find? fun x => x.1 == n with
  | none => simp
  | some x => exact h.2 x (List.mem_of_find?_eq_some hf)

/-! ### Letting go -/
structure Rr where
  M : List (Nm × List Ak)
  out : List Int
def grantM (M : List (Nm × List Ak)) (n : Nm) : Rr := ⟨withM n (gq (qL M n)) M, gout (qL M n)⟩
def rrelOne (tx : Int) (s : Rr) (n : Nm) : Rr := match (qL s.M n).findIdx? fun a => a.tx == tx with
  | none => s
  | some i => ⟨(grantM (withM n ((qL s.M n).take i ++ (qL s.M n).drop (i + 1)) s.M) n).M, s.out ++ (grantM (withM n ((qL s.M n).take i ++ (qL s.M n).drop (i + 1)) s.M) n).out⟩
def rrelK (tx : Int) (s : Rr) (l : List Nm) : Rr := l.foldl (rrelOne tx) s
def relM (tx : Int) (M : List (Nm × List Ak)) : Rr := rrelK tx ⟨M, []⟩ (M.map (·.1))
theorem rrelK_take {tx : Int} {s : Rr} {l : List Nm} {i : Nat} (hi : i < l.length) : rrelK tx s (l.take (i + 1)) = rrelOne tx (rrelK tx s (l.take i)) l[i] := by
  unfold rrelK
  rw [List.take_succ_eq_append_getElem hi, List.foldl_append]
  rfl
theorem Mb.grant {N : Nat} {M : List (Nm × List Ak)} (h : Mb N M) (n : Nm) : Mb (N + 1) (grantM M n).M := h.with_ n (Nat.le_trans (gq_len _) (h.qL n))
theorem Mb.relOne {N : Nat} {s : Rr} (h : Mb N s.M) (tx : Int) (n : Nm) : Mb (N + 2) (rrelOne tx s n).M := by
  unfold rrelOne
  split
  · exact h.mono (by omega)
  · refine (h.with_ n ?_).grant n
    have := h.qL n
    rw [List.length_append, List.length_take, List.length_drop]
    omega
theorem rrelOne_out {N : Nat} {s : Rr} (h : Mb N s.M) (tx : Int) (n : Nm) : (rrelOne tx s n).out.length ≤ s.out.length + 2000 := by
  unfold rrelOne
  split
  · omega
  · rename_i i _
    have h2 : Mb (N + 1) (withM n ((qL s.M n).take i ++ (qL s.M n).drop (i + 1)) s.M) := by
      refine h.with_ n ?_
      have := h.qL n
      rw [List.length_append, List.length_take, List.length_drop]
      omega
    have h3 := gout_len (qL (withM n ((qL s.M n).take i ++ (qL s.M n).drop (i + 1)) s.M) n)
    have h4 := h2.qL n
    simp only [grantM, List.length_append]
    omega
theorem rrelK_fits {N : Nat} (tx : Int) (l : List Nm) {s : Rr} (h : Mb N s.M) : ∀ i, i ≤ l.length → Mb (N + 2 * i) (rrelK tx s (l.take i)).M ∧ (rrelK tx s (l.take i)).out.length ≤ s.out.length + 2000 * i
  | 0, _ => by simpa [rrelK] using h
  | i + 1, hi => by
    obtain ⟨h1, h2⟩ := rrelK_fits tx l h i (by omega)
    rw [rrelK_take (by omega)]
    have h3 := h1.relOne tx l[i]
    have h4 := rrelOne_out h1 tx l[i]
    refine ⟨?_, ?_⟩
    · clear h4 h2; exact h3.mono (by omega)
    · rw [Nat.mul_succ, ← Nat.add_assoc]; exact Nat.le_trans h4 (Nat.add_le_add_right h2 2000)

theorem SrcAt.take {w : World} {sa : Option Addr} {q : List Ak} (h : SrcAt w sa (q.flatMap av)) (n : Nat) : SrcAt w sa ((q.take n).flatMap av) := by
  intro j u hj p hp
  rw [← av_take] at hj
  refine h j u ?_ p hp
  rw [List.getElem?_take] at hj
  split at hj
  · exact hj
  · simp at hj
theorem SrcAt.drop {w : World} {g : Nat} {q : List Ak} (h : SrcAt w (some ⟨g, 0, none⟩) (q.flatMap av)) (n : Nat) : SrcAt w (some ⟨g, n * 4, none⟩) ((q.drop n).flatMap av) := by
  intro j u hj p hp
  rw [← av_drop, List.getElem?_drop] at hj
  obtain rfl : (⟨g, n * 4, none⟩ : Addr) = p := by simpa using hp
  have := h _ u hj _ rfl
  rw [show (⟨g, 0, none⟩ : Addr).add (n * 4 + j) = ⟨g, n * 4 + j, none⟩ by unfold Addr.add; split <;> simp_all] at this
  rw [show (⟨g, n * 4, none⟩ : Addr).add j = ⟨g, n * 4 + j, none⟩ by unfold Addr.add; split <;> simp_all]
  exact this

theorem RT.grown {w w' : World} {v ov : Value} {M : List (Nm × List Ak)} {l : List Int} {base : Nat} (h : RT w v M) (hg : w.grownBy w' ov.ownBlock) (ho : IO w base ov l) : RT w' v M := by
  obtain ⟨E, e, h⟩ := h
  refine ⟨E, e, h.of_block fun k cs t ht hk => hg.block k (Array.getElem?_eq_some_iff.1 hk).1 ?_⟩
  have hb : Blk w k t cs := hk
  exact ho.other hb (by rcases ht with rfl | rfl <;> decide)

set_option maxRecDepth 100000 in
set_option maxHeartbeats 4000000 in
theorem rrelease_m {w : World} {v : Value} {M : List (Nm × List Ak)} (h : RT w v M) (hM : Mb 200 M) (tx : Int) :
    Calls Tryz.prog 12 #[v, .int .i64 tx] w fun e w' => ∃ v' ov, e = .returned (.tuple #[v', ov]) ∧ RT w' v' (relM tx M).M ∧ IO w' w.heap.size ov (relM tx M).out ∧ Below w.heap.size w w' := by
  obtain ⟨E, hE, hRE⟩ := h
  have hml : M.length = E.length := by rw [← hE, List.length_map]
  have hEl : E.length ≤ 200 := by rw [← hml]; exact hM.1
  obtain ⟨A, c, rfl, h1, h2⟩ := hRE.form
  unfold maxLen at h2
  have hRT : RT w (.slice A E.length c) M := ⟨E, hE, hRE⟩
  have hnn : M.map (·.1) = E.map (·.n) := by rw [← hE, List.map_map]; rfl
  have hrel : relM tx M = rrelK tx ⟨M, []⟩ (E.map (·.n)) := by unfold relM; rw [hnn]
  have HREL := Lib.hid hrel
  have hB0 : Below w.heap.size w (w.alloc (.cells #[] 3)) := (Below.refl _ _).alloc (Nat.le_refl _) _
  have hIO0 := IO.made w
  clear hrel hnn
  go_enter Tryz.func12, Tryz.ntmps12
  go_wp2_with fail
  go_loopw [0, 6, 8] (fun tv ov iv' wr => ∃ i : Nat, i ≤ E.length ∧ iv' = .int .i64 i ∧ RT wr tv (rrelK tx ⟨M, []⟩ ((E.map (·.n)).take i)).M ∧ IO wr w.heap.size ov (rrelK tx ⟨M, []⟩ ((E.map (·.n)).take i)).out ∧ Below w.heap.size w wr) (fun _ _ iv' _ => E.length - (intOf iv').toNat)
  case atStart => exact ⟨0, by omega, rfl, by simpa [rrelK] using hRT.below hB0, by simpa [rrelK] using hIO0, hB0⟩
  case round =>
    clear hB0 hIO0
    obtain ⟨i, hi, rfl, hT, hO, hB⟩ := hrel
    by_cases hlt : i < E.length
    · obtain ⟨hfM, hfo⟩ := rrelK_fits tx (E.map (·.n)) (s := ⟨M, []⟩) hM i (by simpa using hi)
      have hstep := rrelK_take (tx := tx) (s := ⟨M, []⟩) (l := E.map (·.n)) (i := i) (by simpa using hlt)
      obtain ⟨g, rfl, hgw, hgl, c0, c1, c2, c3, c4, hao⟩ := hRE.cell_in hB hlt
      obtain ⟨sI, hsI⟩ : ∃ sI, sI = rrelK tx ⟨M, []⟩ ((E.map (·.n)).take i) := ⟨_, rfl⟩
      rw [← hsI] at hT hO hfM hfo hstep
      clear hsI
      simp only [List.getElem_map] at hstep
      obtain ⟨e, he⟩ : ∃ e, e = E[i] := ⟨_, rfl⟩
      rw [← he] at c0 c1 c2 c3 hstep
      obtain ⟨⟨k, o, p, s⟩, eq_, ev⟩ := e
      simp only at c0 c1 c2 c3 hstep
      have HSTEP := Lib.hid hstep
      clear he hstep c4 hao
      simp at hfo
      have hfM1 : Mb 998 sI.M := hfM.mono (by omega)
      obtain ⟨ta, tc, rfl⟩ := hT.form
      obtain ⟨oa, oc, rfl, ho1, ho2⟩ := hO.form
      obtain ⟨wa, hwa⟩ : ∃ wa, wa = wr.alloc (.cells #[.int .i64 k, .int .i64 o, .int .u32 p, .int .i64 s] 49) := ⟨_, rfl⟩
      have hBa : Below wr.heap.size wr wa := by rw [hwa]; exact (Below.refl _ _).alloc (Nat.le_refl _) _
      have hbn : Blk wa wr.heap.size 49 #[.int .i64 k, .int .i64 o, .int .u32 p, .int .i64 s] := by rw [hwa]; exact Blk.new _ _ _
      have hTa := hT.below hBa
      have hOa := hO.below hBa
      have b0 := hbn.cell 0
      have b1 := hbn.cell 1
      have b2 := hbn.cell 2
      have b3 := hbn.cell 3
      simp at b0 b1 b2 b3
      have hBwa : Below w.heap.size w wa := hB.trans (hBa.mono hB.size)
      go_upto_region 7 with fail
      rw [← hwa]
      clear hwa c0 c1 c2 c3 hT hO hBa
      go_wp2_with fail
      refine (rqueue_m hTa (fun p hp => Nat.le_trans (hfM1.2 p hp) (by omega)) k o p s).mono ?_
      rintro e w2 ⟨qv, rfl, hao, hB2⟩
      have hql := hfM1.qL ⟨k, o, p, s⟩
      obtain ⟨q, hq⟩ : ∃ q, q = qL sI.M ⟨k, o, p, s⟩ := ⟨_, rfl⟩
      have hone : rrelOne tx sI ⟨k, o, p, s⟩ = match q.findIdx? fun a => a.tx == tx with
        | none => sI
        | some i => ⟨(grantM (withM ⟨k, o, p, s⟩ (q.take i ++ q.drop (i + 1)) sI.M) ⟨k, o, p, s⟩).M, sI.out ++ (grantM (withM ⟨k, o, p, s⟩ (q.take i ++ q.drop (i + 1)) sI.M) ⟨k, o, p, s⟩).out⟩ := by rw [hq]; rfl
      rw [← hq] at hao hql
      rw [hone] at HSTEP
      clear hq hone
      obtain ⟨sa, sc, rfl, hs1, hs2⟩ := hao.form
      have hBw2 : Below w.heap.size w w2 := hBwa.trans (hB2.mono hBwa.size)
      go_wp2_with fail
      refine (rfind_any (hao.base_ (Nat.zero_le _)) tx).mono ?_
      rintro e w3 ⟨rfl, hB3⟩
      have hBw3 : Below w.heap.size w w3 := hBw2.trans (hB3.mono hBw2.size)
      have hBa3 : Below wa.heap.size wa w3 := hB2.trans (hB3.mono hB2.size)
      have hT3 := hTa.below hBa3
      have hO3 := hOa.below hBa3
      have hbn3 := hbn.of_block (hBa3.block _ hbn.lt)
      replace hao := (hao.base_ hBwa.size).below hB3
      clear hTa hOa hbn hB2 hB3 hBa3 hBw2 b0 b1 b2 b3 hB
      unfold maxLen at hs2
      cases hf : q.findIdx? fun a => a.tx == tx with
      | none =>
        rw [idx_of_none hf]
        have HS1 : Hid (rrelK tx ⟨M, []⟩ ((E.map (·.n)).take (i + 1)) = sI) := Lib.hid (by rw [HSTEP.out, hf])
        go_wp2_with fail
        go_roundw
        case rel => exact ⟨i + 1, by omega, by go_num, by rw [HS1.out]; exact hT3, by rw [HS1.out]; exact hO3, hBw3⟩
        case measure => simp [intOf]; omega
      | some ix =>
        obtain ⟨hix, hil⟩ := idx_of_some hf
        rw [hix]
        obtain ⟨M2, hM2⟩ : ∃ M2, M2 = withM ⟨k, o, p, s⟩ (q.take ix ++ q.drop (ix + 1)) sI.M := ⟨_, rfl⟩
        have HS1 : Hid (rrelK tx ⟨M, []⟩ ((E.map (·.n)).take (i + 1)) = ⟨(grantM M2 ⟨k, o, p, s⟩).M, sI.out ++ (grantM M2 ⟨k, o, p, s⟩).out⟩) := Lib.hid (by rw [HSTEP.out, hf, hM2])
        have hM2b : Mb 999 M2 := by
          rw [hM2]
          refine hfM1.with_ _ ?_
          rw [List.length_append, List.length_take, List.length_drop]
          omega
        have hwr : IntKind.i64.wrap ((ix : Int) + 1) = (ix : Int) + 1 := by simp [IntKind.wrap, IntKind.bits, IntKind.signed]; omega
        obtain ⟨g2, rfl, -, -, -, hgb2, hgl2, -⟩ := hao.cell hil
        have b0 := hbn3.cell 0
        have b1 := hbn3.cell 1
        have b2 := hbn3.cell 2
        have b3 := hbn3.cell 3
        simp at b0 b1 b2 b3
        have hnl3 : wr.heap.size < w3.drew.heap.size := hbn3.lt
        have hws3 : w.heap.size ≤ w3.drew.heap.size := hBw3.size
        have hB33 : Below w3.drew.heap.size w3.drew w3.drew := Below.refl _ _
        have hBA : Below w3.drew.heap.size w3.drew (w3.drew.alloc (.cells #[] 74)) := (Below.refl _ _).alloc (Nat.le_refl _) _
        have haod : AO (w3.drew.alloc (.cells #[] 74)) w.heap.size (.slice (some ⟨g2, 0, none⟩) q.length sc) q := hao.below ((Below.refl w3.heap.size w3).drew.alloc (Nat.le_refl _) _)
        have haom := AO.made w3.drew
        have hsr1 : SrcAt (w3.drew.alloc (.cells #[] 74)) (some ⟨g2, 0, none⟩) ((q.take ix).flatMap av) := haod.src.take ix
        have hbnd : Blk w3.drew wr.heap.size 49 #[.int .i64 k, .int .i64 o, .int .u32 p, .int .i64 s] := hbn3
        have hbnA := hbnd.alloc (.cells #[] 74)
        have hnl4 : wr.heap.size < (w3.drew.alloc (.cells #[] 74)).heap.size := hbnA.lt
        have hno4 := haom.other hbnA (by decide)
        have hT3d : RT w3.drew (.slice ta sI.M.length tc) sI.M := hT3.below (Below.refl _ _).drew
        have hdis : ∀ k', some k' = (Value.slice (some ⟨g2, 0, none⟩) q.length sc).ownBlock → some k' ≠ (Value.slice (some ⟨w3.drew.heap.size, 0, none⟩) 0 0).ownBlock := fun k' e e2 => by
          have h1 : k' = g2 := by simpa [Value.ownBlock] using e
          have h2 : k' = w3.heap.size := by simpa [Value.ownBlock] using e2
          have h3 : g2 < w3.heap.size := hgl2
          omega
        have HL0 : Hid (ix = (q.take ix).length) := Lib.hid (by rw [List.length_take]; omega)
        have HL1 : Hid (([] : List Ak).length + (q.take ix).length ≤ 1000000) := Lib.hid (by rw [List.length_take]; simp; omega)
        have HL2 : Hid ((q.take ix).length + (q.drop (ix + 1)).length ≤ 1000000) := Lib.hid (by rw [List.length_take, List.length_drop]; omega)
        have hi1 : (0 : Int) ≤ (ix : Int) := by omega
        have hi2 : (ix : Int) ≤ (sc : Int) := by omega
        have hi3 : (0 : Int) ≤ (ix : Int) + 1 := by omega
        have hi4 : (ix : Int) + 1 ≤ (q.length : Int) := by omega
        have HDONE : ∀ {ww v7}, RT ww v7 M2 → Below w3.drew.heap.size w3.drew ww → Hid (RT ww v7 M2 ∧ Below w3.heap.size w3 ww) := fun h1 h2 => Lib.hid ⟨h1, (Below.refl w3.heap.size w3).drew.trans h2⟩
        by_cases hcz : sc = ix + 1
        · have hqe : q.length = ix + 1 := by omega
          have hsrE : ∀ {w'}, SrcAt w' (some ⟨g2, 0, none⟩) ((q.drop (ix + 1)).flatMap av) := fun {w'} j u hj => by
            rw [List.drop_of_length_le (by omega)] at hj
            simp at hj
          have hczt : (sc = ix + 1) = True := eq_true hcz
          clear hcz hqe
          go_wp2_with fail
          go_region_held3 (fun w' => w'.cell? ⟨wr.heap.size, 0, none⟩ = some (.int .i64 k) ∧ w'.cell? ⟨wr.heap.size, 1, none⟩ = some (.int .i64 o) ∧
              w'.cell? ⟨wr.heap.size, 2, none⟩ = some (.int .u32 p) ∧ w'.cell? ⟨wr.heap.size, 3, none⟩ = some (.int .i64 s))
            ((go_split_ands; refine ⟨?_, ?_, ?_, ?_⟩ <;> first
              | go_keep
              | (rw [World.cell?_of_block (hg5.block _ hnl4 hno4)]; assumption)
              | (rw [World.cell?_of_block (hg6.block _ hnl5 hno5)]; assumption)
              | (rw [World.cell?_of_block (hB7.block _ hnl6)]; assumption)))
            (first
              | (refine step_append_ao rfl _ _ rfl w3.drew.heap.size _ [] (q.take ix) rfl haom (some ⟨g2, 0, none⟩) ix _ rfl HL0.out (fun h => by simp at h) hsr1 HL1.out (by simp) ?_; intro v5 w5 ho5 hg5; have hbn5 := hbnA.of_block (hg5.block _ hnl4 hno4); have hnl5 := hbn5.lt; have hno5 := ho5.other hbn5 (by decide); have hB5 := below_grown hBA haom hg5 (by simp); have hao5 := haod.grown hg5 hdis)
              | (refine step_append_ao rfl _ _ rfl w3.drew.heap.size _ (q.take ix) (q.drop (ix + 1)) rfl ho5 (some ⟨g2, 0, none⟩) (q.length - (ix + 1)) _ rfl List.length_drop.symm (fun h => by simp at h) hsrE HL2.out hB5.size ?_; intro v6 w6 ho6 hg6; have hbn6 := hbn5.of_block (hg6.block _ hnl5 hno5); have hnl6 := hbn6.lt; have hB6 := below_grown hB5 ho5 hg6 hB5.size)
              | (go_at_call 39; refine (rwith_m (hT3d.below hB6) (ho6.base_ (Nat.zero_le _)) (by have := hfM1.1; omega) k o p s).mono ?_; rintro e w7 ⟨v7, rfl, hT7, hB7⟩))
          go_split_ands
          rw [← hM2] at hT7
          have hB37 : Below w3.heap.size w3 w7 := (Below.refl w3.heap.size w3).drew.trans (hB6.trans (hB7.mono hB6.size))
          have hO7 := hO3.below hB37
          have hB7w : Below w.heap.size w w7 := hBw3.trans (hB37.mono hBw3.size)
          go_wp2_with fail
          refine (rgrant_m hT7 (by have := hM2b.1; omega) hM2b.2 k o p s).mono ?_
          rintro e w8 ⟨v8, gv, rfl, hT8, hO8, hB8⟩
          have hB8w : Below w.heap.size w w8 := hB7w.trans (hB8.mono hB7w.size)
          have hO78 := hO7.below hB8
          have hgl8 := gout_len (qL M2 ⟨k, o, p, s⟩)
          have hq8 := hM2b.qL ⟨k, o, p, s⟩
          have HG1 : Hid ((grantM M2 ⟨k, o, p, s⟩).M = withM ⟨k, o, p, s⟩ (gq (qL M2 ⟨k, o, p, s⟩)) M2) := Lib.hid rfl
          have HG2 : Hid ((grantM M2 ⟨k, o, p, s⟩).out = gout (qL M2 ⟨k, o, p, s⟩)) := Lib.hid rfl
          obtain ⟨gl, hgl9⟩ : ∃ gl, gl = gout (qL M2 ⟨k, o, p, s⟩) := ⟨_, rfl⟩
          rw [← hgl9] at hO8 hgl8 HG2
          clear hgl9
          obtain ⟨ga, gc, rfl, -, -⟩ := hO8.form
          obtain ⟨ol, hol9⟩ : ∃ ol, ol = sI.out := ⟨_, rfl⟩
          rw [← hol9] at hO78 hfo HS1
          have hlo : ol.length + gl.length ≤ 1000000000 := by omega
          rw [← hol9]
          clear hol9
          go_wp2_with (at_builtin; refine wpList_append_io rfl _ _ rfl w.heap.size _ ol gl rfl hO78 ga _ gc rfl rfl hO8.src_none hO8.src hlo hB8w.size ?_; intro v9 w9 ho9 hg9)
          have hB9 := hO78.grownBelow hB8w hg9 hB8w.size
          have hT9 := hT8.grown hg9 hO78
          go_wp2_with fail
          go_roundw
          case rel => exact ⟨i + 1, by omega, by go_num, by rw [HS1.out, HG1.out]; exact hT9, by rw [HS1.out, HG2.out]; exact ho9, hB9⟩
          case measure => simp [intOf]; omega
        · have hczt : (sc = ix + 1) = False := eq_false hcz
          clear hcz
          go_wp2_with fail
          go_region_held3 (fun w' => w'.cell? ⟨wr.heap.size, 0, none⟩ = some (.int .i64 k) ∧ w'.cell? ⟨wr.heap.size, 1, none⟩ = some (.int .i64 o) ∧
              w'.cell? ⟨wr.heap.size, 2, none⟩ = some (.int .u32 p) ∧ w'.cell? ⟨wr.heap.size, 3, none⟩ = some (.int .i64 s))
            ((go_split_ands; refine ⟨?_, ?_, ?_, ?_⟩ <;> first
              | go_keep
              | (rw [World.cell?_of_block (hg5.block _ hnl4 hno4)]; assumption)
              | (rw [World.cell?_of_block (hg6.block _ hnl5 hno5)]; assumption)
              | (rw [World.cell?_of_block (hB7.block _ hnl6)]; assumption)))
            (first
              | (refine step_append_ao rfl _ _ rfl w3.drew.heap.size _ [] (q.take ix) rfl haom (some ⟨g2, 0, none⟩) ix _ rfl HL0.out (fun h => by simp at h) hsr1 HL1.out (by simp) ?_; intro v5 w5 ho5 hg5; have hbn5 := hbnA.of_block (hg5.block _ hnl4 hno4); have hnl5 := hbn5.lt; have hno5 := ho5.other hbn5 (by decide); have hB5 := below_grown hBA haom hg5 (by simp); have hao5 := haod.grown hg5 hdis)
              | (refine step_append_ao rfl _ _ rfl w3.drew.heap.size _ (q.take ix) (q.drop (ix + 1)) rfl ho5 (some ⟨g2, (ix + 1) * 4, none⟩) (q.length - (ix + 1)) _ rfl List.length_drop.symm (fun h => by simp at h) (hao5.src.drop (ix + 1)) HL2.out hB5.size ?_; intro v6 w6 ho6 hg6; have hbn6 := hbn5.of_block (hg6.block _ hnl5 hno5); have hnl6 := hbn6.lt; have hB6 := below_grown hB5 ho5 hg6 hB5.size)
              | (go_at_call 39; refine (rwith_m (hT3d.below hB6) (ho6.base_ (Nat.zero_le _)) (by have := hfM1.1; omega) k o p s).mono ?_; rintro e w7 ⟨v7, rfl, hT7, hB7⟩))
          go_split_ands
          rw [← hM2] at hT7
          have hB37 : Below w3.heap.size w3 w7 := (Below.refl w3.heap.size w3).drew.trans (hB6.trans (hB7.mono hB6.size))
          have hO7 := hO3.below hB37
          have hB7w : Below w.heap.size w w7 := hBw3.trans (hB37.mono hBw3.size)
          go_wp2_with fail
          refine (rgrant_m hT7 (by have := hM2b.1; omega) hM2b.2 k o p s).mono ?_
          rintro e w8 ⟨v8, gv, rfl, hT8, hO8, hB8⟩
          have hB8w : Below w.heap.size w w8 := hB7w.trans (hB8.mono hB7w.size)
          have hO78 := hO7.below hB8
          have hgl8 := gout_len (qL M2 ⟨k, o, p, s⟩)
          have hq8 := hM2b.qL ⟨k, o, p, s⟩
          have HG1 : Hid ((grantM M2 ⟨k, o, p, s⟩).M = withM ⟨k, o, p, s⟩ (gq (qL M2 ⟨k, o, p, s⟩)) M2) := Lib.hid rfl
          have HG2 : Hid ((grantM M2 ⟨k, o, p, s⟩).out = gout (qL M2 ⟨k, o, p, s⟩)) := Lib.hid rfl
          obtain ⟨gl, hgl9⟩ : ∃ gl, gl = gout (qL M2 ⟨k, o, p, s⟩) := ⟨_, rfl⟩
          rw [← hgl9] at hO8 hgl8 HG2
          clear hgl9
          obtain ⟨ga, gc, rfl, -, -⟩ := hO8.form
          obtain ⟨ol, hol9⟩ : ∃ ol, ol = sI.out := ⟨_, rfl⟩
          rw [← hol9] at hO78 hfo HS1
          have hlo : ol.length + gl.length ≤ 1000000000 := by omega
          rw [← hol9]
          clear hol9
          go_wp2_with (at_builtin; refine wpList_append_io rfl _ _ rfl w.heap.size _ ol gl rfl hO78 ga _ gc rfl rfl hO8.src_none hO8.src hlo hB8w.size ?_; intro v9 w9 ho9 hg9)
          have hB9 := hO78.grownBelow hB8w hg9 hB8w.size
          have hT9 := hT8.grown hg9 hO78
          go_wp2_with fail
          go_roundw
          case rel => exact ⟨i + 1, by omega, by go_num, by rw [HS1.out, HG1.out]; exact hT9, by rw [HS1.out, HG2.out]; exact ho9, hB9⟩
          case measure => simp [intOf]; omega
    · obtain rfl : i = E.length := by omega
      have HF : Hid (rrelK tx ⟨M, []⟩ ((E.map (·.n)).take E.length) = relM tx M) := Lib.hid (by rw [HREL.out, List.take_of_length_le (by simp)])
      rw [HF.out] at hT hO
      obtain ⟨ta, tc, rfl⟩ := hT.form
      go_wp2_with fail
      go_ret2
      exact ⟨_, _, rfl, hT, hO, hB⟩
end Go.Proofs.YtcdlplbccblbaaaGreat
