import Derived.Test.YtcdlplbccblbaaaGreatMg19
namespace Go.Proofs.YtcdlplbccblbaaaGreat
open Go.RowKit
set_option linter.unusedVariables false

/-- A transaction waits no more. -/
def can (tx : Int) (L : List (Nm × List Ak)) (W : List (Int × Nm)) : Rs :=
  match wOf W tx with
  | none => ⟨L, W, []⟩
  | some n => match (qL L n).findIdx? fun a => a.tx == tx with
    | none => ⟨L, W, []⟩
    | some i => ⟨repl L n (gq ((qL L n).set i { (qL L n).getD i ⟨0, 0, 0, false⟩ with wants := 0, inst := false })), (W.filter fun p => p.1 != tx).filter fun p => !(gout ((qL L n).set i { (qL L n).getD i ⟨0, 0, 0, false⟩ with wants := 0, inst := false })).contains p.1, gout ((qL L n).set i { (qL L n).getD i ⟨0, 0, 0, false⟩ with wants := 0, inst := false })⟩

theorem IntsAt.base' {w : World} {b b' : Nat} {v : Value} {l : List Int} (h : IntsAt w b v l) (hb : b' ≤ b) : IntsAt w b' v l := by
  refine ⟨⟨h.1.1, ?_⟩, h.2⟩
  rcases h.1.2 with h0 | ⟨g, cap, cur, hv, hg, r⟩
  · exact .inl h0
  · exact .inr ⟨g, cap, cur, hv, by omega, r⟩

section
variable {B : Nat} {w w' : World} {T QB WB : Nat} {L : List (Nm × List Ak)} {W : List (Int × Nm)} {R : List Row}
theorem cancel_none (h : Tab w T QB WB R W) {tx : Int} (hw : wOf W tx = none) :
    Calls Tryz.prog 14 #[.pointer (some ⟨T, 0, none⟩), .int .i64 tx] w fun e w' => e = .returned (.slice none 0 0) ∧ Below w.heap.size w w' := by
  have hcon := for_tab h tx
  rw [hw] at hcon
  simp only [Option.isSome_none] at hcon
  go_enter Tryz.func14, Tryz.ntmps14
  go_wp2_with fail
  refine hcon.mono ?_
  rintro e w1 ⟨rfl, hB⟩
  go_wp2_with fail
  go_ret
  exact ⟨rfl, hB.alloc hB.size _⟩

set_option maxRecDepth 100000 in
set_option maxHeartbeats 4000000 in
theorem cancel_some {R1 R2 : List Row} {r : Row} (h : Tab w T QB WB (R1 ++ r :: R2) W) {tx : Int} (hw : wOf W tx = some r.n) {m : Nat} (hm : r.q.findIdx? (fun a => a.tx == tx) = some m) (hql : r.q.length ≤ 1000) (hrn : rOf (R1 ++ r :: R2) r.n = some r) :
    Calls Tryz.prog 14 #[.pointer (some ⟨T, 0, none⟩), .int .i64 tx] w fun e w' => ∃ v, e = .returned v ∧ IntsAt w' w.heap.size v (gout (r.q.set m { r.q.getD m ⟨0, 0, 0, false⟩ with wants := 0, inst := false })) ∧
      Tab w' T QB WB (gR R1 { r with q := r.q.set m { r.q.getD m ⟨0, 0, 0, false⟩ with wants := 0, inst := false } } R2) ((W.filter fun p => p.1 != tx).filter fun p => !(gout (r.q.set m { r.q.getD m ⟨0, 0, 0, false⟩ with wants := 0, inst := false })).contains p.1) ∧ Keeps w w' (Foot T QB WB (R1 ++ r :: R2)) := by
  have hcon := for_tab h tx
  have hwz : wz W tx = r.n := by unfold wz; rw [hw]; rfl
  rw [hwz, hw] at hcon
  simp only [Option.isSome_some] at hcon
  obtain ⟨hmx, hml⟩ := at_of_some hm
  have hve : vOf (R1 ++ r :: R2) r.n = r.v := by unfold vOf; rw [hrn]; rfl
  have hget : r.q.getD m ⟨0, 0, 0, false⟩ = r.q[m] := by simp [List.getD, hml]
  rw [hget]
  obtain ⟨n, g, cap, q⟩ := r
  obtain ⟨k, o, p, s⟩ := n
  simp only at hml hmx hm hql hcon hve ⊢
  have HMX := Lib.hid hmx
  have HVE := Lib.hid hve
  clear hm hwz hget hve hmx
  go_enter Tryz.func14, Tryz.ntmps14
  go_wp2_with fail
  refine hcon.mono ?_
  rintro e w1 ⟨rfl, hB1⟩
  obtain ⟨w2, hw2⟩ : ∃ w2, w2 = w1.alloc (.cells #[.int .i64 k, .int .i64 o, .int .u32 p, .int .i64 s] 46) := ⟨_, rfl⟩
  have hB2 : Below w.heap.size w w2 := by rw [hw2]; exact hB1.alloc hB1.size _
  have hbn : Blk w2 w1.heap.size 46 #[.int .i64 k, .int .i64 o, .int .u32 p, .int .i64 s] := by rw [hw2]; exact Blk.new _ _ _
  have hT2 := h.below hB2
  obtain ⟨w3, hrun, hT3, ht3⟩ := hT2.unwait tx 0
  have hdel : ∀ ty, (Builtin.delete_ #[35, 3] ty #[.map (some WB), .int .i64 tx]).run Tryz.prog w2 = .ok (.tuple #[]) w3 := fun ty => hrun
  have t1 := hT2.head.cell 1
  simp at t1
  have hs12 : w1.heap.size < w2.heap.size := hbn.lt
  obtain ⟨N1, hN1⟩ : ∃ N1, N1 = w1.heap.size := ⟨_, rfl⟩
  have hN1w : w.heap.size ≤ N1 := by rw [hN1]; exact hB1.size
  rw [← hN1] at hbn hs12
  have hk3 : Keeps w2 w3 (Foot T QB WB (R1 ++ ⟨⟨k, o, p, s⟩, g, cap, q⟩ :: R2)) := .of_turned ht3 (.inr (.inr (.inl rfl)))
  have hbn3 : Blk w3 N1 46 #[.int .i64 k, .int .i64 o, .int .u32 p, .int .i64 s] := hbn.of_block (ht3.block _ (fun e => by have := h.wm.lt; omega))
  clear hcon
  go_upto_region 4 with fail
  rw [← hw2, ← hN1]
  clear hw2 hrun
  go_wp2_with fail
  clear hdel t1 hN1
  have t0 := hT3.head.cell 0
  have b0 := hbn3.cell 0
  have b1 := hbn3.cell 1
  have b2 := hbn3.cell 2
  have b3 := hbn3.cell 3
  simp at t0 b0 b1 b2 b3
  have hlk : ∀ q', (Instr.lookup 34 (.map (some QB)) (.agg #[.int .i64 k, .int .i64 o, .int .u32 p, .int .i64 s]) false).run Tryz.prog (w3.drewN q') = .ok (.slice (some ⟨g, 0, none⟩) q.length cap) (w3.drewN q') := fun q' => by
    have := (hT3.below (below_drewN (Below.refl _ _) q')).look ⟨k, o, p, s⟩
    rw [HVE.out] at this
    exact this
  go_quiet (fail)
  obtain ⟨w4, hw4⟩ : ∃ w4, w4 = w3.drewN nq := ⟨_, rfl⟩
  have hB4 : Below w3.heap.size w3 w4 := by rw [hw4]; exact below_drewN (Below.refl _ _) nq
  rw [← hw4]
  clear hw4 hlk t0 b0 b1 b2 b3
  have hT4 := hT3.below hB4
  have hrow4 : RowAt w4 g cap q := hT4.rows ⟨⟨k, o, p, s⟩, g, cap, q⟩ (by simp)
  go_wp2_with fail
  refine (find_any _ q tx _ (.inr ⟨g, cap, rfl, hrow4⟩)).mono ?_
  rintro e w5 ⟨rfl, hB5⟩
  rw [HMX.out]
  have hT5 := hT4.below hB5
  have hrow5 : RowAt w5 g cap q := hT5.rows ⟨⟨k, o, p, s⟩, g, cap, q⟩ (by simp)
  have hbn5 := (hbn3.of_block (hB4.block _ hbn3.lt)).of_block (hB5.block _ (by have := hB4.size; have := hbn3.lt; omega))
  have hk5 : Keeps w w5 (Foot T QB WB (R1 ++ ⟨⟨k, o, p, s⟩, g, cap, q⟩ :: R2)) := ((Keeps.of_below (hB2.mono (Nat.le_refl _)) _).trans hk3 (fun _ _ h => h)).trans (F' := fun _ => False) (.of_below (hB4.trans (hB5.mono hB4.size)) _) (fun _ _ h => h.elim)
  have hTc1 := hT5.putCell (k := m) (j := 2) hml (by omega) (a := { q[m] with wants := 0 }) (u := .int .i64 0) (by simp [av])
  have hTc := hTc1.putCell (k := m) (j := 3) (by simpa using hml) (by omega) (a := { q[m] with wants := 0, inst := false }) (u := .bool false) (by simp [av])
  simp only [List.set_set] at hTc
  have c2 := hrow5.c2 hml
  have f2 := hrow5.frozen (m * 4 + 2)
  have hrow6 : RowAt (w5.setCell ⟨g, m * 4 + 2, none⟩ (.int .i64 0)) g cap (q.set m { q[m] with wants := 0 }) := hTc1.rows ⟨⟨k, o, p, s⟩, g, cap, q.set m { q[m] with wants := 0 }⟩ (by simp)
  have c3 := hrow6.c3 (k := m) (by simpa using hml)
  have f3 := hrow6.frozen (m * 4 + 3)
  simp at c3
  have hqc := hrow5.le
  have hqm := hrow5.max
  unfold maxLen at hqm
  obtain ⟨kT1, kT2, kT3⟩ := hT5.kinds
  obtain ⟨kg1, kg2, kg3⟩ := kT3 ⟨⟨k, o, p, s⟩, g, cap, q⟩ (by simp)
  simp only at kg1 kg2 kg3
  have hgN : N1 ≠ g := fun e => by have := (h.rows ⟨⟨k, o, p, s⟩, g, cap, q⟩ (by simp)).lt; simp only at this; omega
  have hbn7 : Blk ((w5.setCell ⟨g, m * 4 + 2, none⟩ (.int .i64 0)).setCell ⟨g, m * 4 + 3, none⟩ (.bool false)) N1 46 #[.int .i64 k, .int .i64 o, .int .u32 p, .int .i64 s] := (hbn5.far (p := ⟨g, m * 4 + 2, none⟩) hgN _).far (p := ⟨g, m * 4 + 3, none⟩) hgN _
  have d0 := hbn7.cell 0
  have d1 := hbn7.cell 1
  have d2 := hbn7.cell 2
  have d3 := hbn7.cell 3
  simp at d0 d1 d2 d3
  obtain ⟨w7, hw7⟩ : ∃ w7, w7 = (w5.setCell ⟨g, m * 4 + 2, none⟩ (.int .i64 0)).setCell ⟨g, m * 4 + 3, none⟩ (.bool false) := ⟨_, rfl⟩
  have hk7 : Keeps w5 w7 (Foot T QB WB (R1 ++ ⟨⟨k, o, p, s⟩, g, cap, q⟩ :: R2)) := by
    rw [hw7]
    exact (Keeps.setCell w5 ⟨g, m * 4 + 2, none⟩ _ (.inr (.inr (.inr (by simp))))).trans (Keeps.setCell _ ⟨g, m * 4 + 3, none⟩ _ (.inr (.inr (.inr (by simp))))) (fun _ _ h => h)
  rw [← hw7] at hTc
  go_wp2_with fail
  rw [← hw7]
  refine (grant_any hTc (by simp; omega) rfl).mono ?_
  rintro e w8 ⟨v, rfl, hi8, t8, hk8⟩
  go_wp2_with fail
  go_ret
  have hs7 : w.heap.size ≤ w7.heap.size := Nat.le_trans hk5.size hk7.size
  refine ⟨v, rfl, hi8.base' hs7, t8, (hk5.trans hk7 (fun _ _ h => h)).trans hk8 (fun i _ hf => ?_)⟩
  simpa [Foot] using hf

theorem cancel_ta (h : TA B w T QB WB L W) (hfit : Fits 1000 L) (hW : ∀ tx n, wOf W tx = some n → ∃ m, (qL L n).findIdx? (fun a => a.tx == tx) = some m) (tx : Int) :
    Calls Tryz.prog 14 #[.pointer (some ⟨T, 0, none⟩), .int .i64 tx] w fun e w' => ∃ v, e = .returned v ∧ IntsAt w' w.heap.size v (can tx L W).out ∧ TA B w' T QB WB (can tx L W).L (can tx L W).W ∧ Frame B w w' := by
  have hlt := h.lt
  have h0 := h
  obtain ⟨R, ht, hm, hf⟩ := h
  cases hw : wOf W tx with
  | none =>
    refine (cancel_none ht hw).mono ?_
    rintro e w' ⟨rfl, hb⟩
    have : can tx L W = ⟨L, W, []⟩ := by unfold can; rw [hw]
    rw [this]
    exact ⟨_, rfl, ⟨⟨rfl, .inl ⟨rfl, rfl⟩⟩, by simp⟩, h0.below hb, .of_below hlt hb⟩
  | some n =>
    obtain ⟨m, hm2⟩ := hW tx n hw
    have hqe : qL L n = qOf R n := by rw [← hm, qL_rows]
    cases hr : rOf R n with
    | none =>
      have : qOf R n = [] := by unfold qOf; rw [hr]; rfl
      rw [hqe, this] at hm2
      simp at hm2
    | some r =>
      obtain ⟨R1, R2, rfl, hrn⟩ := rOf_split hr
      have hqr : qOf (R1 ++ r :: R2) n = r.q := by unfold qOf; rw [hr]; rfl
      rw [hqr] at hqe
      rw [hqe] at hm2
      have hql : r.q.length ≤ 1000 := by rw [← hqe]; exact hfit.qL n
      subst hrn
      refine (cancel_some ht hw hm2 hql hr).mono ?_
      rintro e w' ⟨v, rfl, hi, ht', hk⟩
      have hc : can tx L W = ⟨repl L r.n (gq (r.q.set m { r.q.getD m ⟨0, 0, 0, false⟩ with wants := 0, inst := false })), (W.filter fun p => p.1 != tx).filter fun p => !(gout (r.q.set m { r.q.getD m ⟨0, 0, 0, false⟩ with wants := 0, inst := false })).contains p.1, gout (r.q.set m { r.q.getD m ⟨0, 0, 0, false⟩ with wants := 0, inst := false })⟩ := by
        unfold can
        rw [hw]
        simp only [hqe, hm2]
      rw [hc]
      refine ⟨v, rfl, hi, ⟨_, ht', ?_, fun k hk' => ?_⟩, .of_keeps ht hf hk⟩
      · rw [← hm]
        exact gR_map (r := r) ht.names
      · rcases gR_foot (r := r) hk' with h1 | h1
        · exact hf k h1
        · exact hf k (.inr (.inr (.inr (by simp [h1]))))
end
end Go.Proofs.YtcdlplbccblbaaaGreat
