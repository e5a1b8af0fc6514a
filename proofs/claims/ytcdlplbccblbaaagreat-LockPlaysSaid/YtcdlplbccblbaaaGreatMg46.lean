import Derived.Test.YtcdlplbccblbaaaGreatMg45
namespace Go.Proofs.YtcdlplbccblbaaaGreat
open Go.RowKit
set_option linter.unusedVariables false
set_option linter.unusedSimpArgs false

/-! ### Who does not wait does not ask for an instant -/
def noI (q : List Ak) : Prop := ∀ a ∈ q, a.wants = 0 → a.inst = false
theorem noI.sub {q l : List Ak} (h : noI q) (hl : l.Sublist q) : noI l := fun a ha => h a (hl.subset ha)
theorem noI.set {q : List Ak} (h : noI q) (i : Nat) {x : Ak} (hx : x.wants = 0 → x.inst = false) : noI (q.set i x) := fun a ha => by
  rcases List.mem_or_eq_of_mem_set ha with h' | rfl
  · exact h a h'
  · exact hx
theorem noI.snoc {q : List Ak} (h : noI q) {x : Ak} (hx : x.wants = 0 → x.inst = false) : noI (q ++ [x]) := fun a ha => by
  rw [List.mem_append, List.mem_singleton] at ha
  rcases ha with h' | rfl
  · exact h a h'
  · exact hx
theorem noI.gstep {s : Gs} (h : noI s.q) (c : Bool) (i : Nat) : noI (gstep c i s).q := by
  unfold Go.Proofs.YtcdlplbccblbaaaGreat.gstep
  split
  · exact h
  · split
    · exact h
    · split
      · exact h
      · split
        · exact h.set i (fun _ => rfl)
        · exact h
theorem noI.gpass {s : Gs} (h : noI s.q) (c : Bool) : ∀ k, noI (gpass c k s).q
  | 0 => h
  | k + 1 => (noI.gpass h c k).gstep c k
theorem noI.gk {q : List Ak} (h : noI q) : ∀ k, noI (gk q k).q
  | 0 => h
  | k + 1 => (noI.gk h k).gpass _ _
theorem noI.gq {q : List Ak} (h : noI q) : noI (gq q) := (h.gk 2).sub List.filter_sublist
theorem noI.nil : noI [] := fun a ha => by simp at ha

section
variable {M L : List (Nm × List Ak)} {W : List (Int × Nm)} {n : Nm} {l : List Ak}
def NI (L : List (Nm × List Ak)) : Prop := ∀ n, noI (qL L n)
theorem NI.repl (h : NI L) (hn : (L.map (·.1)).Nodup) (hm : n ∈ L.map (·.1)) (hl : noI l) : NI (repl L n l) := fun m => by
  rw [qL_repl hn hm]
  split
  · exact hl
  · exact h m

/-! ### What the two do is the same -/
theorem EQ.put2 (h : EQ M L) (hm : n ∈ L.map (·.1)) (l1 l2 : List Ak) : EQ (withM n l2 (withM n l1 M)) (repl L n l2) :=
  ⟨(h.srt.withM n l1).withM n l2, withM_ne (withM_ne h.neM), repl_nodup h.nm n l2, repl_ne h.neL, fun m => by
    rw [qL_withM, qL_withM, qL_repl h.nm hm, h.q]
    split <;> rfl⟩
theorem EQ.mem (h : EQ M L) {tx : Int} {i : Nat} (hf : (qL L n).findIdx? (fun a => a.tx == tx) = some i) : n ∈ L.map (·.1) ∧ ∃ hi : i < (qL L n).length, (qL L n)[i].tx = tx := by
  obtain ⟨hi, ht, -⟩ := List.findIdx?_eq_some_iff_getElem.1 hf
  refine ⟨?_, hi, by simpa using ht⟩
  rw [mem_iff_q h.nm h.neL]
  intro e
  rw [e] at hi
  simp at hi
theorem relOne_same {sM : Rr} {s : Rs} (h : EQ sM.M s.L) (ho : sM.out = s.out) (hI : NI s.L) (tx : Int) (n : Nm) : EQ (rrelOne tx sM n).M (relOne tx s n).L ∧ (rrelOne tx sM n).out = (relOne tx s n).out ∧ NI (relOne tx s n).L := by
  unfold rrelOne relOne
  rw [h.q n]
  cases hf : (qL s.L n).findIdx? fun a => a.tx == tx with
  | none => exact ⟨h, ho, hI⟩
  | some i =>
    obtain ⟨hm, -⟩ := h.mem hf
    simp only
    unfold grantM
    rw [qL_withM, if_pos rfl, ← List.eraseIdx_eq_take_drop_succ]
    exact ⟨h.put2 hm _ _, by rw [ho], hI.repl h.nm hm (((hI n).sub (List.eraseIdx_sublist _ _)).gq)⟩
theorem relK_same (tx : Int) : ∀ (l : List Nm) {sM : Rr} {s : Rs}, EQ sM.M s.L → sM.out = s.out → NI s.L → EQ (rrelK tx sM l).M (relK tx s l).L ∧ (rrelK tx sM l).out = (relK tx s l).out ∧ NI (relK tx s l).L
  | [], _, _, h, ho, hI => ⟨h, ho, hI⟩
  | n :: l, sM, s, h, ho, hI => by
    obtain ⟨h1, h2, h3⟩ := relOne_same h ho hI tx n
    exact relK_same tx l h1 h2 h3
theorem rel_same (h : EQ M L) (hI : NI L) (tx : Int) : EQ (relM tx M).M (rel tx L W).L ∧ (relM tx M).out = (rel tx L W).out ∧ NI (rel tx L W).L := by
  unfold relM rel
  rw [h.names]
  exact relK_same tx _ h rfl hI
theorem waitsB_iff {q : List Ak} (hq : QP q) (tx : Int) : waitsB q tx = true ↔ waitsQ q tx := by
  unfold waitsB waitsQ
  cases hf : q.findIdx? fun a => a.tx == tx with
  | none =>
    rw [List.findIdx?_eq_none_iff] at hf
    simp only [Bool.false_eq_true, false_iff]
    rintro ⟨a, ha, ht, _⟩
    have := hf a ha
    simp [ht] at this
  | some i =>
    obtain ⟨hi, ht, -⟩ := List.findIdx?_eq_some_iff_getElem.1 hf
    have ht' : q[i].tx = tx := by simpa using ht
    have hg : q.getD i ak0 = q[i] := by simp [List.getD, hi]
    simp only [hg, bne_iff_ne]
    refine ⟨fun h => ⟨q[i], List.getElem_mem _, ht', h⟩, ?_⟩
    rintro ⟨a, ha, hat, hw⟩
    rw [hq.inj (List.getElem_mem hi) ha (ht'.trans hat.symm)]
    exact hw
theorem for_same (h : EQ M L) (hT : TI L W nobody) (tx : Int) : forM M tx = wOf W tx := by
  unfold forM
  cases hf : M.find? fun p => waitsB p.2 tx with
  | none =>
    cases hw : wOf W tx with
    | none => rfl
    | some n =>
      have h1 := (hT.wt tx n (fun e => e)).1 hw
      have hne : qL M n ≠ [] := by
        rw [h.q]
        obtain ⟨a, ha, _⟩ := h1
        exact List.ne_nil_of_mem ha
      obtain ⟨p, hp, rfl⟩ := List.mem_map.1 (name_of_q hne)
      rw [List.find?_eq_none] at hf
      have := hf p hp
      rw [← qL_mem h.srt.nodup hp, h.q] at this
      exact absurd ((waitsB_iff (hT.qp _) tx).2 h1) this
  | some p =>
    have h1 := List.find?_some hf
    have hp := List.mem_of_find?_eq_some hf
    rw [← qL_mem h.srt.nodup hp, h.q] at h1
    rw [(hT.wt tx p.1 (fun e => e)).2 ((waitsB_iff (hT.qp _) tx).1 h1)]
    rfl
theorem can_same (h : EQ M L) (hT : TI L W nobody) (hI : NI L) (tx : Int) : EQ (canM tx M).M (can tx L W).L ∧ (canM tx M).out = (can tx L W).out ∧ NI (can tx L W).L := by
  unfold canM can
  rw [for_same h hT tx]
  cases hw : wOf W tx with
  | none => exact ⟨h, rfl, hI⟩
  | some n =>
    simp only
    rw [h.q n]
    cases hf : (qL L n).findIdx? fun a => a.tx == tx with
    | none => exact ⟨h, rfl, hI⟩
    | some i =>
      obtain ⟨hm, hi, ht⟩ := h.mem hf
      have hg : (qL L n).getD i ak0 = (qL L n)[i] := by simp [List.getD, hi]
      have hg' : (qL L n).getD i ⟨0, 0, 0, false⟩ = (qL L n)[i] := by simp [List.getD, hi]
      have e : (⟨tx, ((qL L n)[i]).has, 0, false⟩ : Ak) = { (qL L n)[i] with wants := 0, inst := false } := by rw [← ht]
      simp only [hg, hg', e]
      unfold grantM
      rw [qL_withM, if_pos rfl]
      exact ⟨h.put2 hm _ _, rfl, hI.repl h.nm hm (((hI n).set i (fun _ => rfl)).gq)⟩
theorem blk_same (h : EQ M L) (hT : TI L W nobody) : rblkM M = blkL L W := by
  funext tx
  unfold rblkM blkL
  rw [for_same h hT tx]
  cases hw : wOf W tx with
  | none => rfl
  | some n =>
    simp only
    rw [h.q n]
    exact rblkQ_eq (hT.qp n) tx
theorem cyc_same (h : EQ M L) (hT : TI L W nobody) (tx : Int) : sortD (srch (rblkM M) tx W.length tx []).2.2 = cyc (blkL L W) W.length tx := by
  unfold cyc
  rw [blk_same h hT, sortD_eq]
  split
  · rfl
  · rename_i hn
    have : (srch (blkL L W) tx W.length tx []).2.2 = [] := Classical.byContradiction fun hne => hn ((srch_found _ _ _ _ _).2 hne)
    rw [this]
    simp [sortI]
theorem join_jn {a b : Int} (ha : okMode a) (hb : isMode b = true) : join a b = jn a b := by
  have h1 : okm a = true := by
    unfold okm isMode
    obtain ⟨h1, h2⟩ := ha
    by_cases e : a = 0
    · simp [e]
    · simp; omega
  have h2 : okm b = true := by unfold okm; simp [hb]
  unfold join
  rw [h1, h2]
  rfl
theorem ask_same (h : EQ M L) (hT : TI L W nobody) (hI : NI L) (tx : Int) (n : Nm) (mode : Int) (inst wt : Bool) :
    (ask L W tx n mode inst wt).had = (askM M tx n mode inst wt).had ∧ (ask L W tx n mode inst wt).err = (askM M tx n mode inst wt).err ∧ EQ (askM M tx n mode inst wt).M (ask L W tx n mode inst wt).L ∧ NI (ask L W tx n mode inst wt).L := by
  unfold ask askM
  rw [for_same h hT tx]
  by_cases hbad : tx < 1 ∨ isMode mode = false
  · rw [if_pos hbad, if_pos hbad]
    exact ⟨rfl, rfl, h, hI⟩
  rw [if_neg hbad, if_neg hbad]
  have hmo : isMode mode = true := by
    cases hi : isMode mode
    · exact absurd (.inr hi) hbad
    · rfl
  by_cases hw : (wOf W tx).isSome = true
  · rw [if_pos hw, if_pos hw]
    exact ⟨rfl, rfl, h, hI⟩
  rw [if_neg hw, if_neg hw, h.q n]
  have hm0 : mode ≠ 0 := fun e => by rw [e] at hmo; exact absurd hmo (by decide)
  cases hf : L.find? fun p => p.1 == n with
  | none =>
    have hno : n ∉ L.map (·.1) := fun hm => by
      obtain ⟨p, hp, rfl⟩ := List.mem_map.1 hm
      rw [List.find?_eq_none] at hf
      exact hf p hp (by simp)
    rw [qL_out hno]
    have hq : askQ [] tx mode inst wt = (true, if inst = true then none else some [⟨tx, mode, 0, false⟩]) := by
      unfold askQ
      have h1 : hasQ [] tx = 0 := rfl
      have h2 : jn 0 mode = mode := by unfold jn; rw [if_pos rfl]
      rw [h1, h2, if_neg hm0, if_pos (by rfl)]
      rfl
    rw [hq]
    cases inst with
    | true => exact ⟨rfl, rfl, h, hI⟩
    | false =>
      refine ⟨rfl, rfl, h.fresh hno (by simp), fun m => ?_⟩
      simp only [Bool.false_eq_true, if_false]
      rw [qL_app]
      split
      · exact hI m
      · rw [qL_cons]
        split
        · exact fun a ha _ => by simp at ha; rw [ha]
        · exact noI.nil
  | some p =>
    obtain ⟨e1, e2, hm⟩ := qL_find hf
    obtain ⟨n', q⟩ := p
    simp only at e1 e2
    subst e1
    rw [e2]
    have hqp := hT.qp n'
    rw [e2] at hqp
    have hIq := hI n'
    rw [e2] at hIq
    simp only
    cases hfi : q.findIdx? fun a => a.tx == tx with
    | none =>
      have hidx := idx_of_none hfi
      have hh : hasQ q tx = 0 := by unfold hasQ; rw [hfi]
      have h2 : jn 0 mode = mode := by unfold jn; rw [if_pos rfl]
      have hp : ∀ x, putQ q tx x = q ++ [x] := fun x => by unfold putQ; rw [hfi]
      have hq : askQ q tx mode inst wt = if (mayS q tx mode && !aheadS q 0 (-1)) = true then (true, if inst = true then none else some (q ++ [⟨tx, mode, 0, false⟩])) else (false, if wt = false then none else some (q ++ [⟨tx, 0, mode, inst⟩])) := by
        unfold askQ
        rw [hh, h2, if_neg hm0, hidx, hp, hp, Bool.and_comm]
      rw [hq]
      simp only
      split
      · refine ⟨rfl, rfl, ?_, ?_⟩
        · cases inst with
          | true => exact h
          | false => exact h.put hm _
        · cases inst with
          | true => exact hI
          | false => exact hI.repl h.nm hm (hIq.snoc (fun _ => rfl))
      · refine ⟨rfl, rfl, ?_, ?_⟩
        · cases wt with
          | false => exact h
          | true => exact h.put hm _
        · cases wt with
          | false => exact hI
          | true => exact hI.repl h.nm hm (hIq.snoc (fun e => absurd e hm0))
    | some i =>
      obtain ⟨hidx, hil⟩ := idx_of_some hfi
      obtain ⟨hil', ht, -⟩ := List.findIdx?_eq_some_iff_getElem.1 hfi
      have ht' : q[i].tx = tx := by simpa using ht
      have hg : q.getD i ⟨0, 0, 0, false⟩ = q[i] := by simp [List.getD, hil]
      have hh : hasQ q tx = q[i].has := by unfold hasQ; rw [hfi]; simp [List.getD, hil]
      have hok : okAk q[i] := hqp.ok _ (List.getElem_mem _)
      have hj := join_jn hok.1 hmo
      have hw0 : q[i].wants = 0 := Classical.byContradiction fun hne => by
        have := (hT.wt tx n' (fun e => e)).2 ⟨q[i], by rw [e2]; exact List.getElem_mem _, ht', hne⟩
        rw [this] at hw
        exact hw rfl
      have hin : q[i].inst = false := hIq _ (List.getElem_mem _) hw0
      have hp : ∀ x, putQ q tx x = q.set i x := fun x => by unfold putQ; rw [hfi]
      have hjne : jn q[i].has mode ≠ 0 := by rw [← hj]; exact join_ne hok.1 hmo
      have s1 : (⟨tx, jn q[i].has mode, 0, false⟩ : Ak) = { q[i] with has := join q[i].has mode } := by rw [hj, ← ht', ← hw0, ← hin]
      have s2 : (⟨tx, q[i].has, jn q[i].has mode, inst⟩ : Ak) = { q[i] with wants := join q[i].has mode, inst := inst } := by rw [hj, ← ht']
      have hq : askQ q tx mode inst wt = if join q[i].has mode = q[i].has then (true, none) else if (mayS q tx (join q[i].has mode) && !aheadS q q[i].has i) = true then (true, if inst = true then none else some (q.set i { q[i] with has := join q[i].has mode })) else (false, if wt = false then none else some (q.set i { q[i] with wants := join q[i].has mode, inst := inst })) := by
        unfold askQ
        rw [hh, hidx, hp, hp, s1, s2, ← hj, Bool.and_comm]
      rw [hq]
      simp only [hg]
      split
      · exact ⟨rfl, rfl, h, hI⟩
      · split
        · refine ⟨rfl, rfl, ?_, ?_⟩
          · cases inst with
            | true => exact h
            | false => exact h.put hm _
          · cases inst with
            | true => exact hI
            | false => exact hI.repl h.nm hm (hIq.set i (fun _ => hin))
        · refine ⟨rfl, rfl, ?_, ?_⟩
          · cases wt with
            | false => exact h
            | true => exact h.put hm _
          · cases wt with
            | false => exact hI
            | true => exact hI.repl h.nm hm (hIq.set i (fun e => absurd e (by rw [hj]; exact hjne)))
/-- What one has, out of the reference's table. -/
def heldM (M : List (Nm × List Ak)) (tx : Int) : List (Nm × Int) := M.filterMap fun p => if hasQ (qL M p.1) tx = 0 then none else some (p.1, hasQ (qL M p.1) tx)
theorem held_same (h : EQ M L) (tx : Int) : held L tx = heldM M tx := by
  unfold held heldK heldM
  rw [h.names, List.filterMap_map]
  refine congrArg (fun f => M.filterMap f) (funext fun p => ?_)
  simp only [Function.comp_def, h.q]
theorem EQ.mb {N : Nat} (h : EQ M L) (hf : Fits N L) (hN : N ≤ 200) : Mb 200 M := by
  refine ⟨by rw [h.len]; exact Nat.le_trans hf.1 hN, fun p hp => ?_⟩
  rw [← qL_mem h.srt.nodup hp, h.q]
  exact Nat.le_trans (hf.qL _) (by omega)
theorem TI.of_perm {L' : List (Nm × List Ak)} (h : TI L W nobody) (hM : EQ M L) (hp : L'.Perm L) : TI L' W nobody := by
  have h' := hM.of_perm hp
  have e : ∀ n, qL L' n = qL L n := fun n => (h'.q n).symm.trans (hM.q n)
  refine ⟨h'.nm, fun n => ?_, fun n => ?_, fun n => ?_, fun t n hx => ?_, h.wx, fun n => ?_⟩ <;> rw [e]
  · exact h.qp n
  · exact h.live n
  · exact h.blk n
  · exact h.wt t n hx
  · exact h.who n
end
end Go.Proofs.YtcdlplbccblbaaaGreat

namespace Go.Proofs.YtcdlplbccblbaaaGreat
open Go.RowKit
set_option linter.unusedVariables false
set_option linter.unusedSimpArgs false

set_option maxRecDepth 100000 in
set_option maxHeartbeats 4000000 in
/-- Are two lists of numbers the same? -/
theorem ints_any {w : World} {b1 b2 : Nat} {v1 v2 : Value} {l1 l2 : List Int} (h1 : IO w b1 v1 l1) (h2 : IO w b2 v2 l2) :
    Calls Tryz.prog 13 #[v1, v2] w fun e w' => e = .returned (.bool (decide (l1 = l2))) ∧ Below w.heap.size w w' := by
  obtain ⟨A1, c1, rfl, p1, p2⟩ := h1.form
  obtain ⟨A2, c2, rfl, p3, p4⟩ := h2.form
  unfold maxLen at p2 p4
  by_cases hlen : l1.length = l2.length
  · have hd : ((l1.length : Int) != (l2.length : Int)) = false := by simp; omega
    rw [← hlen]
    have hH2 : IO w b2 (.slice A2 l1.length c2) l2 := by rw [hlen]; exact h2
    have HH2 := Lib.hid hH2
    have HL := Lib.hid hlen
    clear h2 hH2 hlen hd p3
    go_enter Tryz.func13, Tryz.ntmps13
    go_wp2_with fail
    go_loopw [5] (fun i wr => ∃ k : Nat, k ≤ l1.length ∧ i = .int .i64 k ∧ Below w.heap.size w wr ∧ Hid (l1.take k = l2.take k)) (fun i _ => l1.length - (intOf i).toNat)
    case atStart => exact ⟨0, Nat.zero_le _, rfl, Below.refl _ _, Lib.hid (by simp)⟩
    case round =>
      obtain ⟨k, hk, rfl, hB, hno⟩ := hrel
      by_cases hlt : k < l1.length
      · have hlt2 : k < l2.length := by rw [← HL.out]; exact hlt
        obtain ⟨g, rfl, -, -, -, -, -, a0⟩ := (h1.below hB).cell hlt
        obtain ⟨g2, rfl, -, -, -, -, -, a1⟩ := (HH2.out.below hB).cell hlt2
        by_cases he : l1[k] = l2[k]
        · have hbe : (l1[k] != l2[k]) = false := by simpa using he
          have HN : Hid (l1.take (k + 1) = l2.take (k + 1)) := Lib.hid (by rw [List.take_succ_eq_append_getElem hlt, List.take_succ_eq_append_getElem hlt2, hno.out, he])
          clear he
          go_wp2_with fail
          go_quiet (fail)
          go_wp2_with fail
          go_roundw
          case rel => exact ⟨k + 1, by omega, by go_num, below_drewN hB _, HN⟩
          case measure => simp [intOf]; omega
        · have hbe : (l1[k] != l2[k]) = true := by simpa using he
          have HR : Hid (decide (l1 = l2) = false) := Lib.hid (decide_eq_false (fun e => he (by subst e; rfl)))
          clear he
          go_wp2_with fail
          go_quiet (fail)
          go_wp2_with fail
          go_ret
          exact ⟨ret_bool HR.out.symm, below_drewN hB _⟩
      · obtain rfl : k = l1.length := by omega
        have HR : Hid (decide (l1 = l2) = true) := Lib.hid (decide_eq_true (by
          have h := hno.out
          rw [List.take_length, HL.out, List.take_length] at h
          exact h))
        go_wp2_with fail
        go_ret
        exact ⟨ret_bool HR.out.symm, hB⟩
  · have hd : ((l1.length : Int) != (l2.length : Int)) = true := by simp; omega
    have HR : Hid (decide (l1 = l2) = false) := Lib.hid (decide_eq_false (fun e => hlen (by rw [e])))
    clear hlen
    go_enter Tryz.func13, Tryz.ntmps13
    go_wp2_with fail
    go_ret
    exact ⟨ret_bool HR.out.symm, Below.refl _ _⟩
end Go.Proofs.YtcdlplbccblbaaaGreat
