import Derived.Test.YtcdlplbccblbaaaGreatSa
import Derived.Test.YtcdlplbccblbaaaGreatCa
import Derived.Test.YtcdlplbccblbaaaGreatSe
namespace Go.Proofs.YtcdlplbccblbaaaGreat
open Go.RowKit
set_option linter.unusedVariables false

/-! ### Queues by their names -/
section
variable {L L1 L2 : List (Nm × List Ak)} {W : List (Int × Nm)} {n m : Nm} {q q' : List Ak}
theorem qL_out (h : n ∉ L.map (·.1)) : qL L n = [] := by
  have : (L.find? fun p => p.1 == n) = none := by
    rw [List.find?_eq_none]
    intro p hp
    simp only [beq_iff_eq]
    intro e
    exact h (List.mem_map.2 ⟨p, hp, e⟩)
  unfold qL
  rw [this]
  rfl
theorem qL_app : qL (L1 ++ L2) n = if n ∈ L1.map (·.1) then qL L1 n else qL L2 n := by
  by_cases h : n ∈ L1.map (·.1)
  · rw [if_pos h]
    have : ∃ p, (L1.find? fun p => p.1 == n) = some p := by
      cases hf : L1.find? fun p => p.1 == n with
      | some p => exact ⟨p, rfl⟩
      | none =>
        rw [List.find?_eq_none] at hf
        obtain ⟨p, hp, e⟩ := List.mem_map.1 h
        exact absurd (by simpa using e) (hf p hp)
    obtain ⟨p, hp⟩ := this
    unfold qL
    rw [List.find?_append, hp]
    rfl
  · rw [if_neg h]
    have : (L1.find? fun p => p.1 == n) = none := by
      rw [List.find?_eq_none]
      intro p hp
      simp only [beq_iff_eq]
      intro e
      exact h (List.mem_map.2 ⟨p, hp, e⟩)
    unfold qL
    rw [List.find?_append, this]
    rfl
theorem qL_cons : qL ((n, q) :: L) m = if m = n then q else qL L m := by
  unfold qL
  rw [List.find?_cons]
  by_cases h : m = n
  · subst h; simp
  · have : (n == m) = false := by simpa using fun e => h e.symm
    simp only [this, if_neg h]
theorem qL_find {p : Nm × List Ak} (h : (L.find? fun p => p.1 == n) = some p) : p.1 = n ∧ qL L n = p.2 ∧ n ∈ L.map (·.1) := by
  have h1 := List.find?_some h
  simp only [beq_iff_eq] at h1
  exact ⟨h1, by unfold qL; rw [h]; rfl, List.mem_map.2 ⟨p, List.mem_of_find?_eq_some h, h1⟩⟩
theorem name_of_q (h : qL L n ≠ []) : n ∈ L.map (·.1) := by
  refine Classical.byContradiction fun hn => h (qL_out hn)
theorem split_name (hn : (L.map (·.1)).Nodup) (hm : n ∈ L.map (·.1)) : ∃ L1 L2 q0, L = L1 ++ (n, q0) :: L2 ∧ n ∉ L1.map (·.1) ∧ n ∉ L2.map (·.1) := by
  obtain ⟨p, hp, rfl⟩ := List.mem_map.1 hm
  obtain ⟨L1, L2, rfl⟩ := List.append_of_mem hp
  rw [List.map_append, List.map_cons, List.nodup_append, List.nodup_cons] at hn
  obtain ⟨_, ⟨n2, _⟩, n3⟩ := hn
  exact ⟨L1, L2, p.2, rfl, fun h => n3 _ h p.1 (by simp) rfl, n2⟩
theorem qL_repl (hn : (L.map (·.1)).Nodup) (hm : n ∈ L.map (·.1)) (q : List Ak) (m : Nm) : qL (repl L n q) m = if m = n then q else qL L m := by
  obtain ⟨L1, L2, q0, rfl, h1, h2⟩ := split_name hn hm
  rw [repl_mid h1 h2]
  by_cases hq : q.isEmpty = true
  · rw [if_pos hq]
    have hq' : q = [] := by simpa using hq
    by_cases e : m = n
    · subst e
      rw [if_pos rfl, qL_app, if_neg h1, qL_out h2, hq']
    · rw [if_neg e, qL_app, qL_app, qL_cons, if_neg e]
  · rw [if_neg hq]
    by_cases e : m = n
    · subst e
      rw [if_pos rfl, qL_app, if_neg h1, qL_cons, if_pos rfl]
    · rw [if_neg e, qL_app, qL_app, qL_cons, qL_cons, if_neg e, if_neg e]
theorem repl_names (L : List (Nm × List Ak)) (n : Nm) (q : List Ak) : ((repl L n q).map (·.1)).Sublist (L.map (·.1)) := by
  induction L with
  | nil => simp [repl]
  | cons p L ih =>
    have e : repl (p :: L) n q = (if p.1 = n then (if q.isEmpty = true then [] else [(n, q)]) else [p]) ++ repl L n q := by unfold repl; rw [List.flatMap_cons]
    rw [e, List.map_append, List.map_cons]
    split
    · rename_i hn
      subst hn
      split
      · exact ih.cons _
      · exact ih.cons_cons _
    · exact ih.cons_cons _
theorem repl_nodup (hn : (L.map (·.1)).Nodup) (n : Nm) (q : List Ak) : ((repl L n q).map (·.1)).Nodup := hn.sublist (repl_names L n q)

theorem wOf_filter (f : Int → Bool) (t : Int) : wOf (W.filter fun p => f p.1) t = if f t = true then wOf W t else none := by
  unfold wOf
  induction W with
  | nil => simp
  | cons p W ih =>
    rw [List.filter_cons, List.find?_cons]
    by_cases e : p.1 = t
    · subst e
      by_cases hf : f p.1 = true
      · rw [if_pos hf, if_pos hf, List.find?_cons]
        simp
      · rw [if_neg hf, if_neg hf] at *
        rw [ih]
    · have e2 : (p.1 == t) = false := by simpa using e
      rw [e2]
      by_cases hf : f p.1 = true
      · rw [if_pos hf, List.find?_cons, e2]
        exact ih
      · rw [if_neg hf]
        exact ih
theorem wOf_snoc (tx : Int) (t : Int) : wOf (W ++ [(tx, n)]) t = match wOf W t with
    | some m => some m
    | none => if t = tx then some n else none := by
  unfold wOf
  rw [List.find?_append]
  cases hf : W.find? fun p => p.1 == t with
  | some p => rfl
  | none =>
    simp only [Option.none_or, Option.map_none]
    by_cases e : t = tx
    · subst e; simp
    · have : (tx == t) = false := by simpa using fun e2 => e e2.symm
      simp [this, e]
end

/-! ### What holds of any table -/
structure TI (L : List (Nm × List Ak)) (W : List (Int × Nm)) (ex : Int → Prop) : Prop where
  nm : (L.map (·.1)).Nodup
  qp : ∀ n, QP (qL L n)
  live : ∀ n, liveQ (qL L n)
  blk : ∀ n, ∀ a ∈ qL L n, a.wants ≠ 0 → Blocked (qL L n) a
  wt : ∀ t n, ¬ ex t → (wOf W t = some n ↔ waitsQ (qL L n) t)
  wx : ∀ t, ex t → wOf W t = none
  who : ∀ n, ∀ a ∈ qL L n, 1 ≤ a.tx ∧ a.tx ≤ 9223372036854775807
def nobody : Int → Prop := fun _ => False
section
variable {L : List (Nm × List Ak)} {W : List (Int × Nm)} {ex : Int → Prop} {n : Nm} {q q' : List Ak}
theorem TI.start : TI [] [] nobody := ⟨by simp, fun _ => QP.nil, fun _ a ha => by simp [qL] at ha, fun _ a ha => by simp [qL] at ha, fun t n _ => by
  constructor
  · intro h; simp [wOf] at h
  · rintro ⟨a, ha, _⟩; simp [qL] at ha, fun _ h => h.elim, fun _ a ha => by simp [qL] at ha⟩
theorem TI.grant (h : TI L W ex) (hm : n ∈ L.map (·.1)) (hq : QP q') (hw : ∀ t, ¬ ex t → (waitsQ q' t ↔ waitsQ (qL L n) t)) (ht : ∀ a ∈ q', 1 ≤ a.tx ∧ a.tx ≤ 9223372036854775807) :
    TI (repl L n (gq q')) (W.filter fun p => !(gout q').contains p.1) ex := by
  have hg := granted hq
  have hqL := fun m => qL_repl h.nm hm (gq q') m
  have hwo := fun t => wOf_filter (W := W) (fun x => !(gout q').contains x) t
  refine ⟨repl_nodup h.nm _ _, fun m => ?_, fun m => ?_, fun m => ?_, fun t m hx => ?_, fun t hx => ?_, fun m => ?_⟩
  · rw [hqL]; split
    · exact hg.qp
    · exact h.qp m
  · rw [hqL]; split
    · exact hg.live
    · exact h.live m
  · rw [hqL]; split
    · exact hg.blk
    · exact h.blk m
  · rw [hqL, hwo]
    by_cases hto : t ∈ gout q'
    · have hf : (!(gout q').contains t) = false := by simp [hto]
      rw [hf, if_neg Bool.false_ne_true]
      constructor
      · intro e; cases e
      · intro e
        have h1 := (h.wt t n hx).2 ((hw t hx).1 (hg.ot t hto))
        split at e
        · exact absurd hto ((hg.wt t).1 e).2
        · rename_i hne
          have h2 := (h.wt t m hx).2 e
          rw [h1] at h2
          exact absurd (by simpa using h2.symm) hne
    · have hf : (!(gout q').contains t) = true := by simp [hto]
      rw [hf, if_pos rfl, h.wt t m hx]
      split
      · rename_i e
        subst e
        rw [hg.wt, hw t hx]
        simp [hto]
      · rfl
  · rw [hwo, h.wx t hx]
    split <;> rfl
  · rw [hqL]; split
    · intro a ha
      obtain ⟨b, hb, e⟩ := hg.txs a ha
      rw [← e]
      exact ht b hb
    · exact h.who m
theorem TI.close {tx : Int} (h : TI L W (· = tx)) (hn : ∀ n, ¬ waitsQ (qL L n) tx) : TI L W nobody :=
  ⟨h.nm, h.qp, h.live, h.blk, fun t n _ => by
    by_cases e : t = tx
    · subst e
      rw [h.wx t rfl]
      constructor
      · intro e; cases e
      · intro e; exact absurd e (hn n)
    · exact h.wt t n e, fun _ h => h.elim, h.who⟩
theorem TI.leave (h : TI L W nobody) (tx : Int) : TI L (W.filter fun p => p.1 != tx) (· = tx) := by
  have hwo := fun t => wOf_filter (W := W) (fun x => x != tx) t
  refine ⟨h.nm, h.qp, h.live, h.blk, fun t n hx => ?_, fun t hx => ?_, h.who⟩
  · rw [hwo, if_pos (by simpa using hx)]
    exact h.wt t n (fun h => h)
  · subst hx
    rw [hwo, if_neg (by simp)]

/-! ### Letting go -/
theorem find_get {tx : Int} {i : Nat} (h : (q.findIdx? fun a => a.tx == tx) = some i) : ∃ hi : i < q.length, q[i].tx = tx := by
  rw [List.findIdx?_eq_some_iff_getElem] at h
  exact ⟨h.1, by simpa using h.2.1⟩
theorem erase_no {tx : Int} {i : Nat} (hq : QP q) (hi : i < q.length) (ht : q[i].tx = tx) : ∀ a ∈ q.eraseIdx i, a.tx ≠ tx := by
  intro a ha e
  rw [List.mem_eraseIdx_iff_getElem] at ha
  obtain ⟨j, hj, hne, rfl⟩ := ha
  exact hne (hq.inj_get hj hi (by rw [e, ht]))
theorem erase_waits {tx : Int} {i : Nat} (hq : QP q) (hi : i < q.length) (ht : q[i].tx = tx) {t : Int} (hne : ¬ t = tx) : waitsQ (q.eraseIdx i) t ↔ waitsQ q t := by
  constructor
  · rintro ⟨a, ha, h1, h2⟩; exact ⟨a, List.mem_of_mem_eraseIdx ha, h1, h2⟩
  · rintro ⟨a, ha, h1, h2⟩
    refine ⟨a, ?_, h1, h2⟩
    obtain ⟨j, hj, rfl⟩ := List.getElem_of_mem ha
    rw [List.mem_eraseIdx_iff_getElem]
    exact ⟨j, hj, fun e => hne (by subst e; rw [← h1, ht]), rfl⟩
theorem TI.relOne {tx : Int} {s : Rs} (h : TI s.L s.W (· = tx)) (n : Nm) : TI (relOne tx s n).L (relOne tx s n).W (· = tx) ∧ (∀ a ∈ qL (relOne tx s n).L n, a.tx ≠ tx) ∧ ∀ m, m ≠ n → qL (relOne tx s n).L m = qL s.L m := by
  unfold YtcdlplbccblbaaaGreat.relOne
  cases hf : (qL s.L n).findIdx? fun a => a.tx == tx with
  | none =>
    refine ⟨h, fun a ha e => ?_, fun _ _ => rfl⟩
    rw [List.findIdx?_eq_none_iff] at hf
    have := hf a ha
    simp [e] at this
  | some i =>
    obtain ⟨hi, ht⟩ := find_get hf
    have hm : n ∈ s.L.map (·.1) := name_of_q (fun e => by rw [e] at hi; simp at hi)
    have hq : QP ((qL s.L n).eraseIdx i) := (h.qp n).sub (List.eraseIdx_sublist _ _)
    have hno := erase_no (h.qp n) hi ht
    refine ⟨h.grant hm hq (fun t hx => erase_waits (h.qp n) hi ht hx) (fun a ha => h.who n a (List.mem_of_mem_eraseIdx ha)), fun a ha => ?_, fun m hne => ?_⟩
    · have ha' : a ∈ qL (repl s.L n (gq ((qL s.L n).eraseIdx i))) n := ha
      rw [qL_repl h.nm hm, if_pos rfl] at ha'
      obtain ⟨b, hb, e⟩ := (granted hq).txs a ha'
      rw [← e]
      exact hno b hb
    · show qL (repl s.L n _) m = _
      rw [qL_repl h.nm hm, if_neg hne]
theorem TI.relK {tx : Int} : ∀ (l : List Nm) {s : Rs}, TI s.L s.W (· = tx) → TI (relK tx s l).L (relK tx s l).W (· = tx) ∧ ∀ n, (n ∈ l ∨ ∀ a ∈ qL s.L n, a.tx ≠ tx) → ∀ a ∈ qL (relK tx s l).L n, a.tx ≠ tx
  | [], s, h => ⟨h, fun n hn => by
    rcases hn with hn | hn
    · simp at hn
    · exact hn⟩
  | n0 :: l, s, h => by
    obtain ⟨h1, h2, h3⟩ := h.relOne n0
    obtain ⟨k1, k2⟩ := TI.relK l h1
    refine ⟨k1, fun n hn => k2 n ?_⟩
    by_cases e : n = n0
    · subst e; exact .inr h2
    · rcases hn with hn | hn
      · rcases List.mem_cons.1 hn with hn | hn
        · exact absurd hn e
        · exact .inl hn
      · right
        rw [h3 n e]
        exact hn
theorem TI.rel (h : TI L W nobody) (tx : Int) : TI (rel tx L W).L (rel tx L W).W nobody := by
  obtain ⟨h1, h2⟩ := TI.relK (sortN (L.map (·.1))) (s := ⟨L, W.filter fun p => p.1 != tx, []⟩) (h.leave tx)
  refine TI.close h1 fun n => ?_
  rintro ⟨a, ha, e, _⟩
  refine h2 n ?_ a ha e
  by_cases hn : n ∈ L.map (·.1)
  · exact .inl ((sortN_perm _).mem_iff.2 hn)
  · right
    intro a ha
    have : a ∈ qL L n := ha
    rw [qL_out hn] at this
    simp at this
theorem TI.can (h : TI L W nobody) (tx : Int) : TI (can tx L W).L (can tx L W).W nobody := by
  unfold YtcdlplbccblbaaaGreat.can
  cases hw : wOf W tx with
  | none => exact h
  | some n =>
    simp only
    cases hf : (qL L n).findIdx? fun a => a.tx == tx with
    | none => exact h
    | some i =>
      obtain ⟨hi, ht⟩ := find_get hf
      have hg : (qL L n).getD i ⟨0, 0, 0, false⟩ = (qL L n)[i] := by simp [List.getD, hi]
      simp only [hg]
      have hm : n ∈ L.map (·.1) := name_of_q (fun e => by rw [e] at hi; simp at hi)
      have hok := (h.qp n).ok _ (List.getElem_mem hi)
      have hq : QP ((qL L n).set i { (qL L n)[i] with wants := 0, inst := false }) := by
        refine (h.qp n).set hi rfl ⟨hok.1, by unfold okMode; simp⟩ fun h1 b hb hne hb0 => ?_
        exact (h.qp n).hc b hb (qL L n)[i] (List.getElem_mem hi) hne hb0 h1
      have hsw := fun t => (h.qp n).set_waits (x := { (qL L n)[i] with wants := 0, inst := false }) hi rfl t
      have hk := (h.leave tx).grant hm hq (fun t hx => by
        rw [hsw, ht]
        simp [hx]) (fun a ha => by
        rcases (h.qp n).mem_set (x := { (qL L n)[i] with wants := 0, inst := false }) hi rfl ha with rfl | ⟨h1, _⟩
        · exact h.who n (qL L n)[i] (List.getElem_mem hi)
        · exact h.who n a h1)
      refine TI.close hk fun m => ?_
      rw [qL_repl h.nm hm]
      split
      · rw [(granted hq).wt, hsw, ht]
        simp
      · rename_i hne
        intro hwm
        have := (h.wt tx m (fun h => h)).2 hwm
        rw [hw] at this
        exact hne (by simpa using this.symm)
end
end Go.Proofs.YtcdlplbccblbaaaGreat

namespace Go.Proofs.YtcdlplbccblbaaaGreat
open Go.RowKit
set_option linter.unusedVariables false

/-- A cycle through a transaction, the greatest number first. -/
def cyc (B : Int → List Int) (n : Nat) (tx : Int) : List Int := if (srch B tx n tx []).1 = true then (sortI (srch B tx n tx []).2.2).reverse else []

section
variable {w w' : World} {T QB WB : Nat} {R : List Row} {W : List (Int × Nm)}
set_option maxRecDepth 100000 in
set_option maxHeartbeats 2000000 in
theorem cycle_tab (h : Tab w T QB WB R W) (hW : WaitsIn R W) (hl : W.length < 1000000) (tx : Int) :
    Calls Tryz.prog 23 #[.pointer (some ⟨T, 0, none⟩), .int .i64 tx] w fun e w' => ∃ v, e = .returned v ∧ IntsAt w' w.heap.size v (cyc (blkF R W) W.length tx) ∧ Below w.heap.size w w' := by
  have hmm := @run_makeMap Tryz.prog
  obtain ⟨w1, hw1⟩ : ∃ w1, w1 = w.alloc (.cells #[.slice none 0 0] 52) := ⟨_, rfl⟩
  have hB1 : Below w.heap.size w w1 := by rw [hw1]; exact (Below.refl _ _).alloc (Nat.le_refl _) _
  have hY1 : Blk w1 w.heap.size 52 #[.slice none 0 0] := by rw [hw1]; exact Blk.new _ _ _
  have hs1 : w1.heap.size = w.heap.size + 1 := by rw [hw1]; simp
  obtain ⟨w2, hw2⟩ : ∃ w2, w2 = w1.alloc (.map #[] 0) := ⟨_, rfl⟩
  have hB2 : Below w1.heap.size w1 w2 := by rw [hw2]; exact (Below.refl _ _).alloc (Nat.le_refl _) _
  have hM2 : MapAt KI w2 w1.heap.size (seenM []) := by rw [hw2]; exact MapAt.made KI w1
  have hY2 := hY1.of_block (hB2.block _ hY1.lt)
  have hB2' : Below w.heap.size w w2 := hB1.trans (hB2.mono (by omega))
  have hT2 := h.below hB2'
  have hft : ∀ k, Foot T QB WB R k → k < w.heap.size := fun k hk => h.foot_lt hk
  have hn : nW W [] ≤ W.length := List.length_filter_le _ _
  have hO2 : IntsAt w2 w.heap.size (.slice none 0 0) [] := ⟨⟨rfl, .inl ⟨rfl, rfl⟩⟩, by simp⟩
  have hcon := search_any (to := tx) hW hft (by omega) (Nat.le_refl _) W.length (by simpa using hl) tx [] w2 (by simp) hn hT2 hM2 hY2 hO2
  rw [hs1] at hcon
  have hpath : (srch (blkF R W) tx W.length tx []).2.2.length ≤ W.length := srch_path _ _ _ _ _
  have hcyc : cyc (blkF R W) W.length tx = if (srch (blkF R W) tx W.length tx []).1 = true then (sortI (srch (blkF R W) tx W.length tx []).2.2).reverse else [] := rfl
  obtain ⟨r, hr⟩ : ∃ r, r = srch (blkF R W) tx W.length tx [] := ⟨_, rfl⟩
  rw [← hr] at hcon hpath hcyc
  have HC := Lib.hid hcyc
  have HS1 := Lib.hid hs1
  clear hr hcyc hM2 hO2 hn
  have hws : (w.alloc (.cells #[.slice none 0 0] 52)).alloc (.map #[] 0) = w2 := by rw [hw2, hw1]
  clear hw1 hw2 hs1
  go_enter Tryz.func23, Tryz.ntmps23
  go_wp2_with fail
  try rw [hws]
  clear hws hmm
  refine hcon.mono ?_
  intro e w3 hP
  unfold SrchPost at hP
  obtain ⟨rfl, hM3, hno, hyes⟩ := hP
  cases hr1 : r.1 with
  | false =>
    have hk3 := hno hr1
    have HR1 := Lib.hid hr1
    clear hno hyes hcon
    go_wp2_with fail
    go_ret
    refine ⟨_, rfl, ?_, hB2'.trans (hk3.below hB2'.size (fun k hk e => by omega))⟩
    rw [HC.out, HR1.out]
    exact ⟨⟨rfl, .inl ⟨rfl, rfl⟩⟩, by simp⟩
  | true =>
    obtain ⟨v, hY3, hO3, hown, hk3⟩ := hyes hr1
    rw [List.nil_append] at hO3
    have HR1 := Lib.hid hr1
    have hB3 : Below w.heap.size w w3 := hB2'.trans (hk3.below hB2'.size (fun k hk e => by
      rcases e with e | e | e
      · omega
      · omega
      · simp [Value.ownBlock] at e))
    obtain ⟨a, c, rfl⟩ := hO3.form
    have y3 : w3.cell? ⟨w.heap.size, 0, none⟩ = some (.slice a r.2.2.length c) := by rw [hY3.cell]; rfl
    clear hno hyes hcon hr1 hown
    go_wp2_with fail
    refine (sortInts_any hO3 (by omega)).mono ?_
    rintro e w4 ⟨rfl, hO4, hk4⟩
    have hY4 := hY3.of_block (hk4.block _ hY3.lt (hO3.other hY3 (by decide)))
    have hB4 : Below w.heap.size w w4 := hB3.trans (hk4.below hB3.size (fun k hk e => hO3.far hk e))
    have y4 : w4.cell? ⟨w.heap.size, 0, none⟩ = some (.slice a r.2.2.length c) := by rw [hY4.cell]; rfl
    clear y3
    go_wp2_with fail
    refine (reverseInts_any hO4 (by rw [sortI_len]; omega)).mono ?_
    rintro e w5 ⟨rfl, hO5, hk5⟩
    have hY5 := hY4.of_block (hk5.block _ hY4.lt (hO4.other hY4 (by decide)))
    have hB5 : Below w.heap.size w w5 := hB4.trans (hk5.below hB4.size (fun k hk e => hO4.far hk e))
    have y5 : w5.cell? ⟨w.heap.size, 0, none⟩ = some (.slice a r.2.2.length c) := by rw [hY5.cell]; rfl
    clear y4
    go_wp2_with fail
    go_ret
    exact ⟨_, rfl, by rw [HC.out, if_pos HR1.out]; exact hO5, hB5⟩
end
end Go.Proofs.YtcdlplbccblbaaaGreat
