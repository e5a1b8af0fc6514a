import Derived.Test.YtpggillecedocaaTq
namespace Go.Proofs.Ytpggillecedocaa
open Go.RowKit
set_option linter.unusedVariables false

section
variable {order : List Int} {b : Nat} {G : List Ak} {L : List (Nm × List Ak)} {W : List (Int × Nm)}
theorem find_app {b : Nat} {ms : List Int} {tx : Int} (h : tx < (b : Int) + 2) : (G ++ wt b ms).findIdx? (fun a => a.tx == tx) = G.findIdx? fun a => a.tx == tx := by
  have hw : (wt b ms).findIdx? (fun a => a.tx == tx) = none := by
    rw [List.findIdx?_eq_none_iff]
    intro a ha
    have := (wt_mem ha).2.2.1
    simp
    omega
  rw [List.findIdx?_append, hw]
  simp
theorem find_some {q : List Ak} {tx : Int} {i : Nat} (h : (q.findIdx? fun a => a.tx == tx) = some i) : ∃ hi : i < q.length, q[i].tx = tx := by
  rw [List.findIdx?_eq_some_iff_getElem] at h
  exact ⟨h.1, by simpa using h.2.1⟩
theorem TS.find (h : TS order b G L W) {j : Nat} (hj : j < b) : ((qL L nT).findIdx? fun a => a.tx == (j : Int) + 2) = G.findIdx? fun a => a.tx == (j : Int) + 2 := by
  rw [h.hL, qL_one, find_app (by omega)]
/-- Whoever has it has the mode that was asked for. -/
theorem TS.has_some (h : TS order b G L W) {j i : Nat} (hj : j < b) (hi : (G.findIdx? fun a => a.tx == (j : Int) + 2) = some i) : order[j]? = some (hasQ (qL L nT) ((j : Int) + 2)) := by
  obtain ⟨hl, ht⟩ := find_some hi
  obtain ⟨j', h1, h2, h3⟩ := h.mine _ (List.getElem_mem hl)
  have hjj : j' = j := by omega
  subst hjj
  rw [h3]
  unfold hasQ
  rw [h.find hj, hi]
  simp only
  rw [h.hL, qL_one]
  congr 2
  rw [List.getD, List.getElem?_append_left hl, List.getElem?_eq_getElem hl]
  rfl
theorem TS.has_none (h : TS order b G L W) {j : Nat} (hj : j < b) (hi : (G.findIdx? fun a => a.tx == (j : Int) + 2) = none) : hasQ (qL L nT) ((j : Int) + 2) = 0 := by
  unfold hasQ
  rw [h.find hj, hi]
theorem TS.has_mem (h : TS order b G L W) {a : Ak} (ha : a ∈ G) : ∃ j : Nat, j < b ∧ a.tx = (j : Int) + 2 ∧ order[j]? = some (hasQ (qL L nT) ((j : Int) + 2)) := by
  obtain ⟨j, h1, h2, h3⟩ := h.mine a ha
  refine ⟨j, h1, h2, ?_⟩
  cases hf : G.findIdx? fun a => a.tx == (j : Int) + 2 with
  | some i => exact h.has_some h1 hf
  | none =>
    rw [List.findIdx?_eq_none_iff] at hf
    have := hf a ha
    simp [h2] at this
/-- Where somebody waits, somebody has it. -/
theorem TS.some (h : TS order b G L W) (hb : b < order.length) : ∃ j : Nat, j < b ∧ hasQ (qL L nT) ((j : Int) + 2) ≠ 0 := by
  obtain ⟨a, ha⟩ := List.exists_mem_of_ne_nil _ (h.blk hb)
  obtain ⟨j, h1, _, h3⟩ := h.has_mem ha
  exact ⟨j, h1, mode_ne (h.ok _ (List.mem_of_getElem? h3))⟩
theorem TS.waits (h : TS order b G L W) (hb : b < order.length) : (wOf W ((b : Int) + 2)).isSome = true := by
  rw [h.hW, show order.length - b = (order.length - b - 1) + 1 by omega]
  unfold wOf ws
  simp only [nos, List.map_cons, List.find?_cons_of_pos, beq_self_eq_true, Option.map_some, Option.isSome_some]
theorem erase_app {q r : List Ak} {i : Nat} (h : i < q.length) : (q ++ r).eraseIdx i = q.eraseIdx i ++ r := List.eraseIdx_append_of_lt_length h r

/-- What is said once somebody has let go. -/
def Goes (order : List Int) (b : Nat) (s : Rs) : Prop :=
  ∃ k G', b + k ≤ order.length ∧ s.out = nos b k ∧ TS order (b + k) G' s.L s.W ∧ ∀ j : Nat, b ≤ j → j < b + k → order[j]? = some (hasQ (qL s.L nT) ((j : Int) + 2))
theorem goes_of {G0 : List Ak} (hok : modesOk order) (hle : b ≤ order.length) (hG : Holds G0) (hm : ∀ a ∈ G0, ∃ j : Nat, j < b ∧ a.tx = (j : Int) + 2 ∧ order[j]? = some a.has) (hnd : (G0.map (·.tx)).Nodup)
    {s : Rs} (hs : s = ⟨one (gq (G0 ++ wt b (order.drop b))), (ws (nos b (order.length - b))).filter fun p => !(gout (G0 ++ wt b (order.drop b))).contains p.1, gout (G0 ++ wt b (order.drop b))⟩) : Goes order b s := by
  obtain ⟨k, h1, h2, h3⟩ := TS.granted hok hle hG hm hnd
  rw [h2] at hs
  subst hs
  refine ⟨k, _, h1, rfl, h3, fun j hj1 hj2 => ?_⟩
  have hk : ∃ a ∈ gr b ((order.drop b).take k), a.tx = (j : Int) + 2 := by
    have hlen : ((order.drop b).take k).length = k := by rw [List.length_take, List.length_drop]; omega
    have : ∀ (ms : List Int) (b : Nat), b ≤ j → j < b + ms.length → ∃ a ∈ gr b ms, a.tx = (j : Int) + 2 := by
      intro ms
      induction ms with
      | nil => intro b h1 h2; simp at h2; omega
      | cons m ms ih =>
        intro b h1 h2
        by_cases hjb : j = b
        · exact ⟨_, List.mem_cons_self, by rw [hjb]⟩
        · obtain ⟨a, ha, he⟩ := ih (b + 1) (by omega) (by simp at h2; omega)
          exact ⟨a, List.mem_cons_of_mem _ ha, he⟩
    exact this _ b hj1 (by rw [hlen]; exact hj2)
  obtain ⟨a, ha, he⟩ := hk
  obtain ⟨j', g1, g2, g3⟩ := h3.has_mem (a := a) (List.mem_append_right _ ha)
  have hjj : j' = j := by omega
  subst hjj
  exact g3
/-- One who has it lets go. -/
theorem TS.release (h : TS order b G L W) {j : Nat} (hj : j < b) (hh : hasQ (qL L nT) ((j : Int) + 2) ≠ 0) : Goes order b (rel ((j : Int) + 2) L W) := by
  cases hf : G.findIdx? fun a => a.tx == (j : Int) + 2 with
  | none => exact absurd (h.has_none hj hf) hh
  | some i =>
    obtain ⟨hl, _⟩ := find_some hf
    have hf2 : (G ++ wt b (order.drop b)).findIdx? (fun a => a.tx == (j : Int) + 2) = Option.some i := by rw [find_app (by omega), hf]
    refine goes_of (G0 := G.eraseIdx i) h.ok h.le (fun a ha => h.holds a (List.mem_of_mem_eraseIdx ha)) (fun a ha => h.mine a (List.mem_of_mem_eraseIdx ha)) ?_ ?_
    · exact h.nodup.sublist ((List.eraseIdx_sublist _ _).map _)
    · rw [h.hL, h.hW, rel_one hf2 (ws_keep _ _ _ (by omega)), erase_app hl]

/-- The first of all has it, and the others wait. -/
def firstQ (ms : List Int) : List Ak := ⟨1, 5, 0, false⟩ :: wt 0 ms
theorem first_release (hok : modesOk order) : Goes order 0 (rel 1 (one (firstQ order)) (ws (nos 0 order.length))) := by
  have hf : (firstQ order).findIdx? (fun a => a.tx == 1) = Option.some 0 := by simp [firstQ, List.findIdx?_cons]
  refine goes_of (G0 := []) hok (by omega) (fun a ha => by simp at ha) (fun a ha => by simp at ha) (by simp) ?_
  rw [rel_one hf (ws_keep _ _ _ (by omega))]
  simp [firstQ]
theorem wt_snoc (b : Nat) (ms : List Int) (m : Int) : wt b (ms ++ [m]) = wt b ms ++ [⟨(b : Int) + ms.length + 2, 0, m, false⟩] := by
  induction ms generalizing b with
  | nil => simp [wt]
  | cons x ms ih =>
    simp only [List.cons_append, wt, ih, List.cons.injEq, true_and]
    congr 3
    simp only [List.length_cons]; push_cast; omega
theorem ask_first : ask [] [] 1 nT 5 false true = ⟨true, 0, one (firstQ []), ws (nos 0 0)⟩ := rfl
theorem ask_turn {ms : List Int} {m : Int} (hm : isMode m = true) : ask (one (firstQ ms)) (ws (nos 0 ms.length)) ((ms.length : Int) + 2) nT m false true = ⟨false, 0, one (firstQ (ms ++ [m])), ws (nos 0 (ms ++ [m]).length)⟩ := by
  have hne : firstQ ms ≠ [] := by simp [firstQ]
  have hne2 : firstQ (ms ++ [m]) ≠ [] := by simp [firstQ]
  have hw : wOf (ws (nos 0 ms.length)) ((ms.length : Int) + 2) = none := by
    unfold wOf ws
    rw [Option.map_eq_none_iff, List.find?_eq_none]
    intro p hp
    obtain ⟨t, ht, rfl⟩ := List.mem_map.1 hp
    have := nos_mem ht
    simp
    omega
  have hfi : (firstQ ms).findIdx? (fun a => a.tx == (ms.length : Int) + 2) = none := by
    rw [List.findIdx?_eq_none_iff]
    intro a ha
    simp only [firstQ, List.mem_cons] at ha
    rcases ha with rfl | ha
    · simp; omega
    · have := (wt_mem ha).2.2.2.1
      simp
      omega
  have hmay : mayS (firstQ ms) ((ms.length : Int) + 2) m = false := by
    refine mayS_false (k := 0) (by simp [firstQ]) ?_
    unfold mayOne
    simp only [firstQ, List.getElem_cons_zero]
    have h1 : ((1 : Int) == (ms.length : Int) + 2) = false := by rw [beq_eq_false_iff_ne]; omega
    rw [h1]
    simp [compat]
  unfold ask
  rw [if_neg (by rw [hm]; simp; omega), if_neg (by rw [hw]; simp), one_ne hne]
  have hfind : ([(nT, firstQ ms)] : List (Nm × List Ak)).find? (fun p => p.1 == nT) = Option.some (nT, firstQ ms) := by simp
  rw [hfind]
  simp only [hfi, hmay, Bool.false_and, if_neg Bool.false_ne_true, Bool.true_eq_false, if_false]
  rw [← one_ne hne, repl_one hne]
  congr 1
  · congr 1
    simp only [firstQ, wt_snoc, List.cons_append]
    congr 3
    simp
  · rw [List.length_append, List.length_singleton, nos_snoc]
    unfold ws
    simp
end
end Go.Proofs.Ytpggillecedocaa
