import Derived.Test.YtpggillecedocaaTp
namespace Go.Proofs.Ytpggillecedocaa
open Go.RowKit
set_option linter.unusedVariables false

theorem nos_add (b k r : Nat) : nos b (k + r) = nos b k ++ nos (b + k) r := by
  induction k generalizing b with
  | zero => simp [nos]
  | succ k ih =>
    rw [show k + 1 + r = (k + r) + 1 by omega]
    simp only [nos, List.cons_append, ih, List.cons.injEq, true_and]
    rw [show b + 1 + k = b + (k + 1) by omega]
theorem nos_mem {b k : Nat} {t : Int} (h : t ∈ nos b k) : (b : Int) + 2 ≤ t ∧ t < (b : Int) + k + 2 := by
  induction k generalizing b with
  | zero => simp [nos] at h
  | succ k ih =>
    simp only [nos, List.mem_cons] at h
    rcases h with rfl | h
    · push_cast; omega
    · have := ih h
      push_cast at this ⊢
      omega
def ws (l : List Int) : List (Int × Nm) := l.map fun t => (t, nT)
theorem ws_filter (l : List Int) (p : Int → Bool) : (ws l).filter (fun x => p x.1) = ws (l.filter p) := by
  unfold ws
  rw [List.filter_map]
  rfl
theorem ws_keep (b k : Nat) (tx : Int) (h : tx < (b : Int) + 2) : (ws (nos b k)).filter (fun p => p.1 != tx) = ws (nos b k) := by
  rw [ws_filter (nos b k) (fun t => t != tx)]
  congr 1
  rw [List.filter_eq_self]
  intro t ht
  have := nos_mem ht
  simp
  omega
theorem ws_drop (b k r : Nat) : (ws (nos b (k + r))).filter (fun p => !(nos b k).contains p.1) = ws (nos (b + k) r) := by
  rw [ws_filter (nos b (k + r)) (fun t => !(nos b k).contains t), nos_add, List.filter_append]
  have e1 : (nos b k).filter (fun t => !(nos b k).contains t) = [] := by
    rw [List.filter_eq_nil_iff]
    intro t ht
    simp [ht]
  have e2 : (nos (b + k) r).filter (fun t => !(nos b k).contains t) = nos (b + k) r := by
    rw [List.filter_eq_self]
    intro t ht
    have h1 := nos_mem ht
    push_cast at h1
    simp
    intro h2
    have := nos_mem h2
    omega
  rw [e1, e2, List.nil_append]

def one (q : List Ak) : List (Nm × List Ak) := if q.isEmpty = true then [] else [(nT, q)]
theorem qL_one (q : List Ak) : qL (one q) nT = q := by
  unfold one qL
  cases q with
  | nil => rfl
  | cons a q => simp
theorem one_ne {q : List Ak} (h : q ≠ []) : one q = [(nT, q)] := by unfold one; rw [if_neg (by simpa using h)]
theorem repl_one {q : List Ak} (h : q ≠ []) (q' : List Ak) : repl (one q) nT q' = one q' := by
  rw [one_ne h]
  unfold repl one
  simp
theorem sortN_one {q : List Ak} (h : q ≠ []) : sortN ((one q).map (·.1)) = [nT] := by
  rw [one_ne h]
  simp [sortN]

/-- One of the queue lets go. -/
theorem rel_one {q : List Ak} {W : List (Int × Nm)} {tx : Int} {i : Nat} (hi : (q.findIdx? fun a => a.tx == tx) = some i) (hw : W.filter (fun p => p.1 != tx) = W) :
    rel tx (one q) W = ⟨one (gq (q.eraseIdx i)), W.filter fun p => !(gout (q.eraseIdx i)).contains p.1, gout (q.eraseIdx i)⟩ := by
  have hq : q ≠ [] := by rintro rfl; simp at hi
  unfold rel relK
  rw [sortN_one hq, hw]
  simp only [List.foldl_cons, List.foldl_nil]
  unfold relOne
  simp only [qL_one, hi, repl_one hq, List.nil_append]

/-- The lock, when all those ahead of number b have come to have it. -/
structure TS (order : List Int) (b : Nat) (G : List Ak) (L : List (Nm × List Ak)) (W : List (Int × Nm)) : Prop where
  ok : modesOk order
  le : b ≤ order.length
  holds : Holds G
  mine : ∀ a ∈ G, ∃ j : Nat, j < b ∧ a.tx = (j : Int) + 2 ∧ order[j]? = some a.has
  nodup : (G.map (·.tx)).Nodup
  hL : L = one (G ++ wt b (order.drop b))
  hW : W = ws (nos b (order.length - b))
  blk : b < order.length → G ≠ []

theorem gr_get {b : Nat} {ms : List Int} {a : Ak} (h : a ∈ gr b ms) : ∃ j : Nat, j < ms.length ∧ a.tx = ((b + j : Nat) : Int) + 2 ∧ ms[j]? = some a.has := by
  induction ms generalizing b with
  | nil => simp [gr] at h
  | cons m ms ih =>
    simp only [gr, List.mem_cons] at h
    rcases h with rfl | h
    · exact ⟨0, by simp, by simp, by simp⟩
    · obtain ⟨j, h1, h2, h3⟩ := ih h
      exact ⟨j + 1, by simp; omega, by rw [h2]; push_cast; omega, by simpa using h3⟩
theorem gr_nodup (b : Nat) (ms : List Int) : ((gr b ms).map (·.tx)).Nodup := by
  induction ms generalizing b with
  | nil => simp [gr]
  | cons m ms ih =>
    simp only [gr, List.map_cons, List.nodup_cons]
    refine ⟨fun hm => ?_, ih _⟩
    obtain ⟨a, ha, he⟩ := List.mem_map.1 hm
    have := (gr_mem ha).2.1
    rw [he] at this
    push_cast at this
    omega
theorem may_holder {q : List Ak} {tx m : Int} (h : mayS q tx m = false) : ∃ a ∈ q, a.has ≠ 0 := by
  unfold mayS at h
  rw [List.all_eq_false] at h
  obtain ⟨a, ha, hm⟩ := h
  refine ⟨a, ha, fun h0 => hm ?_⟩
  unfold mayOne
  rw [h0]
  simp

/-- What holds once somebody has let go: G is who else has it. -/
theorem TS.granted {order : List Int} {b : Nat} {G : List Ak} (hok : modesOk order) (hle : b ≤ order.length) (hG : Holds G) (hm : ∀ a ∈ G, ∃ j : Nat, j < b ∧ a.tx = (j : Int) + 2 ∧ order[j]? = some a.has) (hnd : (G.map (·.tx)).Nodup) :
    ∃ k, b + k ≤ order.length ∧ gout (G ++ wt b (order.drop b)) = nos b k ∧
      TS order (b + k) (G ++ gr b ((order.drop b).take k)) (one (gq (G ++ wt b (order.drop b)))) ((ws (nos b (order.length - b))).filter fun p => !(nos b k).contains p.1) := by
  obtain ⟨k, h1, h2, h3, h4⟩ := grant_wt hG b (hok.drop b)
  rw [List.length_drop] at h1 h4
  have hgrm : modesOk ((order.drop b).take k) := (hok.drop b).take k
  refine ⟨k, by omega, h3, ⟨hok, by omega, ?_, ?_, ?_, ?_, ?_, ?_⟩⟩
  · intro a ha
    rw [List.mem_append] at ha
    rcases ha with ha | ha
    · exact hG a ha
    · exact gr_holds b hgrm a ha
  · intro a ha
    rw [List.mem_append] at ha
    rcases ha with ha | ha
    · obtain ⟨j, e1, e2, e3⟩ := hm a ha
      exact ⟨j, by omega, e2, e3⟩
    · obtain ⟨j, e1, e2, e3⟩ := gr_get ha
      rw [List.length_take, List.length_drop] at e1
      refine ⟨b + j, by omega, e2, ?_⟩
      rw [List.getElem?_take_of_lt (by omega), List.getElem?_drop] at e3
      exact e3
  · rw [List.map_append, List.nodup_append]
    refine ⟨hnd, gr_nodup _ _, fun x hx y hy => ?_⟩
    obtain ⟨a, ha, rfl⟩ := List.mem_map.1 hx
    obtain ⟨a', ha', rfl⟩ := List.mem_map.1 hy
    obtain ⟨j, e1, e2, _⟩ := hm a ha
    have := (gr_mem ha').2.1
    omega
  · rw [h2, List.drop_drop]
  · rw [show order.length - b = k + (order.length - (b + k)) by omega, ws_drop]
  · intro hlt
    rcases h4 with h4 | ⟨m, _, hmay⟩
    · omega
    · obtain ⟨a, ha, h0⟩ := may_holder hmay
      rw [List.mem_append] at ha
      rcases ha with ha | ha
      · exact List.ne_nil_of_mem ha
      · exact absurd (wt_mem ha).1 h0
end Go.Proofs.Ytpggillecedocaa
