import Derived.Test.YtpggillecedocaaAb
namespace Go.Proofs.Ytpggillecedocaa
open Go.RowKit
set_option linter.unusedVariables false

/-! ### What holds of any table -/
def okMode (m : Int) : Prop := 0 ≤ m ∧ m ≤ 5
def okAk (a : Ak) : Prop := okMode a.has ∧ okMode a.wants
def okQ (q : List Ak) : Prop := ∀ a ∈ q, okAk a
/-- All modes are modes; the names are of the kinds that P tells. -/
def Good (P : Nm → Prop) (L : List (Nm × List Ak)) : Prop := ∀ p ∈ L, P p.1 ∧ okQ p.2

theorem okQ.stay {q : List Ak} (h : okQ q) : okQ (stay q) := fun a ha => h a (List.mem_filter.1 ha).1
theorem okQ.set {q : List Ak} (h : okQ q) (i : Nat) {a : Ak} (ha : okAk a) : okQ (q.set i a) := fun b hb => by
  rcases List.mem_or_eq_of_mem_set hb with hb | rfl
  · exact h b hb
  · exact ha
theorem okAk.fired {a : Ak} (h : okAk a) : okAk (fired a) := by
  unfold Ytpggillecedocaa.fired
  refine ⟨?_, by unfold okMode; simp⟩
  split
  · exact h.1
  · exact h.2
theorem okQ.gstep {s : Gs} (h : okQ s.q) (conv : Bool) (i : Nat) : okQ (gstep conv i s).q := by
  unfold Ytpggillecedocaa.gstep
  split
  · exact h
  · split
    · exact h
    · rename_i a ha
      split
      · exact h
      · split
        · exact h.set i (h a (List.mem_of_getElem? ha)).fired
        · exact h
theorem okQ.gpass {s : Gs} (h : okQ s.q) (conv : Bool) : ∀ k, okQ (gpass conv k s).q
  | 0 => h
  | k + 1 => (okQ.gpass h conv k).gstep conv k
theorem okQ.gk {q : List Ak} (h : okQ q) : ∀ k, okQ (gk q k).q
  | 0 => h
  | k + 1 => (okQ.gk h k).gpass (k == 0) q.length
theorem okQ.gq {q : List Ak} (h : okQ q) : okQ (gq q) := (h.gk 2).stay
theorem okQ.erase {q : List Ak} (h : okQ q) (i : Nat) : okQ (q.eraseIdx i) := fun a ha => h a (List.mem_of_mem_eraseIdx ha)
theorem okQ.nil : okQ [] := fun a ha => by simp at ha
theorem Good.qL {P : Nm → Prop} {L : List (Nm × List Ak)} (h : Good P L) (n : Nm) : okQ (qL L n) := by
  unfold Ytpggillecedocaa.qL
  cases hf : L.find? fun p => p.1 == n with
  | none => exact .nil
  | some p => exact (h p (List.mem_of_find?_eq_some hf)).2
theorem repl_name {L : List (Nm × List Ak)} {n : Nm} {q : List Ak} {p : Nm × List Ak} (h : p ∈ repl L n q) : p ∈ L ∨ (p = (n, q) ∧ n ∈ L.map (·.1)) := by
  unfold repl at h
  rw [List.mem_flatMap] at h
  obtain ⟨p0, h0, h1⟩ := h
  split at h1
  · rename_i hn
    split at h1
    · simp at h1
    · simp at h1; exact .inr ⟨h1, List.mem_map.2 ⟨p0, h0, hn⟩⟩
  · simp at h1; exact .inl (h1 ▸ h0)
theorem Good.repl {P : Nm → Prop} {L : List (Nm × List Ak)} (h : Good P L) (n : Nm) {q : List Ak} (hq : okQ q) : Good P (repl L n q) := fun p hp => by
  rcases repl_name hp with hp | ⟨rfl, hn⟩
  · exact h p hp
  · obtain ⟨p0, h0, e⟩ := List.mem_map.1 hn
    exact ⟨e ▸ (h p0 h0).1, hq⟩
theorem Good.relOne {P : Nm → Prop} {s : Rs} (h : Good P s.L) (tx : Int) (n : Nm) : Good P (relOne tx s n).L := by
  unfold Ytpggillecedocaa.relOne
  split
  · exact h
  · exact h.repl n ((h.qL n).erase _).gq
theorem Good.relK {P : Nm → Prop} (tx : Int) : ∀ (l : List Nm) {s : Rs}, Good P s.L → Good P (relK tx s l).L
  | [], s, h => h
  | n :: l, s, h => Good.relK tx l (h.relOne tx n)
theorem Good.rel {P : Nm → Prop} {L : List (Nm × List Ak)} (h : Good P L) (tx : Int) (W : List (Int × Nm)) : Good P (rel tx L W).L := Good.relK tx _ h
theorem Fits.rel {N : Nat} {L : List (Nm × List Ak)} (h : Fits N L) (tx : Int) (W : List (Int × Nm)) : Fits N (rel tx L W).L := (Fits.relK tx _ h).1
theorem Fits.mono {N M : Nat} {L : List (Nm × List Ak)} (h : Fits N L) (hN : N ≤ M) : Fits M L := ⟨Nat.le_trans h.1 hN, fun p hp => Nat.le_trans (h.2 p hp) hN⟩

theorem ok_mode {m : Int} (h : isMode m = true) : 1 ≤ m ∧ m ≤ 5 := by
  unfold isMode at h
  simp at h
  omega
theorem ok_join {a m : Int} (ha : okMode a) (hm : isMode m = true) : okMode (join a m) := by
  obtain ⟨h1, h2⟩ := ok_mode hm
  obtain ⟨h3, h4⟩ := ha
  have ha' : a = 0 ∨ a = 1 ∨ a = 2 ∨ a = 3 ∨ a = 4 ∨ a = 5 := by omega
  have hm' : m = 1 ∨ m = 2 ∨ m = 3 ∨ m = 4 ∨ m = 5 := by omega
  rcases ha' with rfl | rfl | rfl | rfl | rfl | rfl <;> rcases hm' with rfl | rfl | rfl | rfl | rfl <;> exact ⟨by decide, by decide⟩
theorem okQ.getD {q : List Ak} (h : okQ q) (i : Nat) : okAk (q.getD i ⟨0, 0, 0, false⟩) := by
  by_cases hi : i < q.length
  · have : q.getD i ⟨0, 0, 0, false⟩ = q[i] := by simp [List.getD, hi]
    rw [this]
    exact h _ (List.getElem_mem hi)
  · have : q.getD i ⟨0, 0, 0, false⟩ = ⟨0, 0, 0, false⟩ := by rw [List.getD, List.getElem?_eq_none (by omega)]; rfl
    rw [this]
    exact ⟨⟨by simp, by simp⟩, ⟨by simp, by simp⟩⟩
theorem okQ.append {q : List Ak} (h : okQ q) {a : Ak} (ha : okAk a) : okQ (q ++ [a]) := fun b hb => by
  rw [List.mem_append, List.mem_singleton] at hb
  rcases hb with hb | rfl
  · exact h b hb
  · exact ha

theorem ask_keeps {P : Nm → Prop} {N : Nat} {L : List (Nm × List Ak)} (h : Good P L) (hf : Fits N L) (W : List (Int × Nm)) (tx : Int) {n : Nm} (hn : P n) (mode : Int) (inst wt : Bool) :
    Good P (ask L W tx n mode inst wt).L ∧ Fits (N + 1) (ask L W tx n mode inst wt).L := by
  have hf1 : Fits (N + 1) L := hf.mono (by omega)
  unfold ask
  split
  · exact ⟨h, hf1⟩
  · rename_i hbad
    have hm : isMode mode = true := by
      cases hi : isMode mode
      · exact absurd (.inr hi) hbad
      · rfl
    have om : okMode mode := by obtain ⟨a, b⟩ := ok_mode hm; exact ⟨by omega, b⟩
    have o0 : okMode 0 := ⟨by omega, by omega⟩
    split
    · exact ⟨h, hf1⟩
    · split
      · simp only
        split
        · exact ⟨h, hf1⟩
        · refine ⟨fun p hp => ?_, by simp; exact hf.1, fun p hp => ?_⟩
          · rw [List.mem_append, List.mem_singleton] at hp
            rcases hp with hp | rfl
            · exact h p hp
            · exact ⟨hn, fun a ha => by simp at ha; subst ha; exact ⟨om, o0⟩⟩
          · rw [List.mem_append, List.mem_singleton] at hp
            rcases hp with hp | rfl
            · exact hf1.2 p hp
            · simp
      · rename_i nm q hfq
        have hqm := List.mem_of_find?_eq_some hfq
        have hq : okQ q := (h _ hqm).2
        have hql : q.length ≤ N := hf.2 _ hqm
        split
        · split
          · simp only
            split
            · exact ⟨h, hf1⟩
            · exact ⟨h.repl _ (hq.append ⟨om, o0⟩), hf1.repl _ (by simp; exact hql)⟩
          · simp only
            split
            · exact ⟨h, hf1⟩
            · exact ⟨h.repl _ (hq.append ⟨o0, om⟩), hf1.repl _ (by simp; exact hql)⟩
        · rename_i i _
          have hg := hq.getD i
          split
          · exact ⟨h, hf1⟩
          · split
            · simp only
              split
              · exact ⟨h, hf1⟩
              · exact ⟨h.repl _ (hq.set _ ⟨ok_join hg.1 hm, hg.2⟩), hf1.repl _ (by simp; omega)⟩
            · simp only
              split
              · exact ⟨h, hf1⟩
              · exact ⟨h.repl _ (hq.set _ ⟨hg.1, ok_join hg.1 hm⟩), hf1.repl _ (by simp; omega)⟩
end Go.Proofs.Ytpggillecedocaa
