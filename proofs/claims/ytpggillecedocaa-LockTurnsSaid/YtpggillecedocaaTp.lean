import Derived.Test.YtpggillecedocaaI
import Derived.Test.YtpggillecedocaaHa
namespace Go.Proofs.Ytpggillecedocaa
open Go.RowKit
set_option linter.unusedVariables false

/-! ### Who came first has the lock first: the plain law -/
def nT : Nm := ⟨2, 1, 0, 0⟩
/-- Those that wait, from number b on. -/
def wt : Nat → List Int → List Ak
  | _, [] => []
  | b, m :: ms => ⟨(b : Int) + 2, 0, m, false⟩ :: wt (b + 1) ms
/-- Those that have it, from number b on. -/
def gr : Nat → List Int → List Ak
  | _, [] => []
  | b, m :: ms => ⟨(b : Int) + 2, m, 0, false⟩ :: gr (b + 1) ms
def nos : Nat → Nat → List Int
  | _, 0 => []
  | b, k + 1 => ((b : Int) + 2) :: nos (b + 1) k
theorem wt_len (b : Nat) (ms : List Int) : (wt b ms).length = ms.length := by
  induction ms generalizing b with
  | nil => rfl
  | cons m ms ih => simp [wt, ih]
theorem gr_len (b : Nat) (ms : List Int) : (gr b ms).length = ms.length := by
  induction ms generalizing b with
  | nil => rfl
  | cons m ms ih => simp [gr, ih]
theorem nos_len (b k : Nat) : (nos b k).length = k := by
  induction k generalizing b with
  | zero => rfl
  | succ k ih => simp [nos, ih]
theorem nos_get {b k i : Nat} (h : i < k) : (nos b k)[i]'(by rw [nos_len]; exact h) = (b : Int) + i + 2 := by
  induction k generalizing b i with
  | zero => omega
  | succ k ih =>
    cases i with
    | zero => simp [nos]
    | succ i =>
      simp only [nos, List.getElem_cons_succ]
      rw [ih (by omega)]
      push_cast
      omega
theorem nos_snoc (b k : Nat) : nos b (k + 1) = nos b k ++ [(b : Int) + k + 2] := by
  induction k generalizing b with
  | zero => simp [nos]
  | succ k ih =>
    rw [nos, ih (b + 1)]
    simp only [nos, List.cons_append, List.cons.injEq, true_and]
    congr 2
    push_cast
    omega
theorem wt_mem {b : Nat} {ms : List Int} {a : Ak} (h : a ∈ wt b ms) : a.has = 0 ∧ a.inst = false ∧ (b : Int) + 2 ≤ a.tx ∧ a.tx < (b : Int) + ms.length + 2 ∧ a.wants ∈ ms := by
  induction ms generalizing b with
  | nil => simp [wt] at h
  | cons m ms ih =>
    simp only [wt, List.mem_cons] at h
    rcases h with rfl | h
    · refine ⟨rfl, rfl, by simp, ?_, by simp⟩
      simp only [List.length_cons]; push_cast; omega
    · obtain ⟨h1, h2, h3, h4, h5⟩ := ih h
      refine ⟨h1, h2, ?_, ?_, by simp [h5]⟩
      · push_cast at h3; omega
      · simp only [List.length_cons]; push_cast at h4 ⊢; omega
theorem gr_mem {b : Nat} {ms : List Int} {a : Ak} (h : a ∈ gr b ms) : a.wants = 0 ∧ (b : Int) + 2 ≤ a.tx ∧ a.tx < (b : Int) + ms.length + 2 ∧ a.has ∈ ms := by
  induction ms generalizing b with
  | nil => simp [gr] at h
  | cons m ms ih =>
    simp only [gr, List.mem_cons] at h
    rcases h with rfl | h
    · refine ⟨rfl, by simp, ?_, by simp⟩
      simp only [List.length_cons]; push_cast; omega
    · obtain ⟨h1, h3, h4, h5⟩ := ih h
      refine ⟨h1, ?_, ?_, by simp [h5]⟩
      · push_cast at h3; omega
      · simp only [List.length_cons]; push_cast at h4 ⊢; omega

/-- One of this list that has the lock waits for nothing. -/
def Holds (q : List Ak) : Prop := ∀ a ∈ q, a.has ≠ 0 ∧ a.wants = 0
def modesOk (ms : List Int) : Prop := ∀ m ∈ ms, isMode m = true
theorem mode_ne {m : Int} (h : isMode m = true) : m ≠ 0 := by have := ok_mode h; omega

/-- The first round passes all by. -/
theorem pass_true (G : List Ak) (hG : Holds G) (b : Nat) (ms : List Int) (out : List Int) : ∀ k, gpass true k ⟨G ++ wt b ms, out, false⟩ = ⟨G ++ wt b ms, out, false⟩
  | 0 => rfl
  | k + 1 => by
    unfold gpass
    rw [pass_true G hG b ms out k]
    by_cases hk : k < (G ++ wt b ms).length
    · refine gstep_skip rfl hk ?_
      have hm := List.getElem_mem hk
      unfold passed
      show ((G ++ wt b ms)[k].wants == 0 || _) = true
      rw [List.mem_append] at hm
      rcases hm with hm | hm
      · rw [(hG _ hm).2]; rfl
      · rw [(wt_mem hm).1]; simp
    · unfold gstep
      simp only [if_neg Bool.false_ne_true]
      rw [List.getElem?_eq_none (by simpa using hk)]

/-- How far the second round comes. -/
structure Step (G : List Ak) (b : Nat) (ms : List Int) (j : Nat) (k : Nat) (s : Gs) : Prop where
  le : k ≤ ms.length
  q : s.q = G ++ gr b (ms.take k) ++ wt (b + k) (ms.drop k)
  out : s.out = nos b k
  go : s.stop = false → G.length + k = j ∨ (j ≤ G.length ∧ k = 0)
  st : s.stop = true → ∃ m, ms[k]? = some m ∧ mayS s.q ((b : Int) + k + 2) m = false
theorem gr_snoc (b : Nat) (ms : List Int) (m : Int) : gr b (ms ++ [m]) = gr b ms ++ [⟨(b : Int) + ms.length + 2, m, 0, false⟩] := by
  induction ms generalizing b with
  | nil => simp [gr]
  | cons x ms ih =>
    simp only [List.cons_append, gr, ih, List.cons.injEq, true_and]
    congr 3
    simp only [List.length_cons]; push_cast; omega
theorem drop_cons {ms : List Int} {k : Nat} (h : k < ms.length) : ms.drop k = ms[k] :: ms.drop (k + 1) := List.drop_eq_getElem_cons h
theorem pass_false (G : List Ak) (hG : Holds G) (b : Nat) (ms : List Int) (hms : modesOk ms) : ∀ j, j ≤ G.length + ms.length → ∃ k, Step G b ms j k (gpass false j ⟨G ++ wt b ms, [], false⟩)
  | 0, _ => ⟨0, by omega, by simp [gpass, gr], rfl, fun _ => .inr ⟨by omega, rfl⟩, fun h => by simp [gpass] at h⟩
  | j + 1, hj => by
    obtain ⟨k, hs⟩ := pass_false G hG b ms hms j (by omega)
    unfold gpass
    obtain ⟨s, hse⟩ : ∃ s, s = gpass false j ⟨G ++ wt b ms, [], false⟩ := ⟨_, rfl⟩
    rw [← hse] at hs ⊢
    clear hse
    obtain ⟨h1, h2, h3, h4, h5⟩ := hs
    cases hst : s.stop with
    | true =>
      have e : gstep false j s = s := by unfold gstep; rw [if_pos hst]
      rw [e]
      exact ⟨k, h1, h2, h3, fun h => (by rw [hst] at h; cases h), h5⟩
    | false =>
      have hln : s.q.length = G.length + ms.length := by
        rw [h2]
        simp only [List.length_append, gr_len, wt_len, List.length_take, List.length_drop]
        omega
      have hjl : j < s.q.length := by omega
      have hgo := h4 hst
      by_cases hjG : j < G.length
      · have hk0 : k = 0 := by omega
        subst hk0
        have hel : s.q[j] ∈ G := by
          have : s.q[j] = G[j] := by
            simp only [h2, List.append_assoc]
            rw [List.getElem_append_left hjG]
          rw [this]
          exact List.getElem_mem hjG
        have e : gstep false j s = s := gstep_skip hst hjl (by unfold passed; rw [(hG _ hel).2]; rfl)
        rw [e]
        exact ⟨0, h1, h2, h3, fun _ => .inr ⟨by omega, rfl⟩, h5⟩
      · have hjk : G.length + k = j := by omega
        have hkm : k < ms.length := by omega
        have hq2 : s.q = (G ++ gr b (ms.take k)) ++ ⟨((b + k : Nat) : Int) + 2, 0, ms[k], false⟩ :: wt (b + k + 1) (ms.drop (k + 1)) := by rw [h2, drop_cons hkm]; rfl
        have hpl : (G ++ gr b (ms.take k)).length = j := by simp [gr_len]; omega
        have hel : s.q[j] = ⟨((b + k : Nat) : Int) + 2, 0, ms[k], false⟩ := by
          simp only [hq2]
          rw [List.getElem_append_right (by omega)]
          simp [hpl]
        have hmm : isMode ms[k] = true := hms _ (List.getElem_mem hkm)
        have hp : passed false s.q[j] = false := by
          rw [hel]
          unfold passed
          simp [mode_ne hmm]
        have htx : ((b + k : Nat) : Int) + 2 = (b : Int) + k + 2 := by push_cast; omega
        cases hmay : mayS s.q s.q[j].tx s.q[j].wants with
        | false =>
          rw [gstep_halt hst hjl hp hmay]
          refine ⟨k, h1, h2, h3, (fun h => by simp at h), fun _ => ⟨ms[k], List.getElem?_eq_getElem hkm, ?_⟩⟩
          rw [hel] at hmay
          simp only [htx] at hmay
          exact hmay
        | true =>
          rw [gstep_fire hst hjl hp hmay]
          refine ⟨k + 1, by omega, ?_, ?_, fun _ => .inl (by omega), fun h => by simp at h⟩
          · show s.q.set j (fired s.q[j]) = _
            rw [hel]
            simp only [hq2]
            rw [List.set_append_right _ _ (by omega), hpl, Nat.sub_self, List.set_cons_zero, List.take_succ_eq_append_getElem hkm, gr_snoc]
            have e1 : ((ms.take k).length : Int) = k := by rw [List.length_take]; omega
            rw [e1]
            simp only [fired, htx, List.append_assoc, List.singleton_append, Nat.add_assoc]
            rfl
          · show s.out ++ [s.q[j].tx] = _
            rw [h3, hel, nos_snoc, htx]
theorem stay_all {q : List Ak} (h : ∀ a ∈ q, a.has ≠ 0 ∨ a.wants ≠ 0) : stay q = q := by
  unfold stay
  rw [List.filter_eq_self]
  intro a ha
  unfold zAk
  rcases h a ha with h | h <;> simp [h]
theorem gr_holds (b : Nat) {ms : List Int} (h : modesOk ms) : Holds (gr b ms) := fun a ha => by
  obtain ⟨h1, _, _, h4⟩ := gr_mem ha
  exact ⟨mode_ne (h _ h4), h1⟩
theorem modesOk.take {ms : List Int} (h : modesOk ms) (k : Nat) : modesOk (ms.take k) := fun m hm => h m (List.mem_of_mem_take hm)
theorem modesOk.drop {ms : List Int} (h : modesOk ms) (k : Nat) : modesOk (ms.drop k) := fun m hm => h m (List.mem_of_mem_drop hm)

/-- What granting does to those that have it and those that wait in a row. -/
theorem grant_wt {G : List Ak} (hG : Holds G) (b : Nat) {ms : List Int} (hms : modesOk ms) : ∃ k, k ≤ ms.length ∧ gq (G ++ wt b ms) = G ++ gr b (ms.take k) ++ wt (b + k) (ms.drop k) ∧ gout (G ++ wt b ms) = nos b k ∧
    (k = ms.length ∨ ∃ m, ms[k]? = some m ∧ mayS (G ++ gr b (ms.take k) ++ wt (b + k) (ms.drop k)) ((b : Int) + k + 2) m = false) := by
  have hl : (G ++ wt b ms).length = G.length + ms.length := by simp [wt_len]
  have hgk : gk (G ++ wt b ms) 2 = gpass false (G.length + ms.length) ⟨G ++ wt b ms, [], false⟩ := by
    show gpass false (G ++ wt b ms).length (gpass true (G ++ wt b ms).length ⟨G ++ wt b ms, [], false⟩) = _
    rw [pass_true G hG b ms [] _, hl]
  obtain ⟨k, h1, h2, h3, h4, h5⟩ := pass_false G hG b ms hms _ (Nat.le_refl _)
  rw [← hgk] at h2 h3 h4 h5
  refine ⟨k, h1, ?_, h3, ?_⟩
  · unfold gq
    rw [h2]
    refine stay_all fun a ha => ?_
    simp only [List.mem_append] at ha
    rcases ha with (ha | ha) | ha
    · exact .inl (hG a ha).1
    · exact .inl (gr_holds b (hms.take k) a ha).1
    · exact .inr (mode_ne (hms.drop k _ (wt_mem ha).2.2.2.2))
  · cases hst : (gk (G ++ wt b ms) 2).stop with
    | false => exact .inl (by have := h4 hst; omega)
    | true =>
      obtain ⟨m, hm, hy⟩ := h5 hst
      rw [h2] at hy
      exact .inr ⟨m, hm, hy⟩
end Go.Proofs.Ytpggillecedocaa
