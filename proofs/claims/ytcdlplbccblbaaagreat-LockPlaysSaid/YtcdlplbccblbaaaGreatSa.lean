import Derived.Test.YtcdlplbccblbaaaGreatMg19
import Derived.Test.YtcdlplbccblbaaaGreatBk
namespace Go.Proofs.YtcdlplbccblbaaaGreat
open Go.RowKit
set_option linter.unusedVariables false

/-! ### What holds of any queue -/
/-- Those that have it get on with one another. -/
def HC (q : List Ak) : Prop := ∀ a ∈ q, ∀ b ∈ q, a.tx ≠ b.tx → a.has ≠ 0 → b.has ≠ 0 → compat a.has b.has = true
structure QP (q : List Ak) : Prop where
  nd : (q.map (·.tx)).Nodup
  ok : okQ q
  hc : HC q
def liveQ (q : List Ak) : Prop := ∀ a ∈ q, a.has ≠ 0 ∨ a.wants ≠ 0
/-- a stands ahead of b. -/
def Bef (q : List Ak) (a b : Ak) : Prop := ∃ r1 r2, q = r1 ++ r2 ∧ a ∈ r1 ∧ b ∈ r2
/-- Somebody blocks me. -/
def Blocked (q : List Ak) (me : Ak) : Prop := ∃ a ∈ q, a.tx ≠ me.tx ∧ ((a.has ≠ 0 ∧ compat a.has me.wants = false) ∨ (a.wants ≠ 0 ∧ ((a.has ≠ 0 ∧ me.has = 0) ∨ ((a.has ≠ 0 ↔ me.has ≠ 0) ∧ Bef q a me))))
def waitsQ (q : List Ak) (t : Int) : Prop := ∃ a ∈ q, a.tx = t ∧ a.wants ≠ 0

theorem QP.sub {q l : List Ak} (h : QP q) (hl : l.Sublist q) : QP l :=
  ⟨h.nd.sublist (hl.map _), fun a ha => h.ok a (hl.subset ha), fun a ha b hb => h.hc a (hl.subset ha) b (hl.subset hb)⟩
theorem QP.nil : QP [] := ⟨by simp, fun a ha => by simp at ha, fun a ha => by simp at ha⟩
theorem QP.inj {q : List Ak} (h : QP q) {a b : Ak} (ha : a ∈ q) (hb : b ∈ q) (e : a.tx = b.tx) : a = b := by
  obtain ⟨i, hi, rfl⟩ := List.getElem_of_mem ha
  obtain ⟨j, hj, rfl⟩ := List.getElem_of_mem hb
  have hi' : i < (q.map (·.tx)).length := by simpa using hi
  have hj' : j < (q.map (·.tx)).length := by simpa using hj
  have := (List.getElem_inj (h₀ := hi') (h₁ := hj') h.nd).1 (by simpa using e)
  subst this
  rfl
theorem QP.inj_get {q : List Ak} (h : QP q) {i j : Nat} (hi : i < q.length) (hj : j < q.length) (e : q[i].tx = q[j].tx) : i = j := by
  have hi' : i < (q.map (·.tx)).length := by simpa using hi
  have hj' : j < (q.map (·.tx)).length := by simpa using hj
  exact (List.getElem_inj (h₀ := hi') (h₁ := hj') h.nd).1 (by simpa using e)

/-! ### One place is turned -/
theorem set_tx {q : List Ak} {i : Nat} {x : Ak} (hi : i < q.length) (e : x.tx = q[i].tx) : (q.set i x).map (·.tx) = q.map (·.tx) := by
  rw [List.map_set]
  refine List.ext_getElem (by simp) fun n h1 h2 => ?_
  rw [List.getElem_set]
  split
  · rename_i hin
    subst hin
    simp [e]
  · rfl
theorem mem_set_of {q : List Ak} {i : Nat} {x b : Ak} (hi : i < q.length) (hb : b ∈ q) (hne : b ≠ q[i]) : b ∈ q.set i x := by
  obtain ⟨j, hj, rfl⟩ := List.getElem_of_mem hb
  have hij : i ≠ j := fun e => hne (by subst e; rfl)
  exact List.mem_iff_getElem.2 ⟨j, by simpa using hj, by rw [List.getElem_set, if_neg hij]⟩
theorem mem_set_self' {q : List Ak} {i : Nat} {x : Ak} (hi : i < q.length) : x ∈ q.set i x :=
  List.mem_iff_getElem.2 ⟨i, by simpa using hi, by rw [List.getElem_set, if_pos rfl]⟩
/-- Of the turned queue: each is x, or another one of the queue. -/
theorem QP.mem_set {q : List Ak} (h : QP q) {i : Nat} {x b : Ak} (hi : i < q.length) (e : x.tx = q[i].tx) (hb : b ∈ q.set i x) : b = x ∨ (b ∈ q ∧ b.tx ≠ q[i].tx) := by
  obtain ⟨j, hj, rfl⟩ := List.getElem_of_mem hb
  rw [List.getElem_set]
  split
  · exact .inl rfl
  · rename_i hij
    have hj' : j < q.length := by simpa using hj
    exact .inr ⟨List.getElem_mem _, fun e2 => hij (h.inj_get hi hj' e2.symm)⟩
theorem QP.set_waits {q : List Ak} (h : QP q) {i : Nat} {x : Ak} (hi : i < q.length) (e : x.tx = q[i].tx) (t : Int) : waitsQ (q.set i x) t ↔ (t = q[i].tx ∧ x.wants ≠ 0) ∨ (t ≠ q[i].tx ∧ waitsQ q t) := by
  constructor
  · rintro ⟨a, ha, rfl, hw⟩
    rcases h.mem_set hi e ha with rfl | ⟨h1, h2⟩
    · exact .inl ⟨e, hw⟩
    · exact .inr ⟨h2, a, h1, rfl, hw⟩
  · rintro (⟨rfl, hw⟩ | ⟨hne, a, ha, rfl, hw⟩)
    · exact ⟨x, mem_set_self' hi, e, hw⟩
    · exact ⟨a, mem_set_of hi ha (fun e2 => hne (by rw [e2])), rfl, hw⟩
theorem QP.set {q : List Ak} (h : QP q) {i : Nat} {x : Ak} (hi : i < q.length) (e : x.tx = q[i].tx) (hx : okAk x) (hc : x.has ≠ 0 → ∀ b ∈ q, b.tx ≠ x.tx → b.has ≠ 0 → compat b.has x.has = true) : QP (q.set i x) := by
  refine ⟨by rw [set_tx hi e]; exact h.nd, h.ok.set i hx, fun a ha b hb hab h1 h2 => ?_⟩
  rcases h.mem_set hi e ha with rfl | ⟨a1, a2⟩
  · rcases h.mem_set hi e hb with rfl | ⟨b1, b2⟩
    · exact absurd rfl hab
    · rw [compat_comm]
      exact hc h1 b b1 (fun e2 => hab e2.symm) h2
  · rcases h.mem_set hi e hb with rfl | ⟨b1, b2⟩
    · exact hc h2 a a1 hab h1
    · exact h.hc a a1 b b1 hab h1 h2
theorem Bef.set {q : List Ak} {i : Nat} {x a b : Ak} (h : Bef q a b) (hi : i < q.length) (ha : a ≠ q[i]) (hb : b ≠ q[i]) : Bef (q.set i x) a b := by
  obtain ⟨r1, r2, rfl, h1, h2⟩ := h
  by_cases hl : i < r1.length
  · rw [List.set_append_left _ _ hl]
    rw [List.getElem_append_left hl] at ha
    exact ⟨_, _, rfl, mem_set_of hl h1 ha, h2⟩
  · have hl2 : i - r1.length < r2.length := by rw [List.length_append] at hi; omega
    rw [List.set_append_right _ _ (by omega)]
    rw [List.getElem_append_right (by omega)] at hb
    exact ⟨_, _, rfl, h1, mem_set_of hl2 h2 hb⟩
theorem Bef.snoc {q : List Ak} {a b : Ak} (h : Bef q a b) (x : Ak) : Bef (q ++ [x]) a b := by
  obtain ⟨r1, r2, rfl, h1, h2⟩ := h
  exact ⟨r1, r2 ++ [x], by simp, h1, by simp [h2]⟩
theorem Bef.filter {q : List Ak} {a b : Ak} (h : Bef q a b) (p : Ak → Bool) (ha : p a = true) (hb : p b = true) : Bef (q.filter p) a b := by
  obtain ⟨r1, r2, rfl, h1, h2⟩ := h
  exact ⟨r1.filter p, r2.filter p, List.filter_append .., List.mem_filter.2 ⟨h1, ha⟩, List.mem_filter.2 ⟨h2, hb⟩⟩
theorem Bef.get {q : List Ak} {i j : Nat} (hi : i < q.length) (hj : j < q.length) (hij : i < j) : Bef q q[i] q[j] := by
  refine ⟨q.take j, q.drop j, (List.take_append_drop _ _).symm, ?_, ?_⟩
  · rw [List.mem_take_iff_getElem]
    exact ⟨i, by omega, rfl⟩
  · rw [List.drop_eq_getElem_cons hj]
    exact List.mem_cons_self
theorem Blocked.filter {q : List Ak} {me : Ak} (h : Blocked q me) (hm : me.wants ≠ 0) (p : Ak → Bool) (hp : ∀ a, a.has ≠ 0 ∨ a.wants ≠ 0 → p a = true) : Blocked (q.filter p) me := by
  obtain ⟨a, ha, hne, h⟩ := h
  have hpa : p a = true := by
    rcases h with h | h
    · exact hp a (.inl h.1)
    · exact hp a (.inr h.1)
  refine ⟨a, List.mem_filter.2 ⟨ha, hpa⟩, hne, ?_⟩
  rcases h with h | ⟨h1, h | ⟨h2, h3⟩⟩
  · exact .inl h
  · exact .inr ⟨h1, .inl h⟩
  · exact .inr ⟨h1, .inr ⟨h2, h3.filter p hpa (hp me (.inr hm))⟩⟩
theorem may_false_ex {q : List Ak} {tx m : Int} (h : mayS q tx m = false) : ∃ a ∈ q, a.tx ≠ tx ∧ a.has ≠ 0 ∧ compat a.has m = false := by
  unfold mayS at h
  rw [List.all_eq_false] at h
  obtain ⟨a, ha, hm⟩ := h
  unfold mayOne at hm
  simp at hm
  exact ⟨a, ha, hm.1.1, hm.1.2, hm.2⟩
theorem may_true_all {q : List Ak} {tx m : Int} (h : mayS q tx m = true) : ∀ b ∈ q, b.tx ≠ tx → b.has ≠ 0 → compat b.has m = true := by
  unfold mayS at h
  rw [List.all_eq_true] at h
  intro b hb h1 h2
  have := h b hb
  unfold mayOne at this
  simp [h1, h2] at this
  exact this

/-! ### Granting -/
/-- A state within granting, told of the queue at the beginning. -/
structure GP (q : List Ak) (s : Gs) : Prop where
  qp : QP s.q
  txs : s.q.map (·.tx) = q.map (·.tx)
  wt : ∀ t, waitsQ s.q t ↔ waitsQ q t ∧ t ∉ s.out
  ot : ∀ t ∈ s.out, waitsQ q t
theorem GP.start {q : List Ak} (h : QP q) : GP q ⟨q, [], false⟩ := ⟨h, rfl, fun t => by simp, fun t ht => by simp at ht⟩
theorem passed_wants {c : Bool} {a : Ak} (h : passed c a = false) : a.wants ≠ 0 := by
  intro e
  unfold passed at h
  simp [e] at h
theorem GP.step {q : List Ak} {s : Gs} (h : GP q s) (c : Bool) (i : Nat) : GP q (gstep c i s) := by
  cases h0 : s.stop with
  | true => unfold gstep; rw [if_pos h0]; exact h
  | false =>
    by_cases hi : i < s.q.length
    · cases hp : passed c s.q[i] with
      | true => rw [gstep_skip h0 hi hp]; exact h
      | false =>
        cases hm : mayS s.q s.q[i].tx s.q[i].wants with
        | false => rw [gstep_halt h0 hi hp hm]; exact ⟨h.qp, h.txs, h.wt, h.ot⟩
        | true =>
          rw [gstep_fire h0 hi hp hm]
          have hok : okAk s.q[i] := h.qp.ok _ (List.getElem_mem hi)
          have hq : QP (s.q.set i (fired s.q[i])) := by
            refine h.qp.set hi rfl hok.fired fun h1 b hb hne hb0 => ?_
            unfold fired at h1 hne ⊢
            simp only at h1 hne ⊢
            split
            · rename_i hin
              rw [if_pos hin] at h1
              exact h.qp.hc b hb _ (List.getElem_mem hi) hne hb0 h1
            · exact may_true_all hm b hb hne hb0
          refine ⟨hq, (set_tx (x := fired s.q[i]) hi rfl).trans h.txs, fun t => ?_, fun t ht => ?_⟩
          rotate_left
          · have ht' : t ∈ s.out ++ [s.q[i].tx] := ht
            rw [List.mem_append, List.mem_singleton] at ht'
            rcases ht' with ht' | rfl
            · exact h.ot t ht'
            · exact ((h.wt _).1 ⟨_, List.getElem_mem hi, rfl, passed_wants hp⟩).1
          show waitsQ (s.q.set i (fired s.q[i])) t ↔ _
          rw [h.qp.set_waits (x := fired s.q[i]) hi rfl, h.wt]
          have : (fired s.q[i]).wants = 0 := rfl
          simp only [this, ne_eq, not_true_eq_false, and_false, false_or, List.mem_append, List.mem_singleton, not_or]
          constructor
          · rintro ⟨a, b, c⟩; exact ⟨b, c, a⟩
          · rintro ⟨a, b, c⟩; exact ⟨c, a, b⟩
    · unfold gstep
      rw [if_neg (by simp [h0]), List.getElem?_eq_none (by omega)]
      exact h
theorem GP.pass {q : List Ak} {s : Gs} (h : GP q s) (c : Bool) : ∀ k, GP q (gpass c k s)
  | 0 => h
  | k + 1 => (GP.pass h c k).step c k
/-- How far a round has come. -/
structure PX (c : Bool) (k : Nat) (s0 s : Gs) : Prop where
  len : s.q.length = s0.q.length
  low : s.stop = false → ∀ j (h : j < s.q.length), j < k → passed c s.q[j] = true
  stp : s.stop = true → ∃ (i : Nat) (h : i < s.q.length), passed c s.q[i] = false ∧ mayS s.q s.q[i].tx s.q[i].wants = false ∧ ∀ j (hj : j < s.q.length), j < i → passed c s.q[j] = true
  oth : ∀ j (h : j < s.q.length) (h0 : j < s0.q.length), s.q[j] = s0.q[j] ∨ s.q[j].wants = 0
theorem PX.all {c : Bool} {s0 : Gs} (h0 : s0.stop = false) : ∀ k, PX c k s0 (gpass c k s0)
  | 0 => ⟨rfl, fun _ j h hj => by omega, (fun h => by rw [show (gpass c 0 s0) = s0 from rfl, h0] at h; cases h), fun j h h' => .inl rfl⟩
  | k + 1 => by
    have ih := PX.all (c := c) h0 k
    obtain ⟨s, hs⟩ : ∃ s, s = gpass c k s0 := ⟨_, rfl⟩
    have e : gpass c (k + 1) s0 = gstep c k s := by rw [hs]; rfl
    rw [← hs] at ih
    rw [e]
    cases hst : s.stop with
    | true =>
      have : gstep c k s = s := by unfold gstep; rw [if_pos hst]
      rw [this]
      exact ⟨ih.len, (fun h => by rw [hst] at h; cases h), ih.stp, ih.oth⟩
    | false =>
      by_cases hk : k < s.q.length
      · cases hp : passed c s.q[k] with
        | true =>
          rw [gstep_skip hst hk hp]
          refine ⟨ih.len, fun _ j h hj => ?_, ih.stp, ih.oth⟩
          by_cases hjk : j = k
          · subst hjk; exact hp
          · exact ih.low hst j h (by omega)
        | false =>
          cases hm : mayS s.q s.q[k].tx s.q[k].wants with
          | false =>
            rw [gstep_halt hst hk hp hm]
            exact ⟨ih.len, fun h => by simp at h, fun _ => ⟨k, hk, hp, hm, fun j hj hjk => ih.low hst j hj hjk⟩, ih.oth⟩
          | true =>
            rw [gstep_fire hst hk hp hm]
            refine ⟨by simp [ih.len], fun _ j h hj => ?_, fun h => by simp at h, fun j h h' => ?_⟩
            · simp only [List.getElem_set]
              split
              · unfold passed fired; simp
              · exact ih.low hst j (by simpa using h) (by omega)
            · simp only [List.getElem_set]
              split
              · right; rfl
              · exact ih.oth j (by simpa using h) h'
    
      · have : gstep c k s = s := by unfold gstep; rw [if_neg (by simp [hst]), List.getElem?_eq_none (by omega)]
        rw [this]
        exact ⟨ih.len, fun h j hj _ => ih.low h j hj (by omega), ih.stp, ih.oth⟩
theorem passed_true {a : Ak} : passed true a = true ↔ a.wants = 0 ∨ a.has = 0 := by
  unfold passed
  by_cases h : a.wants = 0 <;> by_cases h2 : a.has = 0 <;> simp [h, h2]
theorem passed_false {a : Ak} : passed false a = true ↔ a.wants = 0 ∨ a.has ≠ 0 := by
  unfold passed
  by_cases h : a.wants = 0 <;> by_cases h2 : a.has = 0 <;> simp [h, h2]

/-- Whoever still waits is blocked. -/
theorem gk_blocked {q : List Ak} (h : QP q) : ∀ a ∈ (gk q 2).q, a.wants ≠ 0 → Blocked (gk q 2).q a := by
  have e1 : gk q 1 = gpass true q.length ⟨q, [], false⟩ := rfl
  have e2 : gk q 2 = gpass false q.length (gk q 1) := rfl
  have x1 := PX.all (c := true) (s0 := ⟨q, [], false⟩) rfl q.length
  have g1 := (GP.start h).pass true q.length
  rw [← e1] at x1 g1
  have l1 : (gk q 1).q.length = q.length := x1.len
  -- who waits and is no less than the first that is stopped
  have hblk : ∀ (s : Gs) (c : Bool) (i : Nat) (hi : i < s.q.length), QP s.q → passed c s.q[i] = false → mayS s.q s.q[i].tx s.q[i].wants = false → (∀ j (hj : j < s.q.length), j < i → passed c s.q[j] = true) →
      ∀ j (hj : j < s.q.length), s.q[j].wants ≠ 0 → (s.q[j].has ≠ 0 ↔ s.q[i].has ≠ 0) → passed c s.q[j] = false → Blocked s.q s.q[j] := by
    intro s c i hi hq hp hm hlow j hj hw hsame hpj
    have hij : i ≤ j := by
      refine Nat.le_of_not_lt fun hlt => ?_
      rw [hlow j hj hlt] at hpj
      cases hpj
    by_cases hji : j = i
    · subst hji
      obtain ⟨b, hb, h1, h2, h3⟩ := may_false_ex hm
      exact ⟨b, hb, h1, .inl ⟨h2, h3⟩⟩
    · have hlt : i < j := by omega
      refine ⟨s.q[i], List.getElem_mem hi, fun e => hji (hq.inj_get hj hi e.symm), .inr ⟨passed_wants hp, .inr ⟨hsame.symm, Bef.get hi hj hlt⟩⟩⟩
  cases hst : (gk q 1).stop with
  | true =>
    have e3 : gk q 2 = gk q 1 := by rw [e2]; exact gpass_stop _ _ hst _
    rw [e3]
    obtain ⟨i, hi, hp, hm, hlow⟩ := x1.stp hst
    have hpi : ¬ ((gk q 1).q[i].wants = 0 ∨ (gk q 1).q[i].has = 0) := fun h => by rw [passed_true.2 h] at hp; cases hp
    intro a ha hw
    obtain ⟨j, hj, rfl⟩ := List.getElem_of_mem ha
    by_cases hh : (gk q 1).q[j].has = 0
    · refine ⟨(gk q 1).q[i], List.getElem_mem hi, fun e => ?_, .inr ⟨passed_wants hp, .inl ⟨fun e => hpi (.inr e), hh⟩⟩⟩
      have := g1.qp.inj_get hi hj e
      subst this
      exact hpi (.inr hh)
    · refine hblk (gk q 1) true i hi g1.qp hp hm hlow j hj hw ⟨fun _ e => hpi (.inr e), fun _ => hh⟩ ?_
      cases hpj : passed true (gk q 1).q[j] with
      | false => rfl
      | true => rcases passed_true.1 hpj with h | h
                · exact absurd h hw
                · exact absurd h hh
  | false =>
    have low1 := x1.low hst
    have x2 := PX.all (c := false) (s0 := gk q 1) hst q.length
    have g2 := g1.pass false q.length
    rw [← e2] at x2 g2
    have hnc : ∀ j (hj : j < (gk q 2).q.length), (gk q 2).q[j].wants ≠ 0 → (gk q 2).q[j].has = 0 := by
      intro j hj hw
      have hj1 : j < (gk q 1).q.length := by rw [← x2.len]; exact hj
      rcases x2.oth j hj hj1 with e | e
      · rw [e] at hw ⊢
        rcases passed_true.1 (low1 j hj1 (by omega)) with h | h
        · exact absurd h hw
        · exact h
      · exact absurd e hw
    intro a ha hw
    obtain ⟨j, hj, rfl⟩ := List.getElem_of_mem ha
    have hh := hnc j hj hw
    have hpj : passed false (gk q 2).q[j] = false := by
      cases hpj : passed false (gk q 2).q[j] with
      | false => rfl
      | true => rcases passed_false.1 hpj with h | h
                · exact absurd h hw
                · exact absurd hh h
    cases hst2 : (gk q 2).stop with
    | true =>
      obtain ⟨i, hi, hp, hm, hlow⟩ := x2.stp hst2
      have hi0 := hnc i hi (passed_wants hp)
      exact hblk (gk q 2) false i hi g2.qp hp hm hlow j hj hw ⟨fun h => absurd hh h, fun h => absurd hi0 h⟩ hpj
    | false =>
      have := x2.low hst2 j hj (by have := x2.len; omega)
      rw [hpj] at this
      cases this
theorem zAk_of {a : Ak} (h : a.has ≠ 0 ∨ a.wants ≠ 0) : (!zAk a) = true := by
  unfold zAk
  rcases h with h | h <;> simp [h]
/-- WHAT GRANTING LEAVES. -/
structure Granted (q q' : List Ak) (out : List Int) : Prop where
  qp : QP q'
  live : liveQ q'
  blk : ∀ a ∈ q', a.wants ≠ 0 → Blocked q' a
  wt : ∀ t, waitsQ q' t ↔ waitsQ q t ∧ t ∉ out
  txs : ∀ a ∈ q', ∃ b ∈ q, b.tx = a.tx
  ot : ∀ t ∈ out, waitsQ q t
theorem granted {q : List Ak} (h : QP q) : Granted q (gq q) (gout q) := by
  have g2 : GP q (gk q 2) := ((GP.start h).pass true q.length).pass false q.length
  have hmem : ∀ {a}, a ∈ gq q → a ∈ (gk q 2).q ∧ (a.has ≠ 0 ∨ a.wants ≠ 0) := by
    intro a ha
    have := List.mem_filter.1 ha
    refine ⟨this.1, ?_⟩
    have h2 := this.2
    unfold zAk at h2
    simp at h2
    exact h2
  refine ⟨g2.qp.sub List.filter_sublist, fun a ha => (hmem ha).2, fun a ha hw => (gk_blocked h a (hmem ha).1 hw).filter hw _ (fun b hb => zAk_of hb), fun t => ?_, fun a ha => ?_, g2.ot⟩
  · rw [show gout q = (gk q 2).out from rfl, ← g2.wt]
    constructor
    · rintro ⟨a, ha, h1, h2⟩; exact ⟨a, (hmem ha).1, h1, h2⟩
    · rintro ⟨a, ha, h1, h2⟩; exact ⟨a, List.mem_filter.2 ⟨ha, zAk_of (.inr h2)⟩, h1, h2⟩
  · have := List.mem_map_of_mem (f := (·.tx)) (hmem ha).1
    rw [g2.txs] at this
    obtain ⟨b, hb, e⟩ := List.mem_map.1 this
    exact ⟨b, hb, e⟩
end Go.Proofs.YtcdlplbccblbaaaGreat
