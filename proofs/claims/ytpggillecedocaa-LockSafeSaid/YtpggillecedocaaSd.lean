import Derived.Test.YtpggillecedocaaSc
namespace Go.Proofs.Ytpggillecedocaa
open Go.RowKit
set_option linter.unusedVariables false

/-! ### The search finds a way back where there is one -/
/-- What a search that found nothing has seen is shut. -/
def Shut (B : Int → List Int) (to : Int) (s s' : List Int) : Prop := ∀ u ∈ s', u ∉ s → ∀ v ∈ B u, v ∈ s' ∧ v ≠ to
theorem srchL_no {B : Int → List Int} {to : Int} {f : Int → List Int → Bool × List Int × List Int} {P : List Int → Prop} (hP : ∀ s t, P s → (∀ x ∈ s, x ∈ t) → P t) (hpre : ∀ b s, ∃ t, (f b s).2.1 = s ++ t)
    : ∀ l s, P s → (∀ b s, b ∈ l → b ∉ s → P s → (f b s).1 = false → b ∈ (f b s).2.1 ∧ Shut B to s (f b s).2.1) → (srchL f to l s).1 = false → (∀ v ∈ l, v ∈ (srchL f to l s).2.1 ∧ v ≠ to) ∧ Shut B to s (srchL f to l s).2.1
  | [], s, _, _, _ => ⟨fun v hv => by simp at hv, fun u hu hn => absurd hu hn⟩
  | b :: bs, s, hs, hf, h => by
    have hf' : ∀ b' s, b' ∈ bs → b' ∉ s → P s → (f b' s).1 = false → b' ∈ (f b' s).2.1 ∧ Shut B to s (f b' s).2.1 := fun b' s hb => hf b' s (by simp [hb])
    unfold srchL at h ⊢
    by_cases e : b = to
    · rw [if_pos e] at h; simp at h
    · rw [if_neg e] at h ⊢
      by_cases hb : b ∈ s
      · rw [if_pos hb] at h ⊢
        obtain ⟨h1, h2⟩ := srchL_no hP hpre bs s hs hf' h
        obtain ⟨t, ht⟩ := srchL_pre hpre to bs s
        refine ⟨fun v hv => ?_, h2⟩
        rcases List.mem_cons.1 hv with rfl | hv
        · exact ⟨by rw [ht]; simp [hb], e⟩
        · exact h1 v hv
      · rw [if_neg hb] at h ⊢
        by_cases hr : (f b s).1 = true
        · rw [if_pos hr] at h; rw [hr] at h; cases h
        · rw [if_neg hr] at h ⊢
          obtain ⟨t0, ht0⟩ := hpre b s
          have hs2 : P (f b s).2.1 := hP s _ hs (fun x hx => by rw [ht0]; simp [hx])
          obtain ⟨g1, g2⟩ := hf b s (by simp) hb hs (by simpa using hr)
          obtain ⟨h1, h2⟩ := srchL_no hP hpre bs _ hs2 hf' h
          obtain ⟨t, ht⟩ := srchL_pre hpre to bs (f b s).2.1
          have hin : ∀ x ∈ (f b s).2.1, x ∈ (srchL f to bs (f b s).2.1).2.1 := fun x hx => by rw [ht]; simp [hx]
          refine ⟨fun v hv => ?_, fun u hu hn v hv => ?_⟩
          · rcases List.mem_cons.1 hv with rfl | hv
            · exact ⟨hin _ g1, e⟩
            · exact h1 v hv
          · by_cases hu2 : u ∈ (f b s).2.1
            · obtain ⟨a1, a2⟩ := g2 u hu2 hn v hv
              exact ⟨hin _ a1, a2⟩
            · exact h2 u hu hu2 v hv
theorem srch_no {B : Int → List Int} {to : Int} {W : List (Int × Nm)} (hB : ∀ t, wOf W t = none → B t = []) : ∀ k fr s, fr ∉ s → nW W s ≤ k → (srch B to k fr s).1 = false → fr ∈ (srch B to k fr s).2.1 ∧ Shut B to s (srch B to k fr s).2.1
  | 0, fr, s, hfr, hn, _ => by
    have hb : B fr = [] := by
      refine hB fr ?_
      cases hw : wOf W fr with
      | none => rfl
      | some n => have := nW_less hw hfr; omega
    refine ⟨by simp [srch], fun u hu hus v hv => ?_⟩
    have : u ∈ s ++ [fr] := hu
    rw [List.mem_append, List.mem_singleton] at this
    rcases this with h | rfl
    · exact absurd h hus
    · rw [hb] at hv; simp at hv
  | k + 1, fr, s, hfr, hn, h => by
    have hr : (srchL (srch B to k) to (B fr) (s ++ [fr])).1 = false := by
      cases hc : (srchL (srch B to k) to (B fr) (s ++ [fr])).1 with
      | false => rfl
      | true =>
        unfold srch srchO at h
        rw [if_pos hc] at h
        simp at h
    have e : (srch B to (k + 1) fr s).2.1 = (srchL (srch B to k) to (B fr) (s ++ [fr])).2.1 := by
      unfold srch srchO
      split <;> rfl
    by_cases hl : B fr = []
    · rw [e, hl]
      refine ⟨by simp [srchL], fun u hu hus v hv => ?_⟩
      have : u ∈ s ++ [fr] := hu
      rw [List.mem_append, List.mem_singleton] at this
      rcases this with h | rfl
      · exact absurd h hus
      · rw [hl] at hv; simp at hv
    · have hn2 : nW W (s ++ [fr]) ≤ k := by
        cases hw : wOf W fr with
        | none => exact absurd (hB fr hw) hl
        | some n => have := nW_less hw hfr; omega
      obtain ⟨h1, h2⟩ := srchL_no (B := B) (to := to) (f := srch B to k) (P := fun s => nW W s ≤ k) (fun s t hs hst => Nat.le_trans (nW_mono hst) hs) (srch_pre B to k) (B fr) (s ++ [fr]) hn2
        (fun b s' hb hbs hs' hf => srch_no hB k b s' hbs hs' hf) hr
      obtain ⟨t, ht⟩ := srchL_pre (srch_pre B to k) to (B fr) (s ++ [fr])
      rw [e]
      refine ⟨by rw [ht]; simp, fun u hu hus v hv => ?_⟩
      by_cases huf : u = fr
      · subst huf
        exact h1 v hv
      · exact h2 u hu (by simp [hus, huf]) v hv

/-- Where each of four waits for one of them, one is on a cycle. -/
theorem some_cycle {B : Int → List Int} {W : List (Int × Nm)} (hB : ∀ t, wOf W t = none → B t = []) (hall : ∀ x, 1 ≤ x → x ≤ 4 → ∃ y ∈ B x, 1 ≤ y ∧ y ≤ 4) {k : Nat} (hk : ∀ s, nW W s ≤ k) :
    ∃ x, 1 ≤ x ∧ x ≤ 4 ∧ (srch B x k x []).1 = true := by
  refine Classical.byContradiction fun hno => ?_
  have hf : ∀ x, 1 ≤ x → x ≤ 4 → (srch B x k x []).1 = false := fun x h1 h2 => by
    cases hc : (srch B x k x []).1 with
    | false => rfl
    | true => exact absurd ⟨x, h1, h2, hc⟩ hno
  -- whom x waits for
  obtain ⟨g, hg⟩ : ∃ g : Int → Int, ∀ x, 1 ≤ x → x ≤ 4 → g x ∈ B x ∧ 1 ≤ g x ∧ g x ≤ 4 := by
    refine Classical.axiomOfChoice (r := fun x y => 1 ≤ x → x ≤ 4 → y ∈ B x ∧ 1 ≤ y ∧ y ≤ 4) (fun x => ?_)
    by_cases hx : 1 ≤ x ∧ x ≤ 4
    · obtain ⟨y, h1, h2⟩ := hall x hx.1 hx.2
      exact ⟨y, fun _ _ => ⟨h1, h2⟩⟩
    · exact ⟨0, fun h1 h2 => absurd ⟨h1, h2⟩ hx⟩
  -- nobody comes back
  have hnb : ∀ x, 1 ≤ x → x ≤ 4 → ∃ s : List Int, x ∈ s ∧ ∀ u ∈ s, ∀ v ∈ B u, v ∈ s ∧ v ≠ x := fun x h1 h2 => by
    obtain ⟨a1, a2⟩ := srch_no hB k x [] (by simp) (hk []) (hf x h1 h2)
    exact ⟨_, a1, fun u hu v hv => a2 u hu (by simp) v hv⟩
  have hwalk : ∀ x, 1 ≤ x → x ≤ 4 → g x ≠ x ∧ g (g x) ≠ x ∧ g (g (g x)) ≠ x ∧ g (g (g (g x))) ≠ x := fun x h1 h2 => by
    obtain ⟨s, hs, hc⟩ := hnb x h1 h2
    obtain ⟨b1, b2, b3⟩ := hg x h1 h2
    obtain ⟨c1, c2, c3⟩ := hg _ b2 b3
    obtain ⟨d1, d2, d3⟩ := hg _ c2 c3
    obtain ⟨e1, e2, e3⟩ := hg _ d2 d3
    obtain ⟨p1, q1⟩ := hc _ hs _ b1
    obtain ⟨p2, q2⟩ := hc _ p1 _ c1
    obtain ⟨p3, q3⟩ := hc _ p2 _ d1
    obtain ⟨p4, q4⟩ := hc _ p3 _ e1
    exact ⟨q1, q2, q3, q4⟩
  have hx0 : (1 : Int) ≤ 1 := by omega
  obtain ⟨b1, b2, b3⟩ := hg 1 (by omega) (by omega)
  obtain ⟨c1, c2, c3⟩ := hg _ b2 b3
  obtain ⟨d1, d2, d3⟩ := hg _ c2 c3
  obtain ⟨e1, e2, e3⟩ := hg _ d2 d3
  have w0 := hwalk 1 (by omega) (by omega)
  have w1 := hwalk _ b2 b3
  have w2 := hwalk _ c2 c3
  have w3 := hwalk _ d2 d3
  obtain ⟨x1, hx1⟩ : ∃ x1, x1 = g 1 := ⟨_, rfl⟩
  rw [← hx1] at *
  obtain ⟨x2, hx2⟩ : ∃ x2, x2 = g x1 := ⟨_, rfl⟩
  rw [← hx2] at *
  obtain ⟨x3, hx3⟩ : ∃ x3, x3 = g x2 := ⟨_, rfl⟩
  rw [← hx3] at *
  obtain ⟨x4, hx4⟩ : ∃ x4, x4 = g x3 := ⟨_, rfl⟩
  rw [← hx4] at *
  omega
end Go.Proofs.Ytpggillecedocaa
