import Derived.Test.YtjonmcbglcidhaaGreatHe
namespace Go.Proofs.YtjonmcbglcidhaaGreat
open Go.RowKit
set_option linter.unusedVariables false

/-! ### The order of rows -/
/-- A way of comparing: one sign, the other way round the other; no two but the same are alike; it goes on. -/
structure Ord {α : Type} (f : α → α → Int) : Prop where
  zero : ∀ a b, f a b = 0 ↔ a = b
  swap : ∀ a b, f a b < 0 ↔ 0 < f b a
  trans : ∀ a b c, f a b < 0 → f b c < 0 → f a c < 0
theorem cI_val (a b : Int) : (cI a b < 0 ↔ a < b) ∧ (cI a b = 0 ↔ a = b) ∧ (0 < cI a b ↔ b < a) := by
  unfold cI
  split
  · refine ⟨?_, ?_, ?_⟩ <;> simp <;> omega
  · split
    · refine ⟨?_, ?_, ?_⟩ <;> simp <;> omega
    · refine ⟨?_, ?_, ?_⟩ <;> simp <;> omega
theorem cI_ord : Ord cI := by
  refine ⟨fun a b => (cI_val a b).2.1, fun a b => ?_, fun a b c => ?_⟩
  · rw [(cI_val a b).1, (cI_val b a).2.2]
  · rw [(cI_val a b).1, (cI_val b c).1, (cI_val a c).1]
    omega
theorem toList_inj {a b : ByteArray} (h : a.toList = b.toList) : a = b := by
  rw [ByteArray.toList_eq, ByteArray.toList_eq] at h
  obtain ⟨⟨la⟩⟩ := a
  obtain ⟨⟨lb⟩⟩ := b
  simp at h
  rw [h]
theorem cS_val (a b : ByteArray) : (cS a b < 0 ↔ a.toList < b.toList) ∧ (cS a b = 0 ↔ a = b) ∧ (0 < cS a b ↔ b.toList < a.toList) := by
  unfold cS
  rw [bytesLess_eq]
  by_cases h : a.toList < b.toList
  · have h2 : ¬ b.toList < a.toList := List.lt_asymm h
    have h3 : a ≠ b := fun e => by rw [e] at h; exact List.lt_irrefl _ h
    simp [h, h2, h3]
  · by_cases e : a.toList = b.toList
    · have e2 := toList_inj e
      subst e2
      simp [h]
    · have h2 : b.toList < a.toList := Classical.byContradiction fun h' => e (List.le_antisymm (List.not_lt.1 h') (List.not_lt.1 h))
      have h3 : a ≠ b := fun e2 => e (by rw [e2])
      simp [h, e, h2, h3]
theorem cS_ord : Ord cS := by
  refine ⟨fun a b => (cS_val a b).2.1, fun a b => ?_, fun a b c => ?_⟩
  · rw [(cS_val a b).1, (cS_val b a).2.2]
  · rw [(cS_val a b).1, (cS_val b c).1, (cS_val a c).1]
    exact List.lt_trans
theorem Ord.pos {α : Type} {f : α → α → Int} (h : Ord f) (a b c : α) (h1 : 0 < f a b) (h2 : 0 < f b c) : 0 < f a c := (h.swap c a).1 (h.trans c b a ((h.swap c b).2 h2) ((h.swap b a).2 h1))
theorem Ord.self {α : Type} {f : α → α → Int} (h : Ord f) (a : α) : f a a = 0 := (h.zero a a).2 rfl

theorem cmpV_ord : Ord cmpV := by
  have o1 := cI_ord
  have o2 := cS_ord
  refine ⟨fun a b => ?_, fun a b => ?_, fun a b c => ?_⟩
  · obtain ⟨ak, an, sa⟩ := a
    obtain ⟨bk, bn, sb⟩ := b
    unfold cmpV or3
    simp only [V.mk.injEq]
    rw [← o1.zero ak bk, ← o1.zero an bn, ← o2.zero sa sb]
    split
    · rename_i h; simp [h]
    · rename_i h; simp at h
      split
      · rename_i h2; simp [h2, h]
      · rename_i h2; simp at h2; simp [h2, h]
  · obtain ⟨ak, an, sa⟩ := a
    obtain ⟨bk, bn, sb⟩ := b
    unfold cmpV or3
    simp only
    have z1 := o1.zero ak bk
    have z1' := o1.zero bk ak
    have z2 := o1.zero an bn
    have z2' := o1.zero bn an
    have s1 := o1.swap ak bk
    have s2 := o1.swap an bn
    have s3 := o2.swap sa sb
    by_cases e1 : ak = bk
    · subst e1
      rw [o1.self]
      by_cases e2 : an = bn
      · subst e2
        rw [o1.self]
        simpa using s3
      · have n1 : cI an bn ≠ 0 := fun e => e2 (z2.1 e)
        have n2 : cI bn an ≠ 0 := fun e => e2 (z2'.1 e).symm
        simpa [n1, n2] using s2
    · have n1 : cI ak bk ≠ 0 := fun e => e1 (z1.1 e)
      have n2 : cI bk ak ≠ 0 := fun e => e1 (z1'.1 e).symm
      simpa [n1, n2] using s1
  · obtain ⟨ak, an, sa⟩ := a
    obtain ⟨bk, bn, sb⟩ := b
    obtain ⟨ck, cn, sc⟩ := c
    unfold cmpV or3
    simp only
    have z : ∀ x y, cI x y = 0 ↔ x = y := o1.zero
    by_cases e1 : ak = bk
    · subst e1
      rw [o1.self]
      by_cases e2 : ak = ck
      · subst e2
        rw [o1.self]
        by_cases f1 : an = bn
        · subst f1
          rw [o1.self]
          by_cases f2 : an = cn
          · subst f2
            rw [o1.self]
            simpa using o2.trans sa sb sc
          · have n : ¬ cI an cn = 0 := fun e => f2 ((z an cn).1 e)
            simp [n]
        · have n : ¬ cI an bn = 0 := fun e => f1 ((z an bn).1 e)
          by_cases f2 : bn = cn
          · subst f2
            rw [o1.self]
            simp [n]
            try (intro h _; exact h)
          · have n2 : ¬ cI bn cn = 0 := fun e => f2 ((z bn cn).1 e)
            simp [n, n2]
            intro h1 h2
            have h3 := o1.trans an bn cn h1 h2
            by_cases g : cI an cn = 0
            · omega
            · simp [g]; exact h3
      · have n : ¬ cI ak ck = 0 := fun e => e2 ((z ak ck).1 e)
        simp [n]
        try (intro _ h; exact h)
    · have n : ¬ cI ak bk = 0 := fun e => e1 ((z ak bk).1 e)
      by_cases e2 : bk = ck
      · subst e2
        rw [o1.self]
        simp [n]
        intro h _; exact h
      · have n2 : ¬ cI bk ck = 0 := fun e => e2 ((z bk ck).1 e)
        simp [n, n2]
        intro h1 h2
        have h3 := o1.trans ak bk ck h1 h2
        by_cases g : cI ak ck = 0
        · omega
        · simp [g]; exact h3
theorem cmpL_ord : Ord cmpL := by
  have o := cmpV_ord
  refine ⟨fun a => ?_, fun a => ?_, fun a => ?_⟩
  · induction a with
    | nil => intro b; cases b <;> simp [cmpL]
    | cons x a ih =>
      intro b
      cases b with
      | nil => simp [cmpL]
      | cons y b =>
        unfold cmpL
        rw [List.cons.injEq, ← o.zero x y, ← ih b]
        split
        · rename_i h; simp [h]
        · rename_i h; simp at h; simp [h]
  · induction a with
    | nil => intro b; cases b <;> simp [cmpL]
    | cons x a ih =>
      intro b
      cases b with
      | nil => simp [cmpL]
      | cons y b =>
        unfold cmpL
        by_cases e : x = y
        · subst e
          rw [o.self]
          simpa using ih b
        · have n1 : cmpV x y ≠ 0 := fun h => e ((o.zero x y).1 h)
          have n2 : cmpV y x ≠ 0 := fun h => e ((o.zero y x).1 h).symm
          simpa [n1, n2] using o.swap x y
  · induction a with
    | nil => intro b c; cases b <;> cases c <;> simp [cmpL]
    | cons x a ih =>
      intro b c
      cases b with
      | nil => simp [cmpL]
      | cons y b =>
        cases c with
        | nil => simp [cmpL]
        | cons z c =>
          unfold cmpL
          by_cases e1 : x = y
          · subst e1
            rw [o.self]
            by_cases e2 : x = z
            · subst e2
              rw [o.self]
              simpa using ih b c
            · have n : ¬ cmpV x z = 0 := fun h => e2 ((o.zero x z).1 h)
              simp [n]
              try (intro _ h; exact h)
          · have n : ¬ cmpV x y = 0 := fun h => e1 ((o.zero x y).1 h)
            by_cases e2 : y = z
            · subst e2
              rw [o.self]
              simp [n]
              try (intro h _; exact h)
            · have n2 : ¬ cmpV y z = 0 := fun h => e2 ((o.zero y z).1 h)
              simp [n, n2]
              intro h1 h2
              have h3 := o.trans x y z h1 h2
              by_cases g : cmpV x z = 0
              · omega
              · simp [g]; exact h3
end Go.Proofs.YtjonmcbglcidhaaGreat
