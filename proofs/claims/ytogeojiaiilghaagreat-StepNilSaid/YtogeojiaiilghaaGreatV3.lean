import Derived.Test.YtogeojiaiilghaaGreatV2
import Derived.Orders
import Derived.LoopN
set_option linter.unusedVariables false
set_option linter.unusedSimpArgs false
set_option linter.unusedVariables false
set_option linter.unusedSimpArgs false
namespace Go.Ev
open Go.RowKit

/-! ### Masks -/
theorem bit_eq (m i : Nat) : bit m i = m.testBit i := by
  rw [Nat.testBit_eq_decide_div_mod_eq]
  unfold bit
  show Nat.beq (m / 2 ^ i % 2) 1 = _
  cases h : Nat.beq (m / 2 ^ i % 2) 1 with
  | true => simp [Nat.eq_of_beq_eq_true h]
  | false => simp [Nat.ne_of_beq_eq_false h]
theorem bit_or (m i j : Nat) : bit (Nat.lor m (Nat.pow 2 i)) j = (bit m j || decide (i = j)) := by
  rw [bit_eq, bit_eq]
  show (m ||| 2 ^ i).testBit j = _
  rw [Nat.testBit_or, Nat.testBit_two_pow]
theorem bit_or' (m k j : Nat) : bit (Nat.lor m k) j = (bit m j || bit k j) := by
  rw [bit_eq, bit_eq, bit_eq]
  exact Nat.testBit_or ..
theorem bit_pow (i j : Nat) : bit (Nat.pow 2 i) j = decide (i = j) := by
  rw [bit_eq]
  exact Nat.testBit_two_pow
theorem bit_zero (j : Nat) : bit 0 j = false := by rw [bit_eq, Nat.zero_testBit]
theorem bit_full (n i : Nat) (h : i < n) : bit (Nat.sub (Nat.pow 2 n) 1) i = true := by
  rw [bit_eq]
  show (2 ^ n - 1).testBit i = true
  rw [Nat.testBit_two_pow_sub_one]
  simpa using h
theorem sub_ok {a b : Nat} (h : sub a b = true) {j : Nat} (hj : bit a j = true) : bit b j = true := by
  have : Nat.lor a b = b := Nat.eq_of_beq_eq_true h
  rw [← this, bit_or', hj]
  rfl
theorem sub_of {a b : Nat} (h : ∀ j, bit a j = true → bit b j = true) : sub a b = true := by
  have : Nat.lor a b = b := by
    apply Nat.eq_of_testBit_eq
    intro i
    have h1 := bit_or' a b i
    rw [bit_eq, bit_eq, bit_eq] at h1
    rw [h1]
    have := h i
    rw [bit_eq, bit_eq] at this
    cases ha : a.testBit i
    · simp
    · simp [this ha]
  unfold sub
  rw [this]
  exact Nat.beq_refl b
/-- The edges that bind. -/
theorem pre_iff (o : Oper) (j : Nat) : bit (preOf o) j = true ↔ ∃ e ∈ o.after.toList, Region.binds .any e = true ∧ e.on = j := by
  unfold preOf
  induction o.after.toList with
  | nil => simp [bit_zero]
  | cons e l ih =>
    simp only [List.foldr_cons, List.mem_cons]
    cases hb : Region.binds .any e with
    | true =>
      simp only
      rw [bit_or', bit_pow, Bool.or_eq_true, ih]
      constructor
      · rintro (h | ⟨x, h1, h2⟩)
        · exact ⟨e, .inl rfl, hb, of_decide_eq_true h⟩
        · exact ⟨x, .inr h1, h2⟩
      · rintro ⟨x, rfl | h1, h2, h3⟩
        · exact .inl (decide_eq_true h3)
        · exact .inr ⟨x, h1, h2, h3⟩
    | false =>
      simp only
      rw [ih]
      constructor
      · rintro ⟨x, h1, h2⟩; exact ⟨x, .inr h1, h2⟩
      · rintro ⟨x, rfl | h1, h2, h3⟩
        · rw [hb] at h2; cases h2
        · exact ⟨x, h1, h2, h3⟩
noncomputable def befOne (acc : List Nat) (o : Oper) : Nat := o.after.toList.foldr (fun e m => match Region.binds .any e with
      | true => Nat.lor (Nat.lor (Nat.pow 2 e.on) m) ((lget acc e.on).getD 0)
      | false => m) 0
theorem befOne_ok {acc : List Nat} {o : Oper} {x : Nat} (h : bit (befOne acc o) x = true) : ∃ e ∈ o.after.toList, Region.binds .any e = true ∧ (e.on = x ∨ ∃ b, acc[e.on]? = some b ∧ bit b x = true) := by
  unfold befOne at h
  revert h
  induction o.after.toList with
  | nil => simp [bit_zero]
  | cons e l ih =>
    simp only [List.foldr_cons, List.mem_cons]
    cases hb : Region.binds .any e with
    | true =>
      simp only
      rw [bit_or', bit_or', bit_pow, Bool.or_eq_true, Bool.or_eq_true]
      rintro ((h | h) | h)
      · exact ⟨e, .inl rfl, hb, .inl (of_decide_eq_true h)⟩
      · obtain ⟨x, h1, h2⟩ := ih h
        exact ⟨x, .inr h1, h2⟩
      · refine ⟨e, .inl rfl, hb, .inr ?_⟩
        rw [lget_eq] at h
        cases hg : acc[e.on]? with
        | none => rw [hg] at h; simp [bit_zero] at h
        | some b => rw [hg] at h; exact ⟨b, rfl, h⟩
    | false =>
      simp only
      intro h
      obtain ⟨x, h1, h2⟩ := ih h
      exact ⟨x, .inr h1, h2⟩
theorem befores_cons (o : Oper) (ops : List Oper) (acc : List Nat) : befores (o :: ops) acc = befores ops (lapp acc [befOne acc o]) := rfl
theorem befores_ok : ∀ (ops : List Oper) (acc : List Nat), (∃ t, befores ops acc = acc ++ t ∧ t.length = ops.length) ∧
    ∀ j o, ops[j]? = some o → ∃ b, (befores ops acc)[acc.length + j]? = some b ∧ ∀ x, bit b x = true → ∃ e ∈ o.after.toList, Region.binds .any e = true ∧ (e.on = x ∨ ∃ b', (befores ops acc)[e.on]? = some b' ∧ bit b' x = true)
  | [], acc => ⟨⟨[], by simp [befores], rfl⟩, fun j o h => by simp at h⟩
  | o :: ops, acc => by
    rw [befores_cons, lapp_eq]
    obtain ⟨⟨t, h1, h2⟩, h3⟩ := befores_ok ops (acc ++ [befOne acc o])
    refine ⟨⟨befOne acc o :: t, by rw [h1]; simp, by simp [h2]⟩, fun j p hj => ?_⟩
    cases j with
    | zero =>
      obtain rfl := Option.some.inj (by simpa using hj : some o = some p)
      refine ⟨befOne acc o, by rw [h1]; simp, fun x hx => ?_⟩
      obtain ⟨e, e1, e2, e3 | ⟨b, e3, e4⟩⟩ := befOne_ok hx
      · exact ⟨e, e1, e2, .inl e3⟩
      · refine ⟨e, e1, e2, .inr ⟨b, ?_, e4⟩⟩
        rw [h1, List.append_assoc, List.getElem?_append_left (List.getElem?_eq_some_iff.1 e3).1]
        exact e3
    | succ j =>
      obtain ⟨b, g1, g2⟩ := h3 j p (by simpa using hj)
      refine ⟨b, ?_, g2⟩
      rw [← g1]
      congr 1
      simp
      omega

/-! ### Rows -/
section
variable {E : Env}
def IsRow (E : Env) (ops : List Oper) (bs : List Nat) (r : Row) : Prop := ops[r.i]? = some r.o ∧ r.pre = preOf r.o ∧ r.c = cls E r.o.op ∧ bs[r.i]? = some r.bef
theorem rowsOf_ok : ∀ (ops : List Oper) (i : Nat) (bs : List Nat), bs.length = ops.length →
    (∀ r ∈ rowsOf E ops i bs, i ≤ r.i ∧ ops[r.i - i]? = some r.o ∧ r.pre = preOf r.o ∧ r.c = cls E r.o.op ∧ bs[r.i - i]? = some r.bef) ∧
    (∀ k o, ops[k]? = some o → ∃ r ∈ rowsOf E ops i bs, r.i = i + k) ∧ (rowsOf E ops i bs).length = ops.length
  | [], i, [], h => ⟨fun r hr => by simp [rowsOf] at hr, fun k o hk => by simp at hk, rfl⟩
  | o :: ops, i, b :: bs, h => by
    obtain ⟨h1, h2, h3⟩ := rowsOf_ok ops (i + 1) bs (by simpa using h)
    have hc : rowsOf E (o :: ops) i (b :: bs) = ⟨i, o, preOf o, b, cls E o.op⟩ :: rowsOf E ops (i + 1) bs := rfl
    rw [hc]
    refine ⟨fun r hr => ?_, fun k p hk => ?_, by simp [h3]⟩
    · rcases List.mem_cons.1 hr with rfl | hr
      · exact ⟨Nat.le_refl _, by simp, rfl, rfl, by simp⟩
      · obtain ⟨g1, g2, g3, g4, g5⟩ := h1 r hr
        have e : r.i - i = (r.i - (i + 1)) + 1 := by omega
        refine ⟨by omega, ?_, g3, g4, ?_⟩
        · rw [e]; simpa using g2
        · rw [e]; simpa using g5
    · cases k with
      | zero => exact ⟨_, List.mem_cons_self .., rfl⟩
      | succ k =>
        obtain ⟨r, g1, g2⟩ := h2 k p (by simpa using hk)
        exact ⟨r, List.mem_cons_of_mem _ g1, by omega⟩
theorem rows_ok (ops : List Oper) : (∀ r ∈ rowsOf E ops 0 (befores ops []), IsRow E ops (befores ops []) r) ∧ (∀ k o, ops[k]? = some o → ∃ r ∈ rowsOf E ops 0 (befores ops []), r.i = k) ∧ (rowsOf E ops 0 (befores ops [])).length = ops.length := by
  obtain ⟨⟨t, h1, h2⟩, _⟩ := befores_ok ops []
  obtain ⟨g1, g2, g3⟩ := rowsOf_ok (E := E) ops 0 (befores ops []) (by rw [h1]; simpa using h2)
  refine ⟨fun r hr => ?_, fun k o hk => ?_, g3⟩
  · obtain ⟨_, a, b, c, d⟩ := g1 r hr
    exact ⟨a, b, c, d⟩
  · obtain ⟨r, a, b⟩ := g2 k o hk
    exact ⟨r, a, by omega⟩

/-! ### The plan -/
inductive Plan (E : Env) (ops : List Oper) (rs : List Row) : Nat → List Step → Prop where
  | nil {done : Nat} (h : done = 2 ^ rs.length - 1) : Plan E ops rs done []
  | quiet {done : Nat} {r : Row} {l : List Step} (hr : r ∈ rs) (hc : r.c ≠ 2) (hn : bit done r.i = false) (hp : sub r.pre done = true) (h : Plan E ops rs (Nat.lor done (Nat.pow 2 r.i)) l) : Plan E ops rs done (stepOf E ops r.o (Bool.rec [] (looks done 0 rs) (Nat.beq r.c 3)) (labOf r) :: l)
  | eff {done : Nat} {r : Row} {l : List Step} (hr : r ∈ rs) (hc : r.c = 2) (hn : bit done r.i = false) (hp : sub r.pre done = true)
      (hq : ∀ q ∈ rs, q.c ≠ 2 → bit done q.i = false → sub q.pre done = false) (he : ∀ q ∈ rs, q.c = 2 → bit done q.i = false → q.i ≠ r.i → bit q.bef r.i = true)
      (h : Plan E ops rs (Nat.lor done (Nat.pow 2 r.i)) l) : Plan E ops rs done (stepOf E ops r.o (looks done r.bef rs) none :: l)
theorem beq_two {c : Nat} (h : Nat.beq c 2 = false) : c ≠ 2 := Nat.ne_of_beq_eq_false h
theorem beq_ne {c k : Nat} (h : c ≠ k) : Nat.beq c k = false := by
  cases hb : Nat.beq c k
  · rfl
  · exact absurd (Nat.eq_of_beq_eq_true hb) h
theorem readyQ_cons (done : Nat) (r : Row) (rs : List Row) : readyQ done (r :: rs) = (match Nat.beq r.c 2 with
    | true => readyQ done rs
    | false => match bit done r.i with
      | true => readyQ done rs
      | false => match sub r.pre done with
        | true => some r
        | false => readyQ done rs) := rfl
theorem readyQ_some {done : Nat} {r : Row} : ∀ {rs : List Row}, readyQ done rs = some r → r ∈ rs ∧ r.c ≠ 2 ∧ bit done r.i = false ∧ sub r.pre done = true
  | q :: rs, h => by
    have ih : readyQ done rs = some r → _ := fun h => And.imp_left (List.mem_cons_of_mem q) (readyQ_some (r := r) (rs := rs) h)
    rw [readyQ_cons] at h
    split at h
    · exact ih h
    · rename_i h1
      split at h
      · exact ih h
      · rename_i h2
        split at h
        · rename_i h3
          obtain rfl := Option.some.inj h
          exact ⟨List.mem_cons_self .., beq_two h1, h2, h3⟩
        · exact ih h
theorem readyQ_none {done : Nat} {rs : List Row} (h : readyQ done rs = none) : ∀ q ∈ rs, q.c ≠ 2 → bit done q.i = false → sub q.pre done = false := by
  induction rs with
  | nil => intro q hq; cases hq
  | cons q rs ih =>
    intro p hp h1 h2
    rw [readyQ_cons] at h
    rcases List.mem_cons.1 hp with rfl | hp
    · rw [beq_ne h1, h2] at h
      simp only at h
      split at h
      · cases h
      · rename_i h3; exact h3
    · have hrs : readyQ done rs = none := by
        split at h
        · exact h
        · split at h
          · exact h
          · split at h
            · cases h
            · exact h
      exact ih hrs p hp h1 h2
theorem readyE_cons (done : Nat) (r : Row) (rs : List Row) : readyE done (r :: rs) = (match Nat.beq r.c 2 with
    | false => readyE done rs
    | true => match bit done r.i with
      | true => readyE done rs
      | false => match sub r.pre done with
        | true => some r
        | false => readyE done rs) := rfl
theorem readyE_some {done : Nat} {r : Row} : ∀ {rs : List Row}, readyE done rs = some r → r ∈ rs ∧ r.c = 2 ∧ bit done r.i = false ∧ sub r.pre done = true
  | q :: rs, h => by
    have ih : readyE done rs = some r → _ := fun h => And.imp_left (List.mem_cons_of_mem q) (readyE_some (r := r) (rs := rs) h)
    rw [readyE_cons] at h
    split at h
    · exact ih h
    · rename_i h1
      split at h
      · exact ih h
      · rename_i h2
        split at h
        · rename_i h3
          obtain rfl := Option.some.inj h
          exact ⟨List.mem_cons_self .., Nat.eq_of_beq_eq_true h1, h2, h3⟩
        · exact ih h
theorem heads_cons (done i : Nat) (r : Row) (rs : List Row) : heads done i (r :: rs) = (match Nat.beq r.c 2 with
    | false => heads done i rs
    | true => match bit done r.i with
      | true => heads done i rs
      | false => match Nat.beq r.i i with
        | true => heads done i rs
        | false => match bit r.bef i with
          | true => heads done i rs
          | false => false) := rfl
theorem heads_ok {done i : Nat} {rs : List Row} (h : heads done i rs = true) : ∀ q ∈ rs, q.c = 2 → bit done q.i = false → q.i ≠ i → bit q.bef i = true := by
  induction rs with
  | nil => intro q hq; cases hq
  | cons q rs ih =>
    intro p hp h1 h2 h3
    rw [heads_cons] at h
    rcases List.mem_cons.1 hp with rfl | hp
    · have e1 : Nat.beq p.c 2 = true := by rw [h1]; rfl
      have e2 : Nat.beq p.i i = false := by
        cases hb : Nat.beq p.i i
        · rfl
        · exact absurd (Nat.eq_of_beq_eq_true hb) h3
      rw [e1, h2, e2] at h
      simp only at h
      split at h
      · assumption
      · cases h
    · have hrs : heads done i rs = true := by
        split at h
        · exact h
        · split at h
          · exact h
          · split at h
            · exact h
            · split at h
              · exact h
              · cases h
      exact ih hrs p hp h1 h2 h3
theorem planDraw_succ (ops : List Oper) (rs : List Row) (fuel done : Nat) : planDraw E ops rs (fuel + 1) done = (match readyQ done rs with
      | some r => match planDraw E ops rs fuel (Nat.lor done (Nat.pow 2 r.i)) with
        | some l => some (stepOf E ops r.o (Bool.rec [] (looks done 0 rs) (Nat.beq r.c 3)) (labOf r) :: l)
        | none => none
      | none => match readyE done rs with
        | some r => match heads done r.i rs with
          | true => match planDraw E ops rs fuel (Nat.lor done (Nat.pow 2 r.i)) with
            | some l => some (stepOf E ops r.o (looks done r.bef rs) none :: l)
            | none => none
          | false => none
        | none => match Nat.beq done (Nat.sub (Nat.pow 2 (llen rs)) 1) with
          | true => some []
          | false => none) := rfl
theorem planDraw_ok {ops : List Oper} {rs : List Row} : ∀ (fuel done : Nat) (l : List Step), planDraw E ops rs fuel done = some l → Plan E ops rs done l
  | 0, done, l, h => by cases h
  | fuel + 1, done, l, h => by
    rw [planDraw_succ] at h
    split at h
    · rename_i r hr
      obtain ⟨h1, h2, h3, h4⟩ := readyQ_some hr
      split at h
      · rename_i l' hl
        obtain rfl := Option.some.inj h
        exact .quiet h1 h2 h3 h4 (planDraw_ok fuel _ _ hl)
      · cases h
    · rename_i hq
      split at h
      · rename_i r hr
        obtain ⟨h1, h2, h3, h4⟩ := readyE_some hr
        split at h
        · rename_i hh
          split at h
          · rename_i l' hl
            obtain rfl := Option.some.inj h
            exact .eff h1 h2 h3 h4 (readyQ_none hq) (heads_ok hh) (planDraw_ok fuel _ _ hl)
          · cases h
        · cases h
      · split at h
        · rename_i hd
          obtain rfl := Option.some.inj h
          refine .nil ?_
          have := Nat.eq_of_beq_eq_true hd
          rw [llen_eq] at this
          exact this
        · cases h
theorem looks_cons (done bef : Nat) (r : Row) (rs : List Row) : looks done bef (r :: rs) = (match Nat.beq r.c 1 with
    | true => match bit done r.i with
      | true => match bit bef r.i with
        | true => looks done bef rs
        | false => r.o :: looks done bef rs
      | false => looks done bef rs
    | false => looks done bef rs) := rfl
theorem looks_ok {done bef : Nat} {rs : List Row} : ∀ r ∈ rs, r.c = 1 → bit done r.i = true → bit bef r.i = false → r.o ∈ looks done bef rs := by
  induction rs with
  | nil => intro q hq; cases hq
  | cons q rs ih0 =>
    intro r hr h1 h2 h3
    rw [looks_cons]
    rcases List.mem_cons.1 hr with rfl | hr
    · have : Nat.beq r.c 1 = true := by rw [h1]; rfl
      rw [this, h2, h3]
      exact List.mem_cons_self ..
    · have ih := ih0 r hr h1 h2 h3
      split
      · split
        · split
          · exact ih
          · exact List.mem_cons_of_mem _ ih
        · exact ih
      · exact ih
end

/-! ### Who writes what -/
theorem writers_cons (o : Oper) (ops : List Oper) (i : Nat) (W : Tr Nat) : writers (o :: ops) i W = (match o.dst with
      | none => writers ops (i + 1) W
      | some d => match Nat.blt d 16777216 with
        | true => match W.get d with
          | none => writers ops (i + 1) (W.put (some i) 30 d)
          | some _ => none
        | false => none) := rfl
theorem writers_ok : ∀ (ops : List Oper) (i : Nat) (W W' : Tr Nat), writers ops i W = some W' → (∀ d k, W.get d = some k → W'.get d = some k) ∧ ∀ j o d, ops[j]? = some o → o.dst = some d → W'.get d = some (i + j)
  | [], i, W, W', h => by
    obtain rfl := Option.some.inj h
    exact ⟨fun d k h => h, fun j o d hj => by simp at hj⟩
  | o :: ops, i, W, W', h => by
    rw [writers_cons] at h
    split at h
    · rename_i hd
      obtain ⟨h1, h2⟩ := writers_ok ops (i + 1) W W' h
      refine ⟨h1, fun j p d hj hp => ?_⟩
      cases j with
      | zero =>
        obtain rfl := Option.some.inj (by simpa using hj : some o = some p)
        rw [hd] at hp; cases hp
      | succ j =>
        have := h2 j p d (by simpa using hj) hp
        rw [this]; congr 1; omega
    · rename_i d0 hd
      split at h
      case h_2 => cases h
      rename_i hlt
      split at h
      case h_2 => cases h
      rename_i hnone
      have hlt := blt_lt hlt
      obtain ⟨h1, h2⟩ := writers_ok ops (i + 1) _ W' h
      have hput := fun j => Tr.get_put (some i) 30 W d0 (by omega) j
      refine ⟨fun d k hk => h1 d k ?_, fun j p d hj hp => ?_⟩
      · rw [hput, if_neg (fun e => by subst e; rw [hnone] at hk; cases hk)]
        exact hk
      · cases j with
        | zero =>
          obtain rfl := Option.some.inj (by simpa using hj : some o = some p)
          rw [hd] at hp
          obtain rfl := Option.some.inj hp
          exact h1 _ _ (by rw [hput, if_pos rfl]; rfl)
        | succ j =>
          have := h2 j p d (by simpa using hj) hp
          rw [this]; congr 1; omega
theorem writers_back : ∀ (ops : List Oper) (i : Nat) (W W' : Tr Nat), writers ops i W = some W' → ∀ d k, W'.get d = some k → W.get d = some k ∨ ∃ j o, ops[j]? = some o ∧ o.dst = some d ∧ k = i + j
  | [], i, W, W', h => by
    obtain rfl := Option.some.inj h
    exact fun d k h => .inl h
  | o :: ops, i, W, W', h => by
    rw [writers_cons] at h
    have up : ∀ d k, (∃ j p, ops[j]? = some p ∧ p.dst = some d ∧ k = (i + 1) + j) → ∃ j p, (o :: ops)[j]? = some p ∧ p.dst = some d ∧ k = i + j := fun d k ⟨j, p, h1, h2, h3⟩ => ⟨j + 1, p, by simpa using h1, h2, by omega⟩
    split at h
    · intro d k hk
      exact (writers_back ops (i + 1) W W' h d k hk).imp_right (up d k)
    · rename_i d0 hd
      split at h
      case h_2 => cases h
      rename_i hlt
      split at h
      case h_2 => cases h
      have hlt := blt_lt hlt
      intro d k hk
      rcases writers_back ops (i + 1) _ W' h d k hk with h1 | h1
      · rw [Tr.get_put (some i) 30 W d0 (by omega)] at h1
        split at h1
        · rename_i e
          subst e
          obtain rfl := Option.some.inj h1
          exact .inr ⟨0, o, by simp, hd, by simp⟩
        · exact .inl h1
      · exact .inr (up d k h1)
/-- How a look at a slot lies to the slot's writing. -/
def Rel (rs0 : List Row) (r : Row) (k : Nat) : Prop := bit r.bef k = true ∨ ∃ q ∈ rs0, q.i = k ∧ bit q.bef r.i = true ∧ (r.c = 2 ∨ ∃ e ∈ rs0, e.c = 2 ∧ bit e.bef r.i = true ∧ (e.i = k ∨ bit q.bef e.i = true))
theorem between_ok {rs0 : List Row} {i k befk : Nat} (h : between rs0 i k befk = true) : ∃ e ∈ rs0, e.c = 2 ∧ bit e.bef i = true ∧ (e.i = k ∨ bit befk e.i = true) := by
  induction rs0 with
  | nil => cases h
  | cons e l ih =>
    have up := fun h => (let ⟨x, h1, h2⟩ := ih h; ⟨x, List.mem_cons_of_mem e h1, h2⟩ : ∃ x ∈ e :: l, x.c = 2 ∧ bit x.bef i = true ∧ (x.i = k ∨ bit befk x.i = true))
    have h : (match Nat.beq e.c 2 with
    | false => between l i k befk
    | true => match bit e.bef i with
      | false => between l i k befk
      | true => match Nat.beq e.i k with
        | true => true
        | false => match bit befk e.i with
          | true => true
          | false => between l i k befk) = true := h
    split at h
    · exact up h
    · rename_i h1
      split at h
      · exact up h
      · rename_i h2
        split at h
        · rename_i h3
          exact ⟨e, List.mem_cons_self .., Nat.eq_of_beq_eq_true h1, h2, .inl (Nat.eq_of_beq_eq_true h3)⟩
        · split at h
          · rename_i h4
            exact ⟨e, List.mem_cons_self .., Nat.eq_of_beq_eq_true h1, h2, .inr h4⟩
          · exact up h
theorem later_ok {rs0 : List Row} {r : Row} {k : Nat} (h : later rs0 r k = true) : ∃ q ∈ rs0, q.i = k ∧ bit q.bef r.i = true ∧ (r.c = 2 ∨ ∃ e ∈ rs0, e.c = 2 ∧ bit e.bef r.i = true ∧ (e.i = k ∨ bit q.bef e.i = true)) := by
  unfold later at h
  have key : ∀ l : List Row, (∀ q ∈ l, q ∈ rs0) → (List.rec false (fun q _ ih => match Nat.beq q.i k with
    | false => ih
    | true => match bit q.bef r.i with
      | false => false
      | true => match Nat.beq r.c 2 with
        | true => true
        | false => between rs0 r.i k q.bef) l : Bool) = true → ∃ q ∈ rs0, q.i = k ∧ bit q.bef r.i = true ∧ (r.c = 2 ∨ ∃ e ∈ rs0, e.c = 2 ∧ bit e.bef r.i = true ∧ (e.i = k ∨ bit q.bef e.i = true)) := by
    intro l
    induction l with
    | nil => intro _ h; cases h
    | cons q l ih =>
      intro hs h
      simp only at h
      split at h
      · exact ih (fun x hx => hs x (List.mem_cons_of_mem _ hx)) h
      · rename_i h1
        split at h
        · cases h
        · rename_i h2
          refine ⟨q, hs q (List.mem_cons_self ..), Nat.eq_of_beq_eq_true h1, h2, ?_⟩
          split at h
          · rename_i h3; exact .inl (Nat.eq_of_beq_eq_true h3)
          · exact .inr (between_ok h)
  exact key rs0 (fun q hq => hq) h
theorem slotOk_ok {W : Tr Nat} {rs0 : List Row} {r : Row} {d : Nat} (h : slotOk W rs0 r d = true) : ∀ k, W.get d = some k → Rel rs0 r k := by
  intro k hk
  unfold slotOk at h
  rw [hk] at h
  simp only at h
  split at h
  · rename_i h1; exact .inl h1
  · exact .inr (later_ok h)
theorem seen_ok {W : Tr Nat} {rs0 : List Row} {r : Row} : ∀ {l : List Operand}, seen W rs0 r l = true → ∀ d, Operand.tmp d ∈ l → ∀ k, W.get d = some k → Rel rs0 r k
  | x :: l, h, d, hd, k, hk => by
    have h' : (match x with
      | .tmp d => match slotOk W rs0 r d with
        | true => seen W rs0 r l
        | false => false
      | _ => seen W rs0 r l) = true := by
      cases x <;> exact h
    rcases List.mem_cons.1 hd with e | hd
    · subst e
      simp only at h'
      split at h'
      · rename_i hs; exact slotOk_ok hs k hk
      · cases h'
    · have hl : seen W rs0 r l = true := by
        split at h'
        · split at h'
          · exact h'
          · cases h'
        · exact h'
      exact seen_ok hl d hd k hk
theorem opsL_ok {op : Op} {d : Nat} (h : Operand.tmp d ∈ op.operands) : Operand.tmp d ∈ opsL op ∨ ∀ E ts H, evQ E ts H op = none ∧ (∀ cf N, evE E cf ts H N op = none) ∧ evNew E ts op = none := by
  cases op <;> simp only [Op.operands] at h <;> first
    | (simp at h; done)
    | (left; simpa [opsL] using h)
    | (right; intro E ts H; exact ⟨rfl, fun _ _ => rfl, rfl⟩)
    | skip
  case makeFunc f xs ys => left; simpa [opsL, lapp_eq] using h
  case slice t x lo hi mx => left; simpa [opsL, lapp_eq, or_assoc] using h
  case call c =>
    obtain ⟨callee, args, ats⟩ := c
    cases callee
    · left; simpa [opsL, Call.operands] using h
    · right; intro E ts H; exact ⟨rfl, fun _ _ => rfl, rfl⟩
    · left; simpa [opsL, Call.operands] using h
theorem rowsOk_cons (W : Tr Nat) (rs0 : List Row) (ops : List Oper) (r : Row) (rs : List Row) : rowsOk W rs0 ops (r :: rs) = (match rowOk W rs0 ops r with
    | true => rowsOk W rs0 ops rs
    | false => false) := rfl
theorem rowsOk_ok {W : Tr Nat} {rs0 : List Row} {ops : List Oper} {rs : List Row} (h : rowsOk W rs0 ops rs = true) : ∀ r ∈ rs, rowOk W rs0 ops r = true := by
  induction rs with
  | nil => intro q hq; cases hq
  | cons q rs ih =>
    intro r hr
    rw [rowsOk_cons] at h
    split at h
    · rename_i h1
      rcases List.mem_cons.1 hr with rfl | hr
      · exact h1
      · exact ih h r hr
    · cases h
theorem rowOk_ok {W : Tr Nat} {rs0 : List Row} {ops : List Oper} {r : Row} (h : rowOk W rs0 ops r = true) : r.pre < 2 ^ r.i ∧ (∀ d, Operand.tmp d ∈ opsL r.o.op → ∀ k, W.get d = some k → Rel rs0 r k) ∧ ∀ t want, guardOf ops r.o = some (t, want) → ∀ k, W.get t = some k → Rel rs0 r k := by
  unfold rowOk at h
  split at h
  case h_2 => cases h
  rename_i h1
  split at h
  case h_2 => cases h
  rename_i h2
  refine ⟨blt_lt h1, seen_ok h2, fun t want ht k hk => ?_⟩
  rw [ht] at h
  simp only at h
  exact slotOk_ok h k hk
/-- Something new has its label. -/
theorem anyLab_ok {E : Env} {ops : List Oper} {rs : List Row} {done : Nat} {l : List Step} (h : Plan E ops rs done l) (hlt : ∀ q ∈ rs, q.i < rs.length) (hu : ∀ q ∈ rs, ∀ r ∈ rs, q.i = r.i → q.c = r.c) : ∀ r ∈ rs, r.c = 3 → bit done r.i = false → anyLab l = true := by
  induction h with
  | nil h =>
    intro r hr _ hd
    have := bit_full rs.length r.i (hlt r hr)
    rw [h] at hd
    have e : Nat.sub (Nat.pow 2 rs.length) 1 = 2 ^ rs.length - 1 := rfl
    rw [e, hd] at this
    cases this
  | @quiet done q l hq hc hn hp h ih =>
    intro r hr h3 hd
    have hcons : anyLab (stepOf E ops q.o (Bool.rec [] (looks done 0 rs) (Nat.beq q.c 3)) (labOf q) :: l) = (match labOf q with | some _ => true | none => anyLab l) := rfl
    rw [hcons]
    split
    · rfl
    · rename_i hlab
      refine ih r hr h3 ?_
      rw [bit_or, hd]
      by_cases e2 : q.i = r.i
      · have := hu q hq r hr e2
        rw [h3] at this
        rw [labOf, this] at hlab
        cases hlab
      · simp [e2]
  | @eff done q l hq hc hn hp hqq he h ih =>
    intro r hr h3 hd
    have hcons : anyLab (stepOf E ops q.o (looks done q.bef rs) none :: l) = anyLab l := rfl
    rw [hcons]
    refine ih r hr h3 ?_
    rw [bit_or, hd]
    by_cases e2 : q.i = r.i
    · have := hu q hq r hr e2
      omega
    · simp [e2]
end Go.Ev

set_option linter.unusedVariables false
set_option linter.unusedSimpArgs false
namespace Go.Ev
open Go.RowKit
section
variable {P : Program} {E : Env}
theorem evConvert_like {s d : Nat} {x : AV} (H H' : Tr AObj) (h1 : isSliceT E s = false) (h2 : isSliceT E d = false) :
    (match evConvert E s d x H 0 with | some o => some o.v | none => none) = (match evConvert E s d x H' 0 with | some o => some o.v | none => none) := by
  have g1 : ∀ e, E.und s ≠ some (.slice e) := fun e he => by simp [isSliceT, he] at h1
  have g2 : ∀ e, E.und d ≠ some (.slice e) := fun e he => by simp [isSliceT, he] at h2
  unfold evConvert
  cases hd : E.und d with
  | none => rfl
  | some t =>
    cases t
    case slice e => exact absurd hd (g2 e)
    case int k => cases x <;> rfl
    case string =>
      cases x
      case str l m =>
        cases hs : E.und s with
        | none => rfl
        | some t => cases t <;> rfl
      case nilSlice =>
        cases hs : E.und s with
        | none => rfl
        | some t => cases t <;> first | rfl | exact absurd hs (g1 _)
      case slice l o len u c y =>
        cases hs : E.und s with
        | none => rfl
        | some t => cases t <;> first | rfl | exact absurd hs (g1 _)
      all_goals rfl
    all_goals rfl
/-- What asks nothing of memory. -/
theorem evQ_still {ts : Tr AV} {H H' : Tr AObj} {op : Op} (h : cls E op = 0) : evQ E ts H op = evQ E ts H' op := by
  cases op <;> first
    | rfl
    | (simp [cls] at h; done)
    | skip
  case convert s d x =>
    simp only [evQ]
    have h1 : isSliceT E d = false := by
      cases hq : isSliceT E d
      · rfl
      · simp [cls, hq] at h
    have h2 : isSliceT E s = false := by
      cases hq : isSliceT E s
      · rfl
      · simp [cls, hq, h1] at h
    congr 1
    funext x
    cases E.und s with
    | none => rfl
    | some t => exact evConvert_like H H' h2 h1
  case call c =>
    obtain ⟨callee, args, ats⟩ := c
    cases callee <;> try rfl
    rename_i b
    cases b <;> first
      | rfl
      | (simp [cls] at h; done)

/-! ### Labels that are kept for what is yet to come -/
omit P E in
theorem ghost_put {φ : Emb} {H : Tr AObj} {N L : Nat} {w : World} {o : AObj} (h : HRel φ H N w) (hL : L < N) (hN : N ≤ 16777216) (hk : ¬ φ.k L) : HRel φ (hput H L o) N w := by
  have hg := hget_put (H := H) (l := L) o (by omega)
  refine ⟨fun l p hp => ?_, fun l m p q hp hq hl hm he => ?_⟩
  · rw [hg] at hp
    split at hp
    · rename_i e
      subst e
      exact ⟨hL, fun h => absurd h hk⟩
    · exact h.all l p hp
  · rw [hg] at hp hq
    split at hp
    · rename_i e; exact absurd hl (by rw [e]; exact hk)
    · split at hq
      · rename_i e; exact absurd hm (by rw [e]; exact hk)
      · exact h.inj l m p q hp hq hl hm he
omit P E in
theorem ghost_moves {φ0 φ : Emb} {H0 H : Tr AObj} {N0 N L : Nat} {w0 w : World} {o : AObj} (h : Moves φ0 H0 N0 w0 φ H N w) (hL : N0 ≤ L) (hL2 : L < 16777216) (hk : ¬ φ.k L) : Moves φ0 H0 N0 w0 φ (hput H L o) N w := by
  have hg := hget_put (H := H) (l := L) o hL2
  refine ⟨h.same, h.le, h.os, h.tape, h.output, h.size, h.fresh, fun l hl hlk => ?_, h.frame, fun l p hp hlk hlt => ?_⟩
  · rw [hg, if_neg (by omega)]
    exact h.still l hl hlk
  · rw [hg, if_neg (fun e => hk (by rw [← e]; exact hlk))] at hp
    exact h.old l p hp hlk hlt
/-- A label wakes. -/
def Emb.wake (φ : Emb) (L b : Nat) : Emb := φ.with L b 0 0
omit P E in
theorem wake_same {φ : Emb} {N L b : Nat} (hk : ¬ φ.k L) : φ.Same (φ.wake L b) N := fun l hl hlk => by
  have hne : l ≠ L := fun e => hk (e ▸ hlk)
  simp [Emb.wake, Emb.with, hne, hlk]
omit P E in
theorem wake_rel {φ : Emb} {H : Tr AObj} {N L es : Nat} {w : World} {cs : List AV} {t : TypeId} (h : HRel φ H N w) (hL : L < N) (hk : ¬ φ.k L) (ho : H.get L = some (.cells cs es false)) (hs : ∀ v ∈ cs, scv φ N v) :
    HRel (φ.wake L w.heap.size) H N (w.alloc (.cells (concs φ cs).toArray t)) := by
  have hsame := wake_same (N := N) (b := w.heap.size) hk
  have hkk : ∀ l, l ≠ L → (φ.wake L w.heap.size).k l → φ.k l := fun l hl h => h.resolve_left hl
  have hb : (φ.wake L w.heap.size).b L = w.heap.size := by simp [Emb.wake, Emb.with]
  have hsz : (φ.wake L w.heap.size).s L = 0 := by simp [Emb.wake, Emb.with]
  refine ⟨fun l p hp => ⟨(h.all l p hp).1, fun hlk => ?_⟩, fun l m p q hp hq hl hm he => ?_⟩
  · by_cases e : l = L
    · subst e
      rw [ho] at hp
      obtain rfl := Option.some.inj hp
      refine ⟨⟨(concs φ cs).toArray, t, 0, 0, ?_, ?_, fun i v hv => ?_, fun i _ => by omega, fun e => by cases e⟩, fun v hv => scv_mono hsame (Nat.le_refl _) v (hs v hv)⟩
      · rw [hb]; exact heap_push_new w _
      · rw [hsz]; simp [concs_eq]
      · rw [conc_same hsame v (hs v (List.mem_of_getElem? hv)), hsz]
        simp [concs_eq, hv]
    · have hlk := hkk l e hlk
      obtain ⟨h1, h2, h3⟩ := h.obj l p hp hlk
      exact ⟨h2.kept h1 hlk h3 hsame (Below.heap_alloc _ _ _ h2.lt), sco_mono hsame (Nat.le_refl _) h3⟩
  · by_cases e1 : l = L
    · by_cases e2 : m = L
      · omega
      · exfalso
        have hm := hkk m e2 hm
        obtain ⟨h1, h2, _⟩ := h.obj m q hq hm
        rw [e1, hb, (hsame m h1 hm).1] at he
        have := h2.lt
        omega
    · have hl := hkk l e1 hl
      by_cases e2 : m = L
      · exfalso
        obtain ⟨h1, h2, _⟩ := h.obj l p hp hl
        rw [e2, hb, (hsame l h1 hl).1] at he
        have := h2.lt
        omega
      · have hm := hkk m e2 hm
        rw [(hsame l (h.all l p hp).1 hl).1, (hsame m (h.all m q hq).1 hm).1] at he
        exact h.inj l m p q hp hq hl hm he
omit P E in
theorem wake_moves {φ0 φ : Emb} {H0 H : Tr AObj} {N0 N L : Nat} {w0 w : World} {o : Obj} (h : Moves φ0 H0 N0 w0 φ H N w) (hL : N0 ≤ L) (hk : ¬ φ.k L) : Moves φ0 H0 N0 w0 (φ.wake L w.heap.size) H N (w.alloc o) := by
  have hsame := wake_same (N := N) (b := w.heap.size) hk
  refine ⟨h.same.trans hsame h.le, h.le, h.os, h.tape, h.output, Nat.le_trans h.size (by simp), fun l hl hlk => h.fresh l hl (hlk.resolve_left (by omega)), h.still, fun k hkk hn => ?_, fun l p hp hlk hlt => ?_⟩
  · rw [← h.frame k hkk hn]
    exact Below.heap_alloc _ _ _ (Nat.lt_of_lt_of_le hkk h.size)
  · by_cases e : l = L
    · exfalso
      have : (φ.wake L w.heap.size).b l = w.heap.size := by simp [Emb.wake, Emb.with, e]
      rw [this] at hlt
      have := h.size
      omega
    · have hlk := hlk.resolve_left e
      have hb : (φ.wake L w.heap.size).b l = φ.b l := by simp [Emb.wake, Emb.with, e]
      rw [hb] at hlt ⊢
      exact h.old l p hp hlk hlt
/-- Nothing is known from N on. -/
def Emb.cut (φ : Emb) (N : Nat) : Emb := ⟨φ.b, φ.s, φ.c, fun l => φ.k l ∧ l < N⟩
omit P E in
theorem cut_same (φ : Emb) (N : Nat) : φ.Same (φ.cut N) N := fun l hl hk => ⟨rfl, rfl, rfl, hk, hl⟩
omit P E in
theorem cut_rel {φ : Emb} {H : Tr AObj} {N M : Nat} {w : World} (h : HRel φ H N w) (hM : N ≤ M) : HRel (φ.cut N) H M w :=
  ⟨fun l p hp => ⟨Nat.lt_of_lt_of_le (h.all l p hp).1 hM, fun hk => by
    obtain ⟨h1, h2, h3⟩ := h.obj l p hp hk.1
    exact ⟨h2.kept h1 hk.1 h3 (cut_same φ N) rfl, sco_mono (cut_same φ N) hM h3⟩⟩, fun l m p q hp hq hl hm he => h.inj l m p q hp hq hl.1 hm.1 he⟩
omit P E in
theorem cut_moves (φ : Emb) (H : Tr AObj) {N M : Nat} (w : World) (hM : N ≤ M) : Moves φ H N w (φ.cut N) H M w :=
  ⟨cut_same φ N, hM, rfl, rfl, rfl, Nat.le_refl _, fun _ _ h => h.1, fun _ _ _ => rfl, fun _ _ _ => rfl, fun l p hp hk _ => ⟨l, p, hp, hk.1, rfl⟩⟩
/-- Something new is made. -/
theorem evNew_ok (hE : EnvOk P E) {φ : Emb} {N n : Nat} {ts : Tr AV} {a : Act} (ht : TRel φ N n ts a) {o : Oper} {r : NewR} (h : evNew E ts o.op = some r) :
    (∀ v ∈ r.cs, scv φ N v) ∧ ∃ t, ∀ (w : World) (φ' : Emb) (L : Nat), φ'.b L = w.heap.size → φ'.s L = 0 → (execOp a.eval o).run P w = .ok (.value (conc φ' (r.nm L))) (w.alloc (.cells (concs φ r.cs).toArray t)) ∧
      ∀ M, L < M → φ'.k L → scv φ' M (r.nm L) := by
  obtain ⟨dst, op, type, pos, after, guard⟩ := o
  simp only at h
  unfold evNew at h
  split at h
  · rename_i t
    split at h
    · rename_i z hz
      obtain rfl := Option.some.inj h
      refine ⟨fun v hv => scv_zero (cellsOf_sc ((hE.zero t z hz).2 φ) v hv) φ, t, fun w φ' L hb hs => ⟨?_, fun M hM hk => (sc_ptr _ _ _ _).2 ⟨hM, hk⟩⟩⟩
      simp only [execOp, Instr.alloc, Sem.run_bind, run_zero hE hz φ, Result.andThen_ok, newVar, newRow, cellsOf_conc, run_newObj, Sem.run_pure, c_ptr, hb, hs]
      rfl
    · cases h
  · rename_i t len ps
    split at h
    case h_2 => cases h
    rename_i qs hq
    obtain ⟨e, s⟩ := pairs_ok ht hq
    have he : (ps.map fun (i, x) => (i, a.eval x)) = (qs.map fun p => (p.1, conc φ p.2)).toArray := by
      apply Array.ext'
      simpa using e
    split at h
    case h_2 => cases h
    rename_i el hu
    split at h
    case h_2 => cases h
    rename_i n' hn'
    split at h
    case h_2 => cases h
    rename_i z hz
    split at h
    case h_2 => cases h
    rename_i hlt
    have hlt := blt_lt hlt
    have hlt : len * n' < 16777216 := hlt
    split at h
    case h_2 => cases h
    rename_i hb
    have hb := Nat.eq_of_beq_eq_true hb
    rw [llen_eq] at hb
    split at h
    case h_2 => cases h
    rename_i cs hcs
    obtain rfl := Option.some.inj h
    have hsz : ∀ v ∈ cellsOf z, scv φ N v := fun v hv => scv_zero (cellsOf_sc ((hE.zero el z hz).2 φ) v hv) φ
    have hsr : ∀ v ∈ lrep len (cellsOf z), scv φ N v := fun v hv => by
      rw [lrep_eq] at hv
      obtain ⟨l, hl, hv⟩ := List.mem_flatten.1 hv
      rw [List.eq_of_mem_replicate hl] at hv
      exact hsz v hv
    obtain ⟨f1, f2⟩ := fill_ok (φ := φ) (N := N) qs (lrep len (cellsOf z)) cs hcs hsr s
    refine ⟨f2, el, fun w φ' L hbb hss => ⟨?_, fun M hM hk => (sc_sliceF _ _ _ _ _ _ _).2 ⟨hM, hk⟩⟩⟩
    have hle : ¬ len * n' > 2 ^ 24 := by omega
    have hcells := rep_cells φ len (cellsOf z)
    rw [hb] at hcells
    have f1' : Instr.fill (fun i => some (i * n', n')) (concs φ (lrep len (cellsOf z))).toArray (qs.map fun p => (p.1, conc φ p.2)) = some (concs φ cs).toArray := f1
    simp only [execOp, he]
    by_cases h0 : len * n' = 0
    · have hl0 : lrep len (cellsOf z) = [] := by
        apply List.eq_nil_of_length_eq_zero
        rw [lrep_eq]; simp [hb, h0]
      rw [hl0] at f1'
      simp only [cs_nil] at f1'
      simp only [Instr.buildSlice, Sem.run_bind, run_und hE hu, Result.andThen_ok, run_size hE hn', Sem.run_ite, if_neg hle, h0, if_true, Sem.run_pure]
      have e0 : (Array.map (fun x => (#[] : Array Value)[x % (#[] : Array Value).size]!) (Array.range 0)) = (#[] : Array Value) := by simp
      rw [e0]
      simp only [List.toList_toArray, f1', newRow, Sem.run_bind, run_newObj, Result.andThen_ok, Sem.run_pure, c_sliceF, hbb, hss]
      simp [newRow]
    · simp only [Instr.buildSlice, Sem.run_bind, run_und hE hu, Result.andThen_ok, run_size hE hn', Sem.run_ite, if_neg hle, h0, if_false, run_zero hE hz φ, Sem.run_pure, cellsOf_conc, hcells]
      simp only [List.toList_toArray, f1', newRow, Sem.run_bind, run_newObj, Result.andThen_ok, Sem.run_pure, c_sliceF, hbb, hss]
      simp [newRow]
  · cases h

structure Inv (E : Env) (n : Nat) (ops : Array Oper) (bs : List Nat) (W : Tr Nat) (base : Nat) (φ0 : Emb) (st0 : St) (w0 : World) (done : Nat) (listed : Array Bool) (st : St) (φ : Emb) (a : Act) (w : World) (tsm : Tr AV) : Prop where
  sz : listed.size = ops.size
  lt : ∀ i, listed.getD i false = true → bit done i = true
  dlt : ∀ i, bit done i = true → i < ops.size
  ef : ∀ (i : Nat) (o : Oper), ops[i]? = some o → cls E o.op = 2 → bit done i = true → listed.getD i false = true
  lcl : ∀ i b, listed.getD i false = true → bs[i]? = some b → ∀ j, bit b j = true → listed.getD j false = true
  dcl : ∀ i b, bit done i = true → bs[i]? = some b → ∀ j, bit b j = true → bit done j = true
  N : st.N ≤ 16777216
  h : HRel φ st.H st.N w
  t : TRel φ st.N n tsm a
  like : ∀ d, (∀ i, W.get d = some i → bit done i = true → listed.getD i false = true) → tsm.get d = st.ts.get d
  pend : ∀ (i : Nat) (o : Oper), ops[i]? = some o → bit done i = true → listed.getD i false = false →
    (wantedA st.ts (guardOf ops.toList o) = false → ∀ d, o.dst = some d → st.ts.get d = some AV.undef) ∧
    (wantedA st.ts (guardOf ops.toList o) = true → (cls E o.op ≠ 3 → ∃ v, evQ E st.ts st.H o.op = some v ∧ ∀ d, o.dst = some d → st.ts.get d = some v) ∧
      (cls E o.op = 3 → ∃ r, evNew E st.ts o.op = some r ∧ st.H.get (base + i) = some (.cells r.cs r.es false) ∧ ∀ d, o.dst = some d → st.ts.get d = some (r.nm (base + i))))
  bnd : ∀ (i : Nat) (o : Oper) (d : Nat), ops[i]? = some o → bit done i = true → o.dst = some d → d < n
  lab : ∀ (i : Nat) (o : Oper), ops[i]? = some o → cls E o.op = 3 → base + i < st.N
  unk : ∀ (i : Nat) (o : Oper), ops[i]? = some o → cls E o.op = 3 → listed.getD i false = false → ¬ φ.k (base + i)
  base : st0.N ≤ base
  mv : Moves φ0 st0.H st0.N w0 φ st.H st.N w
end
/-- What is known of the rows. -/
structure Facts (E : Env) (ops : Array Oper) (bs : List Nat) (W : Tr Nat) (rs : List Row) : Prop where
  row : ∀ r ∈ rs, IsRow E ops.toList bs r
  all : ∀ (k : Nat) (o : Oper), ops[k]? = some o → ∃ r ∈ rs, r.i = k
  len : rs.length = ops.size
  bef : ∀ (i : Nat) (o : Oper), ops[i]? = some o → ∃ b, bs[i]? = some b ∧ ∀ x, bit b x = true → ∃ e ∈ o.after.toList, Region.binds .any e = true ∧ (e.on = x ∨ ∃ b', bs[e.on]? = some b' ∧ bit b' x = true)
  ok : ∀ r ∈ rs, rowOk W rs ops.toList r = true
  wr : ∀ (j : Nat) (o : Oper) (d : Nat), ops[j]? = some o → o.dst = some d → W.get d = some j
  back : ∀ (d k : Nat), W.get d = some k → ∃ o : Oper, ops[k]? = some o ∧ o.dst = some d
theorem facts {E : Env} {ops : Array Oper} {W : Tr Nat} (h1 : writers ops.toList 0 .e = some W) (h2 : rowsOk W (rowsOf E ops.toList 0 (befores ops.toList [])) ops.toList (rowsOf E ops.toList 0 (befores ops.toList [])) = true) : Facts E ops (befores ops.toList []) W (rowsOf E ops.toList 0 (befores ops.toList [])) := by
  obtain ⟨r1, r2, r3⟩ := rows_ok (E := E) ops.toList
  refine ⟨r1, fun k o hk => r2 k o (by simpa using hk), by simpa using r3, fun i o hi => ?_, fun r hr => rowsOk_ok h2 r hr, fun j o d hj hd => ?_, fun d k hk => ?_⟩
  · obtain ⟨b, g1, g2⟩ := (befores_ok ops.toList []).2 i o (by simpa using hi)
    exact ⟨b, by simpa using g1, g2⟩
  · have := (writers_ok ops.toList 0 .e W h1).2 j o d (by simpa using hj) hd
    simpa using this
  · rcases writers_back ops.toList 0 .e W h1 d k hk with h | ⟨j, o, g1, g2, rfl⟩
    · cases h
    · exact ⟨o, by simpa using g1, g2⟩
section
variable {P : Program} {E : Env} {n : Nat} {ops : Array Oper} {bs : List Nat} {W : Tr Nat} {rs : List Row} {φ0 : Emb} {st0 : St} {w0 : World}
/-- All that comes before what may come has come. -/
theorem bef_sub {S : Nat → Prop} (hf : Facts E ops bs W rs) (hS : ∀ i b, S i → bs[i]? = some b → ∀ j, bit b j = true → S j) {i : Nat} {o : Oper} (hi : ops[i]? = some o) (hp : ∀ e ∈ o.after.toList, Region.binds .any e = true → S e.on) {b : Nat} (hb : bs[i]? = some b) : ∀ j, bit b j = true → S j := by
  intro j hj
  obtain ⟨b', h1, h2⟩ := hf.bef i o hi
  obtain rfl := Option.some.inj (hb.symm.trans h1)
  obtain ⟨e, e1, e2, rfl | ⟨b', e3, e4⟩⟩ := h2 j hj
  · exact hp e e1 e2
  · exact hS e.on b' (hp e e1 e2) e3 j e4
theorem sub_edges {done : Nat} {o : Oper} (h : sub (preOf o) done = true) : ∀ e ∈ o.after.toList, Region.binds .any e = true → bit done e.on = true := fun e he hb =>
  sub_ok h ((pre_iff o e.on).2 ⟨e, he, hb, rfl⟩)
/-- The slots that an operation looks at. -/
theorem like_of (hf : Facts E ops bs W rs) {r : Row} (hr : r ∈ rs) {ts ts' : Tr AV} (hl : ∀ d, (∀ k, W.get d = some k → Rel rs r k) → ts.get d = ts'.get d) :
    (∀ H, evQ E ts H r.o.op = evQ E ts' H r.o.op) ∧ (∀ cf H N, evE E cf ts H N r.o.op = evE E cf ts' H N r.o.op) ∧ evNew E ts r.o.op = evNew E ts' r.o.op ∧ wantedA ts (guardOf ops.toList r.o) = wantedA ts' (guardOf ops.toList r.o) := by
  obtain ⟨_, g2, g3⟩ := rowOk_ok (hf.ok r hr)
  by_cases hcov : ∀ d, Operand.tmp d ∈ r.o.op.operands → Operand.tmp d ∈ opsL r.o.op
  · have hlike : Like ts ts' r.o.op := fun d hd => hl d (g2 d (hcov d hd))
    refine ⟨fun H => evQ_like hlike, fun cf H N => evE_like hlike, evNew_like hlike, ?_⟩
    cases hg : guardOf ops.toList r.o with
    | none => rfl
    | some p =>
      obtain ⟨t, want⟩ := p
      simp only [wantedA, hl t (g3 t want hg)]
  · obtain ⟨d, hd⟩ := Classical.not_forall.1 hcov
    obtain ⟨h1, h2⟩ := Classical.not_imp.1 hd
    rcases opsL_ok h1 with h3 | h3
    · exact absurd h3 h2
    · refine ⟨fun H => by rw [(h3 E ts H).1, (h3 E ts' H).1], fun cf H N => by rw [(h3 E ts H).2.1 cf N, (h3 E ts' H).2.1 cf N], by rw [(h3 E ts .e).2.2, (h3 E ts' .e).2.2], ?_⟩
      cases hg : guardOf ops.toList r.o with
      | none => rfl
      | some p =>
        obtain ⟨t, want⟩ := p
        simp only [wantedA, hl t (g3 t want hg)]
end
end Go.Ev

set_option linter.unusedVariables false
set_option linter.unusedSimpArgs false
namespace Go.Ev
open Go.RowKit
theorem tput_get {n : Nat} {dst : Option Nat} {v : AV} {ts ts' : Tr AV} (hn : n ≤ 16777216) (h : tput n dst v ts = some ts') : (∀ d, dst = some d → d < n ∧ ts'.get d = some v) ∧ ∀ d, dst ≠ some d → ts'.get d = ts.get d := by
  unfold tput at h
  cases dst with
  | none =>
    obtain rfl := Option.some.inj h
    exact ⟨fun d e => (by cases e), fun d _ => rfl⟩
  | some d0 =>
    simp only at h
    split at h
    · rename_i hb
      have hd := blt_lt hb
      obtain rfl := Option.some.inj h
      have hg := Tr.get_put (some v) 30 ts d0 (by omega)
      refine ⟨fun d e => ?_, fun d e => ?_⟩
      · obtain rfl := Option.some.inj e
        exact ⟨hd, by rw [hg, if_pos rfl]⟩
      · rw [hg, if_neg (fun e' => e (by rw [e']))]
    · cases h
theorem tput_some {n : Nat} {dst : Option Nat} {v : AV} {ts : Tr AV} (h : ∀ d, dst = some d → d < n) : ∃ ts', tput n dst v ts = some ts' := by
  unfold tput
  cases dst with
  | none => exact ⟨_, rfl⟩
  | some d =>
    have : Nat.blt d n = true := Nat.blt_eq.mpr (h d rfl)
    simp only [this]
    exact ⟨_, rfl⟩
theorem stillA_ok {E : Env} {ts : Tr AV} {H : Tr AObj} {gd : Oper → Option (Nat × Bool)} {re : List Oper} (h : stillA E ts H gd re = true) : ∀ o ∈ re, wantedA ts (gd o) = true → ∃ v, evQ E ts H o.op = some v ∧ ∀ d, o.dst = some d → ts.get d = some v := by
  induction re with
  | nil => intro o ho; cases ho
  | cons o re ih =>
    have h' : (match wantedA ts (gd o) with
    | false => stillA E ts H gd re
    | true => match evQ E ts H o.op with
      | some v => match o.dst with
        | none => stillA E ts H gd re
        | some d => match ts.get d with
          | some u => match AV.beq u v with
            | true => stillA E ts H gd re
            | false => false
          | none => false
      | none => false) = true := h
    have rest : stillA E ts H gd re = true := by
      split at h'
      · exact h'
      · split at h'
        · split at h'
          · exact h'
          · split at h'
            · split at h'
              · exact h'
              · cases h'
            · cases h'
        · cases h'
    intro p hp hw
    rcases List.mem_cons.1 hp with rfl | hp
    · rw [hw] at h'
      simp only at h'
      split at h'
      · rename_i v hv
        refine ⟨v, hv, fun d hd => ?_⟩
        rw [hd] at h'
        simp only at h'
        split at h'
        · rename_i u hu
          split at h'
          · rename_i hb
            rw [hu, beq_eq _ _ hb]
          · cases h'
        · cases h'
      · cases h'
    · exact ih rest p hp hw
theorem getD_set (l : Array Bool) (i j : Nat) (hi : i < l.size) : (l.setIfInBounds i true).getD j false = (l.getD j false || decide (i = j)) := by
  simp only [Array.getD_eq_getD_getElem?]
  by_cases e : i = j
  · subst e
    rw [Array.getElem?_setIfInBounds_self_of_lt hi]
    simp
  · rw [Array.getElem?_setIfInBounds_ne e]
    simp [e]
theorem cls_le {E : Env} (op : Op) : cls E op ≤ 3 := by
  cases op <;> try (exact Nat.le_of_ble_eq_true rfl)
  case convert s d x =>
    simp only [cls]
    cases isSliceT E d <;> cases isSliceT E s <;> exact Nat.le_of_ble_eq_true rfl
  case call c =>
    obtain ⟨callee, args, ats⟩ := c
    cases callee <;> try (exact Nat.le_of_ble_eq_true rfl)
    rename_i b
    cases b <;> exact Nat.le_of_ble_eq_true rfl
section
variable {P : Program} {E : Env} (hE : EnvOk P E) {cf : CallF} (hc : CallOk P cf) {n : Nat} (hn : n ≤ 16777216) {ops : Array Oper} {bs : List Nat} {W : Tr Nat} {rs : List Row} {base : Nat} {φ0 : Emb} {st0 : St} {w0 : World}
  (hf : Facts E ops bs W rs)
include hf
theorem Facts.isRow {r : Row} (hr : r ∈ rs) : ops[r.i]? = some r.o ∧ r.pre = preOf r.o ∧ r.c = cls E r.o.op ∧ bs[r.i]? = some r.bef := by
  obtain ⟨a, b, c, d⟩ := hf.row r hr
  exact ⟨by simpa using a, b, c, d⟩
theorem Facts.rowAt {i : Nat} {o : Oper} (h : ops[i]? = some o) : ∃ r ∈ rs, r.i = i ∧ r.o = o := by
  obtain ⟨r, hr, hri⟩ := hf.all i o h
  refine ⟨r, hr, hri, ?_⟩
  have := (Facts.isRow hf hr).1
  rw [hri, h] at this
  exact (Option.some.inj this).symm
omit hf in
theorem at_lt {i : Nat} {o : Oper} (h : ops[i]? = some o) : i < ops.size := (Array.getElem?_eq_some_iff.1 h).1
/-- Where something done stands between, what looks has come before what writes. -/
theorem rel_done {done : Nat} {listed : Array Bool} {st : St} {φ : Emb} {a : Act} {w : World} {tsm : Tr AV} (hi : Inv E n ops bs W base φ0 st0 w0 done listed st φ a w tsm) {r : Row} (hr : r ∈ rs) (hr2 : r.c ≠ 2 ∨ bit done r.i = false) {k : Nat} (hk : bit done k = true) (hrel : Rel rs r k)
    (hb : ∀ j, bit r.bef j = true → listed.getD j false = true ∨ j ≠ k) : listed.getD k false = true ∨ listed.getD r.i false = true := by
  rcases hrel with h | ⟨q, hq, rfl, h1, h2⟩
  · rcases hb k h with h | h
    · exact .inl h
    · exact absurd rfl h
  · obtain ⟨q1, _, _, q4⟩ := Facts.isRow hf hq
    have hri := hi.dcl q.i q.bef hk q4 r.i h1
    rcases h2 with h2 | ⟨e, he, he2, h3, h4⟩
    · rcases hr2 with h | h
      · exact absurd h2 h
      · rw [hri] at h; cases h
    · obtain ⟨e1, _, e3, e4⟩ := Facts.isRow hf he
      rcases h4 with h4 | h4
      · left
        rw [← h4] at hk ⊢
        exact hi.ef e.i e.o e1 (by rw [← e3]; exact he2) hk
      · right
        have hed := hi.dcl q.i q.bef hk q4 e.i h4
        have hel := hi.ef e.i e.o e1 (by rw [← e3]; exact he2) hed
        exact hi.lcl e.i e.bef hel e4 r.i h3
/-- A pending operation's slots are not written by what is yet to come. -/
theorem rel_next {done : Nat} {listed : Array Bool} {st : St} {φ : Emb} {a : Act} {w : World} {tsm : Tr AV} (hi : Inv E n ops bs W base φ0 st0 w0 done listed st φ a w tsm) {r : Row} (hr : r ∈ rs) (hnd : bit done r.i = false) (hbd : ∀ j, bit r.bef j = true → bit done j = true) (hbl : r.c = 2 → ∀ j, bit r.bef j = true → listed.getD j false = true)
    {p : Row} (hp : p ∈ rs) (hpd : p.i = r.i ∨ (bit done p.i = true ∧ listed.getD p.i false = false)) : ¬ Rel rs p r.i := by
  intro hrel
  obtain ⟨p1, _, p3, p4⟩ := Facts.isRow hf hp
  obtain ⟨r1, _, r3, r4⟩ := Facts.isRow hf hr
  rcases hpd with hpi | ⟨hpd, hpl⟩
  · have hpb : p.bef = r.bef := by rw [hpi, r4] at p4; exact (Option.some.inj p4).symm
    rcases hrel with h | ⟨q, hq, hqi, h1, _⟩
    · rw [hpb] at h
      rw [hbd _ h] at hnd; cases hnd
    · obtain ⟨_, _, _, q4⟩ := Facts.isRow hf hq
      have hqb : q.bef = r.bef := by rw [hqi, r4] at q4; exact (Option.some.inj q4).symm
      rw [hqb, hpi] at h1
      rw [hbd _ h1] at hnd; cases hnd
  · rcases hrel with h | ⟨q, hq, hqi, h1, h2⟩
    · rw [hi.dcl p.i p.bef hpd p4 r.i h] at hnd; cases hnd
    · obtain ⟨_, _, _, q4⟩ := Facts.isRow hf hq
      have hqb : q.bef = r.bef := by rw [hqi, r4] at q4; exact (Option.some.inj q4).symm
      rcases h2 with h2 | ⟨e, he, he2, h3, h4⟩
      · rw [hi.ef p.i p.o p1 (by rw [← p3]; exact h2) hpd] at hpl; cases hpl
      · obtain ⟨e1, _, e3, e4⟩ := Facts.isRow hf he
        rcases h4 with h4 | h4
        · have hc2 : r.c = 2 := by
            rw [h4, r1] at e1
            rw [r3, Option.some.inj e1, ← e3]; exact he2
          have heb : e.bef = r.bef := by rw [h4, r4] at e4; exact (Option.some.inj e4).symm
          rw [heb] at h3
          rw [hbl hc2 _ h3] at hpl; cases hpl
        · rw [hqb] at h4
          have hel := hi.ef e.i e.o e1 (by rw [← e3]; exact he2) (hbd _ h4)
          rw [hi.lcl e.i e.bef hel e4 p.i h3] at hpl; cases hpl
end
end Go.Ev

set_option linter.unusedVariables false
set_option linter.unusedSimpArgs false
namespace Go.Ev
open Go.RowKit
section
variable {P : Program} {E : Env} (hE : EnvOk P E) {cf : CallF} (hc : CallOk P cf) {n : Nat} (hn : n ≤ 16777216) {ops : Array Oper} {bs : List Nat} {W : Tr Nat} {rs : List Row} {base : Nat} {φ0 : Emb} {st0 : St} {w0 : World}
  (hf : Facts E ops bs W rs)
include hn hf
omit hn in
/-- What a plan's step gives, where nothing is called. -/
theorem quiet_gives {done : Nat} {st st1 : St} {r : Row} (hr : r ∈ rs) (hcl : r.c ≠ 2)
    (h : evStep E cf base n (guardOf ops.toList) (stepOf E ops.toList r.o (Bool.rec [] (looks done 0 rs) (Nat.beq r.c 3)) (labOf r)) st = some st1) :
    ∃ v ts1 H1, tput n r.o.dst v st.ts = some ts1 ∧ st1 = ⟨ts1, H1, st.N⟩ ∧
      ((wantedA st.ts (guardOf ops.toList r.o) = false ∧ v = AV.undef ∧ H1 = st.H) ∨
       (wantedA st.ts (guardOf ops.toList r.o) = true ∧ r.c ≠ 3 ∧ evQ E st.ts st.H r.o.op = some v ∧ H1 = st.H) ∨
       (wantedA st.ts (guardOf ops.toList r.o) = true ∧ r.c = 3 ∧ ∃ x, evNew E st.ts r.o.op = some x ∧ v = x.nm (base + r.i) ∧ base + r.i < st.N ∧ H1 = hput st.H (base + r.i) (.cells x.cs x.es false) ∧ stillA E ts1 H1 (guardOf ops.toList) (looks done 0 rs) = true)) := by
  obtain ⟨ho, hpre, hrc, hb⟩ := Facts.isRow hf hr
  unfold evStep at h
  simp only [stepOf] at h
  split at h
  · rename_i hwa
    split at h
    · rename_i ts1 hp1
      exact ⟨_, ts1, _, hp1, (Option.some.inj h).symm, .inl ⟨hwa, rfl, rfl⟩⟩
    · cases h
  · rename_i hwa
    by_cases h3 : r.c = 3
    · have hlab : labOf r = some r.i := by rw [labOf, h3]; rfl
      have hlk : (Bool.rec [] (looks done 0 rs) (Nat.beq r.c 3) : List Oper) = looks done 0 rs := by rw [h3]; rfl
      rw [hlab, hlk] at h
      simp only at h
      unfold evStepN at h
      split at h
      case h_2 => cases h
      rename_i x hx
      split at h
      case h_2 => cases h
      rename_i hlt
      split at h
      case h_2 => cases h
      rename_i ts1 hp1
      split at h
      case h_2 => cases h
      rename_i hst
      exact ⟨_, ts1, _, hp1, (Option.some.inj h).symm, .inr (.inr ⟨hwa, h3, x, hx, rfl, blt_lt hlt, rfl, hst⟩)⟩
    · have hlab : labOf r = none := by rw [labOf, beq_ne h3]
      rw [hlab] at h
      simp only at h
      have fin : ∀ v, evQ E st.ts st.H r.o.op = some v → (match tput n r.o.dst v st.ts with | some ts => some (⟨ts, st.H, st.N⟩ : St) | none => none) = some st1 → ∃ v ts1 H1, tput n r.o.dst v st.ts = some ts1 ∧ st1 = ⟨ts1, H1, st.N⟩ ∧
      ((wantedA st.ts (guardOf ops.toList r.o) = false ∧ v = AV.undef ∧ H1 = st.H) ∨
       (wantedA st.ts (guardOf ops.toList r.o) = true ∧ r.c ≠ 3 ∧ evQ E st.ts st.H r.o.op = some v ∧ H1 = st.H) ∨
       (wantedA st.ts (guardOf ops.toList r.o) = true ∧ r.c = 3 ∧ ∃ x, evNew E st.ts r.o.op = some x ∧ v = x.nm (base + r.i) ∧ base + r.i < st.N ∧ H1 = hput st.H (base + r.i) (.cells x.cs x.es false) ∧ stillA E ts1 H1 (guardOf ops.toList) (looks done 0 rs) = true)) := fun v hv h => by
        split at h
        · rename_i ts1 hp1
          exact ⟨v, ts1, _, hp1, (Option.some.inj h).symm, .inr (.inl ⟨hwa, h3, hv, rfl⟩)⟩
        · cases h
      have hcls : cls E r.o.op ≠ 2 ∧ cls E r.o.op ≠ 3 := ⟨by rw [← hrc]; exact hcl, by rw [← hrc]; exact h3⟩
      split at h
      · split at h
        · rename_i v hv; exact fin v hv h
        · cases h
      · split at h
        · rename_i v hv; exact fin v hv h
        · cases h
      · exfalso
        have e0 : cls E r.o.op ≠ 0 := by assumption
        have e1 : cls E r.o.op ≠ 1 := by assumption
        have := cls_le (E := E) r.o.op
        generalize cls E r.o.op = x at *
        omega
/-- A quiet operation is gone through ahead. -/
theorem quiet_step {done : Nat} {listed : Array Bool} {st st1 : St} {φ : Emb} {a : Act} {w : World} {tsm : Tr AV} (hi : Inv E n ops bs W base φ0 st0 w0 done listed st φ a w tsm) {r : Row} (hr : r ∈ rs) (hcl : r.c ≠ 2) (hnd : bit done r.i = false) (hp : sub r.pre done = true)
    (h : evStep E cf base n (guardOf ops.toList) (stepOf E ops.toList r.o (Bool.rec [] (looks done 0 rs) (Nat.beq r.c 3)) (labOf r)) st = some st1) : Inv E n ops bs W base φ0 st0 w0 (Nat.lor done (Nat.pow 2 r.i)) listed st1 φ a w tsm := by
  obtain ⟨v, ts1, H1, hput1, rfl, hcase⟩ := quiet_gives hf hr hcl h
  obtain ⟨ho, hpre, hrc, hb⟩ := Facts.isRow hf hr
  have hnl : listed.getD r.i false = false := by
    cases hx : listed.getD r.i false
    · rfl
    · rw [hi.lt _ hx] at hnd; cases hnd
  have hbef : ∀ j, bit r.bef j = true → bit done j = true := bef_sub (S := fun k => bit done k = true) hf hi.dcl ho (sub_edges (by rw [← hpre]; exact hp)) hb
  obtain ⟨p1, p2⟩ := tput_get hn hput1
  have hor : ∀ j, bit (Nat.lor done (Nat.pow 2 r.i)) j = true ↔ bit done j = true ∨ r.i = j := fun j => by rw [bit_or]; simp
  -- the slots that a pending operation looks at stay
  have hl : ∀ p ∈ rs, (p.i = r.i ∨ (bit done p.i = true ∧ listed.getD p.i false = false)) → ∀ d, (∀ k, W.get d = some k → Rel rs p k) → ts1.get d = st.ts.get d := fun p hp' hpd d hd => p2 d fun e =>
    rel_next hf hi hr hnd hbef (fun e => absurd e hcl) hp' hpd (hd _ (hf.wr _ _ _ ho e))
  have hH : HRel φ H1 st.N w ∧ Moves φ0 st0.H st0.N w0 φ H1 st.N w ∧ ∀ l, l ≠ base + r.i → H1.get l = st.H.get l := by
    rcases hcase with ⟨_, _, rfl⟩ | ⟨_, _, _, rfl⟩ | ⟨_, h3, x, _, _, hlt, rfl, _⟩
    · exact ⟨hi.h, hi.mv, fun _ _ => rfl⟩
    · exact ⟨hi.h, hi.mv, fun _ _ => rfl⟩
    · have hk := hi.unk r.i r.o ho (by rw [← hrc]; exact h3) hnl
      have hN := hi.N
      exact ⟨ghost_put hi.h hlt hi.N hk, ghost_moves hi.mv (Nat.le_trans hi.base (Nat.le_add_right _ _)) (by omega) hk, fun l hne => by rw [hget_put _ (by omega), if_neg hne]⟩
  refine ⟨hi.sz, fun j hj => (hor j).2 (.inl (hi.lt j hj)), fun j hj => ?_, fun j o hj h2 hd => ?_, hi.lcl, fun j b hj hjb x hx => ?_, hi.N, hH.1, hi.t, fun d hd => ?_, fun j o hj hd hjl => ?_, fun j o d hj hd hod => ?_, hi.lab, hi.unk, hi.base, hH.2.1⟩
  · rcases (hor j).1 hj with hj | rfl
    · exact hi.dlt j hj
    · exact at_lt ho
  · rcases (hor j).1 hd with hd | rfl
    · exact hi.ef j o hj h2 hd
    · rw [ho] at hj
      obtain rfl := Option.some.inj hj
      exact absurd (hrc.trans h2) hcl
  · rcases (hor j).1 hj with hj | rfl
    · exact (hor x).2 (.inl (hi.dcl j b hj hjb x hx))
    · rw [hb] at hjb
      obtain rfl := Option.some.inj hjb
      exact (hor x).2 (.inl (hbef x hx))
  · have hne : r.o.dst ≠ some d := fun e => by
      have := hd _ (hf.wr _ _ _ ho e) ((hor _).2 (.inr rfl))
      rw [hnl] at this; cases this
    show tsm.get d = ts1.get d
    rw [p2 d hne]
    exact hi.like d fun k hk hkd => hd k hk ((hor k).2 (.inl hkd))
  · obtain ⟨q, hq, hqi, hqo⟩ := Facts.rowAt hf hj
    subst hqi hqo
    obtain ⟨k1, k2, k3, k4⟩ := Facts.isRow hf hq
    rcases (hor q.i).1 hd with hd | hri
    · obtain ⟨g1, g2⟩ := hi.pend q.i q.o hj hd hjl
      have hne : q.i ≠ r.i := fun e => by rw [e, hnd] at hd; cases hd
      obtain ⟨l1, _, l2, l3⟩ := like_of hf hq (hl q hq (.inr ⟨hd, hjl⟩))
      have hdst : ∀ d, q.o.dst = some d → ts1.get d = st.ts.get d := fun d hod => p2 d fun e => by
        have h1 := hf.wr _ _ _ hj hod
        have h2 := hf.wr _ _ _ ho e
        rw [h1] at h2
        exact hne (Option.some.inj h2)
      refine ⟨fun hw d hod => ?_, fun hw => ⟨fun h3 => ?_, fun h3 => ?_⟩⟩
      · rw [hdst d hod]
        exact g1 (by rw [← l3]; exact hw) d hod
      · have hw' : wantedA st.ts (guardOf ops.toList q.o) = true := by rw [← l3]; exact hw
        obtain ⟨u, u1, u2⟩ := (g2 hw').1 h3
        rcases hcase with ⟨_, _, rfl⟩ | ⟨_, _, _, rfl⟩ | ⟨_, hr3, x, _, _, hlt, rfl, hst⟩
        · exact ⟨u, by rw [l1]; exact u1, fun d hod => by rw [hdst d hod]; exact u2 d hod⟩
        · exact ⟨u, by rw [l1]; exact u1, fun d hod => by rw [hdst d hod]; exact u2 d hod⟩
        · by_cases h0 : cls E q.o.op = 0
          · exact ⟨u, by rw [l1, evQ_still h0]; exact u1, fun d hod => by rw [hdst d hod]; exact u2 d hod⟩
          · have hc2 : cls E q.o.op ≠ 2 := fun e => by rw [hi.ef q.i q.o hj e hd] at hjl; cases hjl
            have hc1 : q.c = 1 := by
              have := cls_le (E := E) q.o.op
              rw [k3]
              generalize cls E q.o.op = y at *
              omega
            exact stillA_ok hst q.o (looks_ok q hq hc1 hd (bit_zero _)) hw
      · have hw' : wantedA st.ts (guardOf ops.toList q.o) = true := by rw [← l3]; exact hw
        obtain ⟨x, x1, x2, x3⟩ := (g2 hw').2 h3
        refine ⟨x, by rw [l2]; exact x1, ?_, fun d hod => by rw [hdst d hod]; exact x3 d hod⟩
        rw [← x2]
        exact hH.2.2 _ (by omega)
    · obtain ⟨l1, _, l2, l3⟩ := like_of hf hr (hl r hr (.inl rfl))
      have hqr : q.o = r.o := by rw [← hri, ho] at hj; exact (Option.some.inj hj).symm
      rw [hqr]
      rw [← hri]
      simp only [l1, l2, l3]
      rcases hcase with ⟨hw, hv, rfl⟩ | ⟨hw, hr3, hv, rfl⟩ | ⟨hw, hr3, x, hx, hv, hlt, rfl, hst⟩
      · exact ⟨fun _ d hod => by rw [(p1 d hod).2, hv], fun hw' => (by rw [hw] at hw'; cases hw')⟩
      · exact ⟨fun hw' => (by rw [hw] at hw'; cases hw'), fun _ => ⟨fun _ => ⟨v, hv, fun d hod => (p1 d hod).2⟩, fun h3 => absurd (hrc.trans h3) hr3⟩⟩
      · refine ⟨fun hw' => (by rw [hw] at hw'; cases hw'), fun _ => ⟨fun h3 => absurd (hrc.symm.trans hr3) h3, fun _ => ⟨x, hx, ?_, fun d hod => by rw [(p1 d hod).2, hv]⟩⟩⟩
        have hN := hi.N
        rw [hget_put _ (by omega), if_pos rfl]
  · rcases (hor j).1 hd with hd | rfl
    · exact hi.bnd j o d hj hd hod
    · rw [ho] at hj
      obtain rfl := Option.some.inj hj
      exact (p1 d hod).1
end
end Go.Ev

set_option linter.unusedVariables false
set_option linter.unusedSimpArgs false
namespace Go.Ev
open Go.RowKit
section
variable {P : Program} {E : Env} (hE : EnvOk P E) {cf : CallF} (hc : CallOk P cf) {n : Nat} (hn : n ≤ 16777216) {ops : Array Oper} {bs : List Nat} {W : Tr Nat} {rs : List Row} {base : Nat} {φ0 : Emb} {st0 : St} {w0 : World}
  (hf : Facts E ops bs W rs)
include hn hf hE
/-- An operation that is gone through already is done. -/
theorem pend_wp {Q : Exit → Act → World → Prop} {K : Act → World → Prop} {done : Nat} {listed : Array Bool} {st : St} {φ : Emb} {a : Act} {w : World} {tsm : Tr AV} (hi : Inv E n ops bs W base φ0 st0 w0 done listed st φ a w tsm) {r : Row} (hr : r ∈ rs) (hnl : listed.getD r.i false = false) (hd : bit done r.i = true)
    (he : ∀ e ∈ r.o.after.toList, Region.binds .any e = true → listed.getD e.on false = true)
    (hK : ∀ φ' a' w' tsm', Inv E n ops bs W base φ0 st0 w0 done (listed.setIfInBounds r.i true) st φ' a' w' tsm' → K a' w') : wpOp P ops Q r.i K a w := by
  obtain ⟨ho, hpre, hrc, hb⟩ := Facts.isRow hf hr
  have hsz : r.i < listed.size := by rw [hi.sz]; exact at_lt ho
  have hbef : ∀ j, bit r.bef j = true → listed.getD j false = true := bef_sub (S := fun k => listed.getD k false = true) hf hi.lcl ho he hb
  have hcl : cls E r.o.op ≠ 2 := fun e => by
    have := hi.ef r.i r.o ho e hd
    rw [hnl] at this; cases this
  obtain ⟨l1, _, l2, l3⟩ := like_of (ts := tsm) (ts' := st.ts) hf hr fun d hd' => hi.like d fun k hk hkd => by
    rcases rel_done hf hi hr (.inl (by rw [hrc]; exact hcl)) hkd (hd' k hk) (fun j hj => .inl (hbef j hj)) with h | h
    · exact h
    · rw [hnl] at h; cases h
  have hor : ∀ j, (listed.setIfInBounds r.i true).getD j false = true ↔ listed.getD j false = true ∨ r.i = j := fun j => by rw [getD_set _ _ _ hsz]; simp
  have fin : ∀ φ' w' v, scv φ' st.N v → (∀ d, r.o.dst = some d → st.ts.get d = some v) → HRel φ' st.H st.N w' → Moves φ0 st0.H st0.N w0 φ' st.H st.N w' → φ.Same φ' st.N → (∀ l, l ≠ base + r.i → φ'.k l → φ.k l) → (cls E r.o.op ≠ 3 → ∀ l, φ'.k l → φ.k l) → K (a.put r.o.dst (conc φ' v)) w' := fun φ' w' v hv hg hh hm hsame hk1 hk2 => by
    obtain ⟨tsm', hput⟩ := tput_some (n := n) (dst := r.o.dst) (v := v) (ts := tsm) fun d hod => hi.bnd r.i r.o d ho hd hod
    obtain ⟨p1, p2⟩ := tput_get hn hput
    refine hK φ' _ w' tsm' ⟨by simpa using hi.sz, fun j hj => ?_, hi.dlt, fun j p hj h2 hjd => (hor j).2 (.inl (hi.ef j p hj h2 hjd)), fun j c hj hjc x hx => ?_, hi.dcl, hi.N, hh, (hi.t.same hsame (Nat.le_refl _)).put hn hput hv, fun d hd' => ?_, fun j p hj hjd hjl => ?_, hi.bnd, hi.lab, fun j p hj h3 hjl => ?_, hi.base, hm⟩
    · rcases (hor j).1 hj with hj | rfl
      · exact hi.lt j hj
      · exact hd
    · rcases (hor j).1 hj with hj | rfl
      · exact (hor x).2 (.inl (hi.lcl j c hj hjc x hx))
      · rw [hb] at hjc
        obtain rfl := Option.some.inj hjc
        exact (hor x).2 (.inl (hbef x hx))
    · by_cases e : r.o.dst = some d
      · rw [(p1 d e).2, hg d e]
      · rw [p2 d e]
        refine hi.like d fun k hk hkd => ?_
        rcases (hor k).1 (hd' k hk hkd) with h | rfl
        · exact h
        · obtain ⟨p, g1, g2⟩ := hf.back d r.i hk
          rw [ho] at g1
          obtain rfl := Option.some.inj g1
          exact absurd g2 e
    · refine hi.pend j p hj hjd ?_
      cases hx : listed.getD j false
      · rfl
      · rw [(hor j).2 (.inl hx)] at hjl; cases hjl
    · have hjl' : listed.getD j false = false := by
        cases hx : listed.getD j false
        · rfl
        · rw [(hor j).2 (.inl hx)] at hjl; cases hjl
      have hne : r.i ≠ j := fun e => by rw [(hor j).2 (.inr e)] at hjl; cases hjl
      exact fun h => hi.unk j p hj h3 hjl' (hk1 _ (by omega) h)
  unfold wpOp
  simp only [ho]
  rw [wanted_eq hi.t hn, l3]
  obtain ⟨g1, g2⟩ := hi.pend r.i r.o ho hd hnl
  cases hw : wantedA st.ts (guardOf ops.toList r.o) with
  | false =>
    have := fin φ w AV.undef (scv_undef _ _) (g1 hw) hi.h hi.mv (Emb.Same.refl _ _) (fun _ _ h => h) (fun _ _ h => h)
    rw [conc_undef] at this
    simpa using this
  | true =>
    obtain ⟨g3, g4⟩ := g2 hw
    simp only [if_true]
    left
    by_cases h3 : cls E r.o.op = 3
    · obtain ⟨x, x1, x2, x3⟩ := g4 h3
      obtain ⟨n1, t, n2⟩ := evNew_ok hE hi.t (o := r.o) (r := x) (by rw [l2]; exact x1)
      have hk := hi.unk r.i r.o ho h3 hnl
      have hlt := hi.lab r.i r.o ho h3
      have hb' : (φ.wake (base + r.i) w.heap.size).b (base + r.i) = w.heap.size := by simp [Emb.wake, Emb.with]
      have hs' : (φ.wake (base + r.i) w.heap.size).s (base + r.i) = 0 := by simp [Emb.wake, Emb.with]
      obtain ⟨n3, n4⟩ := n2 w (φ.wake (base + r.i) w.heap.size) (base + r.i) hb' hs'
      unfold Oper.wp
      rw [n3]
      exact fin _ _ _ (n4 _ hlt (.inl rfl)) x3 (wake_rel hi.h hlt hk x2 n1) (wake_moves hi.mv (Nat.le_trans hi.base (Nat.le_add_right _ _)) hk) (wake_same hk) (fun l hl h => h.resolve_left hl) (fun h => absurd h3 h)
    · obtain ⟨v, v1, v2⟩ := g3 h3
      have hlt : cls E r.o.op < 2 := by
        have := cls_le (E := E) r.o.op
        omega
      exact quiet_wp hE hi.t (by rw [l1]; exact v1) hlt hi.h fun sv => fin φ w v sv v2 hi.h hi.mv (Emb.Same.refl _ _) (fun _ _ h => h) (fun _ _ h => h)
include hc
/-- The next thing that does something is done. -/
theorem eff_wp {Q : Exit → Act → World → Prop} {K : Act → World → Prop} {done : Nat} {listed : Array Bool} {st st1 : St} {φ : Emb} {a : Act} {w : World} {tsm : Tr AV} (hi : Inv E n ops bs W base φ0 st0 w0 done listed st φ a w tsm) {r : Row} (hr : r ∈ rs) (hcl : r.c = 2) (hnd : bit done r.i = false) (hp : sub r.pre done = true)
    (he : ∀ e ∈ r.o.after.toList, Region.binds .any e = true → listed.getD e.on false = true)
    (h : evStep E cf base n (guardOf ops.toList) (stepOf E ops.toList r.o (looks done r.bef rs) none) st = some st1)
    (hK : ∀ φ' a' w' tsm', Inv E n ops bs W base φ0 st0 w0 (Nat.lor done (Nat.pow 2 r.i)) (listed.setIfInBounds r.i true) st1 φ' a' w' tsm' → K a' w') : wpOp P ops Q r.i K a w := by
  obtain ⟨ho, hpre, hrc, hb⟩ := Facts.isRow hf hr
  have hnl : listed.getD r.i false = false := by
    cases hx : listed.getD r.i false
    · rfl
    · rw [hi.lt _ hx] at hnd; cases hnd
  have hsz : r.i < listed.size := by rw [hi.sz]; exact at_lt ho
  have hbd : ∀ j, bit r.bef j = true → bit done j = true := bef_sub (S := fun k => bit done k = true) hf hi.dcl ho (sub_edges (by rw [← hpre]; exact hp)) hb
  have hbef : ∀ j, bit r.bef j = true → listed.getD j false = true := bef_sub (S := fun k => listed.getD k false = true) hf hi.lcl ho he hb
  obtain ⟨_, l2, _, l3⟩ := like_of (ts := tsm) (ts' := st.ts) hf hr fun d hd' => hi.like d fun k hk hkd => by
    rcases rel_done hf hi hr (.inr hnd) hkd (hd' k hk) (fun j hj => .inl (hbef j hj)) with h | h
    · exact h
    · rw [hnl] at h; cases h
  have hor : ∀ j, (listed.setIfInBounds r.i true).getD j false = true ↔ listed.getD j false = true ∨ r.i = j := fun j => by rw [getD_set _ _ _ hsz]; simp
  have hod : ∀ j, bit (Nat.lor done (Nat.pow 2 r.i)) j = true ↔ bit done j = true ∨ r.i = j := fun j => by rw [bit_or]; simp
  have likes : ∀ ts1 v, tput n r.o.dst v st.ts = some ts1 → ∀ p ∈ rs, bit done p.i = true → listed.getD p.i false = false →
      (∀ H, evQ E ts1 H p.o.op = evQ E st.ts H p.o.op) ∧ evNew E ts1 p.o.op = evNew E st.ts p.o.op ∧ wantedA ts1 (guardOf ops.toList p.o) = wantedA st.ts (guardOf ops.toList p.o) ∧ ∀ d, p.o.dst = some d → ts1.get d = st.ts.get d := fun ts1 v hput p hp' hpd hpl => by
    obtain ⟨p1, p2⟩ := tput_get hn hput
    obtain ⟨m1, _, m2, m3⟩ := like_of (ts := ts1) (ts' := st.ts) hf hp' fun d hd => p2 d fun e =>
      rel_next hf hi hr hnd hbd (fun _ => hbef) hp' (.inr ⟨hpd, hpl⟩) (hd _ (hf.wr _ _ _ ho e))
    refine ⟨m1, m2, m3, fun d hpdst => p2 d fun e => ?_⟩
    have h1 := hf.wr _ _ _ (Facts.isRow hf hp').1 hpdst
    have h2 := hf.wr _ _ _ ho e
    rw [h1] at h2
    rw [Option.some.inj h2, hnd] at hpd
    cases hpd
  have fin : ∀ φ' w' v ts1 H1 N1, tput n r.o.dst v st.ts = some ts1 → HRel φ' H1 N1 w' → Moves φ st.H st.N w φ' H1 N1 w' → scv φ' N1 v → N1 ≤ 16777216 → st1 = ⟨ts1, H1, N1⟩ →
      (∀ p ∈ rs, bit done p.i = true → listed.getD p.i false = false → p.c < 2 → wantedA ts1 (guardOf ops.toList p.o) = true → (∃ u, evQ E st.ts st.H p.o.op = some u ∧ ∀ d, p.o.dst = some d → st.ts.get d = some u) → ∃ u, evQ E ts1 H1 p.o.op = some u ∧ ∀ d, p.o.dst = some d → ts1.get d = some u) →
      K (a.put r.o.dst (conc φ' v)) w' := fun φ' w' v ts1 H1 N1 hput hh hm hv hN he1 hst => by
    subst he1
    obtain ⟨p1, p2⟩ := tput_get hn hput
    obtain ⟨tsm', hput'⟩ := tput_some (n := n) (dst := r.o.dst) (v := v) (ts := tsm) fun d hd => (p1 d hd).1
    obtain ⟨q1, q2⟩ := tput_get hn hput'
    refine hK φ' _ w' tsm' ⟨by simpa using hi.sz, fun j hj => ?_, fun j hj => ?_, fun j p hj h2 hjd => ?_, fun j c hj hjc x hx => ?_, fun j c hj hjc x hx => ?_, hN, hh, (hi.t.same hm.same hm.le).put hn hput' hv, fun d hd' => ?_, fun j p hj hjd hjl => ?_, fun j p d hj hjd hpd => ?_, fun j p hj h3 => Nat.lt_of_lt_of_le (hi.lab j p hj h3) hm.le, fun j p hj h3 hjl => ?_, hi.base, hi.mv.trans hm⟩
    · rcases (hor j).1 hj with hj | rfl
      · exact (hod j).2 (.inl (hi.lt j hj))
      · exact (hod _).2 (.inr rfl)
    · rcases (hod j).1 hj with hj | rfl
      · exact hi.dlt j hj
      · exact at_lt ho
    · rcases (hod j).1 hjd with hjd | rfl
      · exact (hor j).2 (.inl (hi.ef j p hj h2 hjd))
      · exact (hor _).2 (.inr rfl)
    · rcases (hor j).1 hj with hj | rfl
      · exact (hor x).2 (.inl (hi.lcl j c hj hjc x hx))
      · rw [hb] at hjc
        obtain rfl := Option.some.inj hjc
        exact (hor x).2 (.inl (hbef x hx))
    · rcases (hod j).1 hj with hj | rfl
      · exact (hod x).2 (.inl (hi.dcl j c hj hjc x hx))
      · rw [hb] at hjc
        obtain rfl := Option.some.inj hjc
        exact (hod x).2 (.inl (hbd x hx))
    · by_cases e : r.o.dst = some d
      · show tsm'.get d = ts1.get d
        rw [(p1 d e).2, (q1 d e).2]
      · show tsm'.get d = ts1.get d
        rw [p2 d e, q2 d e]
        refine hi.like d fun k hk hkd => ?_
        rcases (hor k).1 (hd' k hk ((hod k).2 (.inl hkd))) with h | rfl
        · exact h
        · rw [hkd] at hnd; cases hnd
    · have hne : r.i ≠ j := fun e => by rw [(hor j).2 (.inr e)] at hjl; cases hjl
      have hjd : bit done j = true := ((hod j).1 hjd).resolve_right hne
      have hjl : listed.getD j false = false := by
        cases hx : listed.getD j false
        · rfl
        · rw [(hor j).2 (.inl hx)] at hjl; cases hjl
      obtain ⟨q, hq, hqi, hqo⟩ := Facts.rowAt hf hj
      subst hqi hqo
      obtain ⟨k1, k2, k3, k4⟩ := Facts.isRow hf hq
      obtain ⟨g1, g2⟩ := hi.pend q.i q.o hj hjd hjl
      obtain ⟨m1, m2, m3, m4⟩ := likes ts1 v hput q hq hjd hjl
      refine ⟨fun hw d hpd => ?_, fun hw => ⟨fun h3 => ?_, fun h3 => ?_⟩⟩
      · rw [m4 d hpd]
        exact g1 (by rw [← m3]; exact hw) d hpd
      · have hlt : q.c < 2 := by
          have := cls_le (E := E) q.o.op
          have h2 : cls E q.o.op ≠ 2 := fun e => by rw [hi.ef q.i q.o hj e hjd] at hjl; cases hjl
          rw [k3]
          omega
        exact hst q hq hjd hjl hlt hw ((g2 (by rw [← m3]; exact hw)).1 h3)
      · obtain ⟨x, x1, x2, x3⟩ := (g2 (by rw [← m3]; exact hw)).2 h3
        refine ⟨x, by rw [m2]; exact x1, ?_, fun d hpd => by rw [m4 d hpd]; exact x3 d hpd⟩
        rw [← x2]
        exact hm.still _ (hi.lab q.i q.o hj h3) (hi.unk q.i q.o hj h3 hjl)
    · rcases (hod j).1 hjd with hjd | rfl
      · exact hi.bnd j p d hj hjd hpd
      · rw [ho] at hj
        obtain rfl := Option.some.inj hj
        exact (p1 d hpd).1
    · have hjl' : listed.getD j false = false := by
        cases hx : listed.getD j false
        · rfl
        · rw [(hor j).2 (.inl hx)] at hjl; cases hjl
      exact fun h => hi.unk j p hj h3 hjl' (hm.fresh _ (hi.lab j p hj h3) h)
  unfold wpOp
  simp only [ho]
  rw [wanted_eq hi.t hn, l3]
  unfold evStep at h
  simp only [stepOf] at h
  have hc2 : cls E r.o.op = 2 := by rw [← hrc]; exact hcl
  cases hw : wantedA st.ts (guardOf ops.toList r.o) with
  | false =>
    rw [hw] at h
    simp only at h
    split at h
    · rename_i ts1 hput
      have := fin φ w AV.undef ts1 st.H st.N hput hi.h (Moves.refl _ _ _ _) (scv_undef _ _) hi.N (Option.some.inj h).symm fun p hp' hpd hpl _ hw' hu => by
        obtain ⟨m1, _, _, m2⟩ := likes ts1 _ hput p hp' hpd hpl
        obtain ⟨u, u1, u2⟩ := hu
        exact ⟨u, by rw [m1]; exact u1, fun d hpd' => by rw [m2 d hpd']; exact u2 d hpd'⟩
      rw [conc_undef] at this
      simpa using this
    · cases h
  | true =>
    rw [hw] at h
    simp only [hc2] at h
    simp only [if_true]
    left
    split at h
    case h_2 => cases h
    rename_i out hout
    split at h
    case h_2 => cases h
    rename_i hle
    have hle := ble_le hle
    split at h
    case h_2 => cases h
    rename_i ts1 hput
    split at h
    case h_2 => cases h
    rename_i hstill
    refine effect_wp hE hc hi.t (by rw [l2]; exact hout) hi.N hi.h fun φ' w' h1 h2 h3 => ?_
    refine fin φ' w' out.v ts1 out.H out.N hput h1 h2 h3 hle (Option.some.inj h).symm fun p hp' hpd hpl hplt hw' hu => ?_
    obtain ⟨m1, _, _, m2⟩ := likes ts1 _ hput p hp' hpd hpl
    obtain ⟨k1, k2, k3, k4⟩ := Facts.isRow hf hp'
    by_cases h0 : cls E p.o.op = 0
    · obtain ⟨u, u1, u2⟩ := hu
      exact ⟨u, by rw [m1, evQ_still h0]; exact u1, fun d hpd' => by rw [m2 d hpd']; exact u2 d hpd'⟩
    · have hmem := looks_ok (done := done) (bef := r.bef) p hp' (by omega) hpd (by
        cases hx : bit r.bef p.i
        · rfl
        · rw [hbef _ hx] at hpl; cases hpl)
      exact stillA_ok hstill p.o hmem hw'
end
end Go.Ev

set_option linter.unusedVariables false
set_option linter.unusedSimpArgs false
namespace Go.Ev
open Go.RowKit
section
variable {P : Program} {E : Env} (hE : EnvOk P E) {cf : CallF} (hc : CallOk P cf) {n : Nat} (hn : n ≤ 16777216) {ops : Array Oper} {bs : List Nat} {W : Tr Nat} {rs : List Row} {base : Nat} {φ0 : Emb} {st0 : St} {w0 : World}
  (hf : Facts E ops bs W rs)
include hn hf
/-- All that is quiet is gone through ahead. -/
theorem advance {listed : Array Bool} {φ : Emb} {a : Act} {w : World} {tsm : Tr AV} {stE : St} {done : Nat} {l : List Step} (hp : Plan E ops.toList rs done l) : ∀ st, Inv E n ops bs W base φ0 st0 w0 done listed st φ a w tsm → evSteps E cf base n (guardOf ops.toList) l st = some stE →
    ∃ done' l' st', Plan E ops.toList rs done' l' ∧ Inv E n ops bs W base φ0 st0 w0 done' listed st' φ a w tsm ∧ evSteps E cf base n (guardOf ops.toList) l' st' = some stE ∧
      ((l' = [] ∧ done' = 2 ^ rs.length - 1) ∨ ∃ r l1, r ∈ rs ∧ r.c = 2 ∧ bit done' r.i = false ∧ sub r.pre done' = true ∧ (∀ q ∈ rs, q.c ≠ 2 → bit done' q.i = false → sub q.pre done' = false) ∧ (∀ q ∈ rs, q.c = 2 → bit done' q.i = false → q.i ≠ r.i → bit q.bef r.i = true) ∧
        Plan E ops.toList rs (Nat.lor done' (Nat.pow 2 r.i)) l1 ∧ l' = stepOf E ops.toList r.o (looks done' r.bef rs) none :: l1) := by
  induction hp with
  | nil h => exact fun st hi he => ⟨_, _, st, .nil h, hi, he, .inl ⟨rfl, h⟩⟩
  | @quiet done r l hr hcl hnd hsub hpl ih =>
    intro st hi he
    have he' : (match evStep E cf base n (guardOf ops.toList) (stepOf E ops.toList r.o (Bool.rec [] (looks done 0 rs) (Nat.beq r.c 3)) (labOf r)) st with
      | some st => evSteps E cf base n (guardOf ops.toList) l st
      | none => none) = some stE := he
    split at he'
    · rename_i st1 h1
      exact ih st1 (quiet_step hn hf hi hr hcl hnd hsub h1) he'
    · cases he'
  | @eff done r l hr hcl hnd hsub hq hh hpl ih =>
    exact fun st hi he => ⟨_, _, st, .eff hr hcl hnd hsub hq hh hpl, hi, he, .inr ⟨r, l, hr, hcl, hnd, hsub, hq, hh, hpl, rfl⟩⟩
omit hn in
/-- Where nothing may come, all has come. -/
theorem all_listed {listed : Array Bool} (hsz : listed.size = ops.size) (h : Region.ready .any ops listed = []) : ∀ i, i < ops.size → listed.getD i false = true := by
  intro i
  induction i using Nat.strongRecOn with
  | _ i ih =>
    intro hi
    cases hx : listed.getD i false
    · exfalso
      have ho : ops[i]? = some ops[i] := Array.getElem?_eq_getElem hi
      obtain ⟨r, hr, hri⟩ := hf.all i _ ho
      obtain ⟨r1, r2, r3, r4⟩ := hf.row r hr
      subst hri
      have hro : r.o = ops[r.i] := by
        have : ops[r.i]? = some r.o := by simpa using r1
        rw [ho] at this
        exact (Option.some.inj this).symm
      obtain ⟨g1, _, _⟩ := rowOk_ok (hf.ok r hr)
      have hmem : r.i ∈ Region.ready .any ops listed := by
        unfold Region.ready
        rw [List.mem_filter]
        refine ⟨by simpa using hi, ?_⟩
        have ht : listed.getD r.i true = false := by
          have hlt : r.i < listed.size := by rw [hsz]; exact hi
          simp [Array.getD_eq_getD_getElem?, hlt] at hx ⊢
          exact hx
        simp only [ht, Bool.not_false, Bool.true_and, ho, Option.map_some, Option.getD_some, Array.all_eq_true_iff_forall_mem]
        intro e he
        cases hb : Region.binds .any e
        · rfl
        · have hbit : bit r.pre e.on = true := by
            rw [r2, pre_iff]
            exact ⟨e, by rw [hro]; simpa using he, hb, rfl⟩
          have hlt : e.on < r.i := by
            rcases Nat.lt_or_ge e.on r.i with h | h
            · exact h
            · rw [bit_eq, Nat.testBit_lt_two_pow (Nat.lt_of_lt_of_le g1 (Nat.pow_le_pow_right (by omega) h))] at hbit
              cases hbit
          have := ih e.on hlt (by omega)
          simpa using this
      rw [h] at hmem
      cases hmem
    · rfl
omit hn hf in
theorem ready_ok {listed : Array Bool} (hsz : listed.size = ops.size) {i : Nat} (h : i ∈ Region.ready .any ops listed) : ∃ o, ops[i]? = some o ∧ listed.getD i false = false ∧ ∀ e ∈ o.after.toList, Region.binds .any e = true → listed.getD e.on false = true := by
  unfold Region.ready at h
  rw [List.mem_filter] at h
  obtain ⟨h1, h2⟩ := h
  have hi : i < ops.size := by simpa using h1
  have ho : ops[i]? = some ops[i] := Array.getElem?_eq_getElem hi
  simp only [ho, Option.map_some, Option.getD_some, Array.all_eq_true_iff_forall_mem, Bool.and_eq_true] at h2
  refine ⟨_, ho, ?_, fun e he hb => ?_⟩
  · have hlt : i < listed.size := by rw [hsz]; exact hi
    have := h2.1
    simp [Array.getD_eq_getD_getElem?, hlt] at this ⊢
    exact this
  · have := h2.2 e (by simpa using he)
    simpa [hb] using this
noncomputable def unl (m : Nat) (listed : Array Bool) : Nat := (List.range m).countP fun i => !listed.getD i false
omit hn hf in
theorem unl_set {m : Nat} {listed : Array Bool} {i : Nat} (hm : i < m) (hi : i < listed.size) (h : listed.getD i false = false) : unl m (listed.setIfInBounds i true) < unl m listed := by
  unfold unl
  have key : ∀ l : List Nat, (l.countP fun j => !(listed.setIfInBounds i true).getD j false) ≤ (l.countP fun j => !listed.getD j false) ∧ (i ∈ l → (l.countP fun j => !(listed.setIfInBounds i true).getD j false) < (l.countP fun j => !listed.getD j false)) := by
    intro l
    induction l with
    | nil => simp
    | cons j l ih =>
      simp only [List.countP_cons, getD_set _ _ _ hi]
      simp only [getD_set _ _ _ hi] at ih
      obtain ⟨h1, h2⟩ := ih
      by_cases e : i = j
      · subst e
        simp only [h, decide_true, Bool.or_true, Bool.not_true, Bool.not_false, if_true]
        simp
        simp at h1
        omega
      · have : (!(listed.getD j false || decide (i = j))) = !listed.getD j false := by simp [e]
        rw [this]
        refine ⟨by omega, fun hm => ?_⟩
        have := h2 ((List.mem_cons.1 hm).resolve_left e)
        omega
  exact (key _).2 (by simpa using hm)
include hE hc
/-- In every order. -/
theorem any_ok {Q : Exit → Act → World → Prop} {stE : St} (hQ : ∀ φ' a' w', SRel φ' n stE a' w' → Moves φ0 st0.H st0.N w0 φ' stE.H stE.N w' → stE.N ≤ 16777216 → Q .normal a' w') :
    ∀ fuel done l st listed φ a w tsm, Plan E ops.toList rs done l → Inv E n ops bs W base φ0 st0 w0 done listed st φ a w tsm → evSteps E cf base n (guardOf ops.toList) l st = some stE → unl ops.size listed ≤ fuel → wpAny P .any ops Q fuel listed a w := by
  have ending : ∀ done l st listed φ a w tsm, Plan E ops.toList rs done l → Inv E n ops bs W base φ0 st0 w0 done listed st φ a w tsm → evSteps E cf base n (guardOf ops.toList) l st = some stE → (∀ i, i < ops.size → listed.getD i false = true) → Q .normal a w := by
    intro done l st listed φ a w tsm hp hi he hall
    obtain ⟨done', l', st', p1, p2, p3, p4⟩ := advance hn hf hp st hi he
    rcases p4 with ⟨rfl, hd⟩ | ⟨r, l1, hr, hcl, hnd, _⟩
    · obtain rfl := Option.some.inj p3
      refine hQ φ a w ⟨⟨p2.t.size, fun i hlt => ?_, fun i hge => ?_, p2.t.defers⟩, p2.h⟩ p2.mv p2.N
      · have := p2.like i fun k hk _ => by
          obtain ⟨o, g1, _⟩ := hf.back i k hk
          exact hall k (at_lt g1)
        have ht := p2.t.val i hlt
        unfold tget at ht ⊢
        rw [← this]
        exact ht
      · have := p2.like i fun k hk _ => by
          obtain ⟨o, g1, _⟩ := hf.back i k hk
          exact hall k (at_lt g1)
        rw [← this]
        exact p2.t.beyond i hge
    · obtain ⟨ho, _⟩ := Facts.isRow hf hr
      have := p2.lt r.i (hall r.i (at_lt ho))
      rw [this] at hnd
      cases hnd
  intro fuel
  induction fuel with
  | zero =>
    intro done l st listed φ a w tsm hp hi he hu
    have hall : ∀ i, i < ops.size → listed.getD i false = true := by
      intro i hlt
      have h0 : unl ops.size listed = 0 := by omega
      unfold unl at h0
      rw [List.countP_eq_zero] at h0
      have := h0 i (by simpa using hlt)
      simpa using this
    refine ⟨?_, ending done l st listed φ a w tsm hp hi he hall⟩
    apply List.eq_nil_iff_forall_not_mem.2
    intro i hi'
    obtain ⟨o, g1, g2, _⟩ := ready_ok hi.sz hi'
    rw [hall i (at_lt g1)] at g2
    cases g2
  | succ fuel ih =>
    intro done l st listed φ a w tsm hp hi he hu
    refine ⟨fun h => ending done l st listed φ a w tsm hp hi he (all_listed hf hi.sz h), fun i hi' => ?_⟩
    obtain ⟨o, g1, g2, g3⟩ := ready_ok hi.sz hi'
    have hlt := at_lt g1
    have hun := unl_set hlt (by rw [hi.sz]; exact hlt) g2
    obtain ⟨done', l', st', p1, p2, p3, p4⟩ := advance hn hf hp st hi he
    cases hd : bit done' i with
    | true =>
      obtain ⟨q, hq, hqi, hqo⟩ := Facts.rowAt hf g1
      subst hqi hqo
      exact pend_wp hE hn hf p2 hq g2 hd g3 fun φ' a' w' tsm' hi2 => ih done' l' st' _ φ' a' w' tsm' p1 hi2 p3 (by omega)
    | false =>
      rcases p4 with ⟨rfl, hfull⟩ | ⟨r, l1, hr, hcl, hnd, hsub, hq, hh, hpl, rfl⟩
      · rw [hfull, hf.len] at hd
        have : bit (2 ^ ops.size - 1) i = true := bit_full ops.size i hlt
        rw [this] at hd
        cases hd
      · obtain ⟨q, hqr, hqi⟩ := hf.all i o g1
        subst hqi
        obtain ⟨k1, k2, k3, k4⟩ := Facts.isRow hf hqr
        have hqo : q.o = o := by rw [k1] at g1; exact Option.some.inj g1
        have hre : q.i = r.i := by
          by_cases h2 : q.c ≠ 2
          · have h3 := hq q hqr h2 hd
            rw [k2, hqo] at h3
            have : sub (preOf o) done' = true := sub_of fun j hj => by
              obtain ⟨e, e1, e2, rfl⟩ := (pre_iff o j).1 hj
              exact p2.lt _ (g3 e e1 e2)
            rw [this] at h3
            cases h3
          · by_cases e : q.i = r.i
            · exact e
            · have h3 := hh q hqr (Decidable.not_not.1 h2) hd e
              obtain ⟨b, hb, _⟩ := hf.bef q.i o g1
              have hb' : b = q.bef := by rw [k4] at hb; exact (Option.some.inj hb).symm
              have := bef_sub (S := fun k => listed.getD k false = true) hf p2.lcl g1 g3 hb r.i (by rw [hb']; exact h3)
              rw [p2.lt _ this] at hnd
              cases hnd
        obtain ⟨m1, m2, m3, m4⟩ := Facts.isRow hf hr
        have hro : r.o = o := by rw [← hre, g1] at m1; exact (Option.some.inj m1).symm
        have p3' : (match evStep E cf base n (guardOf ops.toList) (stepOf E ops.toList r.o (looks done' r.bef rs) none) st' with
          | some st => evSteps E cf base n (guardOf ops.toList) l1 st
          | none => none) = some stE := p3
        split at p3'
        · rename_i st1 h1
          rw [hre] at hun ⊢
          exact eff_wp hE hc hn hf p2 hr hcl hnd hsub (by rw [hro]; exact g3) h1 fun φ' a' w' tsm' hi2 => ih _ l1 st1 _ φ' a' w' tsm' hpl hi2 p3' (by omega)
        · cases p3'
omit hf in
/-- A region that draws. -/
theorem region_draw {id : Nat} {Q : Exit → Act → World → Prop} {st st' : St} {a : Act} {w : World} {φ : Emb} (h : evRegion E cf n ops.toList true st = some st') (hs : SRel φ n st a w) (hN : st.N ≤ 16777216)
    (hQ : ∀ φ' a' w', SRel φ' n st' a' w' → Moves φ st.H st.N w φ' st'.H st'.N w' → st'.N ≤ 16777216 → Q .normal a' w') : (Code.region id ops true).wp P Q a w := by
  apply wp_region_any hE.mixed
  unfold evRegion planOf at h
  simp only at h
  split at h
  case h_2 => cases h
  rename_i l hl
  split at hl
  case h_2 => cases hl
  rename_i W hW
  split at hl
  case h_2 => cases hl
  rename_i hrows
  have hf := facts hW hrows
  have hp := planDraw_ok _ _ _ hl
  have hz : ∀ i, (Array.replicate ops.size false).getD i false = false := fun i => by
    simp only [Array.getD_eq_getD_getElem?, Array.getElem?_replicate]
    split <;> rfl
  have hlab : ∀ (i : Nat) (o : Oper), ops[i]? = some o → cls E o.op = 3 → anyLab l = true := fun i o ho h3 => by
    obtain ⟨r, hr, hri, hro⟩ := Facts.rowAt hf ho
    have hr3 : r.c = 3 := by rw [(Facts.isRow hf hr).2.2.1, hro]; exact h3
    refine anyLab_ok hp (fun q hq => ?_) (fun q hq p hp' e => ?_) r hr hr3 (bit_zero _)
    · rw [hf.len]; exact at_lt (Facts.isRow hf hq).1
    · obtain ⟨q1, _, q3, _⟩ := Facts.isRow hf hq
      obtain ⟨p1, _, p3, _⟩ := Facts.isRow hf hp'
      rw [e, p1] at q1
      rw [q3, p3, Option.some.inj q1]
  have go : ∀ M, st.N ≤ M → M ≤ 16777216 → (∀ (i : Nat) (o : Oper), ops[i]? = some o → cls E o.op = 3 → st.N + i < M) → evSteps E cf st.N n (guardOf ops.toList) l ⟨st.ts, st.H, M⟩ = some st' → wpAny P .any ops Q ops.size (Array.replicate ops.size false) a { w with drawn := w.drawn + 1 } := by
    intro M hM hM2 hlb hrun
    refine any_ok hE hc hn hf (base := st.N) (st0 := st) (φ0 := φ) (w0 := { w with drawn := w.drawn + 1 }) (fun φ' a' w' s m hN' => hQ φ' a' w' s ⟨m.same, m.le, m.os, m.tape, m.output, m.size, m.fresh, m.still, m.frame, m.old⟩ hN') ops.size 0 l ⟨st.ts, st.H, M⟩ _ (φ.cut st.N) a _ st.ts hp ?_ hrun ?_
    · refine ⟨by simp, fun i hi => ?_, fun i hi => ?_, fun i o _ _ hi => ?_, fun i b hi => ?_, fun i b hi => ?_, hM2, ?_, hs.t.same (cut_same φ st.N) hM, fun d _ => rfl, fun i o _ hi => ?_, fun i o d _ hi => ?_, hlb, fun i o _ _ _ hk => ?_, Nat.le_refl _, cut_moves φ st.H _ hM⟩
      · rw [hz] at hi; cases hi
      · rw [bit_zero] at hi; cases hi
      · rw [bit_zero] at hi; cases hi
      · rw [hz] at hi; cases hi
      · rw [bit_zero] at hi; cases hi
      · exact cut_rel hs.h.drew hM
      · rw [bit_zero] at hi; cases hi
      · rw [bit_zero] at hi; cases hi
      · have := hk.2
        omega
    · unfold unl
      exact Nat.le_trans (List.countP_le_length) (by simp)
  split at h
  · rename_i hno
    exact go st.N (Nat.le_refl _) hN (fun i o ho h3 => by rw [hlab i o ho h3] at hno; cases hno) h
  · split at h
    · rename_i hle
      have hle := ble_le hle
      rw [llen_eq] at hle h
      refine go _ (Nat.le_add_right _ _) hle (fun i o ho _ => ?_) h
      have := at_lt ho
      show st.N + i < st.N + ops.toList.length
      simp
      exact this
    · cases h
end
end Go.Ev

set_option linter.unusedVariables false
set_option linter.unusedSimpArgs false
namespace Go.Ev
open Go.RowKit
def exitOf : EX → Exit
  | .norm => .normal
  | .exit id => .exit id
  | .ret => .ret
/-- What is foretold of code is so. -/
def CodeOk (P : Program) (evf : CodeF) : Prop :=
  ∀ n c st r, evf n c st = some r → n ≤ 16777216 → ∀ φ a w Q, SRel φ n st a w → st.N ≤ 16777216 →
    (∀ φ' a' w', SRel φ' n r.st a' w' → Moves φ st.H st.N w φ' r.st.H r.st.N w' → r.st.N ≤ 16777216 → Q (exitOf r.x) a' w') → c.wp P Q a w
def LoopOk (P : Program) (m : Nat) (evf : CodeF) : Prop :=
  ∀ n c st r, evf n (.loop c) st = some r → n ≤ 16777216 → ∀ φ a w Q, SRel φ n st a w → st.N ≤ 16777216 →
    (∀ φ' a' w', SRel φ' n r.st a' w' → Moves φ st.H st.N w φ' r.st.H r.st.N w' → r.st.N ≤ 16777216 → Q (exitOf r.x) a' w') → Code.rounds P c Q m a w

/-! ### Arguments and results -/
theorem args0_cons (v : AV) (vs : List AV) (i : Nat) (ts : Tr AV) : args0 (v :: vs) i ts = args0 vs (i + 1) (ts.put (some v) 30 i) := rfl
theorem args0_get : ∀ (vs : List AV) (i : Nat) (ts : Tr AV), i + vs.length ≤ 16777216 → ∀ j, (args0 vs i ts).get j = if i ≤ j ∧ j < i + vs.length then vs[j - i]? else ts.get j
  | [], i, ts, h, j => by
    have : ¬ (i ≤ j ∧ j < i + ([] : List AV).length) := by simp
    rw [if_neg this]
    rfl
  | v :: vs, i, ts, h, j => by
    have hlen : (v :: vs).length = vs.length + 1 := rfl
    rw [args0_cons, args0_get vs (i + 1) _ (by omega) j, Tr.get_put _ 30 ts i (by omega)]
    by_cases h1 : j = i
    · subst h1
      rw [if_neg (by omega), if_pos rfl, if_pos (by omega), Nat.sub_self]
      try rfl
    · by_cases h2 : i + 1 ≤ j ∧ j < i + 1 + vs.length
      · rw [if_pos h2, if_pos (by omega)]
        have : j - i = (j - (i + 1)) + 1 := by omega
        rw [this]
        simp
      · rw [if_neg h2, if_neg h1, if_neg (by omega)]
theorem args_rel {φ : Emb} {N n : Nat} {vs : List AV} (hs : scs φ N vs) (hl : vs.length ≤ n) (hn : n ≤ 16777216) : TRel φ N n (args0 vs 0 .e) ⟨(concs φ vs).toArray ++ Array.replicate (n - (concs φ vs).toArray.size) undef, []⟩ := by
  have hg := args0_get vs 0 .e (by omega)
  have hsz : (concs φ vs).toArray.size = vs.length := by simp [concs_eq]
  refine ⟨by simp only [Array.size_append, Array.size_replicate, hsz]; omega, fun i hi => ?_, fun i hi => ?_, rfl⟩
  · simp only [tget, hg]
    by_cases h : i < vs.length
    · rw [if_pos (by omega)]
      have hv : vs[i]? = some vs[i] := List.getElem?_eq_getElem h
      simp only [Nat.sub_zero, hv, Option.getD_some]
      refine ⟨?_, (scs_iff φ N vs).1 hs _ (List.getElem_mem h)⟩
      rw [Array.getElem?_append_left (by omega), get_concs, hv]
      rfl
    · rw [if_neg (by omega)]
      have he : (Tr.e : Tr AV).get i = none := rfl
      rw [he]
      simp only [Option.getD_none, conc_undef]
      refine ⟨?_, scv_undef _ _⟩
      rw [Array.getElem?_append_right (by omega), hsz, Array.getElem?_replicate, if_pos (by omega)]
  · rw [hg, if_neg (by omega)]
    rfl
/-- One result. -/
def resRun (a : Act) (r : ResultVar) : Sem Value :=
  match r with
  | .tmp t => pure (a.tmps.getD t undef)
  | .cell b t => do loadVar t (← asAddr (a.tmps.getD b undef))
theorem results_eq (fn : Func) (a : Act) : results fn a.tmps = (do let vs ← fn.results.mapM (resRun a); pure (if h : vs.size = 1 then vs[0] else .tuple vs)) := by
  unfold results
  congr 1
section
variable {P : Program} {E : Env} (hE : EnvOk P E)
include hE
theorem resOne_ok {φ : Emb} {H : Tr AObj} {N n : Nat} {ts : Tr AV} {a : Act} {w : World} {r : ResultVar} {v : AV} (ht : TRel φ N n ts a) (hh : HRel φ H N w) (h : resOne E r ts H = some v) :
    (resRun a r).run P w = .ok (conc φ v) w ∧ scv φ N v := by
  cases r with
  | tmp t =>
    obtain ⟨e, s⟩ := oper_ok ht (x := .tmp t) h
    refine ⟨?_, s⟩
    have : a.tmps.getD t undef = conc φ v := e
    simp only [resRun, Sem.run_pure, this]
  | cell b t =>
    obtain ⟨x, hx, h⟩ := bind1_some h
    obtain ⟨e, s⟩ := oper_ok ht (x := .tmp b) hx
    have e : a.tmps.getD b undef = conc φ x := e
    obtain ⟨h1, h2⟩ := evLoad_ok hE h hh s
    refine ⟨?_, h2⟩
    simp only [resRun, e]
    unfold evLoad at h
    split at h
    · rename_i l o
      rw [c_ptr] at h1 ⊢
      simpa [Instr.loadAt, Instr.sureAddr, asAddr] using h1
    · cases h
theorem resAll_ok {φ : Emb} {H : Tr AObj} {N n : Nat} {ts : Tr AV} {a : Act} {w : World} (ht : TRel φ N n ts a) (hh : HRel φ H N w) : ∀ {rs : List ResultVar} {l : List AV}, resAll E rs ts H = some l →
    (rs.mapM (resRun a)).run P w = .ok (concs φ l) w ∧ scs φ N l
  | [], l, h => by
    obtain rfl := Option.some.inj h
    exact ⟨by simp [cs_nil], by rw [scs]; trivial⟩
  | r :: rs, l, h => by
    have h : (match resOne E r ts H with
    | some v => match resAll E rs ts H with
      | some l => some (v :: l)
      | none => none
    | none => none) = some l := h
    split at h
    · rename_i v hv
      split at h
      · rename_i l' hl
        obtain rfl := Option.some.inj h
        obtain ⟨h1, h2⟩ := resOne_ok hE ht hh hv
        obtain ⟨h3, h4⟩ := resAll_ok ht hh hl
        refine ⟨?_, by rw [scs]; exact ⟨h2, h4⟩⟩
        rw [List.mapM_cons, Sem.run_bind, h1]
        simp only [Result.andThen_ok, Sem.run_bind, h3, Sem.run_pure, cs_cons]
      · cases h
    · cases h
theorem resV_ok {φ : Emb} {H : Tr AObj} {N n : Nat} {ts : Tr AV} {a : Act} {w : World} {fn : Func} {v : AV} (ht : TRel φ N n ts a) (hh : HRel φ H N w) (h : resV E fn.results.toList ts H = some v) :
    (results fn a.tmps).run P w = .ok (conc φ v) w ∧ scv φ N v := by
  unfold resV at h
  rw [results_eq]
  cases hl : resAll E fn.results.toList ts H with
  | none => rw [hl] at h; cases h
  | some l =>
    rw [hl] at h
    obtain ⟨h1, h2⟩ := resAll_ok hE ht hh hl
    rw [Array.mapM_eq_mapM_toList]
    simp only [Sem.run_bind, Sem.run_map, h1, Result.andThen_ok]
    split at h
    · rename_i u he
      obtain rfl := Option.some.inj he
      obtain rfl := Option.some.inj h
      rw [scs] at h2
      exact ⟨by simp [cs_cons, cs_nil], h2.1⟩
    · rename_i l' hne he
      obtain rfl := Option.some.inj he
      obtain rfl := Option.some.inj h
      refine ⟨?_, (sc_tuple _ _ _).2 h2⟩
      have : ¬ ((concs φ l).toArray.size = 1) := fun e => by
        have hlen : l.length = 1 := by simpa [concs_eq] using e
        obtain ⟨u, rfl⟩ := List.length_eq_one_iff.1 hlen
        exact hne u rfl
      have hl : ¬ ((concs φ l).length = 1) := by simpa using this
      simp only [Sem.run_pure, Result.andThen_ok, c_tuple]
      simp [hl]
    · cases h
end
end Go.Ev

set_option linter.unusedVariables false
set_option linter.unusedSimpArgs false
namespace Go.Ev
open Go.RowKit
/-- What the oracles foretell is so. -/
def OrcOk (P : Program) (E : Env) : Prop :=
  ∀ f g, E.orc f = some g → CallOk P fun f' vs H N => match Nat.beq f' f with
    | true => match g vs H N with
      | some (v, H, N) => some ⟨v, H, N⟩
      | none => none
    | false => none
section
variable {P : Program} {E : Env} (hE : EnvOk P E) (hO : OrcOk P E)
include hE hO
theorem call_ok {evf : CodeF} (h0 : CodeOk P evf) : CallOk P (callBody E evf) := by
  intro f vs H N out h
  unfold callBody at h
  split at h
  · rename_i g hg
    refine hO f g hg f vs H N out ?_
    simp only [Nat.beq_refl]
    exact h
  · split at h
    case h_2 => cases h
    rename_i fn hfn
    split at h
    case h_2 => cases h
    rename_i c hc
    split at h
    case h_2 => cases h
    rename_i hle
    split at h
    case h_2 => cases h
    rename_i hlt
    split at h
    case h_2 => cases h
    rename_i r hr
    have hle := ble_le hle
    rw [llen_eq] at hle
    have hlt := blt_lt hlt
    obtain ⟨g1, g2⟩ := hE.fn f fn hfn
    refine ⟨⟨fn, g1, g2, by simp [hc]⟩, fun φ w hh hs hN => calls_of_wp g1 hc ?_⟩
    refine h0 _ _ _ _ hr (Nat.le_of_lt hlt) φ _ w _ ⟨args_rel hs hle (Nat.le_of_lt hlt), hh⟩ hN fun φ' a' w' s m hN' => ?_
    have fin : ∀ v, resV E fn.results.toList r.st.ts r.st.H = some v → out = ⟨v, r.st.H, r.st.N⟩ → a'.defers = [] ∧ ∃ v, (results fn a'.tmps).run P w' = .ok v w' ∧ RetOk φ H N w out (.returned v) w' := fun v hv he => by
      subst he
      obtain ⟨r1, r2⟩ := resV_ok hE s.t s.h hv
      exact ⟨s.t.defers, _, r1, φ', rfl, s.h, m, r2⟩
    split at h
    · cases h
    · rename_i hx
      split at h
      · rename_i v hv
        have := fin v hv (Option.some.inj h).symm
        cases hrx : r.x with
        | norm => exact this
        | ret => exact this
        | exit id => exact absurd hrx (by intro e; exact hx id e)
      · cases h
theorem ev_ok : ∀ fuel, CodeOk P (ev E fuel) ∧ LoopOk P fuel (ev E fuel)
  | 0 => ⟨fun n c st r h => (by cases h), fun n c st r h => (by cases h)⟩
  | fuel + 1 => by
    obtain ⟨ih, ihl⟩ := ev_ok fuel
    have hcall := call_ok hE hO ih
    have hloop : LoopOk P (fuel + 1) (ev E (fuel + 1)) := by
      intro n c st r h hn φ a w Q hs hN hQ
      have h : evLoop (ev E fuel) n c st = some r := h
      unfold evLoop at h
      split at h
      case h_2 => cases h
      rename_i r1 h1
      rw [rounds_succ]
      refine ih n c st r1 h1 hn φ a w _ hs hN fun φ1 a1 w1 s1 m1 hN1 => ?_
      cases hx : r1.x with
      | norm =>
        rw [hx] at h
        exact ihl n c r1.st r h hn φ1 a1 w1 Q s1 hN1 fun φ2 a2 w2 s2 m2 hN2 => hQ φ2 a2 w2 s2 (m1.trans m2) hN2
      | exit id =>
        rw [hx] at h
        obtain rfl := Option.some.inj h
        have := hQ φ1 a1 w1 s1 m1 hN1
        rw [hx] at this
        exact this
      | ret =>
        rw [hx] at h
        obtain rfl := Option.some.inj h
        have := hQ φ1 a1 w1 s1 m1 hN1
        rw [hx] at this
        exact this
    refine ⟨fun n c st r h hn φ a w Q hs hN hQ => ?_, hloop⟩
    have h' : evBody E (ev E fuel) n c st = some r := h
    cases c <;> simp only [evBody] at h' <;> try (cases h'; done)
    case skip =>
      obtain rfl := Option.some.inj h'
      exact wp_skip (hQ φ a w hs (Moves.refl _ _ _ _) hN)
    case region id ops draw =>
      unfold evReg at h'
      split at h'
      case h_2 => cases h'
      rename_i st1 h1
      obtain rfl := Option.some.inj h'
      cases draw with
      | false => exact region_text hE hcall hn h1 hs hN hQ
      | true => exact region_draw hE hcall hn h1 hs hN hQ
    case seq x y =>
      unfold evSeq at h'
      split at h'
      case h_2 => cases h'
      rename_i r1 h1
      apply wp_seq
      refine ih n x st r1 h1 hn φ a w _ hs hN fun φ1 a1 w1 s1 m1 hN1 => ?_
      cases hx : r1.x with
      | norm =>
        rw [hx] at h'
        exact ih n y r1.st r h' hn φ1 a1 w1 Q s1 hN1 fun φ2 a2 w2 s2 m2 hN2 => hQ φ2 a2 w2 s2 (m1.trans m2) hN2
      | exit id =>
        rw [hx] at h'
        obtain rfl := Option.some.inj h'
        have := hQ φ1 a1 w1 s1 m1 hN1
        rw [hx] at this
        exact this
      | ret =>
        rw [hx] at h'
        obtain rfl := Option.some.inj h'
        have := hQ φ1 a1 w1 s1 m1 hN1
        rw [hx] at this
        exact this
    case cond c x y =>
      unfold evCond at h'
      split at h'
      · rename_i hc
        obtain ⟨e, _⟩ := oper_ok hs.t hc
        rw [c_bool] at e
        exact wp_cond_true e (ih n x st r h' hn φ a w Q hs hN hQ)
      · rename_i hc
        obtain ⟨e, _⟩ := oper_ok hs.t hc
        rw [c_bool] at e
        exact wp_cond_false e (ih n y st r h' hn φ a w Q hs hN hQ)
      · cases h'
    case block id x =>
      unfold evBlock at h'
      split at h'
      case h_2 => cases h'
      rename_i r1 h1
      apply wp_block
      refine ih n x st r1 h1 hn φ a w _ hs hN fun φ1 a1 w1 s1 m1 hN1 => ?_
      cases hx : r1.x with
      | norm =>
        rw [hx] at h'
        obtain rfl := Option.some.inj h'
        have := hQ φ1 a1 w1 s1 m1 hN1
        rw [hx] at this
        exact this
      | exit j =>
        rw [hx] at h'
        simp only at h'
        split at h'
        · rename_i hj
          have hj := Nat.eq_of_beq_eq_true hj
          obtain rfl := Option.some.inj h'
          have := hQ φ1 a1 w1 s1 m1 hN1
          simp only [exitOf, Exit.inBlock, hj, if_true]
          exact this
        · rename_i hj
          have hj := Nat.ne_of_beq_eq_false hj
          obtain rfl := Option.some.inj h'
          have := hQ φ1 a1 w1 s1 m1 hN1
          rw [hx] at this
          simp only [exitOf, Exit.inBlock, if_neg hj]
          exact this
      | ret =>
        rw [hx] at h'
        obtain rfl := Option.some.inj h'
        have := hQ φ1 a1 w1 s1 m1 hN1
        rw [hx] at this
        exact this
    case loop x =>
      exact wp_loop_rounds (fuel + 1) (hloop n x st r h hn φ a w Q hs hN hQ)
    case exit id =>
      obtain rfl := Option.some.inj h'
      exact wp_exit (hQ φ a w hs (Moves.refl _ _ _ _) hN)
    case ret =>
      obtain rfl := Option.some.inj h'
      exact wp_ret (hQ φ a w hs (Moves.refl _ _ _ _) hN)
/-- What a call comes to. -/
theorem runs (fuel : Nat) : CallOk P (call E fuel) := call_ok hE hO (ev_ok hE hO fuel).1
/-- A call without arguments, in any world. -/
theorem runs_nil {fuel f : Nat} {out : Out} (h : call E fuel f [] .e 0 = some out) (w : World) :
    Calls P f #[] w fun e w' => ∃ φ, e = .returned (conc φ out.v) ∧ HRel φ out.H out.N w' ∧ Below w.heap.size w w' := by
  obtain ⟨_, h1⟩ := runs hE hO fuel f [] .e 0 out h
  have h2 := h1 ⟨fun _ => 0, fun _ => 0, fun _ => 0, fun _ => False⟩ w ⟨fun l o h => (by cases h), fun l m o p h => (by cases h)⟩ (by rw [scs]; trivial) (Nat.zero_le _)
  rw [cs_nil] at h2
  refine Calls.mono h2 fun e w' hr => ?_
  obtain ⟨φ', e1, e2, e3, _⟩ := hr
  exact ⟨φ', e1, e2, e3.below⟩
end
end Go.Ev

set_option linter.unusedVariables false
set_option linter.unusedSimpArgs false
namespace Go.Ev
open Go.RowKit
noncomputable section
/-- Numbers in a row. -/
def upto (n : Nat) : Nat → List Nat := Nat.rec (motive := fun _ => Nat → List Nat) (fun _ => []) (fun _ ih i => i :: ih (Nat.succ i)) n
/-- What a table holds, in a row. -/
def rowT {α : Type} (t : Tr α) (n : Nat) : List (Option α) := List.rec [] (fun i _ ih => t.get i :: ih) (upto n 0)
/-- Are the types fit to be compared that are marked so? -/
def eqsGood (P : Program) (T : Tabs) : Bool :=
  List.rec true (fun t _ ih => match tEqs T t with
    | false => ih
    | true => match P.stoodInHeld t with
      | true => false
      | false => match P.eqGuardType P.depth t with
        | true => false
        | false => match (P.fieldsOf t).toList.all fun f => f.name != "_" with
          | true => ih
          | false => false) (upto T.nt 0)
end
theorem upto_cons (n i : Nat) : upto (n + 1) i = i :: upto n (i + 1) := rfl
theorem upto_get : ∀ (n i j : Nat), j < n → (upto n i)[j]? = some (i + j)
  | n + 1, i, 0, h => rfl
  | n + 1, i, j + 1, h => by
    rw [upto_cons, List.getElem?_cons_succ, upto_get n (i + 1) j (by omega)]
    congr 1
    omega
theorem upto_mem (n i j : Nat) (h : j < n) : i + j ∈ upto n i := List.mem_of_getElem? (upto_get n i j h)
theorem rowT_eq {α : Type} (t : Tr α) (n : Nat) : rowT t n = (upto n 0).map t.get := by
  unfold rowT
  generalize upto n 0 = l
  induction l with
  | nil => rfl
  | cons i l ih => simp only [List.map_cons, ih]
theorem rowT_ok {α : Type} {t : Tr α} {n : Nat} {l : List α} (h : rowT t n = l.map some) {k : Nat} {a : α} (hk : k < n) (hg : t.get k = some a) : l[k]? = some a := by
  have h1 : (rowT t n)[k]? = some (t.get k) := by
    rw [rowT_eq, List.getElem?_map, upto_get n 0 k hk]
    simp
  rw [h, List.getElem?_map, hg] at h1
  cases hl : l[k]? with
  | none => rw [hl] at h1; cases h1
  | some b => rw [hl] at h1; simpa using h1
theorem env_ok {P : Program} {T : Tabs} (orc : Nat → Option (List AV → Tr AObj → Nat → Option (AV × Tr AObj × Nat))) (ht : rowT T.types T.nt = P.types.toList.map some) (hf : rowT T.funcs T.nf = P.funcs.toList.map some)
    (hn : (P.funcs.toList.all fun fn => !(fn.name == "runtime.NumGoroutine")) = true) (he : eqsGood P T = true) (hm : P.follows .mixedOrders = true) : EnvOk P (T.env orc) := by
  have hi : ∀ t i, tInfo T t = some i → P.info? t = some i := fun t i h => by
    unfold tInfo at h
    split at h
    · rename_i hb
      have := rowT_ok ht (blt_lt hb) h
      have h1 : P.types[t]? = some i := by simpa using this
      have h2 : t < P.types.size := (Array.getElem?_eq_some_iff.1 h1).1
      unfold Tables.info?
      rw [if_pos h2]
      exact h1
    · cases h
  refine ⟨fun f fn h => ?_, fun t d h => ?_, fun t n h => ?_, fun t n h => ?_, fun t z h => ?_, fun t h => ?_, hm⟩
  · have h : tFn T f = some fn := h
    unfold tFn at h
    split at h
    · rename_i hb
      have h1 := rowT_ok hf (blt_lt hb) h
      refine ⟨by simpa using h1, ?_⟩
      have := List.all_eq_true.1 hn fn (List.mem_of_getElem? h1)
      simpa using this
    · cases h
  · have h : tUnd T t = some d := h
    unfold tUnd at h
    split at h
    · rename_i i hti
      have h1 := hi t i hti
      unfold Program.underlying
      rw [h1]
      obtain ⟨desc, _⟩ := i
      simp only at h
      cases desc <;> simp only at h ⊢ <;> try (exact h)
      split at h
      · rename_i j hj
        rw [hi _ _ hj]
        exact h
      · cases h
    · cases h
  · have h : tSize T t = some n := h
    unfold tSize at h
    split at h
    · rename_i i hti
      exact ⟨i, hi t i hti, Option.some.inj h⟩
    · cases h
  · have h : tBytes T t = some n := h
    unfold tBytes at h
    split at h
    · rename_i i hti
      exact ⟨i, hi t i hti, Option.some.inj h⟩
    · cases h
  · have h : tZero T t = some z := h
    unfold tZero at h
    split at h
    · rename_i i hti
      split at h
      · rename_i v hv
        exact ⟨⟨i, hi t i hti, fun φ => by rw [hv, (ofValue_conc h φ).1]⟩, fun φ => (ofValue_conc h φ).2⟩
      · cases h
    · cases h
  · have h : tEqs T t = true := h
    have hlt : t < T.nt := by
      unfold tEqs at h
      split at h
      · rename_i hb; exact blt_lt hb
      · cases h
    have hmem : t ∈ upto T.nt 0 := by have := upto_mem T.nt 0 t hlt; simpa using this
    have key : ∀ l : List Nat, (List.rec true (fun t _ ih => match tEqs T t with
    | false => ih
    | true => match P.stoodInHeld t with
      | true => false
      | false => match P.eqGuardType P.depth t with
        | true => false
        | false => match (P.fieldsOf t).toList.all fun f => f.name != "_" with
          | true => ih
          | false => false) l : Bool) = true → t ∈ l → P.stoodInHeld t = false ∧ P.eqGuardType P.depth t = false ∧ ((P.fieldsOf t).toList.all fun f => f.name != "_") = true := by
      intro l
      induction l with
      | nil => intro _ hm; cases hm
      | cons s l ih =>
        intro hl hm
        simp only at hl
        split at hl
        · rename_i hs
          rcases List.mem_cons.1 hm with rfl | hm
          · rw [h] at hs; cases hs
          · exact ih hl hm
        · split at hl
          · cases hl
          · rename_i h1
            split at hl
            · cases hl
            · rename_i h2
              split at hl
              · rename_i h3
                rcases List.mem_cons.1 hm with rfl | hm
                · exact ⟨h1, h2, h3⟩
                · exact ih hl hm
              · cases hl
    obtain ⟨h1, h2, h3⟩ := key _ he hmem
    refine ⟨h1, h2, fun f hf => ?_⟩
    have := List.all_eq_true.1 h3 f (by simpa using hf)
    simpa using this
end Go.Ev
