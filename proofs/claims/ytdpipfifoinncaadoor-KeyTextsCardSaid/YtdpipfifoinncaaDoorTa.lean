import Derived.Test.YtdpipfifoinncaaDoorKq
import Derived.Lib.ItoaLen
import Derived.Lib.ParseIntB
import Derived.Lib.Strings
namespace Go.Proofs.YtdpipfifoinncaaDoor
open Go.RowKit
set_option linter.unusedVariables false

def isDg (c : UInt8) : Prop := 48 ≤ c.toNat ∧ c.toNat ≤ 57
/-- What digits spell, behind a. -/
def valD : Nat → List UInt8 → Nat
  | a, [] => a
  | a, c :: r => valD (a * 10 + (c.toNat - 48)) r
theorem valD_append : ∀ (l m : List UInt8) (a : Nat), valD a (l ++ m) = valD (valD a l) m
  | [], m, a => rfl
  | c :: l, m, a => valD_append l m _
theorem valD_ge : ∀ (l : List UInt8) (a : Nat), a ≤ valD a l
  | [], a => Nat.le_refl _
  | c :: r, a => by
    have := valD_ge r (a * 10 + (c.toNat - 48))
    unfold valD
    omega
theorem dg_byte (d : Nat) (h : d < 10) : (UInt8.ofNat (48 + d)).toNat = 48 + d := by simp [UInt8.toNat_ofNat']; omega
theorem dd_digit (u : Nat) : ∀ c ∈ Lib.decDigits u, isDg c := by
  induction u using Nat.strongRecOn with
  | _ u ih =>
    intro c hc
    rw [Lib.decDigits] at hc
    by_cases h : u < 10
    · rw [dif_pos h] at hc
      simp only [List.mem_singleton] at hc
      subst hc
      unfold isDg
      rw [dg_byte u h]
      omega
    · rw [dif_neg h] at hc
      rcases List.mem_append.1 hc with hc | hc
      · exact ih (u / 10) (by omega) c hc
      · simp only [List.mem_singleton] at hc
        subst hc
        unfold isDg
        rw [dg_byte (u % 10) (by omega)]
        omega
theorem dd_val (u : Nat) : valD 0 (Lib.decDigits u) = u := by
  induction u using Nat.strongRecOn with
  | _ u ih =>
    rw [Lib.decDigits]
    by_cases h : u < 10
    · rw [dif_pos h]
      unfold valD valD
      rw [dg_byte u h]
      omega
    · rw [dif_neg h, valD_append, ih (u / 10) (by omega)]
      unfold valD valD
      rw [dg_byte (u % 10) (by omega)]
      omega
theorem dd_ne (u : Nat) : Lib.decDigits u ≠ [] := by
  rw [Lib.decDigits]
  split <;> simp
theorem dd_le (u : Nat) (h : u ≤ 9223372036854775808) : (Lib.decDigits u).length ≤ 19 := by
  rw [Lib.decDigits_length]
  rcases Nat.lt_or_ge 19 (Lib.nDigits u) with hn | hn
  · exfalso
    have : ∀ (k u : Nat), k < Lib.nDigits u → 10 ^ k ≤ u ∨ u = 0 ∧ k = 0 := by
      intro k
      induction k with
      | zero => intro u _; rcases Nat.eq_zero_or_pos u with h | h <;> simp <;> omega
      | succ k ih =>
        intro u hk
        by_cases h10 : u < 10
        · rw [Lib.nDigits_small h10] at hk; omega
        · rw [Lib.nDigits_big h10] at hk
          rcases ih (u / 10) (by omega) with h | ⟨h, _⟩
          · left; rw [Nat.pow_succ]; omega
          · omega
    rcases this 19 u hn with h2 | h2
    · have : (10 : Nat) ^ 19 = 10000000000000000000 := by decide
      omega
    · omega
  · exact hn

def inR (n : Int) : Prop := -9223372036854775808 ≤ n ∧ n ≤ 9223372036854775807
theorem parseU : ∀ (l : List UInt8) (a : Nat), (∀ c ∈ l, isDg c) → valD a l < 18446744073709551616 → Lib.parseUintM (2 ^ 64 - 1) a l = .ok (valD a l)
  | [], a, _, _ => rfl
  | c :: r, a, hd, hv => by
    have hc := hd c (by simp)
    have hr := parseU r (a * 10 + (c.toNat - 48)) (fun x hx => hd x (by simp [hx])) hv
    have hge := valD_ge r (a * 10 + (c.toNat - 48))
    have hv' : valD (a * 10 + (c.toNat - 48)) r < 18446744073709551616 := hv
    unfold isDg at hc
    rw [Lib.parseUintM, if_pos hc, if_neg (by omega), if_neg (by omega)]
    exact hr
theorem itoa_shape (n : Int) : (∃ u : Nat, 1 ≤ u ∧ n = -(u : Int) ∧ Lib.itoa n = 45 :: Lib.decDigits u) ∨ (∃ u : Nat, n = (u : Int) ∧ Lib.itoa n = Lib.decDigits u) := by
  by_cases h : n < 0
  · refine .inl ⟨n.natAbs, by omega, by omega, ?_⟩
    rw [Lib.itoa, if_pos h]
  · refine .inr ⟨n.toNat, by omega, ?_⟩
    rw [Lib.itoa, if_neg h]
theorem parse_itoa (n : Int) (h : inR n) : Lib.parseIntB 64 (Lib.itoa n) = .ok n := by
  unfold inR at h
  rcases itoa_shape n with ⟨u, h1, rfl, e⟩ | ⟨u, rfl, e⟩
  · rw [e]
    have hp : Lib.parseUintB 64 (Lib.decDigits u) = .ok u := by
      rw [Lib.parseUintB, if_neg (dd_ne u), parseU _ 0 (dd_digit u) (by rw [dd_val]; omega), dd_val]
    unfold Lib.parseIntB
    have h45 : (45 : UInt8).toNat = 45 := rfl
    simp only [h45, or_true, if_true, hp, not_true, false_and, if_false, true_and]
    rw [if_neg (by omega)]
  · rw [e]
    have hp : Lib.parseUintB 64 (Lib.decDigits u) = .ok u := by
      rw [Lib.parseUintB, if_neg (dd_ne u), parseU _ 0 (dd_digit u) (by rw [dd_val]; omega), dd_val]
    have hd := dd_digit u
    have hne := dd_ne u
    generalize Lib.decDigits u = l at hp hd hne
    cases l with
    | nil => exact absurd rfl hne
    | cons c r =>
      have hc := hd c (by simp)
      unfold isDg at hc
      have e1 : ¬ c.toNat = 43 := by omega
      have e2 : ¬ c.toNat = 45 := by omega
      unfold Lib.parseIntB
      simp only [e1, e2, not_false_eq_true, true_and, false_and, or_false, if_false]
      rw [hp]
      show (if 2 ^ (64 - 1) ≤ u then Lib.NumEnd.range else Lib.NumEnd.ok (u : Int)) = _
      rw [if_neg (by omega)]
theorem itoa_inj {m n : Int} (hm : inR m) (hn : inR n) (h : Lib.itoa m = Lib.itoa n) : m = n := by
  have h1 := parse_itoa m hm
  rw [h, parse_itoa n hn] at h1
  injection h1 with h1
  exact h1.symm
theorem itoa_head (n : Int) : ∃ c r, Lib.itoa n = c :: r ∧ c ≠ 39 := by
  rcases itoa_shape n with ⟨u, h1, rfl, e⟩ | ⟨u, rfl, e⟩
  · exact ⟨_, _, e, by decide⟩
  · rw [e]
    have hd := dd_digit u
    have hne := dd_ne u
    generalize Lib.decDigits u = l at hd hne
    cases l with
    | nil => exact absurd rfl hne
    | cons c r =>
      have hc := hd c (by simp)
      exact ⟨c, r, rfl, by rintro rfl; revert hc; unfold isDg; decide⟩
theorem itoa_not45 (n : Int) : Lib.itoa n ≠ [45] := by
  rcases itoa_shape n with ⟨u, h1, rfl, e⟩ | ⟨u, rfl, e⟩
  · rw [e]
    intro h
    simp only [List.cons.injEq, true_and] at h
    exact dd_ne u h
  · rw [e]
    intro h
    have := dd_digit u 45 (by rw [h]; simp)
    revert this
    unfold isDg
    decide
theorem itoa_le (n : Int) (h : inR n) : (Lib.itoa n).length ≤ 20 := by
  unfold inR at h
  rcases itoa_shape n with ⟨u, h1, rfl, e⟩ | ⟨u, rfl, e⟩
  · rw [e, List.length_cons]
    have := dd_le u (by omega)
    omega
  · rw [e]
    have := dd_le u (by omega)
    omega
theorem itoa_byte (n : Int) (k : Nat) (c : UInt8) (h : (Lib.itoa n)[k]? = some c) : isDg c ∨ (k = 0 ∧ c = 45) := by
  rcases itoa_shape n with ⟨u, h1, rfl, e⟩ | ⟨u, rfl, e⟩
  · rw [e] at h
    cases k with
    | zero => right; simp at h; exact ⟨rfl, h.symm⟩
    | succ k =>
      simp only [List.getElem?_cons_succ] at h
      exact .inl (dd_digit u c (List.mem_of_getElem? h))
  · rw [e] at h
    exact .inl (dd_digit u c (List.mem_of_getElem? h))

/-- One digit more, as the reference reckons. -/
def stepR (neg : Bool) (a : Int) (c : UInt8) : Int := wrap64 (wrap64 (a * 10) + (if neg then 0 - ((c.toNat : Int) - 48) else (c.toNat : Int) - 48))
def sg (neg : Bool) (v : Nat) : Int := if neg then -(v : Int) else v
theorem stepR_val (neg : Bool) (v : Nat) (c : UInt8) (h : isDg c) : stepR neg (wrap64 (sg neg v)) c = wrap64 (sg neg (v * 10 + (c.toNat - 48))) := by
  unfold isDg at h
  unfold stepR sg wrap64
  cases neg
  · simp only [Bool.false_eq_true, if_false]; omega
  · simp only [if_true]; omega
theorem fold_val (neg : Bool) : ∀ (l : List UInt8) (v : Nat), (∀ c ∈ l, isDg c) → l.foldl (stepR neg) (wrap64 (sg neg v)) = wrap64 (sg neg (valD v l))
  | [], v, _ => rfl
  | c :: r, v, h => by
    rw [List.foldl_cons, stepR_val neg v c (h c (by simp)), fold_val neg r _ (fun x hx => h x (by simp [hx]))]
    rfl
/-- The number that the reference reckons out of the bytes. -/
def refN (l : List UInt8) : Int := if l.head? = some 45 then (l.drop 1).foldl (stepR true) 0 else l.foldl (stepR false) 0
theorem refN_itoa (n : Int) (h : inR n) : refN (Lib.itoa n) = n := by
  have w0 : ∀ b, wrap64 (sg b 0) = 0 := by intro b; cases b <;> simp [sg, wrap64]
  unfold inR at h
  rcases itoa_shape n with ⟨u, h1, rfl, e⟩ | ⟨u, rfl, e⟩
  · rw [e]
    unfold refN
    rw [List.head?_cons, if_pos rfl, List.drop_one, List.tail_cons]
    have := fold_val true (Lib.decDigits u) 0 (dd_digit u)
    rw [w0, dd_val] at this
    rw [this]
    unfold sg wrap64
    simp only [if_true]
    omega
  · rw [e]
    unfold refN
    rw [if_neg]
    · have := fold_val false (Lib.decDigits u) 0 (dd_digit u)
      rw [w0, dd_val] at this
      rw [this]
      unfold sg wrap64
      simp only [Bool.false_eq_true, if_false]
      omega
    · intro hh
      have hm : (45 : UInt8) ∈ Lib.decDigits u := List.mem_of_mem_head? hh
      have := dd_digit u 45 hm
      revert this
      unfold isDg
      decide
theorem stepR_in (neg : Bool) (a : Int) (c : UInt8) : inR (stepR neg a c) := by unfold inR stepR wrap64; omega
theorem fold_in (neg : Bool) : ∀ (l : List UInt8) (a : Int), inR a → inR (l.foldl (stepR neg) a)
  | [], a, h => h
  | c :: r, a, _ => fold_in neg r _ (stepR_in neg a c)
theorem refN_in (l : List UInt8) : inR (refN l) := by
  unfold refN
  split
  · exact fold_in _ _ _ (by unfold inR; omega)
  · exact fold_in _ _ _ (by unfold inR; omega)

/-! What a text says. -/
def v0 : V := ⟨0, 0, ⟨#[]⟩⟩
open Classical in
noncomputable def parseE (l : List UInt8) : V × Int :=
  if l = [45] then (v0, 0) else if l.head? = some 39 then (if l.length ≤ 21 then (⟨2, 0, bs (l.drop 1)⟩, 0) else (v0, 110)) else if h : ∃ n, inR n ∧ Lib.itoa n = l then (⟨1, h.choose, ⟨#[]⟩⟩, 0) else (v0, 110)
def textE (v : V) : List UInt8 := if v.kind = 1 then Lib.itoa v.n else if v.kind = 2 then 39 :: v.s.data.toList else [45]
theorem parseE_line : parseE [45] = (v0, 0) := by unfold parseE; rw [if_pos rfl]
theorem parseE_text (l : List UInt8) (h : l.head? = some 39) : parseE l = if l.length ≤ 21 then (⟨2, 0, bs (l.drop 1)⟩, 0) else (v0, 110) := by
  unfold parseE
  rw [if_neg (by rintro rfl; simp at h), if_pos h]
theorem parseE_num (l : List UInt8) (n : Int) (hn : inR n) (h : Lib.itoa n = l) : parseE l = (⟨1, n, ⟨#[]⟩⟩, 0) := by
  have h45 : l ≠ [45] := by rw [← h]; exact itoa_not45 n
  have h39 : l.head? ≠ some 39 := by
    obtain ⟨c, r, e, hc⟩ := itoa_head n
    rw [← h, e]
    simpa using hc
  have hx : ∃ n, inR n ∧ Lib.itoa n = l := ⟨n, hn, h⟩
  unfold parseE
  rw [if_neg h45, if_neg h39, dif_pos hx]
  have := hx.choose_spec
  rw [itoa_inj this.1 hn (this.2.trans h.symm)]
theorem parseE_none (l : List UInt8) (h45 : l ≠ [45]) (h39 : l.head? ≠ some 39) (h : ∀ n, inR n → Lib.itoa n ≠ l) : parseE l = (v0, 110) := by
  unfold parseE
  rw [if_neg h45, if_neg h39, dif_neg]
  rintro ⟨n, hn, e⟩
  exact h n hn e
theorem parse_text (v : V) (h : may v = true) (hr : inR v.n) : parseE (textE v) = (v, 0) := by
  obtain ⟨k, n, s⟩ := v
  unfold may at h
  simp only at h hr
  have hemp : s.toList.isEmpty = true → s = ⟨#[]⟩ := by
    intro he
    rw [List.isEmpty_iff, Lib.toList_data] at he
    have : bs s.data.toList = bs [] := by rw [he]
    exact this
  by_cases h0 : k = 0
  · rw [if_pos h0] at h
    simp only [Bool.and_eq_true, beq_iff_eq] at h
    obtain ⟨rfl, he⟩ := h
    rw [hemp he]
    subst h0
    exact parseE_line
  · rw [if_neg h0] at h
    by_cases h1 : k = 1
    · rw [if_pos h1] at h
      subst h1
      rw [hemp h]
      exact parseE_num _ n hr rfl
    · rw [if_neg h1] at h
      by_cases h2 : k = 2
      · rw [if_pos h2] at h
        simp only [Bool.and_eq_true, beq_iff_eq, decide_eq_true_eq] at h
        obtain ⟨rfl, hs⟩ := h
        subst h2
        have ht : textE ⟨2, 0, s⟩ = 39 :: s.data.toList := rfl
        rw [ht, parseE_text _ rfl, if_pos (by rw [List.length_cons, data_len]; omega)]
        rfl
      · rw [if_neg h2] at h
        cases h
end Go.Proofs.YtdpipfifoinncaaDoor
