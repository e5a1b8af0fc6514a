import Derived.Test.YtjonmcbglcidhaaGreatHg
import Derived.Deep.Cut
namespace Go.Proofs.YtjonmcbglcidhaaGreat
open Go.RowKit
set_option linter.unusedVariables false

theorem same1_any (A1 A2 : Option Addr) (c1 c2 : Nat) (l : List V) (w : World) (h1 : VAt w A1 l) (h2 : VAt w A2 l) (n1 : l.length ≤ 9223372036854775807) :
    Calls Tryz.prog 23 #[.slice A1 l.length c1, .slice A2 l.length c2] w fun e w' => e = .returned (.bool true) ∧ Below w.heap.size w w' := by
  have hcon := equal_same A1 A2 c1 c2 l w h1 h2 n1
  go_enter Tryz.func23, Tryz.ntmps23
  go_wp2_with fail
  refine hcon.mono ?_
  rintro e w' ⟨rfl, hB⟩
  go_wp2_with fail
  go_ret
  exact ⟨rfl, hB⟩

set_option maxRecDepth 100000 in
set_option maxHeartbeats 1000000 in
theorem equalFunc_any {v1 v2 : Value} {R1 R2 : List RH} {w : World} (h1 : RRead w v1 R1) (h2 : RRead w v2 R2) (c1 : ∀ r ∈ R1, VAt w r.A r.l ∧ r.l.length ≤ 9223372036854775807) (c2 : ∀ r ∈ R2, VAt w r.A r.l) (he : R1.map (·.l) = R2.map (·.l)) (hl : R1.length ≤ 9223372036854775807) :
    Calls Tryz.prog 22 #[v1, v2, .func (.func 23) #[] #[]] w fun e w' => e = .returned (.bool true) ∧ Below w.heap.size w w' := by
  obtain ⟨A1, k1, rfl, -, h1⟩ := h1
  obtain ⟨A2, k2, rfl, -, h2⟩ := h2
  have hle : R1.length = R2.length := by simpa using congrArg List.length he
  rw [← hle]
  have hne : ((R1.length : Int) != (R1.length : Int)) = false := by simp
  have HLE := Lib.hid hle
  have HHE := Lib.hid he
  clear hle he
  go_enter Tryz.func22, Tryz.ntmps22
  go_wp2_with fail
  go_loopw [17] (fun j wr => ∃ i : Nat, i ≤ R1.length ∧ j = .int .i64 i ∧ Below w.heap.size w wr) (fun j _ => R1.length - (intOf j).toNat)
  case atStart => exact ⟨0, by omega, rfl, Below.refl _ _⟩
  case round =>
    obtain ⟨i, hi, rfl, hB⟩ := hrel
    by_cases hlt : i < R1.length
    · have hlt2 : i < R2.length := by rw [← HLE.out]; exact hlt
      obtain ⟨a1, rfl, b1, x1⟩ := h1 i hlt
      obtain ⟨a2, rfl, b2, x2⟩ := h2 i hlt2
      have y1 : wr.cell? (a1.add i) = some (hv R1[i]) := (hB.cell (by rw [block_of_add]; exact b1)).trans x1
      have y2 : wr.cell? (a2.add i) = some (hv R2[i]) := (hB.cell (by rw [block_of_add]; exact b2)).trans x2
      obtain ⟨hc1, hn1⟩ := c1 _ (List.getElem_mem hlt)
      have hc2 := c2 _ (List.getElem_mem hlt2)
      have hee : R1[i].l = R2[i].l := by
        have h0 : (R1.map (·.l))[i]? = (R2.map (·.l))[i]? := by rw [HHE.out]
        rw [List.getElem?_map, List.getElem?_map, List.getElem?_eq_getElem hlt, List.getElem?_eq_getElem hlt2] at h0
        simpa using h0
      obtain ⟨r1, hr1⟩ : ∃ r, r = R1[i] := ⟨_, rfl⟩
      obtain ⟨r2, hr2⟩ : ∃ r, r = R2[i] := ⟨_, rfl⟩
      rw [← hr1] at y1 hc1 hn1 hee
      rw [← hr2] at y2 hc2 hee
      clear hr1 hr2 x1 x2
      obtain ⟨B1, d1, l1⟩ := r1
      obtain ⟨B2, d2, l2⟩ := r2
      simp only at hc1 hn1 hc2 hee
      subst hee
      simp only [hv] at y1 y2
      have hii0 : (0 : Int) ≤ (i : Int) := by omega
      have hcon := same1_any B1 B2 d1 d2 l1 wr (hc1.below hB) (hc2.below hB) hn1
      go_wp2_with fail
      refine hcon.mono ?_
      rintro e wc ⟨rfl, hBc⟩
      clear hcon y1 y2
      go_wp2_with fail
      go_roundw
      case rel => exact ⟨i + 1, by omega, by go_num, hB.trans (hBc.mono hB.size)⟩
      case measure => simp [intOf]; omega
    · go_wp2_with fail
      go_ret
      exact ⟨rfl, hB⟩
theorem sorted_eq : ∀ {l m : List (List V)}, l.Perm m → l.Pairwise (fun x y => ¬ cmpL y x < 0) → m.Pairwise (fun x y => ¬ cmpL y x < 0) → l = m := by
  intro l m hp h1 h2
  refine List.Perm.eq_of_pairwise (le := fun x y => ¬ cmpL y x < 0) ?_ h1 h2 hp
  intro a b _ _ h1 h2
  have o := cmpL_ord
  have e1 := o.swap a b
  have e2 := o.swap b a
  exact (o.zero a b).1 (by omega)

section
variable {w : World}
set_option maxRecDepth 100000 in
theorem same_count {n m : Int} {v1 v2 : Value} (h : n ≠ m) (w : World) : Calls Tryz.prog 7 #[.agg #[.int .i64 n, v1], .agg #[.int .i64 m, v2]] w fun e w' => e = .returned (.bool false) ∧ Below w.heap.size w w' := by
  have hb : (n != m) = true := by simpa using h
  clear h
  go_enter Tryz.func7, Tryz.ntmps7
  go_wp2_with fail
  go_ret
  exact ⟨rfl, ((Below.refl _ _).alloc (Nat.le_refl _) _).alloc (by simp) _⟩
set_option maxRecDepth 100000 in
theorem same_len {n : Int} {A1 A2 : Option Addr} {n1 n2 c1 c2 : Nat} (h : n1 ≠ n2) (w : World) : Calls Tryz.prog 7 #[.agg #[.int .i64 n, .slice A1 n1 c1], .agg #[.int .i64 n, .slice A2 n2 c2]] w fun e w' => e = .returned (.bool false) ∧ Below w.heap.size w w' := by
  have hb : (n != n) = false := by simp
  have hb2 : ((n1 : Int) != (n2 : Int)) = true := by simp; omega
  clear h
  go_enter Tryz.func7, Tryz.ntmps7
  go_wp2_with fail
  go_ret
  exact ⟨rfl, ((Below.refl _ _).alloc (Nat.le_refl _) _).alloc (by simp) _⟩
end
end Go.Proofs.YtjonmcbglcidhaaGreat
