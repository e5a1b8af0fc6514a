import Derived.Test.YtogeojiaiilghaaGreatT
import Derived.Maps.RangeWalk
import Derived.RangeFuncSeq
namespace Go.Proofs.YtogeojiaiilghaaGreat
open Go.RowKit
set_option linter.unusedVariables false

/-- 'for k := range m' under way over the map in block b: what has come. -/
def Rng (w : World) (b r : Nat) (l : List (Nm × Value)) (pre : List Nm) : Prop :=
  ∃ (es : Array MapEntry) (clock : Nat) (seen : Array Nat) (c0 : Nat), w.heap[b]? = some (.map es clock) ∧ es.toList.map (fun e => (e.key, e.val)) = l.map (fun p => (nv p.1, p.2)) ∧ (l.map (·.1)).Nodup ∧ (es.toList.map (·.born)).Nodup ∧ (∀ e ∈ es.toList, e.born < clock) ∧
    w.heap[r]? = some (.mapIter (some b) clock seen c0) ∧ clock ≤ c0 ∧ pre.Nodup ∧ (∀ a ∈ pre, a ∈ l.map (·.1)) ∧ pre.length + (leftOf es seen).size ≤ l.length ∧
    (∀ (i : Nat) (e : MapEntry) (p : Nm × Value), es.toList[i]? = some e → l[i]? = some p → (seen.contains e.born = true ↔ p.1 ∈ pre))

theorem nodup_at {α : Type} : ∀ {l : List α}, l.Nodup → ∀ {i j : Nat} {a : α}, l[i]? = some a → l[j]? = some a → i = j
  | [], _, i, j, a, h, _ => by simp at h
  | x :: r, hn, 0, 0, a, _, _ => rfl
  | x :: r, hn, 0, j + 1, a, h, k => by
    simp only [List.getElem?_cons_zero, Option.some.injEq] at h
    simp only [List.getElem?_cons_succ] at k
    subst h
    exact absurd (List.mem_of_getElem? k) (List.nodup_cons.1 hn).1
  | x :: r, hn, i + 1, 0, a, h, k => by
    simp only [List.getElem?_cons_zero, Option.some.injEq] at k
    simp only [List.getElem?_cons_succ] at h
    subst k
    exact absurd (List.mem_of_getElem? h) (List.nodup_cons.1 hn).1
  | x :: r, hn, i + 1, j + 1, a, h, k => by
    simp only [List.getElem?_cons_succ] at h k
    rw [nodup_at (List.nodup_cons.1 hn).2 h k]

theorem rng_start {w : World} {b : Nat} {l : List (Nm × Value)} (h : MapAt KN w b l) :
    ∃ w', (Instr.range 110 (.map (some b))).run Tryz.prog w = .ok (.pointer (some ⟨w.heap.size, 0, none⟩)) w' ∧ Rng w' b w.heap.size l [] ∧ ∃ o, w' = w.alloc o := by
  have hlt := h.lt
  obtain ⟨es, clock, hb, hes, hnd, hbn, hbl⟩ := h
  refine ⟨_, run_range_map w 110 _ _ b es clock Tryz.underlying110 hb, ⟨es, clock, #[], clock, (Below.heap_alloc w _ b hlt).trans hb, hes, hnd, hbn, hbl, heap_alloc_new w _, Nat.le_refl _, List.nodup_nil, by simp, ?_, by simp⟩, _, rfl⟩
  have := congrArg List.length hes
  simp only [List.length_map, Array.length_toList] at this
  have h2 : (leftOf es #[]).size ≤ es.size := Array.size_filter_le
  simp only [List.length_nil]
  omega

theorem Rng.next {w : World} {b r : Nat} {l : List (Nm × Value)} {pre : List Nm} (h : Rng w b r l pre) (ty : TypeId) :
    (pre.Perm (l.map (·.1)) ∧ (Instr.next (.pointer (some ⟨r, 0, none⟩)) false ty).run Tryz.prog w = .ok (.tuple #[.bool false]) w) ∨
    ∃ (a : Nm) (v : Value) (w' : World), pre.length < l.length ∧ (Instr.next (.pointer (some ⟨r, 0, none⟩)) false ty).run Tryz.prog w = .ok (.tuple #[.bool true, nv a, v]) w' ∧ Rng w' b r l (pre ++ [a]) ∧
      w'.rangeLeft b r < w.rangeLeft b r ∧ w.grownBy w' (some r) ∧ w'.heap.size = w.heap.size ∧ (Instr.entry (.pointer (some ⟨r, 0, none⟩))).run Tryz.prog w' = .ok (.tuple #[nv a, v]) w' := by
  obtain ⟨es, clock, seen, c0, hb, hes, hnd, hbn, hbl, hr, hc, hpn, hps, hle, hse⟩ := h
  have hne : r ≠ b := by rintro rfl; rw [hb] at hr; cases hr
  have hlen : es.toList.length = l.length := by simpa using congrArg List.length hes
  have hat : ∀ (i : Nat) (e : MapEntry), es.toList[i]? = some e → ∃ p, l[i]? = some p ∧ e.key = nv p.1 ∧ e.val = p.2 := fun i e he => by
    have h1 := congrArg (fun x => x[i]?) hes
    simp only [List.getElem?_map, he, Option.map_some] at h1
    cases hp : l[i]? with
    | none => rw [hp] at h1; simp at h1
    | some p =>
      rw [hp] at h1
      simp only [Option.map_some, Option.some.injEq, Prod.mk.injEq] at h1
      exact ⟨p, rfl, h1.1, h1.2⟩
  rcases run_next_at (P := Tryz.prog) w ty r b clock c0 seen es clock hr hb hbl hc with ⟨h0, hrun⟩ | ⟨e, he, w1, hal, hrun⟩
  · refine .inl ⟨?_, hrun⟩
    rw [List.perm_ext_iff_of_nodup hpn hnd]
    refine fun a => ⟨hps a, fun ha => ?_⟩
    obtain ⟨p, hp, rfl⟩ := List.mem_map.1 ha
    obtain ⟨i, hi⟩ := List.getElem?_of_mem hp
    have hil : i < es.toList.length := by rw [hlen]; exact (List.getElem?_eq_some_iff.1 hi).1
    exact (hse i _ p (List.getElem?_eq_getElem hil) hi).1 (all_seen es seen h0 _ (List.getElem_mem hil))
  · obtain ⟨hem, hes0⟩ := mem_left he
    obtain ⟨i, hi⟩ := List.getElem?_of_mem hem
    obtain ⟨p, hp, hk, hv⟩ := hat i e hi
    have hpre : p.1 ∉ pre := fun hx => by
      have := (hse i e p hi hp).2 hx
      rw [hes0] at this
      cases this
    have hshr := left_shrinks es seen e he
    have hset : ∀ w1 : World, (w1 = w ∨ w1 = w.drew) → (ChangeMaps.setBlock w1 r (.mapIter (some b) clock (seen.push e.born) clock)).heap[r]? = some (.mapIter (some b) clock (seen.push e.born) clock) ∧ ∀ k, k ≠ r → (ChangeMaps.setBlock w1 r (.mapIter (some b) clock (seen.push e.born) clock)).heap[k]? = w.heap[k]? := by
      rintro w1 (rfl | rfl)
      · exact ⟨heap_set_same (Array.getElem?_eq_some_iff.1 hr).1 _, fun k hk => heap_set_other _ hk⟩
      · exact ⟨heap_set_same (w := w.drew) (Array.getElem?_eq_some_iff.1 hr).1 _, fun k hk => heap_set_other (w := w.drew) _ hk⟩
    obtain ⟨hr', ho'⟩ := hset w1 hal
    have hb' := (ho' b (Ne.symm hne)).trans hb
    refine .inr ⟨p.1, p.2, _, by omega, by rw [← hk, ← hv]; exact hrun, ⟨es, clock, seen.push e.born, clock, hb', hes, hnd, hbn, hbl, hr', Nat.le_refl _, ?_, ?_, by rw [List.length_append]; simp only [List.length_cons, List.length_nil]; omega, ?_⟩, ?_, ?_, ?_, ?_⟩
    · rw [List.nodup_append]
      exact ⟨hpn, by simp, fun x hx y hy => by simp only [List.mem_singleton] at hy; subst hy; rintro rfl; exact hpre hx⟩
    · intro a ha
      rcases List.mem_append.1 ha with ha | ha
      · exact hps a ha
      · simp only [List.mem_singleton] at ha
        subst ha
        exact List.mem_map.2 ⟨p, List.mem_of_getElem? hp, rfl⟩
    · intro j e2 p2 hj hp2
      rw [contains_push, Bool.or_eq_true, hse j e2 p2 hj hp2, List.mem_append, List.mem_singleton, beq_iff_eq]
      have hb1 : e2.born = e.born ↔ j = i := by
        constructor
        · intro hh
          refine nodup_at hbn (a := e.born) ?_ ?_
          · rw [List.getElem?_map, hj, Option.map_some, hh]
          · rw [List.getElem?_map, hi, Option.map_some]
        · rintro rfl
          rw [hj] at hi
          injection hi with hi
          rw [hi]
      have hb2 : p2.1 = p.1 ↔ j = i := by
        constructor
        · intro hh
          refine nodup_at hnd (a := p.1) ?_ ?_
          · rw [List.getElem?_map, hp2, Option.map_some, hh]
          · rw [List.getElem?_map, hp, Option.map_some]
        · rintro rfl
          rw [hp2] at hp
          injection hp with hp
          rw [hp]
      rw [hb1, hb2]
    · simp only [World.rangeLeft, hb', hr', hb, hr]
      exact hshr
    · rcases hal with rfl | rfl <;> exact ⟨rfl, rfl, rfl, by simp [ChangeMaps.setBlock], fun k _ hk => ho' k (fun e1 => hk (by rw [e1]))⟩
    · rcases hal with rfl | rfl <;> simp [ChangeMaps.setBlock]
    · have := run_entry_at (P := Tryz.prog) _ r b clock seen es clock e hr' hb' hem hbn
      rw [hk, hv] at this
      exact this
theorem Rng.of_walks {w w' : World} {b r : Nat} {l : List (Nm × Value)} {pre : List Nm} (h : Rng w b r l pre) (hk : KeepsWalks w w') : Rng w' b r l pre ∧ w'.rangeLeft b r = w.rangeLeft b r := by
  obtain ⟨es, clock, seen, c0, hb, hes, hnd, hbn, hbl, hr, rest⟩ := h
  have hb' := hk.same b _ hb rfl
  have hr' := hk.same r _ hr rfl
  exact ⟨⟨es, clock, seen, c0, hb', hes, hnd, hbn, hbl, hr', rest⟩, by simp only [World.rangeLeft, hb, hr, hb', hr']⟩
theorem Rng.iter_walk {w : World} {b r : Nat} {l : List (Nm × Value)} {pre : List Nm} (h : Rng w b r l pre) : ∃ o : Obj, w.heap[r]? = some o ∧ o.isWalk = true := by
  obtain ⟨es, clock, seen, c0, hb, hes, hnd, hbn, hbl, hr, rest⟩ := h
  exact ⟨_, hr, rfl⟩
end Go.Proofs.YtogeojiaiilghaaGreat
