import Derived.Test.YtcdlplbccblbaaaGreatMg19
import Derived.Test.YtcdlplbccblbaaaGreatMg13
import Derived.Test.YtcdlplbccblbaaaGreatMg9
import Derived.Test.YtcdlplbccblbaaaGreatSm
namespace Go.Proofs.YtcdlplbccblbaaaGreat
open Go.RowKit Go.Shelf
set_option linter.unusedVariables false

section
variable {B : Nat} {w w' : World} {T QB WB : Nat} {L : List (Nm × List Ak)} {W : List (Int × Nm)} {R : List Row}
/-- The copy of the map of those who wait. -/
theorem mclone_any {w : World} {b : Nat} {l : List (Int × Value)} (h : MapAt KI w b l) : Calls Tryz.prog 41 #[.map (some b)] w fun e w' => e = .returned (.map (some w.heap.size)) ∧ MapAt KI w' w.heap.size l ∧ Below w.heap.size w w' := by
  have hlt := h.lt
  obtain ⟨es, clock, hb, hes, hnd, hbn, hbl⟩ := h
  refine (AnyW.maps_Clone Tryz.cloneMap b es clock w hb).mono ?_
  rintro e w' ⟨rfl, rfl⟩
  exact ⟨rfl, ⟨es, clock, (MapKept.heap_alloc w _).1, hes, hnd, hbn, hbl⟩, (Below.refl _ _).alloc (Nat.le_refl _) _⟩

theorem Tab.add (h : Tab w T QB WB R W) {n : Nm} (hn : n ∉ R.map (·.n)) {g' cap' : Nat} {q' : List Ak} (hrow : RowAt w g' cap' q') (hg : ¬ Foot T QB WB R g') :
    ∃ w2, (Instr.mapUpdate 34 (.map (some QB)) (nv n) (.slice (some ⟨g', 0, none⟩) q'.length cap')).run Tryz.prog w = .ok () w2 ∧ Tab w2 T QB WB (R ++ [⟨n, g', cap', q'⟩]) W ∧ Turned w w2 QB := by
  obtain ⟨k1, k2, k3⟩ := h.kinds
  obtain ⟨w2, hrun, hm, ht⟩ := h.qm.put_new Tryz.underlying34 (a := n) (by simpa [List.map_map, Function.comp_def] using hn) (.slice (some ⟨g', 0, none⟩) q'.length cap')
  have hg'Q : g' ≠ QB := fun e => hg (.inr (.inl e))
  refine ⟨w2, hrun, ⟨h.head.of_block (ht.block T k1), by simpa [Row.v] using hm, h.wm.of_block (ht.block WB (fun e => h.ne e.symm)), h.ne, ?_, ?_⟩, ht⟩
  · intro r' hr'
    rw [List.mem_append, List.mem_singleton] at hr'
    rcases hr' with hr' | rfl
    · exact (h.rows r' hr').of_block (ht.block _ (k3 r' hr').2.1)
    · exact hrow.of_block (ht.block g' hg'Q)
  · rw [List.map_append, List.nodup_append]
    refine ⟨h.apart, by simp, ?_⟩
    intro x hx y hy
    simp at hy
    subst hy
    exact fun e => hg (.inr (.inr (.inr (e ▸ hx))))
theorem Rng.of_blocks {w w' : World} {b r : Nat} {l : List (Nm × Value)} {pre : List Nm} (h : Rng w b r l pre) (h1 : w'.heap[b]? = w.heap[b]?) (h2 : w'.heap[r]? = w.heap[r]?) : Rng w' b r l pre ∧ w'.rangeLeft b r = w.rangeLeft b r := by
  obtain ⟨es, clock, seen, c0, hb, hes, hnd, hbn, hbl, hr, rest⟩ := h
  have hb' := h1.trans hb
  have hr' := h2.trans hr
  exact ⟨⟨es, clock, seen, c0, hb', hes, hnd, hbn, hbl, hr', rest⟩, by simp only [World.rangeLeft, hb, hr, hb', hr']⟩
theorem Rng.lt {w : World} {b r : Nat} {l : List (Nm × Value)} {pre : List Nm} (h : Rng w b r l pre) : r < w.heap.size := by
  obtain ⟨es, clock, seen, c0, hb, hes, hnd, hbn, hbl, hr, rest⟩ := h
  exact (Array.getElem?_eq_some_iff.1 hr).1
/-- The copy under way: pre has come, ss stands in it. -/
structure Cop (w0 wr : World) (T QB WB T' QB' WB' r : Nat) (R : List Row) (W : List (Int × Nm)) (pre ss : List Nm) : Prop where
  rng : Rng wr QB r (R.map fun r => (r.n, r.v)) pre
  old : Tab wr T QB WB R W
  new : ∃ R', Tab wr T' QB' WB' R' W ∧ R'.map nq = ss.map (fun n => (n, qOf R n)) ∧ ∀ k, Foot T' QB' WB' R' k → w0.heap.size ≤ k ∧ k ≠ r
  far : ∀ k, Foot T QB WB R k → k < w0.heap.size
  it : w0.heap.size ≤ r
  below : Below w0.heap.size w0 wr
section
variable {w0 wr w4 : World} {T' QB' WB' r : Nat} {pre ss : List Nm}
theorem Cop.moved (h : Cop w0 wr T QB WB T' QB' WB' r R W pre ss) (hg : wr.grownBy w4 (some r)) {pre' : List Nm} (hr : Rng w4 QB r (R.map fun r => (r.n, r.v)) pre') : Cop w0 w4 T QB WB T' QB' WB' r R W pre' ss := by
  obtain ⟨R', hT', hm, hf⟩ := h.new
  have hit := h.it
  refine ⟨hr, h.old.of_blocks fun k hk => hg.block k (h.old.foot_lt hk) (fun e => ?_), ⟨R', hT'.of_blocks fun k hk => hg.block k (hT'.foot_lt hk) (fun e => ?_), hm, hf⟩, h.far, h.it, h.below.grown hg h.below.size fun k hk => ?_⟩
  · have := h.far k hk
    simp at e
    omega
  · simp at e
    exact (hf k hk).2 e
  · simp at hk
    omega
theorem Cop.more (h : Cop w0 wr T QB WB T' QB' WB' r R W pre ss) (hb : Below wr.heap.size wr w4) : Cop w0 w4 T QB WB T' QB' WB' r R W pre ss ∧ w4.rangeLeft QB r = wr.rangeLeft QB r := by
  obtain ⟨R', hT', hm, hf⟩ := h.new
  obtain ⟨h1, h2⟩ := h.rng.of_blocks (hb.block _ h.old.qm.lt) (hb.block _ h.rng.lt)
  exact ⟨⟨h1, h.old.below hb, ⟨R', hT'.below hb, hm, hf⟩, h.far, h.it, h.below.trans (hb.mono h.below.size)⟩, h2⟩
theorem qOf_mem (hn : (R.map (·.n)).Nodup) {x : Row} (hx : x ∈ R) : qOf R x.n = x.q := by
  induction R with
  | nil => simp at hx
  | cons y R ih =>
    rw [List.map_cons, List.nodup_cons] at hn
    unfold qOf rOf
    rw [List.mem_cons] at hx
    rcases hx with rfl | hx
    · simp
    · have hne : (y.n == x.n) = false := by
        rw [beq_eq_false_iff_ne]
        exact fun e => hn.1 (e ▸ List.mem_map_of_mem hx)
      rw [List.find?_cons, hne]
      exact ih hn.2 hx
theorem Cop.put (h : Cop w0 wr T QB WB T' QB' WB' r R W pre ss) (hb : Below wr.heap.size wr w4) {x : Row} (hx : x ∈ R) (hn : x.n ∉ ss) {g' cap' : Nat} (hrow : RowAt w4 g' cap' x.q) (hg : wr.heap.size ≤ g') :
    ∃ w7, (Instr.mapUpdate 34 (.map (some QB')) (nv x.n) (.slice (some ⟨g', 0, none⟩) x.q.length cap')).run Tryz.prog w4 = .ok () w7 ∧ Cop w0 w7 T QB WB T' QB' WB' r R W pre (ss ++ [x.n]) ∧ Turned w4 w7 QB' ∧ w7.rangeLeft QB r = wr.rangeLeft QB r := by
  have hrl := h.rng.lt
  obtain ⟨h4, e4⟩ := h.more hb
  have hq := qOf_mem h.old.names hx
  obtain ⟨R0, hT0, hm0, hf0⟩ := h.new
  obtain ⟨R', hT', hm, hf⟩ : ∃ R', Tab w4 T' QB' WB' R' W ∧ R'.map nq = ss.map (fun n => (n, qOf R n)) ∧ (∀ k, Foot T' QB' WB' R' k → w0.heap.size ≤ k ∧ k ≠ r ∧ k < wr.heap.size) :=
    ⟨R0, hT0.below hb, hm0, fun k hk => ⟨(hf0 k hk).1, (hf0 k hk).2, hT0.foot_lt hk⟩⟩
  have hnn : x.n ∉ R'.map (·.n) := by
    have e : R'.map (·.n) = ss := by
      have := congrArg (List.map (·.1)) hm
      simpa [List.map_map, Function.comp_def, nq] using this
    rw [e]
    exact hn
  obtain ⟨w7, hrun, hT7, ht⟩ := hT'.add hnn hrow (fun hk => by have := (hf g' hk).2.2; omega)
  have hQ := hf QB' (.inr (.inl rfl))
  have hne : ∀ k, Foot T QB WB R k → k ≠ QB' := fun k hk e => by have := h.far k hk; omega
  obtain ⟨h71, h72⟩ := h4.rng.of_blocks (ht.block QB (hne _ (.inr (.inl rfl)))) (ht.block r (fun e => hQ.2.1 e.symm))
  refine ⟨w7, hrun, ⟨h71, h4.old.of_blocks fun k hk => ht.block k (hne k hk), ⟨_, hT7, ?_, fun k hk => ?_⟩, h.far, h.it, ?_⟩, ht, h72.trans e4⟩
  · rw [List.map_append, List.map_append, hm]
    simp [nq, hq]
  · rcases hk with rfl | rfl | rfl | hk
    · exact ⟨(hf _ (.inl rfl)).1, (hf _ (.inl rfl)).2.1⟩
    · exact ⟨(hf _ (.inr (.inl rfl))).1, (hf _ (.inr (.inl rfl))).2.1⟩
    · exact ⟨(hf _ (.inr (.inr (.inl rfl)))).1, (hf _ (.inr (.inr (.inl rfl)))).2.1⟩
    · rw [List.map_append, List.mem_append] at hk
      rcases hk with hk | hk
      · exact ⟨(hf _ (.inr (.inr (.inr hk)))).1, (hf _ (.inr (.inr (.inr hk)))).2.1⟩
      · simp at hk
        have := h.below.size
        exact ⟨by omega, by omega⟩
  · have hb4 := h4.below
    refine ⟨ht.os.trans hb4.os, ?_, ht.output.trans hb4.output, by rw [ht.size]; exact hb4.size, fun k hk => (ht.block k (by omega)).trans (hb4.block k hk)⟩
    rw [ht.tape]
    exact hb4.tape
theorem Cop.done (h : Cop w0 wr T QB WB T' QB' WB' r R W pre ss) (hp : ss.Perm (R.map (·.n))) : ∃ R', Tab wr T' QB' WB' R' W ∧ (R'.map nq).Perm (R.map nq) ∧ ∀ k, Foot T' QB' WB' R' k → w0.heap.size ≤ k := by
  obtain ⟨R', hT', hm, hf⟩ := h.new
  refine ⟨R', hT', ?_, fun k hk => (hf k hk).1⟩
  rw [hm]
  refine (hp.map _).trans ?_
  rw [List.map_map]
  have : R.map ((fun n => (n, qOf R n)) ∘ fun x => x.n) = R.map nq := List.map_congr_left fun x hx => by simp [nq, qOf_mem h.old.names hx]
  rw [this]
end
/-- As Rng.next; and what comes stands there. -/
theorem Rng.next2 {w : World} {b r : Nat} {l : List (Nm × Value)} {pre : List Nm} (h : Rng w b r l pre) (ty : TypeId) :
    (pre.Perm (l.map (·.1)) ∧ (Instr.next (.pointer (some ⟨r, 0, none⟩)) false ty).run Tryz.prog w = .ok (.tuple #[.bool false]) w) ∨
    ∃ (a : Nm) (v : Value) (w' : World), (a, v) ∈ l ∧ a ∉ pre ∧ pre.length < l.length ∧ (Instr.next (.pointer (some ⟨r, 0, none⟩)) false ty).run Tryz.prog w = .ok (.tuple #[.bool true, nv a, v]) w' ∧ Rng w' b r l (pre ++ [a]) ∧
      w'.rangeLeft b r < w.rangeLeft b r ∧ w.grownBy w' (some r) ∧ w'.heap.size = w.heap.size ∧ (Instr.entry (.pointer (some ⟨r, 0, none⟩))).run Tryz.prog w' = .ok (.tuple #[nv a, v]) w' := by
  obtain ⟨es, clock, seen, c0, hb, hes, hnd, hbn, hbl, hr, hc, hpn, hps, hle, hse⟩ := h
  have hne : r ≠ b := by rintro rfl; rw [hb] at hr; cases hr
  have hlen : es.toList.length = l.length := by simpa using congrArg List.length hes
  have hat : ∀ (i : Nat) (e : MapEntry), es.toList[i]? = some e → ∃ p, l[i]? = some p ∧ e.key = nv p.1 ∧ e.val = p.2 := fun i e he => by
    have h1 := congrArg (fun x => x[i]?) hes
    simp only [List.getElem?_map, he, Option.map_some] at h1
    cases hp : l[i]? with
    | none => rw [hp] at h1; simp at h1
    | some p =>
      rw [hp] at h1
      simp only [Option.map_some, Option.some.injEq, Prod.mk.injEq] at h1
      exact ⟨p, rfl, h1.1, h1.2⟩
  rcases run_next_at (P := Tryz.prog) w ty r b clock c0 seen es clock hr hb hbl hc with ⟨h0, hrun⟩ | ⟨e, he, w1, hal, hrun⟩
  · refine .inl ⟨?_, hrun⟩
    rw [List.perm_ext_iff_of_nodup hpn hnd]
    refine fun a => ⟨hps a, fun ha => ?_⟩
    obtain ⟨p, hp, rfl⟩ := List.mem_map.1 ha
    obtain ⟨i, hi⟩ := List.getElem?_of_mem hp
    have hil : i < es.toList.length := by rw [hlen]; exact (List.getElem?_eq_some_iff.1 hi).1
    exact (hse i _ p (List.getElem?_eq_getElem hil) hi).1 (all_seen es seen h0 _ (List.getElem_mem hil))
  · obtain ⟨hem, hes0⟩ := mem_left he
    obtain ⟨i, hi⟩ := List.getElem?_of_mem hem
    obtain ⟨p, hp, hk, hv⟩ := hat i e hi
    have hpre : p.1 ∉ pre := fun hx => by
      have := (hse i e p hi hp).2 hx
      rw [hes0] at this
      cases this
    have hshr := left_shrinks es seen e he
    have hset : ∀ w1 : World, (w1 = w ∨ w1 = w.drew) → (ChangeMaps.setBlock w1 r (.mapIter (some b) clock (seen.push e.born) clock)).heap[r]? = some (.mapIter (some b) clock (seen.push e.born) clock) ∧ ∀ k, k ≠ r → (ChangeMaps.setBlock w1 r (.mapIter (some b) clock (seen.push e.born) clock)).heap[k]? = w.heap[k]? := by
      rintro w1 (rfl | rfl)
      · exact ⟨heap_set_same (Array.getElem?_eq_some_iff.1 hr).1 _, fun k hk => heap_set_other _ hk⟩
      · exact ⟨heap_set_same (w := w.drew) (Array.getElem?_eq_some_iff.1 hr).1 _, fun k hk => heap_set_other (w := w.drew) _ hk⟩
    obtain ⟨hr', ho'⟩ := hset w1 hal
    have hb' := (ho' b (Ne.symm hne)).trans hb
    refine .inr ⟨p.1, p.2, _, List.mem_of_getElem? hp, hpre, by omega, by rw [← hk, ← hv]; exact hrun, ⟨es, clock, seen.push e.born, clock, hb', hes, hnd, hbn, hbl, hr', Nat.le_refl _, ?_, ?_, by rw [List.length_append]; simp only [List.length_cons, List.length_nil]; omega, ?_⟩, ?_, ?_, ?_, ?_⟩
    · rw [List.nodup_append]
      exact ⟨hpn, by simp, fun x hx y hy => by simp only [List.mem_singleton] at hy; subst hy; rintro rfl; exact hpre hx⟩
    · intro a ha
      rcases List.mem_append.1 ha with ha | ha
      · exact hps a ha
      · simp only [List.mem_singleton] at ha
        subst ha
        exact List.mem_map.2 ⟨p, List.mem_of_getElem? hp, rfl⟩
    · intro j e2 p2 hj hp2
      rw [contains_push, Bool.or_eq_true, hse j e2 p2 hj hp2, List.mem_append, List.mem_singleton, beq_iff_eq]
      have hb1 : e2.born = e.born ↔ j = i := by
        constructor
        · intro hh
          refine nodup_at hbn (a := e.born) ?_ ?_
          · rw [List.getElem?_map, hj, Option.map_some, hh]
          · rw [List.getElem?_map, hi, Option.map_some]
        · rintro rfl
          rw [hj] at hi
          injection hi with hi
          rw [hi]
      have hb2 : p2.1 = p.1 ↔ j = i := by
        constructor
        · intro hh
          refine nodup_at hnd (a := p.1) ?_ ?_
          · rw [List.getElem?_map, hp2, Option.map_some, hh]
          · rw [List.getElem?_map, hp, Option.map_some]
        · rintro rfl
          rw [hp2] at hp
          injection hp with hp
          rw [hp]
      rw [hb1, hb2]
    · simp only [World.rangeLeft, hb', hr', hb, hr]
      exact hshr
    · rcases hal with rfl | rfl <;> exact ⟨rfl, rfl, rfl, by simp [ChangeMaps.setBlock], fun k _ hk => ho' k (fun e1 => hk (by rw [e1]))⟩
    · rcases hal with rfl | rfl <;> simp [ChangeMaps.setBlock]
    · have := run_entry_at (P := Tryz.prog) _ r b clock seen es clock e hr' hb' hem hbn
      rw [hk, hv] at this
      exact this
set_option maxRecDepth 100000 in
theorem clone_tab (h : Tab w T QB WB R W) (hq : ∀ r ∈ R, r.q.length < 1000000) : Calls Tryz.prog 16 #[.pointer (some ⟨T, 0, none⟩)] w fun e w' =>
    ∃ T' QB' WB' R', e = .returned (.pointer (some ⟨T', 0, none⟩)) ∧ Tab w' T' QB' WB' R' W ∧ (R'.map nq).Perm (R.map nq) ∧ (∀ k, Foot T' QB' WB' R' k → w.heap.size ≤ k) ∧ Tab w' T QB WB R W ∧ Below w.heap.size w w' := by
  have hmm := @run_makeMap Tryz.prog
  have hB0 : Below w.heap.size w (w.alloc (.map #[] 0)) := (Below.refl _ _).alloc (Nat.le_refl _) _
  have hT0 := h.below hB0
  have t1 := hT0.head.cell 1
  simp at t1
  have m0 := MapAt.made KN w
  have W0 := Lib.hid hT0.wm
  have H0 := Lib.hid hT0
  have M0 := Lib.hid m0
  have HB0 := Lib.hid hB0
  have HF := Lib.hid (fun k (hk : Foot T QB WB R k) => h.foot_lt hk)
  clear hT0 m0 hB0 h
  have H1 : ∀ w1, MapAt KI w1 (w.heap.size + 1) (W.map fun p => (p.1, nv p.2)) → Below (w.alloc (.map #[] 0)).heap.size (w.alloc (.map #[] 0)) w1 →
      ∃ w2, (w1.alloc (.cells #[.map (some w.heap.size), .map (some (w.heap.size + 1))] 37)).cell? ⟨T, 0, none⟩ = some (.map (some QB)) ∧
        (Instr.range 34 (.map (some QB))).run Tryz.prog (w1.alloc (.cells #[.map (some w.heap.size), .map (some (w.heap.size + 1))] 37)) = .ok (.pointer (some ⟨w1.heap.size + 1, 0, none⟩)) w2 ∧
        Hid (Cop w w2 T QB WB w1.heap.size w.heap.size (w.heap.size + 1) (w1.heap.size + 1) R W [] []) := by
    intro w1 hW1 hB1
    have b1 := HB0.out.trans (hB1.mono HB0.out.size)
    have hT1 := H0.out.below hB1
    have a2 : Below w1.heap.size w1 (w1.alloc (.cells #[.map (some w.heap.size), .map (some (w.heap.size + 1))] 37)) := (Below.refl _ _).alloc (Nat.le_refl _) _
    have hT2 := hT1.below a2
    have hn : w.heap.size + 1 < w1.heap.size := hW1.lt
    obtain ⟨w2, hrun, hR, o, ho⟩ := rng_start hT2.qm
    have s2 : (w1.alloc (.cells #[.map (some w.heap.size), .map (some (w.heap.size + 1))] 37)).heap.size = w1.heap.size + 1 := by simp
    rw [s2] at hrun hR
    have a3 : Below (w1.heap.size + 1) (w1.alloc (.cells #[.map (some w.heap.size), .map (some (w.heap.size + 1))] 37)) w2 := by
      rw [ho]; exact (Below.refl _ _).alloc (by simp) _
    have t0 := hT2.head.cell 0
    simp at t0
    have b2 := b1.trans (a2.mono (by omega))
    have b3 := b2.trans (a3.mono (by omega))
    refine ⟨w2, t0, hrun, Lib.hid ⟨hR, hT2.below (by rw [s2]; exact a3), ⟨[], ⟨?_, ?_, ?_, by omega, by simp, by simp⟩, by simp, fun k hk => ?_⟩, HF.out, by omega, b3⟩⟩
    · exact (Blk.new _ _ _).of_block (a3.block _ (by omega))
    · exact ((M0.out.of_block (hB1.block _ M0.out.lt)).of_block (a2.block _ (by omega))).of_block (a3.block _ (by omega))
    · exact (hW1.of_block (a2.block _ (by omega))).of_block (a3.block _ (by omega))
    · rcases hk with rfl | rfl | rfl | hk
      · omega
      · omega
      · omega
      · simp at hk
  go_enter Tryz.func16, Tryz.ntmps16
  go_wp2_with (go_at_call 41; refine (mclone_any W0.out).mono ?_; rintro e w1 ⟨rfl, hW1, hB1⟩; obtain ⟨w2, ht0, hrun, hC⟩ := H1 w1 (by simpa using hW1) hB1)
  have hT1n := H1
  clear hT1n ht0 hrun H1 hW1 W0 H0 M0 HB0 HF t1 hB1
  go_loopw [4, 5] (fun _ _ wr => ∃ ss : List Nm, Hid (Cop w wr T QB WB w1.heap.size w.heap.size (w.heap.size + 1) (w1.heap.size + 1) R W ss ss)) (fun _ _ wr => wr.rangeLeft QB (w1.heap.size + 1))
  case atStart => exact ⟨[], hC⟩
  case round =>
    obtain ⟨ss, hS⟩ := hrel
    rcases hS.out.rng.next2 0 with ⟨hp, hrunN⟩ | ⟨⟨k, o, p, s⟩, v, w4, hmem, hni, hlt, hrunN, hrg2, hleft, hg2, hs2, hen⟩
    · go_wp2_with fail
      go_ret
      obtain ⟨R', h1, h2, h3⟩ := hS.out.done (by simpa [List.map_map, Function.comp_def] using hp)
      exact ⟨_, _, _, R', rfl, h1, h2, h3, hS.out.old, hS.out.below⟩
    · have hC4 := Lib.hid (hS.out.moved hg2 hrg2)
      obtain ⟨x, hx, hxe⟩ := List.mem_map.1 hmem
      obtain ⟨hxn, rfl⟩ : x.n = ⟨k, o, p, s⟩ ∧ v = x.v := by simp at hxe; exact ⟨hxe.1, hxe.2.symm⟩
      have hrunN' : (Instr.next (.pointer (some ⟨w1.heap.size + 1, 0, none⟩)) false 0).run Tryz.prog wr = .ok (.tuple #[.bool true, .agg #[.int .i64 k, .int .i64 o, .int .u32 p, .int .i64 s], .slice (some ⟨x.g, 0, none⟩) x.q.length x.cap]) w4 := hrunN
      have hen' : (Instr.entry (.pointer (some ⟨w1.heap.size + 1, 0, none⟩))).run Tryz.prog w4 = .ok (.tuple #[.agg #[.int .i64 k, .int .i64 o, .int .u32 p, .int .i64 s], .slice (some ⟨x.g, 0, none⟩) x.q.length x.cap]) w4 := hen
      clear hrunN hen hmem hxe hs2 hg2 hrg2
      obtain ⟨wa, hwa⟩ : ∃ wa, wa = w4.alloc (.cells #[.int .i64 k, .int .i64 o, .int .u32 p, .int .i64 s] 46) := ⟨_, rfl⟩
      have hBa : Below w4.heap.size w4 wa := by rw [hwa]; exact (Below.refl _ _).alloc (Nat.le_refl _) _
      have hbn : Blk wa w4.heap.size 46 #[.int .i64 k, .int .i64 o, .int .u32 p, .int .i64 s] := by rw [hwa]; exact Blk.new _ _ _
      have hBd : Below w4.heap.size w4 wa.drew := hBa.drew
      obtain ⟨hCa, -⟩ := hC4.out.more hBa
      obtain ⟨hCd, hle⟩ := hC4.out.more hBd
      obtain ⟨R', hTn, -, hfn⟩ := hCa.new
      have t0 := hTn.head.cell 0
      have b0 := hbn.cell 0
      have b1 := hbn.cell 1
      have b2 := hbn.cell 2
      have b3 := hbn.cell 3
      simp at t0 b0 b1 b2 b3
      have hrow := hCd.old.rows x hx
      have hTlt : w1.heap.size < wa.drew.heap.size := hTn.head.lt
      have hnlt : w4.heap.size < wa.drew.heap.size := hbn.lt
      have hTQ : w1.heap.size ≠ w.heap.size := hTn.kinds.1
      have hwQ : w4.heap.size ≠ w.heap.size := fun e => by
        have h1 := hC4.out.rng.lt
        have h2 := hC4.out.it
        omega
      have HCD := Lib.hid hCd
      have HR := Lib.hid hrow
      have hxq := hq x hx
      clear hCa hTn hfn hCd hrow hbn
      go_wp2_with fail
      rw [← hwa]
      clear hwa
      go_region_held3 (fun w' => w'.cell? ⟨w1.heap.size, 0, none⟩ = some (.map (some w.heap.size)) ∧ w'.cell? ⟨w4.heap.size, 0, none⟩ = some (.int .i64 k) ∧ w'.cell? ⟨w4.heap.size, 1, none⟩ = some (.int .i64 o) ∧
          w'.cell? ⟨w4.heap.size, 2, none⟩ = some (.int .u32 p) ∧ w'.cell? ⟨w4.heap.size, 3, none⟩ = some (.int .i64 s))
        ((go_split_ands; refine ⟨?_, ?_, ?_, ?_, ?_⟩ <;> first
          | go_keep
          | (rw [World.cell?_of_block (hB6.block _ (by first | exact hTlt | exact hnlt))]; assumption)
          | (rw [World.cell?_of_block (hturn.block _ (by first | exact hTQ | exact hwQ))]; assumption)))
        ((go_at_call 36; refine (clone_row HR.out hxq).mono ?_; rintro e w6 ⟨g', cap', rfl, hrow6, hg6, hB6⟩; obtain ⟨w7, hrun0, hC7, hturn, hl7⟩ := HCD.out.put hB6 hx (by rw [hxn]; exact hni) hrow6 hg6; have HC7 := Lib.hid hC7; rw [hxn] at hrun0; have hrun : (Instr.mapUpdate 34 (.map (some w.heap.size)) (.agg #[.int .i64 k, .int .i64 o, .int .u32 p, .int .i64 s]) (.slice (some ⟨g', 0, none⟩) x.q.length cap')).run Tryz.prog w6 = .ok () w7 := hrun0; clear hrun0 hC7))
      go_wp2_with fail
      go_roundw
      case rel => exact ⟨ss ++ [x.n], by rw [hxn] at HC7 ⊢; exact HC7⟩
      case measure => rw [hl7, hle]; exact hleft
/-- The copy, told by what stands in it. -/
theorem clone_ta {B : Nat} {L : List (Nm × List Ak)} (h : TA B w T QB WB L W) (hfit : ∀ p ∈ L, p.2.length < 1000000) : Calls Tryz.prog 16 #[.pointer (some ⟨T, 0, none⟩)] w fun e w' =>
    ∃ T' QB' WB' L', e = .returned (.pointer (some ⟨T', 0, none⟩)) ∧ TA w.heap.size w' T' QB' WB' L' W ∧ L'.Perm L ∧ TA B w' T QB WB L W ∧ Below w.heap.size w w' := by
  obtain ⟨R, ht, rfl, hf⟩ := h
  refine (clone_tab ht (fun r hr => hfit _ (List.mem_map_of_mem hr))).mono ?_
  rintro e w' ⟨T', QB', WB', R', rfl, h1, h2, h3, h4, h5⟩
  exact ⟨T', QB', WB', R'.map nq, rfl, ⟨R', h1, rfl, h3⟩, h2, ⟨R, h4, rfl, hf⟩, h5⟩
end
end Go.Proofs.YtcdlplbccblbaaaGreat
