import Derived.Test.YtcdlplbccblbaaaGreatAo
import Derived.Deep.RegionLaw
import Derived.Laws.CopyRow
namespace Go.Proofs.YtcdlplbccblbaaaGreat
open Go.RowKit
set_option linter.unusedVariables false

section
variable {w w' : World} {g cap : Nat} {q : List Ak} {t : TypeId}
theorem Blk.setCells : ∀ (vs : List Value) (o : Nat) (w : World) (cur : Array Value), Blk w g t cur → o + vs.length ≤ cur.size →
    Blk (w.setCells g o vs) g t (cur.toList.take o ++ vs ++ cur.toList.drop (o + vs.length)).toArray
  | [], o, w, cur, h, _ => by simpa [World.setCells] using h
  | v :: r, o, w, cur, h, hl => by
    have ih := Blk.setCells r (o + 1) (w.setCell ⟨g, o, none⟩ v) _ (h.set_ o v) (by simp at hl ⊢; omega)
    have e := list_seg_step cur.toList o v r (by simp at hl ⊢; omega)
    simp only [World.setCells, List.length_cons]
    rw [Array.toList_setIfInBounds] at ih
    rw [e] at ih
    exact ih
theorem turned_setCells : ∀ (vs : List Value) (o : Nat) (w : World), Turned w (w.setCells g o vs) g
  | [], _, _ => ⟨rfl, rfl, rfl, rfl, fun _ _ => rfl⟩
  | v :: r, o, w => by
    have ih := turned_setCells r (o + 1) (w.setCell ⟨g, o, none⟩ v)
    exact ⟨ih.os, ih.tape, ih.output, ih.size.trans (by simp [World.setCell]), fun i hi => (ih.block i hi).trans (Below.heap_setCell w ⟨g, o, none⟩ v i hi)⟩

theorem zeroAsk (w : World) : (zeroValue 80).run Tryz.prog w = .ok (.agg #[.int .i64 0, .int .i64 0, .int .i64 0, .bool false]) w := by kernel_rfl
def zav : List Value := [.int .i64 0, .int .i64 0, .int .i64 0, .bool false]

/-- clear of n queue places from place k on. -/
theorem run_clear_asks {cur : Array Value} (h : Blk w g 80 cur) (k n c : Nat) (hn : 0 < n) (hl : (k + n) * 4 ≤ cur.size) :
    ∃ w', (∀ ty, (Builtin.clear_ #[77] ty #[.slice (some ⟨g, k * 4, none⟩) n c]).run Tryz.prog w = .ok (.tuple #[]) w') ∧ Turned w w' g ∧ ∃ cur', Blk w' g 80 cur' ∧ cur'.size = cur.size ∧ cur'.toList.take (k * 4) = cur.toList.take (k * 4) := by
  obtain ⟨vs, hvs⟩ : ∃ vs, vs = (Builtin.zeroCells (Value.agg #[.int .i64 0, .int .i64 0, .int .i64 0, .bool false]).cells n).toList := ⟨_, rfl⟩
  have hlen : vs.length = n * 4 := by rw [hvs]; simp [Builtin.zeroCells, Value.cells]
  have hone : ∀ v ∈ vs, v.oneCell' = true := by
    intro v hv
    rw [hvs] at hv
    simp [Builtin.zeroCells, Value.cells] at hv
    obtain ⟨i, hi, rfl⟩ := hv
    have : i % 4 = 0 ∨ i % 4 = 1 ∨ i % 4 = 2 ∨ i % 4 = 3 := by omega
    rcases this with e | e | e | e <;> rw [e] <;> rfl
  have hst := run_storeCells_at Tryz.prog g (k * 4) 80 vs 0 cur w h (by rw [hlen]; omega) hone
  obtain ⟨m, rfl⟩ : ∃ m, n = m + 1 := ⟨n - 1, by omega⟩
  obtain ⟨ncs, hncs⟩ : ∃ ncs, ncs = (cur.toList.take (k * 4 + 0) ++ vs ++ cur.toList.drop (k * 4 + 0 + vs.length)).toArray := ⟨_, rfl⟩
  rw [← hncs] at hst
  refine ⟨w.setRow g ncs, fun ty => ?_, ⟨rfl, rfl, rfl, by simp, fun i hi => setRow_other w g i ncs hi⟩, ncs, setRow_heap w g cur ncs 80 (0, 0) h, ?_, ?_⟩
  · rw [hvs] at hst
    simp [Builtin.clear_, run_underlying Tryz.underlying77, hst, Result.andThen]
  · rw [hncs]; simp [hlen]; omega
  · rw [hncs]
    simp only [Nat.add_zero, List.append_assoc]
    rw [List.take_append_of_le_length (by simp; omega), List.take_take]
    simp
end

/-! ### slices.Clone -/
theorem clone_nilq (w : World) : Calls Tryz.prog 36 #[.slice none 0 0] w fun e w' => e = .returned (.slice none 0 0) ∧ w = w' := by
  have he : ∀ w, (binOp .eql 77 (.slice none 0 0) (.slice none 0 0)).run Tryz.prog w = .ok (.bool true) w := fun w => by kernel_rfl
  go_enter Tryz.func36, Tryz.ntmps36
  go_wp2
  go_ret
  exact ⟨rfl, rfl⟩

section
variable {w w' : World} {g cap : Nat} {q : List Ak}
/-- A new row that holds q. -/
def NewRow (q : List Ak) (w : World) (e : Ending) (w' : World) : Prop :=
  ∃ g' cap', e = .returned (.slice (some ⟨g', 0, none⟩) q.length cap') ∧ RowAt w' g' cap' q ∧ w.heap.size ≤ g' ∧ Below w.heap.size w w'

theorem ownsRow_empty (w : World) (e : TypeId) : (w.alloc (.cells #[] e)).ownsRow w.heap.size e 4 (.slice (some ⟨w.heap.size, 0, none⟩) 0 0) 0 [] :=
  ⟨rfl, .inr ⟨w.heap.size, 0, #[], rfl, Nat.le_refl _, (MapKept.heap_alloc w _).1, Nat.le_refl _, by simp, rfl, rfl⟩⟩

theorem av_one (q : List Ak) : ∀ u ∈ q.flatMap av, u.oneCell' = true := by
  intro u hu
  obtain ⟨a, _, hu⟩ := List.mem_flatMap.1 hu
  simp [av] at hu
  rcases hu with rfl | rfl | rfl | rfl <;> rfl
theorem RowAt.reads (h : RowAt w g cap q) : ∀ j u, (q.flatMap av)[j]? = some u → w.cell? ((⟨g, 0, none⟩ : Addr).add j) = some u := by
  intro j u hu
  obtain ⟨cur, hb, hs, ht⟩ := h.ex
  have hadd : (⟨g, 0, none⟩ : Addr).add j = ⟨g, j, none⟩ := by unfold Addr.add; split <;> simp_all
  rw [hadd, hb.cell, ← hu, ← ht]
  have hj : j < q.length * 4 := by
    have := (List.getElem?_eq_some_iff.1 hu).1
    rwa [av_len] at this
  rw [List.getElem?_take_of_lt hj, Array.getElem?_toList]

set_option maxRecDepth 100000 in
theorem clone_row (h : RowAt w g cap q) (hlen : q.length < 1000000) : Calls Tryz.prog 36 #[.slice (some ⟨g, 0, none⟩) q.length cap] w (NewRow q w) := by
  have he : ∀ w, (binOp .eql 77 (.slice (some ⟨g, 0, none⟩) q.length cap) (.slice none 0 0)).run Tryz.prog w = .ok (.bool false) w := fun w => Lib.run_eql_slice_nil w 77 80 _ _ _ _ _ Tryz.underlying77
  obtain ⟨i0, hi0, hz0, hz1, hz2⟩ := info_parts infoAsk
  have h1 : RowAt (w.alloc (.cells #[] 80)) g cap q := h.of_block (Below.heap_alloc w _ g h.lt)
  have hb1 : Below w.heap.size w (w.alloc (.cells #[] 80)) := (Below.refl _ _).alloc (Nat.le_refl _) _
  have HR := Lib.hid h1.reads
  have hal := av_len q
  have HL := Lib.hid hal
  clear hal h1 h
  go_enter Tryz.func36, Tryz.ntmps36
  go_wp2_with (at_builtin; refine wpList_append_own_at _ rfl _ _ 77 rfl w.heap.size 80 i0 _ 4 32 Tryz.underlying77 hi0 hz0 hz1 hz2 rfl (by omega) (.slice (some ⟨w.heap.size, 0, none⟩) 0 0) 0 [] rfl (ownsRow_empty w 80) ⟨g, 0, none⟩ q.length cap (q.flatMap av) rfl HL.out HR.out (av_one q) (by unfold maxLen; omega) (by omega) (by simp) ?_)
  intro v' w1 hown hgrow hnil hat
  go_wp2_with fail
  go_ret
  rcases hown.2 with ⟨rfl, _⟩ | ⟨g', cap', cur, rfl, hg, hb, r1, r2, r3, r4⟩
  · rcases hat with h' | h' <;> simp [Value.ownBlock] at h'
  · refine ⟨g', cap', rfl, ⟨⟨cur, hb, r3, r4⟩, r1, r2⟩, hg, hb1.grown hgrow (by simp) (fun k hk => ?_)⟩
    simp [Value.ownBlock] at hk
    omega
end
end Go.Proofs.YtcdlplbccblbaaaGreat

namespace Go.Proofs.YtcdlplbccblbaaaGreat
open Go.RowKit
set_option linter.unusedVariables false

theorem av_append (p q : List Ak) : (p ++ q).flatMap av = p.flatMap av ++ q.flatMap av := List.flatMap_append
theorem av_drop (q : List Ak) (k : Nat) : (q.flatMap av).drop (k * 4) = (q.drop k).flatMap av := by
  have h : q.flatMap av = (q.take k).flatMap av ++ (q.drop k).flatMap av := by rw [← av_append, List.take_append_drop]
  by_cases hk : k ≤ q.length
  · rw [h, List.drop_append_of_le_length (by rw [av_len, List.length_take]; omega), List.drop_eq_nil_of_le (by rw [av_len, List.length_take]; omega)]
    rfl
  · rw [List.drop_eq_nil_of_le (by rw [av_len]; omega), List.drop_eq_nil_of_le (by omega)]
    rfl
theorem av_take (q : List Ak) (k : Nat) : (q.flatMap av).take (k * 4) = (q.take k).flatMap av := by
  have h : q.flatMap av = (q.take k).flatMap av ++ (q.drop k).flatMap av := by rw [← av_append, List.take_append_drop]
  by_cases hk : k ≤ q.length
  · rw [h, List.take_append_of_le_length (by rw [av_len, List.length_take]; omega), List.take_of_length_le (by rw [av_len, List.length_take]; omega)]
  · rw [List.take_of_length_le (by rw [av_len]; omega), List.take_of_length_le (by omega)]

section
variable {w w' : World} {g cap : Nat} {q : List Ak}
/-- The row behind the move: the first ones, those behind the gap, and what is left. -/
theorem move_row (h : RowAt w g cap q) {i m : Nat} (hm : q.length = m + 1) (hi : i ≤ m) : RowAt (w.setCells g (i * 4) ((q.drop (i + 1)).flatMap av)) g cap (q.eraseIdx i) ∧ Turned w (w.setCells g (i * 4) ((q.drop (i + 1)).flatMap av)) g := by
  obtain ⟨cur, hb, hs, ht⟩ := h.ex
  have hle := h.le
  have hln : ((q.drop (i + 1)).flatMap av).length = (m - i) * 4 := by rw [av_len, List.length_drop]; omega
  refine ⟨⟨⟨_, Blk.setCells _ (i * 4) w cur hb (by rw [hln]; omega), ?_, ?_⟩, ?_, h.max⟩, turned_setCells _ _ _⟩
  · simp only [List.size_toArray, List.length_append, List.length_take, List.length_drop, Array.length_toList, hln]
    omega
  · have he : (q.eraseIdx i).length = m := by rw [List.length_eraseIdx]; split <;> omega
    rw [he, List.eraseIdx_eq_take_drop_succ, av_append]
    have e1 : cur.toList.take (i * 4) = (q.take i).flatMap av := by
      rw [← av_take, ← ht, List.take_take, hm, Nat.min_eq_left (by omega)]
    rw [e1]
    have e2 : ((q.take i).flatMap av ++ (q.drop (i + 1)).flatMap av).length = m * 4 := by
      rw [List.length_append, av_len, List.length_take, hln]
      omega
    show List.take (m * 4) ((q.take i).flatMap av ++ (q.drop (i + 1)).flatMap av ++ _) = _
    rw [List.take_append_of_le_length (by omega), List.take_of_length_le (by omega)]
  · rw [List.length_eraseIdx]
    split <;> omega

set_option maxRecDepth 100000 in
set_option maxHeartbeats 1600000 in
theorem delete_row (h : RowAt w g cap q) {i : Nat} (hi : i < q.length) :
    Calls Tryz.prog 35 #[.slice (some ⟨g, 0, none⟩) q.length cap, .int .i64 i, .int .i64 ((i : Int) + 1)] w fun e w' =>
      e = .returned (.slice (some ⟨g, 0, none⟩) (q.eraseIdx i).length cap) ∧ RowAt w' g cap (q.eraseIdx i) ∧ Keeps w w' (· = g) := by
  obtain ⟨i0, hi0, hz0, hz1, hz2⟩ := info_parts infoAsk
  obtain ⟨m, hm⟩ : ∃ m, q.length = m + 1 := ⟨q.length - 1, by omega⟩
  have him : i ≤ m := by omega
  have hle := h.le
  have hmax := h.max
  unfold maxLen at hmax
  have hel : (q.eraseIdx i).length = m := by rw [List.length_eraseIdx]; split <;> omega
  obtain ⟨hmr, hmt⟩ := move_row (w := w.drew) (h.of_block rfl) hm him
  obtain ⟨A, hA, hnews⟩ : ∃ A : Addr, (if cap = i + 1 then some (⟨g, 0, none⟩ : Addr) else some ⟨g, (i + 1) * 4, none⟩) = some A ∧ Hid (∀ j u, ((q.drop (i + 1)).flatMap av)[j]? = some u → w.drew.cell? (A.add j) = some u) := by
    by_cases hc : cap = i + 1
    · refine ⟨⟨g, 0, none⟩, by simp [hc], fun j u hu => ?_⟩
      rw [List.drop_eq_nil_of_le (by omega)] at hu
      simp at hu
    · refine ⟨⟨g, (i + 1) * 4, none⟩, by simp [hc], fun j u hu => ?_⟩
      rw [← av_drop, List.getElem?_drop] at hu
      have := h.reads _ u hu
      have e1 : (⟨g, 0, none⟩ : Addr).add ((i + 1) * 4 + j) = (⟨g, (i + 1) * 4, none⟩ : Addr).add j := by unfold Addr.add; split <;> split <;> simp_all
      rw [← e1]
      exact this
  have s1 : Hid (((q.drop (i + 1)).flatMap av).length = (m - i) * 4) := Lib.hid (by rw [av_len, List.length_drop]; omega)
  have s2 : Hid (∀ u ∈ (q.drop (i + 1)).flatMap av, u.oneCell' = true) := Lib.hid (av_one _)
  have s3 : Hid (∀ j, j < ((q.drop (i + 1)).flatMap av).length → (w.drew.cell? ⟨g, 0 + i * 4 + j, none⟩).isSome = true ∧ w.drew.frozen? ⟨g, 0 + i * 4 + j, none⟩ = false) := by
    intro j hj
    rw [s1.out] at hj
    obtain ⟨cur, hb, hs, ht⟩ := h.ex
    refine ⟨?_, ?_⟩
    · show (w.cell? _).isSome = true
      rw [hb.cell, Array.getElem?_eq_getElem (by omega)]
      rfl
    · exact hb.frozen _
  obtain ⟨N, hN⟩ : ∃ N, N = (q.drop (i + 1)).flatMap av := ⟨_, rfl⟩
  rw [← hN] at hmr hmt hnews s1 s2 s3
  obtain ⟨q', hq'⟩ : ∃ q', q' = q.eraseIdx i := ⟨_, rfl⟩
  rw [← hq'] at hmr hel ⊢
  rw [hel, hm]
  have HMR := Lib.hid hmr
  have HMT := Lib.hid hmt
  have HEL := Lib.hid hel
  have hp0 : (0 : Int) ≤ (i : Int) + 1 := by omega
  have hp1 : (i : Int) + 1 ≤ (m : Int) + 1 := by omega
  have hne : ((i : Int) == (i : Int) + 1) = false := by rw [beq_eq_false_iff_ne]; omega
  have hcap : m + 1 ≤ cap := by omega
  have hp2 : (0 : Int) ≤ (m : Int) + 1 ∧ (m : Int) + 1 ≤ (cap : Int) := by omega
  have hp3 : (i : Int) ≤ (cap : Int) := by omega
  have hp4 : (i : Int) + 1 ≤ (m + 1 : Nat) := by omega
  have hp5 : ((i : Int) + 1).toNat = i + 1 := by omega
  have hp6 : i + 1 ≤ m + 1 := by omega
  clear hN hq' hmr hmt hel h hi hm
  go_enter Tryz.func35, Tryz.ntmps35
  go_wp2_with fail
  go_region_law (refine step_append_room rfl (.tmp 22) (.tmp 25) 77 rfl 80 i0 4 Tryz.underlying77 hi0 hz1 g 0 i cap (by simp [Act.eval, Act.put]) A (m - i) (cap - (i + 1)) N (by simp [Act.eval, Act.put]) s1.out hnews.out s2.out (by omega) s3.out ?_)
  obtain ⟨w1, hw1⟩ : ∃ w1, w1 = w.drew.setCells g (i * 4) N := ⟨_, rfl⟩
  rw [← hw1]
  rw [← hw1] at HMR HMT
  obtain ⟨cur, hb, hs, ht⟩ := HMR.out.ex
  obtain ⟨w2, hcl, ht2, cur', hb', hs', htk⟩ := run_clear_asks hb m 1 (cap - m) (by omega) (by omega)
  have hne2 : ¬ (cap = m) := by omega
  have hq1 : (m : Int) ≤ (m : Int) + 1 := by omega
  have hq2 : (m : Int) + 1 ≤ (cap : Int) := by omega
  have hq3 : ((m : Int) + 1).toNat = m + 1 := by omega
  have hq4 : m + 1 - m = 1 := by omega
  have HX : Hid (RowAt w2 g cap q' ∧ Keeps w w2 (· = g)) := by
    have hT := HMT.out
    refine Lib.hid ⟨⟨⟨cur', hb', by omega, ?_⟩, HMR.out.le, HMR.out.max⟩, ?_⟩
    · rw [HEL.out, htk, ← HEL.out, ht]
    · have k1 : Keeps w w.drew (· = g) := .of_below (Below.refl _ _).drew _
      have k2 : Keeps w.drew w1 (· = g) := .of_turned hT (Eq.refl g)
      exact (k1.trans k2 (fun _ _ h => h)).trans (F' := (· = g)) (.of_turned ht2 (Eq.refl g)) (fun _ _ h => h)
  clear hb hs ht hb' hs' htk HMR HMT s1 s2 s3 hnews hw1
  go_wp2_with fail
  go_ret
  exact ⟨rfl, HX.out⟩
end
end Go.Proofs.YtcdlplbccblbaaaGreat
