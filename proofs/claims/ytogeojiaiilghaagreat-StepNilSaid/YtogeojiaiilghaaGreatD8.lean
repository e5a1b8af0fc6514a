import Derived.Test.YtogeojiaiilghaaGreatAo
import Derived.Deep.RegionLaw
import Derived.Laws.CopyRow
namespace Go.Proofs.YtogeojiaiilghaaGreat
open Go.RowKit
set_option linter.unusedVariables false

section
variable {w w' : World} {g cap : Nat} {q : List Ak} {t : TypeId}
theorem Blk.setCells : ∀ (vs : List Value) (o : Nat) (w : World) (cur : Array Value), Blk w g t cur → o + vs.length ≤ cur.size →
    Blk (w.setCells g o vs) g t (cur.toList.take o ++ vs ++ cur.toList.drop (o + vs.length)).toArray
  | [], o, w, cur, h, _ => by simpa [World.setCells] using h
  | v :: r, o, w, cur, h, hl => by
    have ih := Blk.setCells r (o + 1) (w.setCell ⟨g, o, none⟩ v) _ (h.set_ o v) (by simp at hl ⊢; omega)
    have e := list_seg_step cur.toList o v r (by simp at hl ⊢; omega)
    simp only [World.setCells, List.length_cons]
    rw [Array.toList_setIfInBounds] at ih
    rw [e] at ih
    exact ih
theorem turned_setCells : ∀ (vs : List Value) (o : Nat) (w : World), Turned w (w.setCells g o vs) g
  | [], _, _ => ⟨rfl, rfl, rfl, rfl, fun _ _ => rfl⟩
  | v :: r, o, w => by
    have ih := turned_setCells r (o + 1) (w.setCell ⟨g, o, none⟩ v)
    exact ⟨ih.os, ih.tape, ih.output, ih.size.trans (by simp [World.setCell]), fun i hi => (ih.block i hi).trans (Below.heap_setCell w ⟨g, o, none⟩ v i hi)⟩

theorem zeroAsk (w : World) : (zeroValue 187).run Tryz.prog w = .ok (.agg #[.int .i64 0, .int .i64 0, .int .i64 0, .bool false]) w := by kernel_rfl
def zav : List Value := [.int .i64 0, .int .i64 0, .int .i64 0, .bool false]

/-- clear of n queue places from place k on. -/
theorem run_clear_asks {cur : Array Value} (h : Blk w g 187 cur) (k n c : Nat) (hn : 0 < n) (hl : (k + n) * 4 ≤ cur.size) :
    ∃ w', (∀ ty, (Builtin.clear_ #[183] ty #[.slice (some ⟨g, k * 4, none⟩) n c]).run Tryz.prog w = .ok (.tuple #[]) w') ∧ Turned w w' g ∧ ∃ cur', Blk w' g 187 cur' ∧ cur'.size = cur.size ∧ cur'.toList.take (k * 4) = cur.toList.take (k * 4) := by
  obtain ⟨vs, hvs⟩ : ∃ vs, vs = (Builtin.zeroCells (Value.agg #[.int .i64 0, .int .i64 0, .int .i64 0, .bool false]).cells n).toList := ⟨_, rfl⟩
  have hlen : vs.length = n * 4 := by rw [hvs]; simp [Builtin.zeroCells, Value.cells]
  have hone : ∀ v ∈ vs, v.oneCell' = true := by
    intro v hv
    rw [hvs] at hv
    simp [Builtin.zeroCells, Value.cells] at hv
    obtain ⟨i, hi, rfl⟩ := hv
    have : i % 4 = 0 ∨ i % 4 = 1 ∨ i % 4 = 2 ∨ i % 4 = 3 := by omega
    rcases this with e | e | e | e <;> rw [e] <;> rfl
  have hst := run_storeCells_at Tryz.prog g (k * 4) 187 vs 0 cur w h (by rw [hlen]; omega) hone
  obtain ⟨m, rfl⟩ : ∃ m, n = m + 1 := ⟨n - 1, by omega⟩
  obtain ⟨ncs, hncs⟩ : ∃ ncs, ncs = (cur.toList.take (k * 4 + 0) ++ vs ++ cur.toList.drop (k * 4 + 0 + vs.length)).toArray := ⟨_, rfl⟩
  rw [← hncs] at hst
  refine ⟨w.setRow g ncs, fun ty => ?_, ⟨rfl, rfl, rfl, by simp, fun i hi => setRow_other w g i ncs hi⟩, ncs, setRow_heap w g cur ncs 187 (0, 0) h, ?_, ?_⟩
  · rw [hvs] at hst
    simp [Builtin.clear_, run_underlying Tryz.underlying183, hst, Result.andThen]
  · rw [hncs]; simp [hlen]; omega
  · rw [hncs]
    simp only [Nat.add_zero, List.append_assoc]
    rw [List.take_append_of_le_length (by simp; omega), List.take_take]
    simp
end

/-! ### slices.Clone -/
theorem clone_nilq (w : World) : Calls Tryz.prog 79 #[.slice none 0 0] w fun e w' => e = .returned (.slice none 0 0) ∧ w = w' := by
  have he : ∀ w, (binOp .eql 183 (.slice none 0 0) (.slice none 0 0)).run Tryz.prog w = .ok (.bool true) w := fun w => by kernel_rfl
  go_enter Tryz.func79, Tryz.ntmps79
  go_wp2
  go_ret
  exact ⟨rfl, rfl⟩

section
variable {w w' : World} {g cap : Nat} {q : List Ak}
/-- A new row that holds q. -/
def NewRow (q : List Ak) (w : World) (e : Ending) (w' : World) : Prop :=
  ∃ g' cap', e = .returned (.slice (some ⟨g', 0, none⟩) q.length cap') ∧ RowAt w' g' cap' q ∧ w.heap.size ≤ g' ∧ Below w.heap.size w w'

theorem ownsRow_empty (w : World) (e : TypeId) : (w.alloc (.cells #[] e)).ownsRow w.heap.size e 4 (.slice (some ⟨w.heap.size, 0, none⟩) 0 0) 0 [] :=
  ⟨rfl, .inr ⟨w.heap.size, 0, #[], rfl, Nat.le_refl _, (MapKept.heap_alloc w _).1, Nat.le_refl _, by simp, rfl, rfl⟩⟩

theorem av_one (q : List Ak) : ∀ u ∈ q.flatMap av, u.oneCell' = true := by
  intro u hu
  obtain ⟨a, _, hu⟩ := List.mem_flatMap.1 hu
  simp [av] at hu
  rcases hu with rfl | rfl | rfl | rfl <;> rfl
theorem RowAt.reads (h : RowAt w g cap q) : ∀ j u, (q.flatMap av)[j]? = some u → w.cell? ((⟨g, 0, none⟩ : Addr).add j) = some u := by
  intro j u hu
  obtain ⟨cur, hb, hs, ht⟩ := h.ex
  have hadd : (⟨g, 0, none⟩ : Addr).add j = ⟨g, j, none⟩ := by unfold Addr.add; split <;> simp_all
  rw [hadd, hb.cell, ← hu, ← ht]
  have hj : j < q.length * 4 := by
    have := (List.getElem?_eq_some_iff.1 hu).1
    rwa [av_len] at this
  rw [List.getElem?_take_of_lt hj, Array.getElem?_toList]

set_option maxRecDepth 100000 in
theorem clone_row (h : RowAt w g cap q) (hlen : q.length < 1000000) : Calls Tryz.prog 79 #[.slice (some ⟨g, 0, none⟩) q.length cap] w (NewRow q w) := by
  have he : ∀ w, (binOp .eql 183 (.slice (some ⟨g, 0, none⟩) q.length cap) (.slice none 0 0)).run Tryz.prog w = .ok (.bool false) w := fun w => Lib.run_eql_slice_nil w 183 187 _ _ _ _ _ Tryz.underlying183
  obtain ⟨i0, hi0, hz0, hz1, hz2⟩ := info_parts infoAsk
  have h1 : RowAt (w.alloc (.cells #[] 187)) g cap q := h.of_block (Below.heap_alloc w _ g h.lt)
  have hb1 : Below w.heap.size w (w.alloc (.cells #[] 187)) := (Below.refl _ _).alloc (Nat.le_refl _) _
  have HR := Lib.hid h1.reads
  have hal := av_len q
  have HL := Lib.hid hal
  clear hal h1 h
  go_enter Tryz.func79, Tryz.ntmps79
  go_wp2_with (at_builtin; refine wpList_append_own_at _ rfl _ _ 183 rfl w.heap.size 187 i0 _ 4 32 Tryz.underlying183 hi0 hz0 hz1 hz2 rfl (by omega) (.slice (some ⟨w.heap.size, 0, none⟩) 0 0) 0 [] rfl (ownsRow_empty w 187) ⟨g, 0, none⟩ q.length cap (q.flatMap av) rfl HL.out HR.out (av_one q) (by unfold maxLen; omega) (by omega) (by simp) ?_)
  intro v' w1 hown hgrow hnil hat
  go_wp2_with fail
  go_ret
  rcases hown.2 with ⟨rfl, _⟩ | ⟨g', cap', cur, rfl, hg, hb, r1, r2, r3, r4⟩
  · rcases hat with h' | h' <;> simp [Value.ownBlock] at h'
  · refine ⟨g', cap', rfl, ⟨⟨cur, hb, r3, r4⟩, r1, r2⟩, hg, hb1.grown hgrow (by simp) (fun k hk => ?_)⟩
    simp [Value.ownBlock] at hk
    omega
end
end Go.Proofs.YtogeojiaiilghaaGreat
