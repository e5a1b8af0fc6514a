import Derived.Test.YtjonmcbglcidhaaGreatKe
import Derived.Laws.ResultCell
import Derived.Deep.RegionWith
namespace Go.Proofs.YtjonmcbglcidhaaGreat
open Go.RowKit
set_option linter.unusedVariables false

def rv (s : ByteArray) (p : Nat) (e : Int) : Value := .agg #[.string s, .int .i64 p, .int .i64 e]

theorem num_bytes (s : ByteArray) (p : Nat) (e : Int) (K : Nat) : (bytesS s p e K).1 = (numS s p e K).1 ∧ (bytesS s p e K).2.1 = (numS s p e K).2.1 ∧ getN (bytesS s p e K).2.2 = (numS s p e K).2.2 ∧ (bytesS s p e K).2.2.length ≤ K := by
  by_cases he : e = 0
  · by_cases hc : s.size < p + K
    · simp [bytesS, numS, he, hc, getN]
    · simp [bytesS, numS, he, hc]
      rw [seg_len s p K (by omega)]
      exact Nat.le_refl _
  · simp [bytesS, numS, he, getN]

theorem cells3 {w : World} {g : Nat} {a b c : Value} {t : TypeId} (h : w.heap[g]? = some (.cells #[a, b, c] t (0, 0))) :
    w.cell? ⟨g, 0, none⟩ = some a ∧ w.cell? ⟨g, 1, none⟩ = some b ∧ w.cell? ⟨g, 2, none⟩ = some c ∧ ∀ i, w.frozen? ⟨g, i, none⟩ = false :=
  ⟨cell_of_row w g 0 _ _ (0, 0) h, cell_of_row w g 1 _ _ (0, 0) h, cell_of_row w g 2 _ _ (0, 0) h, fun i => Lib.frozen_of_heap h i⟩
/-- Two new blocks of three cells, and what was behind them. -/
theorem two_new {w w' : World} {a b c d e f : Value} {t u : TypeId} (hb : Below (w.heap.size + 2) ((w.alloc (.cells #[a, b, c] t)).alloc (.cells #[d, e, f] u)) w') :
    w'.heap[w.heap.size]? = some (.cells #[a, b, c] t (0, 0)) ∧ w'.heap[w.heap.size + 1]? = some (.cells #[d, e, f] u (0, 0)) ∧ Below w.heap.size w w' := by
  have e1 : ((w.alloc (.cells #[a, b, c] t)).alloc (.cells #[d, e, f] u)).heap[w.heap.size]? = some (.cells #[a, b, c] t (0, 0)) := by
    rw [Lib.alloc_old _ _ _ (by simp)]; exact heap_alloc_new w _
  have e2 : ((w.alloc (.cells #[a, b, c] t)).alloc (.cells #[d, e, f] u)).heap[w.heap.size + 1]? = some (.cells #[d, e, f] u (0, 0)) := by
    have := heap_alloc_new (w.alloc (.cells #[a, b, c] t)) (.cells #[d, e, f] u)
    simpa using this
  refine ⟨(hb.block _ (by omega)).trans e1, (hb.block _ (by omega)).trans e2, ?_⟩
  exact (((Below.refl _ _).alloc (Nat.le_refl _) _).alloc (by simp) _).trans (hb.mono (by omega))
theorem below_set3 {w w' : World} {B g : Nat} (h : Below B w w') (hg : B ≤ g) (a b c : Value) : Below B w (((w'.setCell ⟨g, 0, none⟩ a).setCell ⟨g, 1, none⟩ b).setCell ⟨g, 2, none⟩ c) :=
  ((h.setCell (show B ≤ (⟨g, 0, none⟩ : Addr).block from hg) a).setCell (show B ≤ (⟨g, 1, none⟩ : Addr).block from hg) b).setCell (show B ≤ (⟨g, 2, none⟩ : Addr).block from hg) c
theorem below_drewN' {B : Nat} {w w' : World} (h : Below B w w') (n : Nat) : Below B w (w'.drewN n) := below_drewN h n

end Go.Proofs.YtjonmcbglcidhaaGreat
