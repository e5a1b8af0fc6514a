import Derived.Test.YtdpipfifoinncaaDoorKl
namespace Go.Proofs.YtdpipfifoinncaaDoor
open Go.RowKit
set_option linter.unusedVariables false

theorem two_objs {w w' : World} {o1 o2 : Obj} (hb : Below ((w.alloc o1).alloc o2).heap.size ((w.alloc o1).alloc o2) w') :
    w'.heap[w.heap.size]? = some o1 ∧ w'.heap[w.heap.size + 1]? = some o2 ∧ Below w.heap.size w w' := by
  have e1 : ((w.alloc o1).alloc o2).heap[w.heap.size]? = some o1 := by
    rw [Lib.alloc_old _ _ _ (by simp)]; exact heap_alloc_new w _
  have e2 : ((w.alloc o1).alloc o2).heap[w.heap.size + 1]? = some o2 := by
    have := heap_alloc_new (w.alloc o1) o2
    simpa using this
  refine ⟨(hb.block _ (by simp; omega)).trans e1, (hb.block _ (by simp)).trans e2, ?_⟩
  exact (((Below.refl _ _).alloc (Nat.le_refl _) _).alloc (by simp) _).trans (hb.mono (by simp; omega))
theorem VOwn.far3 {w : World} {t : TypeId} {B : Nat} {v : Value} {l : List V} (h : VOwn w t B v l) {g : Nat} (hg : ∀ k, v.ownBlock = some k → k ≠ g) (a b c : Value) : VOwn (((w.setCell ⟨g, 0, none⟩ a).setCell ⟨g, 1, none⟩ b).setCell ⟨g, 2, none⟩ c) t B v l :=
  ((h.far hg 0 a).far hg 1 b).far hg 2 c
theorem set3 {W : World} {g : Nat} {a b c : Value} {t : TypeId} (h : W.heap[g]? = some (.cells #[a, b, c] t (0, 0))) (a' b' c' : Value) :
    (((W.setCell ⟨g, 0, none⟩ a').setCell ⟨g, 1, none⟩ b').setCell ⟨g, 2, none⟩ c').heap[g]? = some (.cells #[a', b', c'] t (0, 0)) :=
  heap_setCell_same (heap_setCell_same (heap_setCell_same h 0 a') 1 b') 2 c'
theorem far3 (W : World) {g k : Nat} (hk : k ≠ g) (a' b' c' : Value) :
    (((W.setCell ⟨g, 0, none⟩ a').setCell ⟨g, 1, none⟩ b').setCell ⟨g, 2, none⟩ c').heap[k]? = W.heap[k]? := by
  rw [heap_far _ _ _ (show k ≠ (⟨g, 2, none⟩ : Addr).block from hk), heap_far _ _ _ (show k ≠ (⟨g, 1, none⟩ : Addr).block from hk), heap_far _ _ _ (show k ≠ (⟨g, 0, none⟩ : Addr).block from hk)]

end Go.Proofs.YtdpipfifoinncaaDoor
