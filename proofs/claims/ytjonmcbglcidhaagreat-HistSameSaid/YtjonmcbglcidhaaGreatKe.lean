import Derived.Test.YtjonmcbglcidhaaGreatKd
import Derived.Deep.QuietTactic
import Derived.BigQuiet
namespace Go.Proofs.YtjonmcbglcidhaaGreat
open Go.RowKit
set_option linter.unusedVariables false

/-! ### The reader -/
def numS (s : ByteArray) (p : Nat) (e : Int) (K : Nat) : Nat × Int × Nat := if e ≠ 0 then (p, e, 0) else if s.size < p + K then (p, 4, 0) else (p + K, 0, getN (seg s p K))
def bytesS (s : ByteArray) (p : Nat) (e : Int) (n : Nat) : Nat × Int × List UInt8 := if e ≠ 0 then (p, e, []) else if s.size < p + n then (p, 4, []) else (p + n, 0, seg s p n)
section
variable {w w' : World} {b : Nat} {s : ByteArray} {p : Nat} {e : Int}
theorem heap_setCell_same {w : World} {g : Nat} {cs : Array Value} {t : TypeId} (h : w.heap[g]? = some (.cells cs t (0, 0))) (i : Nat) (u : Value) : (w.setCell ⟨g, i, none⟩ u).heap[g]? = some (.cells (cs.setIfInBounds i u) t (0, 0)) := by
  have hlt := lt_of_block h
  have h' : w.heap[g] = .cells cs t (0, 0) := by simpa [Array.getElem?_eq_getElem hlt] using h
  show (w.heap.modify g _)[g]? = _
  rw [Array.getElem?_modify, if_pos rfl, h]
  rfl
end

section
variable {w w' : World} {b : Nat} {s : ByteArray} {p : Nat} {e : Int}
theorem only_refl (w : World) (b : Nat) : w.grownBy w (some b) := ⟨rfl, rfl, rfl, Nat.le_refl _, fun _ _ _ => rfl⟩
theorem only_drewN {b : Nat} (h : w.grownBy w' (some b)) (n : Nat) : w.grownBy (w'.drewN n) (some b) := ⟨h.os, h.tape, h.output, h.size, h.block⟩
theorem only_set {b : Nat} (h : w.grownBy w' (some b)) (i : Nat) (u : Value) : w.grownBy (w'.setCell ⟨b, i, none⟩ u) (some b) :=
  ⟨h.os, h.tape, h.output, by simpa using h.size, fun k hk hne => (Below.heap_setCell w' ⟨b, i, none⟩ u k (fun e => hne (by rw [e]))).trans (h.block k hk hne)⟩
theorem below_drewN {B : Nat} (h : Below B w w') (n : Nat) : Below B w (w'.drewN n) := by
  induction n with
  | zero => exact h
  | succ n ih => exact ih.drew
end

theorem extract_seg (s : ByteArray) (p n : Nat) : s.extract p (p + n) = bs (seg s p n) := by
  apply ByteArray.ext
  rw [ByteArray.data_extract]
  apply Array.ext'
  simp [bs, seg, Array.toList_extract, List.extract]

end Go.Proofs.YtjonmcbglcidhaaGreat
