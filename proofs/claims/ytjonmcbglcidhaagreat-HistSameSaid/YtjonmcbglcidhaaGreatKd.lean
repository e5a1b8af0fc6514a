import Derived.Test.YtjonmcbglcidhaaGreatKc
import Derived.OneCell
namespace Go.Proofs.YtjonmcbglcidhaaGreat
open Go.RowKit
set_option linter.unusedVariables false

/-! ### The writer -/
/-- A writer at block b with the bytes l; what it owns lies at B and behind. -/
def WrAt (w : World) (B b : Nat) (l : List UInt8) : Prop := ∃ v, w.heap[b]? = some (.cells #[v] 144 (0, 0)) ∧ w.ownsRow B 5 1 v l.length (bcells l) ∧ B ≤ b
section
variable {w w' : World} {B b : Nat} {l : List UInt8}
theorem WrAt.lt (h : WrAt w B b l) : b < w.heap.size := by
  obtain ⟨v, h1, _⟩ := h
  exact lt_of_block h1
theorem WrAt.alloc (h : WrAt w B b l) (o : Obj) : WrAt (w.alloc o) B b l := by
  obtain ⟨v, h1, h2, h3⟩ := h
  exact ⟨v, by rw [Lib.alloc_old _ _ _ (lt_of_block h1)]; exact h1, h2.alloc o, h3⟩
theorem WrAt.below (h : WrAt w B b l) (hb : Below w.heap.size w w') : WrAt w' B b l := by
  obtain ⟨v, h1, h2, h3⟩ := h
  refine ⟨v, (hb.block b (lt_of_block h1)).trans h1, ?_, h3⟩
  rcases h2 with ⟨hl, h2 | ⟨g, cap, cur, rfl, hg, hh, r⟩⟩
  · exact ⟨hl, .inl h2⟩
  · exact ⟨hl, .inr ⟨g, cap, cur, rfl, hg, (hb.block g (lt_of_block hh)).trans hh, r⟩⟩
end

theorem NewW_any (w : World) : Calls Tryz.prog 58 #[] w fun e w' => e = .returned (.pointer (some ⟨w.heap.size, 0, none⟩)) ∧ WrAt w' w.heap.size w.heap.size [] ∧ Below w.heap.size w w' := by
  go_enter Tryz.func58, Tryz.ntmps58
  go_wp2
  go_ret
  refine ⟨rfl, ⟨_, heap_alloc_new w _, ⟨rfl, .inl ⟨rfl, rfl⟩⟩, Nat.le_refl _⟩, (Below.refl _ _).alloc (Nat.le_refl _) _⟩

/-- What is no row of bytes, and not the writer, stays. -/
def Spare (w w' : World) (b : Nat) : Prop := ∀ k cs t fr, k ≠ b → t ≠ 5 → w.heap[k]? = some (.cells cs t fr) → w'.heap[k]? = some (.cells cs t fr)
theorem Spare.of_below {w w' : World} (h : Below w.heap.size w w') (b : Nat) : Spare w w' b := fun k cs t fr _ _ hk => (h.block k (lt_of_block hk)).trans hk
theorem Spare.trans {w w' w'' : World} {b : Nat} (h : Spare w w' b) (h' : Spare w' w'' b) : Spare w w'' b := fun k cs t fr h1 h2 h3 => h' k cs t fr h1 h2 (h k cs t fr h1 h2 h3)
theorem heap_far (w : World) (p : Addr) (k : Nat) (hk : k ≠ p.block) (u : Value) : (w.setCell p u).heap[k]? = w.heap[k]? := Below.heap_setCell w p u k hk
theorem own_slice {w : World} {B : Nat} {e : TypeId} {sz : Nat} {v : Value} {n : Nat} {xs : List Value} (h : w.ownsRow B e sz v n xs) : ∃ ao c, v = .slice ao n c := by
  rcases h.2 with ⟨rfl, rfl⟩ | ⟨g, cap, cur, rfl, _⟩
  · exact ⟨_, _, rfl⟩
  · exact ⟨_, _, rfl⟩

set_option maxRecDepth 100000 in
theorem WBytes_any (B b : Nat) (l : List UInt8) (s : ByteArray) (w : World) (h : WrAt w B b l) (hs : l.length + s.size ≤ 140737488355328) (hB : B ≤ w.heap.size) :
    Calls Tryz.prog 60 #[.pointer (some ⟨b, 0, none⟩), .string s] w fun e w' => e = .returned (.tuple #[]) ∧ WrAt w' B b (l ++ s.data.toList) ∧ Below B w w' ∧ Spare w w' b := by
  obtain ⟨i0, hi0, hz0, hz1, hz2⟩ := info_parts infoU8
  obtain ⟨v, hb, hown, hBb⟩ := h
  have hc := cell_of_one hb
  have hlt := lt_of_block hb
  have hne := Lib.ownBlock_ne hown hb (by decide)
  go_enter Tryz.func60, Tryz.ntmps60
  go_wp2_with (at_builtin; refine Lib.wpList_append_own_string _ rfl _ _ 118 9 rfl B 5 i0 Tryz.underlying118 Tryz.underlying9 hi0 hz0 hz1 hz2 v l.length (bcells l) rfl hown s rfl (by unfold maxLen; omega) hs hB ?_; intro v' w1 hown' hgrow' hnil'; have hb1 : w1.heap[b]? = some (.cells #[v] 144 (0, 0)) := (hgrow'.block b hlt (fun e => hne e.symm)).trans hb; have hf1 := free_of_one hb1; have hc1 := cell_of_one hb1; obtain ⟨ao, c, rfl⟩ := own_slice hown')
  go_end0
  have hne' := Lib.ownBlock_ne hown' hb1 (by decide)
  refine ⟨rfl, ⟨_, one_setCell hb1, ?_, hBb⟩, ?_, fun k cs t fr hk ht hh => ?_⟩
  rotate_left
  · exact ((Below.refl B w).grown hgrow' hB (fun k hk => (World.ownsRow.lt hown k (by first | exact hk | exact hk.symm)).1)).setCell hBb _
  · rw [heap_far _ _ _ (by simpa using hk), hgrow'.block k (lt_of_block hh) (fun e => Lib.ownBlock_ne hown hh ht e.symm)]
    exact hh
  have := ownsRow_setCell_other hown' (a := ⟨b, 0, none⟩) hne' (.slice ao (l.length + s.size) c)
  rw [show Lib.strCells s = bcells s.data.toList from rfl, bcells_append] at this
  rw [List.length_append, data_len]
  exact this

set_option maxRecDepth 100000 in
theorem WLen_any (B b : Nat) (l : List UInt8) (w : World) (h : WrAt w B b l) :
    Calls Tryz.prog 61 #[.pointer (some ⟨b, 0, none⟩)] w fun e w' => e = .returned (.int .i64 l.length) ∧ w = w' := by
  obtain ⟨v, hb, hown, hBb⟩ := h
  obtain ⟨ao, c, rfl⟩ := own_slice hown
  have hc := cell_of_one hb
  go_enter Tryz.func61, Tryz.ntmps61
  go_wp2
  go_ret
  exact ⟨rfl, rfl⟩

set_option maxRecDepth 100000 in
theorem WAll_any (B b : Nat) (l : List UInt8) (w : World) (h : WrAt w B b l) :
    Calls Tryz.prog 62 #[.pointer (some ⟨b, 0, none⟩)] w fun e w' => e = .returned (.string (bs l)) ∧ w = w' := by
  obtain ⟨v, hb, hown, hBb⟩ := h
  have hconv := run_str hown
  obtain ⟨ao, c, rfl⟩ := own_slice hown
  have hc := cell_of_one hb
  go_enter Tryz.func62, Tryz.ntmps62
  go_wp2
  go_ret
  exact ⟨rfl, rfl⟩

set_option maxRecDepth 100000 in
theorem WNum_one (B b : Nat) (l : List UInt8) (n : Nat) (w : World) (h : WrAt w B b l) (hn : n < 18446744073709551616) (hs : l.length + 1 ≤ 140737488355328) (hB : B ≤ w.heap.size) :
    Calls Tryz.prog 59 #[.pointer (some ⟨b, 0, none⟩), .int .u64 n, .int .i64 1] w fun e w' => e = .returned (.tuple #[]) ∧ WrAt w' B b (l ++ putB n 1) ∧ Below B w w' ∧ Spare w w' b := by
  have HN := Lib.hid hn
  clear hn
  go_enter Tryz.func59, Tryz.ntmps59
  go_wp2_with fail
  refine (Put_one n w HN.out).mono ?_
  rintro e w1 ⟨rfl, hb1⟩
  go_wp2_with fail
  refine (WBytes_any B b l (bs (putB n 1)) w1 (h.below hb1) (by rw [bs_size, putB_len]; exact hs) (by have := hb1.size; omega)).mono ?_
  rintro e w2 ⟨rfl, hw2, hb2, hs2⟩
  go_wp2
  go_end0
  exact ⟨rfl, hw2, (hb1.mono hB).trans hb2, (Spare.of_below hb1 b).trans hs2⟩

set_option maxRecDepth 100000 in
theorem WNum_eight (B b : Nat) (l : List UInt8) (n : Nat) (w : World) (h : WrAt w B b l) (hn : n < 18446744073709551616) (hs : l.length + 8 ≤ 140737488355328) (hB : B ≤ w.heap.size) :
    Calls Tryz.prog 59 #[.pointer (some ⟨b, 0, none⟩), .int .u64 n, .int .i64 8] w fun e w' => e = .returned (.tuple #[]) ∧ WrAt w' B b (l ++ putB n 8) ∧ Below B w w' ∧ Spare w w' b := by
  have HN := Lib.hid hn
  clear hn
  go_enter Tryz.func59, Tryz.ntmps59
  go_wp2_with fail
  refine (Put_eight n w HN.out).mono ?_
  rintro e w1 ⟨rfl, hb1⟩
  go_wp2_with fail
  refine (WBytes_any B b l (bs (putB n 8)) w1 (h.below hb1) (by rw [bs_size, putB_len]; exact hs) (by have := hb1.size; omega)).mono ?_
  rintro e w2 ⟨rfl, hw2, hb2, hs2⟩
  go_wp2
  go_end0
  exact ⟨rfl, hw2, (hb1.mono hB).trans hb2, (Spare.of_below hb1 b).trans hs2⟩
end Go.Proofs.YtjonmcbglcidhaaGreat
