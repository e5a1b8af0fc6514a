import Derived.Test.YtdpipfifoinncaaKu
import Derived.Lib.Builder
namespace Go.Proofs.Ytdpipfifoinncaa
open Go.RowKit
set_option linter.unusedVariables false

theorem infoBuilder : (Try.prog.info? 65).map (·.size) = some 2 := by kernel_rfl
set_option maxRecDepth 100000 in
theorem copyCheck_used (b : Nat) (w : World) (h0 : w.cell? ⟨b, 0, none⟩ = some (.pointer (some ⟨b, 0, none⟩))) :
    Calls Try.prog 37 #[.pointer (some ⟨b, 0, none⟩)] w fun e w' => e = .returned (.tuple #[]) ∧ w' = w := by
  obtain ⟨j, hj, _⟩ := Option.map_eq_some_iff.1 infoBuilder
  have hq := Lib.run_neq_ptr_same w ⟨b, 0, none⟩ Try.underlying62 hj
  go_enter Try.func37, Try.ntmps37
  go_wp2
  go_end0
  exact ⟨rfl, rfl⟩

set_option maxRecDepth 100000 in
theorem copyCheck_fresh (b : Nat) (w : World) (h0 : w.cell? ⟨b, 0, none⟩ = some (.pointer none)) (hsh : w.shape? b = some (65, 2)) (hfz : w.frozen? ⟨b, 0, none⟩ = false) :
    Calls Try.prog 37 #[.pointer (some ⟨b, 0, none⟩)] w fun e w' => e = .returned (.tuple #[]) ∧ w' = w.setCell ⟨b, 0, none⟩ (.pointer (some ⟨b, 0, none⟩)) := by
  obtain ⟨j, hj, hjs⟩ := Option.map_eq_some_iff.1 infoBuilder
  have e1 := Lib.run_to_unsafe w ⟨b, 0, none⟩ Try.underlying62 Try.underlying81 hj (by rw [hjs]; decide) hsh (Nat.zero_lt_succ 1)
  have e2 := Lib.run_from_unsafe w ⟨b, 0, none⟩ Try.underlying81 Try.underlying62 hj hsh (by kernel_rfl)
  go_enter Try.func37, Try.ntmps37
  go_wp2
  rw [run_callFunc_extern Try.func38 (by kernel_rfl) (by kernel_rfl) (by kernel_rfl) (e := Extern.AbiNoEscape.same) (by kernel_rfl)]
  rw [Lib.run_noEscape]
  simp only [Result.andThen]
  rw [Oper.upon_value]
  go_wp2
  go_end0
  exact ⟨rfl, rfl⟩

theorem copyCheck_any (B b : Nat) (xs : List Value) (w : World) (h : Lib.IsBuilder 65 5 B b xs w) :
    Calls Try.prog 37 #[.pointer (some ⟨b, 0, none⟩)] w fun e w' => e = .returned (.tuple #[]) ∧ Lib.BuilderAt 65 5 B b (.pointer (some ⟨b, 0, none⟩)) xs w' ∧ Below B w w' := by
  rcases h with h | h
  · refine (copyCheck_fresh b w h.cell0 h.shape h.frozen0).mono ?_
    rintro e w' ⟨rfl, rfl⟩
    exact ⟨rfl, h.used _, (Below.refl B w).setCell (show B ≤ (⟨b, 0, none⟩ : Addr).block from h.1) _⟩
  · refine (copyCheck_used b w h.cell0).mono ?_
    rintro e w' ⟨rfl, rfl⟩
    exact ⟨rfl, h, Below.refl _ _⟩

set_option maxRecDepth 100000 in
theorem BWrite_any (B b : Nat) (l : List UInt8) (s : ByteArray) (w : World) (h : Lib.IsBuilder 65 5 B b (bcells l) w) (hs : l.length + s.size ≤ 140737488355328) (hB : B ≤ w.heap.size) :
    Calls Try.prog 28 #[.pointer (some ⟨b, 0, none⟩), .string s] w fun e w' => e = .returned (.tuple #[.int .i64 s.size, .nilIface]) ∧ Lib.IsBuilder 65 5 B b (bcells (l ++ s.data.toList)) w' ∧ Below B w w' := by
  obtain ⟨i0, hi0, hz0, hz1, hz2⟩ := info_parts infoU8
  go_enter Try.func28, Try.ntmps28
  go_wp2_with fail
  refine (copyCheck_any B b _ w h).mono ?_
  rintro e w1 ⟨rfl, ⟨hBb, v, hb, hown, hne⟩, hB1⟩
  rw [bcells_len] at hown
  have c1 : w1.cell? ⟨b, 1, none⟩ = some v := Lib.cell_of_heap hb 1
  have hlt := lt_of_block hb
  have hB1s := hB1.size
  go_wp2_with (at_builtin; refine Lib.wpList_append_own_string _ rfl _ _ 63 9 rfl B 5 i0 Try.underlying63 Try.underlying9 hi0 hz0 hz1 hz2 v l.length (bcells l) rfl hown s rfl (by unfold maxLen; omega) hs (by omega) ?_; intro v' w2 hown' hgrow' hnil'; have hb2 : w2.heap[b]? = some (.cells #[.pointer (some ⟨b, 0, none⟩), v] 65 (0, 0)) := (hgrow'.block b hlt (fun e => hne e.symm)).trans hb; have hf2 := Lib.frozen_of_heap hb2 1; have hc2 : w2.cell? ⟨b, 1, none⟩ = some v := Lib.cell_of_heap hb2 1; obtain ⟨ao, c, rfl⟩ := own_slice hown')
  go_ret2
  have hne' := Lib.ownBlock_ne hown' hb2 (by decide)
  refine ⟨rfl, .inr ⟨hBb, _, heap_setCell_same hb2 1 _, ?_, hne'⟩, ((hB1.grown hgrow' (by omega) (fun k hk => (World.ownsRow.lt hown k (by first | exact hk | exact hk.symm)).1)).setCell (show B ≤ (⟨b, 1, none⟩ : Addr).block from hBb) _)⟩
  have := ownsRow_setCell_other hown' (a := ⟨b, 1, none⟩) hne' (.slice ao (l.length + s.size) c)
  rw [show Lib.strCells s = bcells s.data.toList from rfl, bcells_append] at this
  rw [bcells_len, List.length_append, data_len]
  exact this
end Go.Proofs.Ytdpipfifoinncaa
