import Derived.Test.YtogeojiaiilghaaGreatRows
import Derived.WalkKit
import Derived.WalkSpells
import Derived.Lib.Hide
import Derived.Maps.AppendAt
import Derived.Maps.Own
namespace Go.Proofs.YtogeojiaiilghaaGreat
open Go.RowKit
set_option linter.unusedVariables false

/-! ### A session of one command -/
theorem infoCmd : (Tryz.prog.info? 29).map (fun i => (i.zero, i.size, i.bytes)) = some (some (.agg #[.int .i64 0, .int .i64 0, .int .i64 0, .string ⟨#[]⟩, .string ⟨#[]⟩, .slice none 0 0, .bool false, .slice none 0 0, .slice none 0 0, .slice none 0 0, .int .i64 0, .int .i64 0, .int .i64 0, .string ⟨#[]⟩]), 14, 200) := by kernel_rfl
theorem cmd_empty (w : World) : (w.alloc (.cells #[] 29)).ownsRow w.heap.size 29 14 (.slice (some ⟨w.heap.size, 0, none⟩) 0 0) 0 [] :=
  ⟨rfl, .inr ⟨w.heap.size, 0, #[], rfl, Nat.le_refl _, heap_alloc_new w _, Nat.le_refl _, by simp, rfl, rfl⟩⟩
set_option maxRecDepth 100000 in
theorem clone_cmd {w : World} {b : Nat} {cs : Array Value} (h : w.heap[b]? = some (.cells cs 29 (0, 0))) (hn : cs.size = 14) (h1 : ∀ u ∈ cs.toList, u.oneCell' = true) :
    Calls Tryz.prog 22 #[.slice (some ⟨b, 0, none⟩) 1 1] w fun e w' => ∃ A c, e = .returned (.slice A 1 c) ∧ Below w.heap.size w w' := by
  obtain ⟨i0, hi0, hz0, hz1, hz2⟩ := info_parts infoCmd
  have hlt : b < w.heap.size := (Array.getElem?_eq_some_iff.1 h).1
  have hb1 : Below w.heap.size w (w.alloc (.cells #[] 29)) := (Below.refl _ _).alloc (Nat.le_refl _) _
  have he : ∀ w, (binOp .eql 38 (.slice (some ⟨b, 0, none⟩) 1 1) (.slice none 0 0)).run Tryz.prog w = .ok (.bool false) w := fun w => Lib.run_eql_slice_nil w 38 29 _ _ _ _ _ Tryz.underlying38
  have HR : Hid (∀ j u, cs.toList[j]? = some u → (w.alloc (.cells #[] 29)).cell? ((⟨b, 0, none⟩ : Addr).add j) = some u) := Lib.hid (fun j u hu => by
    have hadd : (⟨b, 0, none⟩ : Addr).add j = ⟨b, j, none⟩ := by unfold Addr.add; split <;> simp_all
    rw [hadd, cell_of_row _ b j cs 29 (0, 0) ((hb1.block b hlt).trans h)]
    simpa using hu)
  have HL : Hid (cs.toList.length = 1 * 14) := Lib.hid (by simp [hn])
  have H1 := Lib.hid h1
  clear h h1 hn
  go_enter Tryz.func22, Tryz.ntmps22
  go_wp2_with (at_builtin; refine wpList_append_own_at _ rfl _ _ 38 rfl w.heap.size 29 i0 _ 14 200 Tryz.underlying38 hi0 hz0 hz1 hz2 rfl (by omega) (.slice (some ⟨w.heap.size, 0, none⟩) 0 0) 0 [] rfl (cmd_empty w) ⟨b, 0, none⟩ 1 1 cs.toList rfl HL.out HR.out H1.out (by unfold maxLen; omega) (by omega) (by simp) ?_)
  intro v' w1 hown hgrow hnil hat
  go_wp2_with fail
  go_ret
  obtain ⟨A, c, rfl⟩ : ∃ A c, v' = .slice A 1 c := by
    rcases hown.2 with ⟨rfl, h0⟩ | ⟨g, c9, cur, rfl, -⟩
    · exact absurd h0 (by omega)
    · exact ⟨_, _, rfl⟩
  refine ⟨_, _, rfl, hb1.grown hgrow (by simp) (fun k hk => ?_)⟩
  simp [Value.ownBlock] at hk
  omega
set_option maxRecDepth 100000 in
theorem new_one {w : World} {b : Nat} {cs : Array Value} (h : w.heap[b]? = some (.cells cs 29 (0, 0))) (hn : cs.size = 14) (h1 : ∀ u ∈ cs.toList, u.oneCell' = true) :
    Calls Tryz.prog 6 #[.slice (some ⟨b, 0, none⟩) 1 1] w fun e w' => ∃ s sl mp, e = .returned (.pointer (some ⟨s, 0, none⟩)) ∧ w'.heap[s]? = some (.cells #[sl, .int .i64 0, .int .i64 0, .bool false, mp, .slice none 0 0] 56 (0, 0)) ∧ Below w.heap.size w w' := by
  have hmm := @run_makeMap Tryz.prog
  have hcon := clone_cmd h hn h1
  go_enter Tryz.func6, Tryz.ntmps6
  go_wp2_with fail
  refine hcon.mono ?_
  rintro e w1 ⟨A, c, rfl, hB⟩
  go_wp2_with fail
  go_ret
  refine ⟨w1.heap.size + 1, .slice A 1 c, .map (some w1.heap.size), rfl, ?_, (hB.alloc hB.size _).alloc (by have := hB.size; simp; omega) _⟩
  have := heap_alloc_new (w1.alloc (.map #[] 0)) (.cells #[.slice A 1 c, .int .i64 0, .int .i64 0, .bool false, .map (some w1.heap.size), .slice none 0 0] 56)
  rwa [World.size_alloc] at this
set_option maxRecDepth 100000 in
theorem kill_idle {w : World} {s gb go_ : Nat} (h : w.cell? ⟨s, 2, none⟩ = some (.int .i64 0)) :
    Calls Tryz.prog 7 #[.pointer (some ⟨s, 0, none⟩), .pointer (some ⟨gb, go_, none⟩)] w fun e w' => e = .returned (.tuple #[.slice none 0 0, .int .i64 1]) ∧ w' = w := by
  go_enter Tryz.func7, Tryz.ntmps7
  go_wp2_with fail
  go_ret2
  exact ⟨rfl, rfl⟩
end Go.Proofs.YtogeojiaiilghaaGreat
