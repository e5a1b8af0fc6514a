import Derived.Test.YtogeojiaiilghaaGreatR
import Derived.RangeFuncNested
import Derived.RangeFuncBound
import Derived.RangeFuncCalls
import Derived.RangeFuncLeaves
import Derived.Shelf.Abstract
import Derived.Shelf.RegionOpen
import Derived.WalkKit
import Derived.OwnWalkIn
import Derived.TacticsInMore
import Derived.LoopNIn
import Derived.LoopIn
import Derived.Deep.AppendLies
namespace Go.Proofs.YtogeojiaiilghaaGreat
open Go.RowKit Go.Shelf
set_option linter.unusedVariables false
attribute [local go_sem] Oper.semAt_some

set_option maxRecDepth 100000 in
set_option maxHeartbeats 1000000 in
/-- The iterator of maps.Keys over names: the names come, each once, in some order; or a round says no more. -/
theorem keys1_in (F : Fence) (n : Nat) (h10 : F.fn 211) (hro : F.round = none) (hn : 1 ≤ n) (l Bm b : Nat) (L : List (Nm × Value)) (J Jx : List Nm → World → Prop)
    (hY : ∀ pre x W, J pre W → pre.length < L.length → YieldAt F (n - 1) Tryz.prog l #[nv x] W fun e W' =>
      (e = .returned (.bool true) ∧ J (pre ++ [x]) W' ∧ KeepsWalks W W') ∨ (e = .returned (.bool false) ∧ Jx (pre ++ [x]) W'))
    (W : World) (hJ : AbidesFrom W.heap.size J) (hm : W.cell? ⟨Bm, 0, none⟩ = some (.map (some b))) (hown : MapAt KN W b L) (h0 : J [] W) :
    CallsIn F n Tryz.prog 211 #[.func (.yield l) #[] #[], .pointer (some ⟨Bm, 0, none⟩)] W fun e W' => (∃ v, e = .returned v) ∧
      ((∃ ss : List Nm, ss.Perm (L.map (·.1)) ∧ J ss W') ∨ (∃ pre : List Nm, True ∧ Jx pre W')) := by
  obtain ⟨w0, hrun0, hR0, o0, rfl⟩ := rng_start hown
  have hJ0 : J [] (W.alloc o0) := hJ [] W _ none h0 (World.grownBy_alloc W o0 none) (fun r e => by cases e)
  refine callsIn_of_wp Tryz.func211 rfl h10 ?_ hro
  simp only [Tryz.ntmps211, List.size_toArray, List.length_cons, List.length_nil, Nat.reduceAdd, Nat.reduceSub, Array.replicate_succ, Array.replicate_zero, List.push_toArray, List.append_toArray, List.nil_append, List.cons_append]
  gi_wp2
  gi_loopw [3] (fun _ wr => ∃ ss : List Nm, Rng wr b W.heap.size L ss ∧ J ss wr ∧ W.heap.size ≤ wr.heap.size) (fun _ wr => wr.rangeLeft b W.heap.size)
  case atStart => exact ⟨[], hR0, hJ0, by simp⟩
  case round =>
    obtain ⟨ss, hrg, hJs, hsz⟩ := hrel
    have hiw := hrg.iter_walk
    rcases hrg.next 0 with ⟨hp, hrun⟩ | ⟨⟨k, o, p, s⟩, v, w2, hlt, hrun, hrg2, hleft, hg2, hs2, hen⟩
    · gi_wp2
      go_end0
      exact ⟨⟨_, rfl⟩, .inl ⟨ss, hp, hJs⟩⟩
    · have hJ2 := hJ ss wr w2 (some W.heap.size) hJs hg2 (fun r e => by cases e; exact ⟨Nat.le_refl _, hiw⟩)
      have hJ3 := hJ ss w2 _ none hJ2 (World.grownBy_alloc w2 (.cells #[.int .i64 k, .int .i64 o, .int .u32 p, .int .i64 s] 108) none) (fun r e => by cases e)
      obtain ⟨fn, tmps, assign, body, hy, hR⟩ := hY ss ⟨k, o, p, s⟩ _ hJ3 hlt
      have hsz2 : W.heap.size ≤ w2.heap.size := by rw [hs2]; exact hsz
      have hrun' : (Instr.next (.pointer (some ⟨W.heap.size, 0, none⟩)) false 0).run Tryz.prog wr = .ok (.tuple #[.bool true, .agg #[.int .i64 k, .int .i64 o, .int .u32 p, .int .i64 s], v]) w2 := hrun
      have hen' : (Instr.entry (.pointer (some ⟨W.heap.size, 0, none⟩))).run Tryz.prog w2 = .ok (.tuple #[.agg #[.int .i64 k, .int .i64 o, .int .u32 p, .int .i64 s], v]) w2 := hen
      have hy' : (Instr.yield l #[.agg #[.int .i64 k, .int .i64 o, .int .u32 p, .int .i64 s]]).run Tryz.prog (w2.alloc (.cells #[.int .i64 k, .int .i64 o, .int .u32 p, .int .i64 s] 108)) = _ := hy
      clear hs2 hrun hen hy
      gi_wp2
      refine hR.mono ?_
      rintro e W3 (⟨rfl, hJ4, hk3⟩ | ⟨rfl, hJx3⟩)
      · gi_wp2
        obtain ⟨hrg3, hl3⟩ := hrg2.of_walks ((KeepsWalks.alloc w2 _).trans hk3)
        have hs3 := hk3.size
        simp at hs3
        go_roundw
        case rel => exact ⟨_, hrg3, hJ4, by omega⟩
        case measure => omega
      · gi_wp2
        refine bodyPost_ret (results_none rfl _ _ _) rfl ?_
        exact ⟨⟨_, rfl⟩, .inr ⟨_, trivial, hJx3⟩⟩
/-- maps.Keys hands back an iterator value. -/
theorem keys_in (F : Fence) (n : Nat) (h : F.fn 127) (hro : F.round = none) (mb : Option Nat) (W : World) :
    CallsIn F n Tryz.prog 127 #[.map mb] W fun e w' => e = .returned (.func (.func 211) #[] #[.pointer (some ⟨W.heap.size, 0, none⟩)]) ∧ w' = W.alloc (.cells #[.map mb] 110) := by
  refine callsIn_of_wp Tryz.func127 rfl h ?_ hro
  simp only [Tryz.ntmps127, List.size_toArray, List.length_cons, List.length_nil, Nat.reduceAdd, Nat.reduceSub, Array.replicate_succ, Array.replicate_zero, List.push_toArray, List.append_toArray, List.nil_append, List.cons_append]
  gi_wp2
  go_ret
  exact ⟨rfl, rfl⟩
theorem keys_stops (F : Fence) (n : Nat) (h : F.fn 211) (hro : F.round = none) (hn : 1 ≤ n) (Bm b : Nat) (L : List (Nm × Value)) (w : World) (hBm : Bm < w.heap.size) (hc : w.cell? ⟨Bm, 0, none⟩ = some (.map (some b))) (hL : MapAt KN w b L) :
    SeqStopsK F n Tryz.prog 211 #[.pointer (some ⟨Bm, 0, none⟩)] (fun x : Nm => #[nv x]) KeepsWalks (fun ss => ss.Perm (L.map (·.1))) (fun _ => True) L.length w := fun l J Jx W hW hJ _ hY h0 =>
  keys1_in F n h hro hn l Bm b L J Jx hY W hJ ((hW.cell (p := ⟨Bm, 0, none⟩) hBm).trans hc) (hL.of_block (hW.block b hL.lt)) h0
end Go.Proofs.YtogeojiaiilghaaGreat
