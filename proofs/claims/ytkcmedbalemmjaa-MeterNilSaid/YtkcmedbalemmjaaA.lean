import Derived.Test.YtkcmedbalemmjaaRows
import Derived.WalkKit
import Derived.WalkSpells
import Derived.WalkLawsBesides
namespace Go.Proofs.Ytkcmedbalemmjaa
open Go.RowKit
set_option linter.unusedVariables false

def Blk (w : World) (g : Nat) (t : TypeId) (cs : Array Value) : Prop := w.heap[g]? = some (.cells cs t (0, 0))
section
variable {w w' : World} {g : Nat} {t : TypeId} {cs : Array Value}
theorem Blk.lt (h : Blk w g t cs) : g < w.heap.size := by
  rcases Nat.lt_or_ge g w.heap.size with hlt | hge
  · exact hlt
  · unfold Blk at h; rw [Array.getElem?_eq_none hge] at h; cases h
theorem Blk.cell (h : Blk w g t cs) (i : Nat) : w.cell? ⟨g, i, none⟩ = cs[i]? := cell_of_row w g i cs t (0, 0) h
theorem Blk.frozen (h : Blk w g t cs) (i : Nat) : w.frozen? ⟨g, i, none⟩ = false := by
  unfold Blk at h
  simp [World.frozen?, h]
theorem Blk.new (w : World) (t : TypeId) (cs : Array Value) : Blk (w.alloc (.cells cs t)) w.heap.size t cs := heap_alloc_new w _
theorem Blk.drew (h : Blk w g t cs) : Blk w.drew g t cs := h
theorem Blk.drewN (h : Blk w g t cs) (n : Nat) : Blk (w.drewN n) g t cs := h
theorem Blk.alloc (h : Blk w g t cs) (o : Obj) : Blk (w.alloc o) g t cs := (Below.heap_alloc w o g h.lt).trans h
theorem Blk.set_ (h : Blk w g t cs) (i : Nat) (u : Value) : Blk (w.setCell ⟨g, i, none⟩ u) g t (cs.setIfInBounds i u) := by
  unfold Blk at h ⊢
  simp [World.setCell, Array.getElem?_modify, h]
theorem Blk.far (h : Blk w g t cs) {p : Addr} (hp : g ≠ p.block) (u : Value) : Blk (w.setCell p u) g t cs := (Below.heap_setCell w p u g hp).trans h
theorem Blk.below {B : Nat} (h : Blk w g t cs) (hb : Below B w w') (hg : g < B) : Blk w' g t cs := (hb.block g hg).trans h
end

/-- A meter: its struct lies in block m, its counts in block c. -/
structure MeterAt (w : World) (m c : Nat) (l : List Int) (adds : Int) : Prop where
  head : Blk w m 61 #[.slice (some ⟨c, 0, none⟩) l.length l.length, .int .u64 adds]
  body : Blk w c 63 (l.map (Value.int .i64)).toArray
  ne : m ≠ c

theorem load64 (b o : Nat) (x : Int) (w : World) (h0 : w.cell? ⟨b, o, none⟩ = some (.int .i64 x)) :
    Calls Try.prog 22 #[.pointer (some ⟨b, o, none⟩)] w fun e w' => e = .returned (.int .i64 x) ∧ w = w' := by
  have hl := run_call_load (P := Try.prog) Try.func37 (by kernel_rfl) (by kernel_rfl) (by kernel_rfl) .i64 (by kernel_rfl) h0
  go_enter Try.func22, Try.ntmps22
  go_wp2
  go_ret
  exact ⟨rfl, rfl⟩

theorem loadU64 (b o : Nat) (x : Int) (w : World) (h0 : w.cell? ⟨b, o, none⟩ = some (.int .u64 x)) :
    Calls Try.prog 27 #[.pointer (some ⟨b, o, none⟩)] w fun e w' => e = .returned (.int .u64 x) ∧ w = w' := by
  have hl := run_call_load (P := Try.prog) Try.func42 (by kernel_rfl) (by kernel_rfl) (by kernel_rfl) .u64 (by kernel_rfl) h0
  go_enter Try.func27, Try.ntmps27
  go_wp2
  go_ret
  exact ⟨rfl, rfl⟩

theorem add64 (b o : Nat) (x y : Int) (w : World) (h0 : w.cell? ⟨b, o, none⟩ = some (.int .i64 x)) (hz : w.frozen? ⟨b, o, none⟩ = false) :
    Calls Try.prog 26 #[.pointer (some ⟨b, o, none⟩), .int .i64 y] w fun e w' => e = .returned (.int .i64 (wrap64 (x + y))) ∧ w.setCell ⟨b, o, none⟩ (.int .i64 (wrap64 (x + y))) = w' := by
  have hl := run_call_add (P := Try.prog) Try.func41 (by kernel_rfl) (by kernel_rfl) (by kernel_rfl) .i64 (by kernel_rfl) (s := wrap64 (x + y)) (y := y) h0 hz (by simp [go_sem, wrap64, IntKind.wrap_i64])
  go_enter Try.func26, Try.ntmps26
  go_wp2
  go_ret
  exact ⟨rfl, rfl⟩

theorem addU64 (b o : Nat) (x y : Int) (w : World) (h0 : w.cell? ⟨b, o, none⟩ = some (.int .u64 x)) (hz : w.frozen? ⟨b, o, none⟩ = false) :
    Calls Try.prog 25 #[.pointer (some ⟨b, o, none⟩), .int .u64 y] w fun e w' => e = .returned (.int .u64 (IntKind.u64.wrap (x + y))) ∧ w.setCell ⟨b, o, none⟩ (.int .u64 (IntKind.u64.wrap (x + y))) = w' := by
  have hl := run_call_add (P := Try.prog) Try.func40 (by kernel_rfl) (by kernel_rfl) (by kernel_rfl) .u64 (by kernel_rfl) (s := IntKind.u64.wrap (x + y)) (y := y) h0 hz (by simp [go_sem])
  go_enter Try.func25, Try.ntmps25
  go_wp2
  go_ret
  exact ⟨rfl, rfl⟩

theorem add_ok (m c i : Nat) (l : List Int) (adds y : Int) (w : World) (h : MeterAt w m c l adds) (hi : i < l.length) (hl : l.length ≤ 64) :
    Calls Try.prog 11 #[.pointer (some ⟨m, 0, none⟩), .int .i64 i, .int .i64 y] w fun e w' => e = .returned (.tuple #[.int .i64 (wrap64 (l[i] + y)), .int .i64 0]) ∧
     (w.setCell ⟨m, 1, none⟩ (.int .u64 (IntKind.u64.wrap (adds + 1)))).setCell ⟨c, i, none⟩ (.int .i64 (wrap64 (l[i] + y))) = w' := by
  have h0 := h.head.cell 0
  have h1 := h.head.cell 1
  have f1 := h.head.frozen 1
  have hne := h.ne
  have b0 := (h.head.set_ 1 (.int .u64 (IntKind.u64.wrap (adds + 1)))).cell 0
  have b1 := (h.body.far (p := ⟨m, 1, none⟩) (fun e => hne e.symm) (.int .u64 (IntKind.u64.wrap (adds + 1)))).cell i
  have g1 := (h.body.far (p := ⟨m, 1, none⟩) (fun e => hne e.symm) (.int .u64 (IntKind.u64.wrap (adds + 1)))).frozen i
  simp [hi] at h0 h1 b0 b1
  go_enter Try.func11, Try.ntmps11
  go_wp2_with (first
    | (go_at_call 25; refine (addU64 _ _ _ _ _ h1 f1).mono ?_; rintro e w' ⟨rfl, rfl⟩)
    | (go_at_call 26; refine (add64 _ _ _ _ _ b1 g1).mono ?_; rintro e w' ⟨rfl, rfl⟩))
  go_ret2
  exact ⟨rfl, rfl⟩

theorem add_lo (m : Nat) (i y : Int) (w : World) (hi : i < 0) :
    Calls Try.prog 11 #[.pointer (some ⟨m, 0, none⟩), .int .i64 i, .int .i64 y] w fun e w' => e = .returned (.tuple #[.int .i64 0, .int .i64 1]) ∧ w = w' := by
  go_enter Try.func11, Try.ntmps11
  go_wp2
  go_ret2
  exact ⟨rfl, rfl⟩
theorem add_hi (m c : Nat) (i : Int) (l : List Int) (adds y : Int) (w : World) (h : MeterAt w m c l adds) (hi : l.length ≤ i) :
    Calls Try.prog 11 #[.pointer (some ⟨m, 0, none⟩), .int .i64 i, .int .i64 y] w fun e w' => e = .returned (.tuple #[.int .i64 0, .int .i64 1]) ∧ w = w' := by
  have h0 := h.head.cell 0
  simp at h0
  go_enter Try.func11, Try.ntmps11
  go_wp2
  go_ret2
  exact ⟨rfl, rfl⟩
theorem swap_lo (m : Nat) (i y : Int) (w : World) (hi : i < 0) :
    Calls Try.prog 10 #[.pointer (some ⟨m, 0, none⟩), .int .i64 i, .int .i64 y] w fun e w' => e = .returned (.tuple #[.int .i64 0, .int .i64 1]) ∧ w = w' := by
  go_enter Try.func10, Try.ntmps10
  go_wp2
  go_ret2
  exact ⟨rfl, rfl⟩
theorem swap_hi (m c : Nat) (i : Int) (l : List Int) (adds y : Int) (w : World) (h : MeterAt w m c l adds) (hi : l.length ≤ i) :
    Calls Try.prog 10 #[.pointer (some ⟨m, 0, none⟩), .int .i64 i, .int .i64 y] w fun e w' => e = .returned (.tuple #[.int .i64 0, .int .i64 1]) ∧ w = w' := by
  have h0 := h.head.cell 0
  simp at h0
  go_enter Try.func10, Try.ntmps10
  go_wp2
  go_ret2
  exact ⟨rfl, rfl⟩
theorem top_lo (m : Nat) (i y : Int) (w : World) (hi : i < 0) :
    Calls Try.prog 9 #[.pointer (some ⟨m, 0, none⟩), .int .i64 i, .int .i64 y] w fun e w' => e = .returned (.tuple #[.bool false, .int .i64 1]) ∧ w = w' := by
  go_enter Try.func9, Try.ntmps9
  go_wp2
  go_ret2
  exact ⟨rfl, rfl⟩
theorem top_hi (m c : Nat) (i : Int) (l : List Int) (adds y : Int) (w : World) (h : MeterAt w m c l adds) (hi : l.length ≤ i) :
    Calls Try.prog 9 #[.pointer (some ⟨m, 0, none⟩), .int .i64 i, .int .i64 y] w fun e w' => e = .returned (.tuple #[.bool false, .int .i64 1]) ∧ w = w' := by
  have h0 := h.head.cell 0
  simp at h0
  go_enter Try.func9, Try.ntmps9
  go_wp2
  go_ret2
  exact ⟨rfl, rfl⟩
theorem get_hi (m c : Nat) (i : Int) (l : List Int) (adds : Int) (w : World) (h : MeterAt w m c l adds) (hi : l.length ≤ i) :
    Calls Try.prog 13 #[.pointer (some ⟨m, 0, none⟩), .int .i64 i] w fun e w' => e = .returned (.tuple #[.int .i64 0, .int .i64 1]) ∧ w = w' := by
  have h0 := h.head.cell 0
  simp at h0
  go_enter Try.func13, Try.ntmps13
  go_wp2
  go_ret2
  exact ⟨rfl, rfl⟩
theorem get_ok (m c i : Nat) (l : List Int) (adds : Int) (w : World) (h : MeterAt w m c l adds) (hi : i < l.length) (hl : l.length ≤ 64) :
    Calls Try.prog 13 #[.pointer (some ⟨m, 0, none⟩), .int .i64 i] w fun e w' => e = .returned (.tuple #[.int .i64 l[i], .int .i64 0]) ∧ w = w' := by
  have h0 := h.head.cell 0
  have b1 := h.body.cell i
  simp [hi] at h0 b1
  go_enter Try.func13, Try.ntmps13
  go_wp2_with (go_at_call 22; refine (load64 _ _ _ _ b1).mono ?_; rintro e w' ⟨rfl, rfl⟩)
  go_ret2
  exact ⟨rfl, rfl⟩
theorem adds_ok (m c : Nat) (l : List Int) (adds : Int) (w : World) (h : MeterAt w m c l adds) :
    Calls Try.prog 14 #[.pointer (some ⟨m, 0, none⟩)] w fun e w' => e = .returned (.int .u64 adds) ∧ w = w' := by
  have h1 := h.head.cell 1
  simp at h1
  go_enter Try.func14, Try.ntmps14
  go_wp2_with (go_at_call 27; refine (loadU64 _ _ _ _ h1).mono ?_; rintro e w' ⟨rfl, rfl⟩)
  go_ret
  exact ⟨rfl, rfl⟩
theorem cas64 (b o : Nat) (x y : Int) (w : World) (h0 : w.cell? ⟨b, o, none⟩ = some (.int .i64 x)) (hz : w.frozen? ⟨b, o, none⟩ = false) :
    Calls Try.prog 23 #[.pointer (some ⟨b, o, none⟩), .int .i64 x, .int .i64 y] w fun e w' => e = .returned (.bool true) ∧ w.setCell ⟨b, o, none⟩ (.int .i64 y) = w' := by
  have hl := run_call_cas_hit (P := Try.prog) Try.func38 (by kernel_rfl) (by kernel_rfl) (by kernel_rfl) .i64 (by kernel_rfl) (y := y) h0 hz
  go_enter Try.func23, Try.ntmps23
  go_wp2
  go_ret
  exact ⟨rfl, rfl⟩
theorem run_call_swap {P : Program} {f : FuncId} {fn : Func} (hf : P.funcs[f]? = some fn) (hname : (fn.name == "runtime.NumGoroutine") = false) (hb : fn.body.isNone = true) (hn : Extern.findNext fn = none) (k : IntKind)
    (he : Extern.find fn = some (Extern.Atomic.swapT (.int k))) {a : Addr} {x y : Int} {w : World} (hc : w.cell? a = some (.int k x)) (hz : w.frozen? a = false) :
    (callFunc f #[.pointer (some a), .int k y]).run P w = .ok (.value (.int k x)) (w.setCell a (.int k y)) := by
  rw [run_callFunc_extern hf hname hb hn he]
  change (Sem.run P (do
    let a' ← asAddr (.pointer (some a))
    let old ← Extern.Atomic.read (.int k) a'
    store a' (.int k y) .atomic
    pure old) w).andThen _ = _
  simp [Extern.Atomic.read, asAddr, hc, hz, run_store P w a (.int k y) .atomic rfl, Result.andThen]
theorem swap64 (b o : Nat) (x y : Int) (w : World) (h0 : w.cell? ⟨b, o, none⟩ = some (.int .i64 x)) (hz : w.frozen? ⟨b, o, none⟩ = false) :
    Calls Try.prog 24 #[.pointer (some ⟨b, o, none⟩), .int .i64 y] w fun e w' => e = .returned (.int .i64 x) ∧ w.setCell ⟨b, o, none⟩ (.int .i64 y) = w' := by
  have hl := run_call_swap (P := Try.prog) Try.func39 (by kernel_rfl) (by kernel_rfl) (by kernel_rfl) .i64 (by kernel_rfl) (y := y) h0 hz
  go_enter Try.func24, Try.ntmps24
  go_wp2
  go_ret
  exact ⟨rfl, rfl⟩
theorem swap_ok (m c i : Nat) (l : List Int) (adds y : Int) (w : World) (h : MeterAt w m c l adds) (hi : i < l.length) (hl : l.length ≤ 64) :
    Calls Try.prog 10 #[.pointer (some ⟨m, 0, none⟩), .int .i64 i, .int .i64 y] w fun e w' => e = .returned (.tuple #[.int .i64 l[i], .int .i64 0]) ∧
     w.setCell ⟨c, i, none⟩ (.int .i64 y) = w' := by
  have h0 := h.head.cell 0
  have b1 := h.body.cell i
  have g1 := h.body.frozen i
  simp [hi] at h0 b1
  go_enter Try.func10, Try.ntmps10
  go_wp2_with (first
    | (go_at_call 24; refine (swap64 _ _ _ _ _ b1 g1).mono ?_; rintro e w' ⟨rfl, rfl⟩))
  go_ret2
  exact ⟨rfl, rfl⟩
theorem top_yes (m c i : Nat) (l : List Int) (adds y : Int) (w : World) (h : MeterAt w m c l adds) (hi : i < l.length) (hl : l.length ≤ 64) (hy : l[i] < y) :
    Calls Try.prog 9 #[.pointer (some ⟨m, 0, none⟩), .int .i64 i, .int .i64 y] w fun e w' => e = .returned (.tuple #[.bool true, .int .i64 0]) ∧
     w.setCell ⟨c, i, none⟩ (.int .i64 y) = w' := by
  have h0 := h.head.cell 0
  have b1 := h.body.cell i
  have g1 := h.body.frozen i
  simp [hi] at h0 b1
  go_enter Try.func9, Try.ntmps9
  go_wp2
  refine wp_loop_rounds 1 ?_
  rw [rounds_succ]
  go_wp2_with (first
    | (go_at_call 22; refine (load64 _ _ _ _ b1).mono ?_; rintro e w' ⟨rfl, rfl⟩)
    | (go_at_call 23; refine (cas64 _ _ _ _ _ b1 g1).mono ?_; rintro e w' ⟨rfl, rfl⟩))
  go_ret2
  exact ⟨rfl, rfl⟩
theorem top_no (m c i : Nat) (l : List Int) (adds y : Int) (w : World) (h : MeterAt w m c l adds) (hi : i < l.length) (hl : l.length ≤ 64) (hy : y ≤ l[i]) :
    Calls Try.prog 9 #[.pointer (some ⟨m, 0, none⟩), .int .i64 i, .int .i64 y] w fun e w' => e = .returned (.tuple #[.bool false, .int .i64 0]) ∧
     w = w' := by
  have h0 := h.head.cell 0
  have b1 := h.body.cell i
  have g1 := h.body.frozen i
  simp [hi] at h0 b1
  go_enter Try.func9, Try.ntmps9
  go_wp2
  refine wp_loop_rounds 1 ?_
  rw [rounds_succ]
  go_wp2_with (first
    | (go_at_call 22; refine (load64 _ _ _ _ b1).mono ?_; rintro e w' ⟨rfl, rfl⟩)
    | (go_at_call 23; refine (cas64 _ _ _ _ _ b1 g1).mono ?_; rintro e w' ⟨rfl, rfl⟩))
  go_ret2
  exact ⟨rfl, rfl⟩
end Go.Proofs.Ytkcmedbalemmjaa
