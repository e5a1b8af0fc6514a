import Derived.Test.YtogeojiaiilghaaGreatRj
namespace Go.Proofs.YtogeojiaiilghaaGreat
open Go.RowKit Go.Shelf
set_option linter.unusedVariables false
attribute [local go_sem] Oper.semAt_some

/-! ### slices.Sorted of maps.Keys, where the map is empty -/

set_option maxRecDepth 100000 in
theorem keysE_in_st (F : Fence) (n : Nat) (h10 : F.fn 224) (hro : F.round = none) (hn : 1 ≤ n) (l Bm o b clock : Nat) (J : List Int → World → Prop)
    (W : World) (hJ : AbidesFrom W.heap.size J) (hm : W.cell? ⟨Bm, o, none⟩ = some (.map (some b))) (hb : W.heap[b]? = some (.map #[] clock)) (h0 : J [] W) :
    CallsIn F n Tryz.prog 224 #[.func (.yield l) #[] #[], .pointer (some ⟨Bm, o, none⟩)] W fun e W' => (∃ v, e = .returned v) ∧ J [] W' := by
  have hlt : b < W.heap.size := (Array.getElem?_eq_some_iff.1 hb).1
  obtain ⟨o0, ho0⟩ : ∃ o0 : Obj, o0 = .mapIter (some b) clock #[] clock := ⟨_, rfl⟩
  have hrun0 : (Instr.range 196 (.map (some b))).run Tryz.prog W = .ok (.pointer (some ⟨W.heap.size, 0, none⟩)) (W.alloc o0) := by rw [ho0]; exact run_range_map W 196 _ _ b #[] clock Tryz.underlying196 hb
  have hJ0 : J [] (W.alloc o0) := hJ [] W _ none h0 (World.grownBy_alloc W o0 none) (fun r e => by cases e)
  have hb2 : (W.alloc o0).heap[b]? = some (.map #[] clock) := (Below.heap_alloc W _ b hlt).trans hb
  have hr2 : (W.alloc o0).heap[W.heap.size]? = some (.mapIter (some b) clock #[] clock) := by rw [heap_alloc_new, ho0]
  have hrun : (Instr.next (.pointer (some ⟨W.heap.size, 0, none⟩)) false 0).run Tryz.prog (W.alloc o0) = .ok (.tuple #[.bool false]) (W.alloc o0) := by
    rcases run_next_at (P := Tryz.prog) (W.alloc o0) 0 W.heap.size b clock clock #[] #[] clock hr2 hb2 (by simp) (Nat.le_refl _) with ⟨_, hrun⟩ | ⟨e, he, _⟩
    · exact hrun
    · exact absurd (mem_left he).1 (by simp)
  clear ho0
  refine callsIn_of_wp Tryz.func224 rfl h10 ?_ hro
  simp only [Tryz.ntmps224, List.size_toArray, List.length_cons, List.length_nil, Nat.reduceAdd, Nat.reduceSub, Array.replicate_succ, Array.replicate_zero, List.push_toArray, List.append_toArray, List.nil_append, List.cons_append]
  gi_wp2
  gi_loopw [3] (fun _ wr => wr = W.alloc o0) (fun _ _ => 0)
  case atStart => rfl
  case round =>
    subst hrel
    gi_wp2
    go_end0
    exact ⟨⟨_, rfl⟩, hJ0⟩
theorem keysE_stops_st (F : Fence) (n : Nat) (h : F.fn 224) (hro : F.round = none) (hn : 1 ≤ n) (Bm o b clock : Nat) (w : World) (hBm : Bm < w.heap.size) (hc : w.cell? ⟨Bm, o, none⟩ = some (.map (some b))) (hb : w.heap[b]? = some (.map #[] clock)) :
    SeqStopsK F n Tryz.prog 224 #[.pointer (some ⟨Bm, o, none⟩)] (fun x : Int => #[.int .i64 x]) KeepsWalks (fun ss => ss = []) (fun _ => False) 0 w := fun l J Jx W hW hJ _ hY h0 =>
  CallsIn.mono (keysE_in_st F n h hro hn l Bm o b clock J W hJ ((hW.cell (p := ⟨Bm, o, none⟩) hBm).trans hc) ((hW.block b (Array.getElem?_eq_some_iff.1 hb).1).trans hb) h0) (fun e W' ⟨h1, h2⟩ => ⟨h1, .inl ⟨[], rfl, h2⟩⟩)

set_option maxRecDepth 100000 in
theorem keysE_in_tx (F : Fence) (n : Nat) (h10 : F.fn 235) (hro : F.round = none) (hn : 1 ≤ n) (l Bm o b clock : Nat) (J : List Int → World → Prop)
    (W : World) (hJ : AbidesFrom W.heap.size J) (hm : W.cell? ⟨Bm, o, none⟩ = some (.map (some b))) (hb : W.heap[b]? = some (.map #[] clock)) (h0 : J [] W) :
    CallsIn F n Tryz.prog 235 #[.func (.yield l) #[] #[], .pointer (some ⟨Bm, o, none⟩)] W fun e W' => (∃ v, e = .returned v) ∧ J [] W' := by
  have hlt : b < W.heap.size := (Array.getElem?_eq_some_iff.1 hb).1
  obtain ⟨o0, ho0⟩ : ∃ o0 : Obj, o0 = .mapIter (some b) clock #[] clock := ⟨_, rfl⟩
  have hrun0 : (Instr.range 134 (.map (some b))).run Tryz.prog W = .ok (.pointer (some ⟨W.heap.size, 0, none⟩)) (W.alloc o0) := by rw [ho0]; exact run_range_map W 134 _ _ b #[] clock Tryz.underlying134 hb
  have hJ0 : J [] (W.alloc o0) := hJ [] W _ none h0 (World.grownBy_alloc W o0 none) (fun r e => by cases e)
  have hb2 : (W.alloc o0).heap[b]? = some (.map #[] clock) := (Below.heap_alloc W _ b hlt).trans hb
  have hr2 : (W.alloc o0).heap[W.heap.size]? = some (.mapIter (some b) clock #[] clock) := by rw [heap_alloc_new, ho0]
  have hrun : (Instr.next (.pointer (some ⟨W.heap.size, 0, none⟩)) false 0).run Tryz.prog (W.alloc o0) = .ok (.tuple #[.bool false]) (W.alloc o0) := by
    rcases run_next_at (P := Tryz.prog) (W.alloc o0) 0 W.heap.size b clock clock #[] #[] clock hr2 hb2 (by simp) (Nat.le_refl _) with ⟨_, hrun⟩ | ⟨e, he, _⟩
    · exact hrun
    · exact absurd (mem_left he).1 (by simp)
  clear ho0
  refine callsIn_of_wp Tryz.func235 rfl h10 ?_ hro
  simp only [Tryz.ntmps235, List.size_toArray, List.length_cons, List.length_nil, Nat.reduceAdd, Nat.reduceSub, Array.replicate_succ, Array.replicate_zero, List.push_toArray, List.append_toArray, List.nil_append, List.cons_append]
  gi_wp2
  gi_loopw [3] (fun _ wr => wr = W.alloc o0) (fun _ _ => 0)
  case atStart => rfl
  case round =>
    subst hrel
    gi_wp2
    go_end0
    exact ⟨⟨_, rfl⟩, hJ0⟩
theorem keysE_stops_tx (F : Fence) (n : Nat) (h : F.fn 235) (hro : F.round = none) (hn : 1 ≤ n) (Bm o b clock : Nat) (w : World) (hBm : Bm < w.heap.size) (hc : w.cell? ⟨Bm, o, none⟩ = some (.map (some b))) (hb : w.heap[b]? = some (.map #[] clock)) :
    SeqStopsK F n Tryz.prog 235 #[.pointer (some ⟨Bm, o, none⟩)] (fun x : Int => #[.int .i64 x]) KeepsWalks (fun ss => ss = []) (fun _ => False) 0 w := fun l J Jx W hW hJ _ hY h0 =>
  CallsIn.mono (keysE_in_tx F n h hro hn l Bm o b clock J W hJ ((hW.cell (p := ⟨Bm, o, none⟩) hBm).trans hc) ((hW.block b (Array.getElem?_eq_some_iff.1 hb).1).trans hb) h0) (fun e W' ⟨h1, h2⟩ => ⟨h1, .inl ⟨[], rfl, h2⟩⟩)

set_option maxRecDepth 100000 in
theorem appendSeqE_in (F : Fence) (n : Nat) (h11 : F.fn 314) (hro : F.round = none) (hn : 2 ≤ n) (g : Nat) (lb : Array Value) (hFg : F.fn g) (eg : ∀ args w, (callFunc g args).run Tryz.prog w = .ok (.enter g args) w)
    (w : World) (hseq : SeqStopsK F (n - 1) Tryz.prog g lb (fun x : Int => #[.int .i64 x]) KeepsWalks (fun ss => ss = []) (fun _ => False) 0 w) :
    CallsIn F n Tryz.prog 314 #[.slice none 0 0, .func (.func g) #[] lb] w fun e w' => e = .returned (.slice none 0 0) ∧ Below w.heap.size w w' := by
  have h1 : 1 ≤ n := by omega
  refine callsIn_of_wp_marks Tryz.func314 rfl h11 ?_ hro
  simp only [Tryz.ntmps314, List.size_toArray, List.length_cons, List.length_nil, Nat.reduceAdd, Nat.reduceSub, Array.replicate_succ, Array.replicate_zero, List.push_toArray, List.append_toArray, List.nil_append, List.cons_append]
  gi_wp2
  have bO := Boxed.new w 22 (.slice none 0 0)
  have hB0 : Below w.heap.size w (w.alloc (.cells #[.slice none 0 0] 22)) := (Below.refl _ w).alloc (Nat.le_refl _) _
  refine wpIn_rangeFunc_ownH hro h1 (gf := g) (lb := lb) rfl hFg eg hseq walksK_t walksK_b hB0 (fun _ => rfl)
    (fun pre W => (∃ v, Boxed W w.heap.size 22 v ∧ W.ownsRow w.heap.size 3 1 v pre.length (pre.map (Value.int .i64)) ∧ (v = .slice none 0 0 ↔ pre = [])) ∧ Below w.heap.size w W)
    (fun _ _ _ => False)
    (OwnFrom.and (Own.from (holdsRow_own w.heap.size w.heap.size 22 3 1 (fun pre : List Int => pre.length) (fun pre => pre.map (Value.int .i64)) (fun pre v => v = .slice none 0 0 ↔ pre = [])) _) (ownFrom_below (Nat.le_refl _) (by simp)))
    (fun _ _ _ _ _ hs _ _ => hs)
    ⟨⟨_, bO, ⟨rfl, .inl ⟨rfl, rfl⟩⟩, by simp⟩, hB0⟩
    (fun x a' W => True)
    (fun x a' _ X Y row hs hg hr => trivial)
    ?assign ?body ?done ?stop
  case assign =>
    rintro l pre x W K ⟨⟨v, hv, hrow, hnil⟩, hB⟩ hK
    gi_wp2
    exact hK _ _ ((KeepsOthers.refl _).from _) (KeepsWalks.refl _) ⟨⟨v, hv, hrow, hnil⟩, hB⟩ trivial
  case body =>
    rintro l pre x a' W hl _ _ _ hlt
    exact absurd hlt (Nat.not_lt_zero _)
  case done =>
    rintro D ys W hD rfl ⟨⟨v, hv, hrow, hnil⟩, hB⟩ hK
    have hc := hv.cell
    have hv0 := hnil.2 rfl
    subst hv0
    gi_wp2
    refine ⟨by simp, .inl ⟨_, _, rfl, run_takeDeferred hK, ?_⟩⟩
    exact ⟨_, results_tmp rfl _ _ _, rfl, hB.trans (belowK_b (w := w) (Nat.le_refl _) W D _ _ (by simp at hD; omega) hK rfl rfl)⟩
  case stop =>
    rintro D c pre W _ _ h _
    exact h.elim

theorem collectE_st (Bm o b clock : Nat) (w : World) (hBm : Bm < w.heap.size) (hc : w.cell? ⟨Bm, o, none⟩ = some (.map (some b))) (hb : w.heap[b]? = some (.map #[] clock)) :
    Calls Tryz.prog 222 #[.func (.func 224) #[] #[.pointer (some ⟨Bm, o, none⟩)]] w fun e w' => e = .returned (.slice none 0 0) ∧ Below w.heap.size w w' := by
  have hseq := keysE_stops_st Fence.wide 1 trivial rfl (Nat.le_refl _) Bm o b clock w hBm hc hb
  have hcon := callsIn_wide.1 (appendSeqE_in Fence.wide 2 trivial rfl (Nat.le_refl _) 224 _ trivial (enters_of Tryz.func224 (by kernel_rfl) rfl) w hseq)
  go_enter Tryz.func222, Tryz.ntmps222
  go_wp2_with fail
  refine hcon.mono ?_
  rintro e w' ⟨rfl, hb⟩
  go_wp2_with fail
  go_ret
  exact ⟨rfl, hb⟩
theorem sortedE_st (Bm o b clock : Nat) (w : World) (hBm : Bm < w.heap.size) (hc : w.cell? ⟨Bm, o, none⟩ = some (.map (some b))) (hb : w.heap[b]? = some (.map #[] clock)) (hsort : ∀ w, Calls Tryz.prog 223 #[.slice none 0 0] w fun e w' => (∃ v, e = .returned v) ∧ Below w.heap.size w w') :
    Calls Tryz.prog 151 #[.func (.func 224) #[] #[.pointer (some ⟨Bm, o, none⟩)]] w fun e w' => e = .returned (.slice none 0 0) ∧ Below w.heap.size w w' := by
  have hcon := collectE_st Bm o b clock w hBm hc hb
  go_enter Tryz.func151, Tryz.ntmps151
  go_wp2_with fail
  refine hcon.mono ?_
  rintro e w1 ⟨rfl, hb1⟩
  go_wp2_with fail
  refine (hsort w1).mono ?_
  rintro e w2 ⟨⟨v2, rfl⟩, hb2⟩
  go_wp2_with fail
  go_ret
  exact ⟨rfl, hb1.trans (hb2.mono hb1.size)⟩

theorem collectE_tx (Bm o b clock : Nat) (w : World) (hBm : Bm < w.heap.size) (hc : w.cell? ⟨Bm, o, none⟩ = some (.map (some b))) (hb : w.heap[b]? = some (.map #[] clock)) :
    Calls Tryz.prog 222 #[.func (.func 235) #[] #[.pointer (some ⟨Bm, o, none⟩)]] w fun e w' => e = .returned (.slice none 0 0) ∧ Below w.heap.size w w' := by
  have hseq := keysE_stops_tx Fence.wide 1 trivial rfl (Nat.le_refl _) Bm o b clock w hBm hc hb
  have hcon := callsIn_wide.1 (appendSeqE_in Fence.wide 2 trivial rfl (Nat.le_refl _) 235 _ trivial (enters_of Tryz.func235 (by kernel_rfl) rfl) w hseq)
  go_enter Tryz.func222, Tryz.ntmps222
  go_wp2_with fail
  refine hcon.mono ?_
  rintro e w' ⟨rfl, hb⟩
  go_wp2_with fail
  go_ret
  exact ⟨rfl, hb⟩
theorem sortedE_tx (Bm o b clock : Nat) (w : World) (hBm : Bm < w.heap.size) (hc : w.cell? ⟨Bm, o, none⟩ = some (.map (some b))) (hb : w.heap[b]? = some (.map #[] clock)) (hsort : ∀ w, Calls Tryz.prog 223 #[.slice none 0 0] w fun e w' => (∃ v, e = .returned v) ∧ Below w.heap.size w w') :
    Calls Tryz.prog 151 #[.func (.func 235) #[] #[.pointer (some ⟨Bm, o, none⟩)]] w fun e w' => e = .returned (.slice none 0 0) ∧ Below w.heap.size w w' := by
  have hcon := collectE_tx Bm o b clock w hBm hc hb
  go_enter Tryz.func151, Tryz.ntmps151
  go_wp2_with fail
  refine hcon.mono ?_
  rintro e w1 ⟨rfl, hb1⟩
  go_wp2_with fail
  refine (hsort w1).mono ?_
  rintro e w2 ⟨⟨v2, rfl⟩, hb2⟩
  go_wp2_with fail
  go_ret
  exact ⟨rfl, hb1.trans (hb2.mono hb1.size)⟩
end Go.Proofs.YtogeojiaiilghaaGreat
