import Derived.Test.YtogeojiaiilghaaGreatRi
import Derived.Maps.AppendAt
namespace Go.Proofs.YtogeojiaiilghaaGreat
open Go.RowKit Go.Shelf
set_option linter.unusedVariables false
attribute [local go_sem] Oper.semAt_some

def nvs (n : Nm) : List Value := [.int .i64 n.kind, .int .i64 n.of_, .int .u32 n.page, .int .i64 n.slot]
theorem infoName : (Tryz.prog.info? 108).map (fun i => (i.zero, i.size, i.bytes)) = some (some (.agg #[.int .i64 0, .int .i64 0, .int .u32 0, .int .i64 0]), 4, 32) := by kernel_rfl
theorem nvs_snoc (pre : List Nm) (x : Nm) : pre.flatMap nvs ++ nvs x = (pre ++ [x]).flatMap nvs := by simp
theorem nvs_one (x : Nm) : ∀ u ∈ nvs x, u.oneCell' = true := by
  intro u hu
  simp only [nvs, List.mem_cons, List.not_mem_nil, or_false] at hu
  rcases hu with rfl | rfl | rfl | rfl <;> rfl
/-- A block of cells lies on through an iterator's step. -/
theorem cells_own {β : Type} (B0 : Nat) (g : Nat) (cs : Array Value) (t : TypeId) : OwnFrom B0 (fun (_ : β) W => W.heap[g]? = some (.cells cs t (0, 0))) := fun s X Y row hs hg hr => by
  have hlt : g < X.heap.size := (Array.getElem?_eq_some_iff.1 hs).1
  refine (hg.block g hlt (fun e => ?_)).trans hs
  obtain ⟨_, o, ho, hc⟩ := hr g e.symm
  rw [hs] at ho
  cases ho
  cases hc
theorem not_row4 {W : World} {g : Nat} {cs : Array Value} {t e : TypeId} (h : W.heap[g]? = some (.cells cs t (0, 0))) (hte : t ≠ e) {base size k : Nat} {v : Value} {xs : List Value} (hr : W.ownsRow base e size v k xs) : some g ≠ v.ownBlock := by
  rcases hr.2 with ⟨rfl, _⟩ | ⟨g', cap, cur, rfl, _, hgb, _⟩
  · simp [Value.ownBlock]
  · intro e'
    obtain rfl : g = g' := by simpa [Value.ownBlock] using e'
    have := h.symm.trans hgb
    simp at this
    exact hte this.2

set_option maxRecDepth 100000 in
set_option maxHeartbeats 2000000 in
theorem appendSeq_in (F : Fence) (n : Nat) (h11 : F.fn 310) (hro : F.round = none) (hn : 2 ≤ n) (g : Nat) (lb : Array Value) (hFg : F.fn g) (eg : ∀ args w, (callFunc g args).run Tryz.prog w = .ok (.enter g args) w)
    (S Sp : List Nm → Prop) (N : Nat) (hN : N ≤ maxLen) (hNb : N * 32 ≤ 140737488355328) (w : World) (hseq : SeqStopsK F (n - 1) Tryz.prog g lb (fun x : Nm => #[nv x]) KeepsWalks S Sp N w) :
    CallsIn F n Tryz.prog 310 #[.slice none 0 0, .func (.func g) #[] lb] w fun e w' => ∃ (v : Value) (ss : List Nm), e = .returned v ∧ S ss ∧ w'.ownsRow w.heap.size 108 4 v ss.length (ss.flatMap nvs) ∧ (v = .slice none 0 0 ↔ ss = []) ∧ Below w.heap.size w w' := by
  have h1 : 1 ≤ n := by omega
  obtain ⟨i0, hi, hz0, hz1, hz2⟩ := info_parts infoName
  refine callsIn_of_wp_marks Tryz.func310 rfl h11 ?_ hro
  simp only [Tryz.ntmps310, List.size_toArray, List.length_cons, List.length_nil, Nat.reduceAdd, Nat.reduceSub, Array.replicate_succ, Array.replicate_zero, List.push_toArray, List.append_toArray, List.nil_append, List.cons_append]
  gi_wp2
  have bO := Boxed.new w 181 (.slice none 0 0)
  have hB0 : Below w.heap.size w (w.alloc (.cells #[.slice none 0 0] 181)) := (Below.refl _ w).alloc (Nat.le_refl _) _
  refine wpIn_rangeFunc_ownH hro h1 (gf := g) (lb := lb) rfl hFg eg hseq walksK_t walksK_b hB0 (fun _ => rfl)
    (fun pre W => (∃ v, Boxed W w.heap.size 181 v ∧ W.ownsRow w.heap.size 108 4 v pre.length (pre.flatMap nvs) ∧ (v = .slice none 0 0 ↔ pre = [])) ∧ Below w.heap.size w W)
    (fun _ _ _ => False)
    (OwnFrom.and (Own.from (holdsRow_own w.heap.size w.heap.size 181 108 4 (fun pre : List Nm => pre.length) (fun pre => pre.flatMap nvs) (fun pre v => v = .slice none 0 0 ↔ pre = [])) _) (ownFrom_below (Nat.le_refl _) (by simp)))
    (fun _ _ _ _ _ hs _ _ => hs)
    ⟨⟨_, bO, ⟨rfl, .inl ⟨rfl, rfl⟩⟩, by simp⟩, hB0⟩
    (fun x a' W => ∃ Bx, w.heap.size < Bx ∧ W.heap[Bx]? = some (.cells #[.int .i64 x.kind, .int .i64 x.of_, .int .u32 x.page, .int .i64 x.slot] 108 (0, 0)) ∧ a' = { tmps := #[.slice none 0 0, .func (.func g) #[] lb, .pointer (some ⟨w.heap.size, 0, none⟩), undef, .slice none 0 0, .pointer (some ⟨Bx, 0, none⟩), .func (.func g) #[] lb, nv x, undef, undef, undef, undef, undef], defers := [] })
    (fun x a' _ X Y row hs hg hr => by
      obtain ⟨Bx, h1, h2, h3⟩ := hs
      exact ⟨Bx, h1, cells_own _ Bx _ _ () X Y row h2 hg hr, h3⟩)
    ?assign ?body ?done ?stop
  case assign =>
    rintro l pre ⟨k, o, p, s⟩ W K ⟨⟨v, hv, hrow, hnil⟩, hB⟩ hK
    have hlt := hv.lt
    simp only [nv]
    gi_wp2
    exact hK _ _ ((KeepsOthers.alloc _ _).from _) (KeepsWalks.alloc _ _) ⟨⟨v, hv.alloc _, hrow.alloc _, hnil⟩, hB.alloc hB.size _⟩ ⟨W.heap.size, hlt, heap_alloc_new W _, rfl⟩
  case body =>
    rintro l pre ⟨k, o, p, s⟩ a' W hl ⟨r, hr⟩ ⟨⟨v, hv, hrow, hnil⟩, hB⟩ ⟨Bx, hBx, bX, rfl⟩ hlt
    have hc := hv.cell
    have b0 := cell_of_row W Bx 0 _ _ (0, 0) bX
    have b1 := cell_of_row W Bx 1 _ _ (0, 0) bX
    have b2 := cell_of_row W Bx 2 _ _ (0, 0) bX
    have b3 := cell_of_row W Bx 3 _ _ (0, 0) bX
    change W.cell? _ = some (.int .i64 k) at b0
    change W.cell? _ = some (.int .i64 o) at b1
    change W.cell? _ = some (.int .u32 p) at b2
    change W.cell? _ = some (.int .i64 s) at b3
    show Code.wpIn _ _ _ _ _ { tmps := #[.slice none 0 0, .func (.func g) #[] lb, .pointer (some ⟨w.heap.size, 0, none⟩), undef, .slice none 0 0, .pointer (some ⟨Bx, 0, none⟩), .func (.func g) #[] lb, .agg #[.int .i64 k, .int .i64 o, .int .u32 p, .int .i64 s], undef, undef, undef, undef, undef], defers := [] } W
    gi_wp2_with (gi_at_builtin; refine wpListIn_append_own _ rfl _ _ 181 rfl w.heap.size 108 i0 (.agg #[.int .i64 0, .int .i64 0, .int .u32 0, .int .i64 0]) 4 32 Tryz.underlying181 hi hz0 hz1 hz2 rfl (by decide) _ _ _ rfl (hrow.alloc _) ⟨W.heap.size, 0, none⟩ 1 1 [.int .i64 k, .int .i64 o, .int .u32 p, .int .i64 s] rfl rfl (World.news_of_block (cs := #[.int .i64 k, .int .i64 o, .int .u32 p, .int .i64 s]) (t := 108) (fr := (0, 0)) (heap_alloc_new W _)) (by simp [Value.oneCell']) (by omega) (by omega) (by have := hB.size; simp; omega) ?_; intro v' w1 hown' hgrow _; obtain ⟨g', cap', rfl⟩ := ownsRow_succ hown'; obtain ⟨hv1, hv2, hr2, hk2, hb2⟩ := hv.appended (by decide) hrow hB.size (Nat.le_refl _) hown' hgrow; have hc1 := hv1.cell; have hf1 := hv1.frozen)
    exact ⟨hk2.from _, hk2.walks, ⟨_, hv2, by rw [← nvs_snoc, List.length_append]; exact hr2, by simp⟩, hB.trans hb2⟩
  case done =>
    rintro D ys W hD hS ⟨⟨v, hv, hrow, hnil⟩, hB⟩ hK
    have hc := hv.cell
    gi_wp2
    refine ⟨by simp, .inl ⟨_, _, rfl, run_takeDeferred hK, ?_⟩⟩
    exact ⟨_, results_tmp rfl _ _ _, v, ys, rfl, hS, ownsRow_putObj hrow _ hK rfl, hnil, hB.trans (belowK_b (w := w) (Nat.le_refl _) W D _ _ (by simp at hD; omega) hK rfl rfl)⟩
  case stop =>
    rintro D c pre W _ _ h _
    exact h.elim
end Go.Proofs.YtogeojiaiilghaaGreat
