import Derived.Test.YtcdlplbccblbaaaGreatT
import Derived.Maps.RangeWalk
import Derived.RangeFuncSeq
import Derived.RangeFuncNested
import Derived.RangeFuncBound
import Derived.RangeFuncCalls
import Derived.RangeFuncLeaves
import Derived.Shelf.Abstract
import Derived.Shelf.RegionOpen
import Derived.WalkKit
import Derived.OwnWalkIn
import Derived.TacticsInMore
import Derived.LoopNIn
import Derived.LoopIn
import Derived.Deep.AppendLies
import Derived.Maps.AppendAt
namespace Go.Proofs.YtcdlplbccblbaaaGreat
open Go.RowKit
set_option linter.unusedVariables false

/-- 'for k := range m' under way over the map in block b: what has come. -/
def Rng (w : World) (b r : Nat) (l : List (Nm × Value)) (pre : List Nm) : Prop :=
  ∃ (es : Array MapEntry) (clock : Nat) (seen : Array Nat) (c0 : Nat), w.heap[b]? = some (.map es clock) ∧ es.toList.map (fun e => (e.key, e.val)) = l.map (fun p => (nv p.1, p.2)) ∧ (l.map (·.1)).Nodup ∧ (es.toList.map (·.born)).Nodup ∧ (∀ e ∈ es.toList, e.born < clock) ∧
    w.heap[r]? = some (.mapIter (some b) clock seen c0) ∧ clock ≤ c0 ∧ pre.Nodup ∧ (∀ a ∈ pre, a ∈ l.map (·.1)) ∧ pre.length + (leftOf es seen).size ≤ l.length ∧
    (∀ (i : Nat) (e : MapEntry) (p : Nm × Value), es.toList[i]? = some e → l[i]? = some p → (seen.contains e.born = true ↔ p.1 ∈ pre))

theorem nodup_at {α : Type} : ∀ {l : List α}, l.Nodup → ∀ {i j : Nat} {a : α}, l[i]? = some a → l[j]? = some a → i = j
  | [], _, i, j, a, h, _ => by simp at h
  | x :: r, hn, 0, 0, a, _, _ => rfl
  | x :: r, hn, 0, j + 1, a, h, k => by
    simp only [List.getElem?_cons_zero, Option.some.injEq] at h
    simp only [List.getElem?_cons_succ] at k
    subst h
    exact absurd (List.mem_of_getElem? k) (List.nodup_cons.1 hn).1
  | x :: r, hn, i + 1, 0, a, h, k => by
    simp only [List.getElem?_cons_zero, Option.some.injEq] at k
    simp only [List.getElem?_cons_succ] at h
    subst k
    exact absurd (List.mem_of_getElem? h) (List.nodup_cons.1 hn).1
  | x :: r, hn, i + 1, j + 1, a, h, k => by
    simp only [List.getElem?_cons_succ] at h k
    rw [nodup_at (List.nodup_cons.1 hn).2 h k]

theorem rng_start {w : World} {b : Nat} {l : List (Nm × Value)} (h : MapAt KN w b l) :
    ∃ w', (Instr.range 34 (.map (some b))).run Tryz.prog w = .ok (.pointer (some ⟨w.heap.size, 0, none⟩)) w' ∧ Rng w' b w.heap.size l [] ∧ ∃ o, w' = w.alloc o := by
  have hlt := h.lt
  obtain ⟨es, clock, hb, hes, hnd, hbn, hbl⟩ := h
  refine ⟨_, run_range_map w 34 _ _ b es clock Tryz.underlying34 hb, ⟨es, clock, #[], clock, (Below.heap_alloc w _ b hlt).trans hb, hes, hnd, hbn, hbl, heap_alloc_new w _, Nat.le_refl _, List.nodup_nil, by simp, ?_, by simp⟩, _, rfl⟩
  have := congrArg List.length hes
  simp only [List.length_map, Array.length_toList] at this
  have h2 : (leftOf es #[]).size ≤ es.size := Array.size_filter_le
  simp only [List.length_nil]
  omega

theorem Rng.next {w : World} {b r : Nat} {l : List (Nm × Value)} {pre : List Nm} (h : Rng w b r l pre) (ty : TypeId) :
    (pre.Perm (l.map (·.1)) ∧ (Instr.next (.pointer (some ⟨r, 0, none⟩)) false ty).run Tryz.prog w = .ok (.tuple #[.bool false]) w) ∨
    ∃ (a : Nm) (v : Value) (w' : World), pre.length < l.length ∧ (Instr.next (.pointer (some ⟨r, 0, none⟩)) false ty).run Tryz.prog w = .ok (.tuple #[.bool true, nv a, v]) w' ∧ Rng w' b r l (pre ++ [a]) ∧
      w'.rangeLeft b r < w.rangeLeft b r ∧ w.grownBy w' (some r) ∧ w'.heap.size = w.heap.size ∧ (Instr.entry (.pointer (some ⟨r, 0, none⟩))).run Tryz.prog w' = .ok (.tuple #[nv a, v]) w' := by
  obtain ⟨es, clock, seen, c0, hb, hes, hnd, hbn, hbl, hr, hc, hpn, hps, hle, hse⟩ := h
  have hne : r ≠ b := by rintro rfl; rw [hb] at hr; cases hr
  have hlen : es.toList.length = l.length := by simpa using congrArg List.length hes
  have hat : ∀ (i : Nat) (e : MapEntry), es.toList[i]? = some e → ∃ p, l[i]? = some p ∧ e.key = nv p.1 ∧ e.val = p.2 := fun i e he => by
    have h1 := congrArg (fun x => x[i]?) hes
    simp only [List.getElem?_map, he, Option.map_some] at h1
    cases hp : l[i]? with
    | none => rw [hp] at h1; simp at h1
    | some p =>
      rw [hp] at h1
      simp only [Option.map_some, Option.some.injEq, Prod.mk.injEq] at h1
      exact ⟨p, rfl, h1.1, h1.2⟩
  rcases run_next_at (P := Tryz.prog) w ty r b clock c0 seen es clock hr hb hbl hc with ⟨h0, hrun⟩ | ⟨e, he, w1, hal, hrun⟩
  · refine .inl ⟨?_, hrun⟩
    rw [List.perm_ext_iff_of_nodup hpn hnd]
    refine fun a => ⟨hps a, fun ha => ?_⟩
    obtain ⟨p, hp, rfl⟩ := List.mem_map.1 ha
    obtain ⟨i, hi⟩ := List.getElem?_of_mem hp
    have hil : i < es.toList.length := by rw [hlen]; exact (List.getElem?_eq_some_iff.1 hi).1
    exact (hse i _ p (List.getElem?_eq_getElem hil) hi).1 (all_seen es seen h0 _ (List.getElem_mem hil))
  · obtain ⟨hem, hes0⟩ := mem_left he
    obtain ⟨i, hi⟩ := List.getElem?_of_mem hem
    obtain ⟨p, hp, hk, hv⟩ := hat i e hi
    have hpre : p.1 ∉ pre := fun hx => by
      have := (hse i e p hi hp).2 hx
      rw [hes0] at this
      cases this
    have hshr := left_shrinks es seen e he
    have hset : ∀ w1 : World, (w1 = w ∨ w1 = w.drew) → (ChangeMaps.setBlock w1 r (.mapIter (some b) clock (seen.push e.born) clock)).heap[r]? = some (.mapIter (some b) clock (seen.push e.born) clock) ∧ ∀ k, k ≠ r → (ChangeMaps.setBlock w1 r (.mapIter (some b) clock (seen.push e.born) clock)).heap[k]? = w.heap[k]? := by
      rintro w1 (rfl | rfl)
      · exact ⟨heap_set_same (Array.getElem?_eq_some_iff.1 hr).1 _, fun k hk => heap_set_other _ hk⟩
      · exact ⟨heap_set_same (w := w.drew) (Array.getElem?_eq_some_iff.1 hr).1 _, fun k hk => heap_set_other (w := w.drew) _ hk⟩
    obtain ⟨hr', ho'⟩ := hset w1 hal
    have hb' := (ho' b (Ne.symm hne)).trans hb
    refine .inr ⟨p.1, p.2, _, by omega, by rw [← hk, ← hv]; exact hrun, ⟨es, clock, seen.push e.born, clock, hb', hes, hnd, hbn, hbl, hr', Nat.le_refl _, ?_, ?_, by rw [List.length_append]; simp only [List.length_cons, List.length_nil]; omega, ?_⟩, ?_, ?_, ?_, ?_⟩
    · rw [List.nodup_append]
      exact ⟨hpn, by simp, fun x hx y hy => by simp only [List.mem_singleton] at hy; subst hy; rintro rfl; exact hpre hx⟩
    · intro a ha
      rcases List.mem_append.1 ha with ha | ha
      · exact hps a ha
      · simp only [List.mem_singleton] at ha
        subst ha
        exact List.mem_map.2 ⟨p, List.mem_of_getElem? hp, rfl⟩
    · intro j e2 p2 hj hp2
      rw [contains_push, Bool.or_eq_true, hse j e2 p2 hj hp2, List.mem_append, List.mem_singleton, beq_iff_eq]
      have hb1 : e2.born = e.born ↔ j = i := by
        constructor
        · intro hh
          refine nodup_at hbn (a := e.born) ?_ ?_
          · rw [List.getElem?_map, hj, Option.map_some, hh]
          · rw [List.getElem?_map, hi, Option.map_some]
        · rintro rfl
          rw [hj] at hi
          injection hi with hi
          rw [hi]
      have hb2 : p2.1 = p.1 ↔ j = i := by
        constructor
        · intro hh
          refine nodup_at hnd (a := p.1) ?_ ?_
          · rw [List.getElem?_map, hp2, Option.map_some, hh]
          · rw [List.getElem?_map, hp, Option.map_some]
        · rintro rfl
          rw [hp2] at hp
          injection hp with hp
          rw [hp]
      rw [hb1, hb2]
    · simp only [World.rangeLeft, hb', hr', hb, hr]
      exact hshr
    · rcases hal with rfl | rfl <;> exact ⟨rfl, rfl, rfl, by simp [ChangeMaps.setBlock], fun k _ hk => ho' k (fun e1 => hk (by rw [e1]))⟩
    · rcases hal with rfl | rfl <;> simp [ChangeMaps.setBlock]
    · have := run_entry_at (P := Tryz.prog) _ r b clock seen es clock e hr' hb' hem hbn
      rw [hk, hv] at this
      exact this
theorem Rng.of_walks {w w' : World} {b r : Nat} {l : List (Nm × Value)} {pre : List Nm} (h : Rng w b r l pre) (hk : KeepsWalks w w') : Rng w' b r l pre ∧ w'.rangeLeft b r = w.rangeLeft b r := by
  obtain ⟨es, clock, seen, c0, hb, hes, hnd, hbn, hbl, hr, rest⟩ := h
  have hb' := hk.same b _ hb rfl
  have hr' := hk.same r _ hr rfl
  exact ⟨⟨es, clock, seen, c0, hb', hes, hnd, hbn, hbl, hr', rest⟩, by simp only [World.rangeLeft, hb, hr, hb', hr']⟩
theorem Rng.iter_walk {w : World} {b r : Nat} {l : List (Nm × Value)} {pre : List Nm} (h : Rng w b r l pre) : ∃ o : Obj, w.heap[r]? = some o ∧ o.isWalk = true := by
  obtain ⟨es, clock, seen, c0, hb, hes, hnd, hbn, hbl, hr, rest⟩ := h
  exact ⟨_, hr, rfl⟩
end Go.Proofs.YtcdlplbccblbaaaGreat

namespace Go.Proofs.YtcdlplbccblbaaaGreat
open Go.RowKit Go.Shelf
set_option linter.unusedVariables false
attribute [local go_sem] Oper.semAt_some

set_option maxRecDepth 100000 in
set_option maxHeartbeats 1000000 in
/-- The iterator of maps.Keys over names: the names come, each once, in some order; or a round says no more. -/
theorem keys1_in (F : Fence) (n : Nat) (h10 : F.fn 70) (hro : F.round = none) (hn : 1 ≤ n) (l Bm b : Nat) (L : List (Nm × Value)) (J Jx : List Nm → World → Prop)
    (hY : ∀ pre x W, J pre W → pre.length < L.length → YieldAt F (n - 1) Tryz.prog l #[nv x] W fun e W' =>
      (e = .returned (.bool true) ∧ J (pre ++ [x]) W' ∧ KeepsWalks W W') ∨ (e = .returned (.bool false) ∧ Jx (pre ++ [x]) W'))
    (W : World) (hJ : AbidesFrom W.heap.size J) (hm : W.cell? ⟨Bm, 0, none⟩ = some (.map (some b))) (hown : MapAt KN W b L) (h0 : J [] W) :
    CallsIn F n Tryz.prog 70 #[.func (.yield l) #[] #[], .pointer (some ⟨Bm, 0, none⟩)] W fun e W' => (∃ v, e = .returned v) ∧
      ((∃ ss : List Nm, ss.Perm (L.map (·.1)) ∧ J ss W') ∨ (∃ pre : List Nm, True ∧ Jx pre W')) := by
  obtain ⟨w0, hrun0, hR0, o0, rfl⟩ := rng_start hown
  have hJ0 : J [] (W.alloc o0) := hJ [] W _ none h0 (World.grownBy_alloc W o0 none) (fun r e => by cases e)
  refine callsIn_of_wp Tryz.func70 rfl h10 ?_ hro
  simp only [Tryz.ntmps70, List.size_toArray, List.length_cons, List.length_nil, Nat.reduceAdd, Nat.reduceSub, Array.replicate_succ, Array.replicate_zero, List.push_toArray, List.append_toArray, List.nil_append, List.cons_append]
  gi_wp2
  gi_loopw [3] (fun _ wr => ∃ ss : List Nm, Rng wr b W.heap.size L ss ∧ J ss wr ∧ W.heap.size ≤ wr.heap.size) (fun _ wr => wr.rangeLeft b W.heap.size)
  case atStart => exact ⟨[], hR0, hJ0, by simp⟩
  case round =>
    obtain ⟨ss, hrg, hJs, hsz⟩ := hrel
    have hiw := hrg.iter_walk
    rcases hrg.next 0 with ⟨hp, hrun⟩ | ⟨⟨k, o, p, s⟩, v, w2, hlt, hrun, hrg2, hleft, hg2, hs2, hen⟩
    · gi_wp2
      go_end0
      exact ⟨⟨_, rfl⟩, .inl ⟨ss, hp, hJs⟩⟩
    · have hJ2 := hJ ss wr w2 (some W.heap.size) hJs hg2 (fun r e => by cases e; exact ⟨Nat.le_refl _, hiw⟩)
      have hJ3 := hJ ss w2 _ none hJ2 (World.grownBy_alloc w2 (.cells #[.int .i64 k, .int .i64 o, .int .u32 p, .int .i64 s] 46) none) (fun r e => by cases e)
      obtain ⟨fn, tmps, assign, body, hy, hR⟩ := hY ss ⟨k, o, p, s⟩ _ hJ3 hlt
      have hsz2 : W.heap.size ≤ w2.heap.size := by rw [hs2]; exact hsz
      have hrun' : (Instr.next (.pointer (some ⟨W.heap.size, 0, none⟩)) false 0).run Tryz.prog wr = .ok (.tuple #[.bool true, .agg #[.int .i64 k, .int .i64 o, .int .u32 p, .int .i64 s], v]) w2 := hrun
      have hen' : (Instr.entry (.pointer (some ⟨W.heap.size, 0, none⟩))).run Tryz.prog w2 = .ok (.tuple #[.agg #[.int .i64 k, .int .i64 o, .int .u32 p, .int .i64 s], v]) w2 := hen
      have hy' : (Instr.yield l #[.agg #[.int .i64 k, .int .i64 o, .int .u32 p, .int .i64 s]]).run Tryz.prog (w2.alloc (.cells #[.int .i64 k, .int .i64 o, .int .u32 p, .int .i64 s] 46)) = _ := hy
      clear hs2 hrun hen hy
      gi_wp2
      refine hR.mono ?_
      rintro e W3 (⟨rfl, hJ4, hk3⟩ | ⟨rfl, hJx3⟩)
      · gi_wp2
        obtain ⟨hrg3, hl3⟩ := hrg2.of_walks ((KeepsWalks.alloc w2 _).trans hk3)
        have hs3 := hk3.size
        simp at hs3
        go_roundw
        case rel => exact ⟨_, hrg3, hJ4, by omega⟩
        case measure => omega
      · gi_wp2
        refine bodyPost_ret (results_none rfl _ _ _) rfl ?_
        exact ⟨⟨_, rfl⟩, .inr ⟨_, trivial, hJx3⟩⟩
/-- maps.Keys hands back an iterator value. -/
theorem keys_in (F : Fence) (n : Nat) (h : F.fn 57) (hro : F.round = none) (mb : Option Nat) (W : World) :
    CallsIn F n Tryz.prog 57 #[.map mb] W fun e w' => e = .returned (.func (.func 70) #[] #[.pointer (some ⟨W.heap.size, 0, none⟩)]) ∧ w' = W.alloc (.cells #[.map mb] 34) := by
  refine callsIn_of_wp Tryz.func57 rfl h ?_ hro
  simp only [Tryz.ntmps57, List.size_toArray, List.length_cons, List.length_nil, Nat.reduceAdd, Nat.reduceSub, Array.replicate_succ, Array.replicate_zero, List.push_toArray, List.append_toArray, List.nil_append, List.cons_append]
  gi_wp2
  go_ret
  exact ⟨rfl, rfl⟩
theorem keys_stops (F : Fence) (n : Nat) (h : F.fn 70) (hro : F.round = none) (hn : 1 ≤ n) (Bm b : Nat) (L : List (Nm × Value)) (w : World) (hBm : Bm < w.heap.size) (hc : w.cell? ⟨Bm, 0, none⟩ = some (.map (some b))) (hL : MapAt KN w b L) :
    SeqStopsK F n Tryz.prog 70 #[.pointer (some ⟨Bm, 0, none⟩)] (fun x : Nm => #[nv x]) KeepsWalks (fun ss => ss.Perm (L.map (·.1))) (fun _ => True) L.length w := fun l J Jx W hW hJ _ hY h0 =>
  keys1_in F n h hro hn l Bm b L J Jx hY W hJ ((hW.cell (p := ⟨Bm, 0, none⟩) hBm).trans hc) (hL.of_block (hW.block b hL.lt)) h0
end Go.Proofs.YtcdlplbccblbaaaGreat

namespace Go.Proofs.YtcdlplbccblbaaaGreat
open Go.RowKit Go.Shelf
set_option linter.unusedVariables false
attribute [local go_sem] Oper.semAt_some

def nvs (n : Nm) : List Value := [.int .i64 n.kind, .int .i64 n.of_, .int .u32 n.page, .int .i64 n.slot]
theorem infoName : (Tryz.prog.info? 46).map (fun i => (i.zero, i.size, i.bytes)) = some (some (.agg #[.int .i64 0, .int .i64 0, .int .u32 0, .int .i64 0]), 4, 32) := by kernel_rfl
theorem nvs_snoc (pre : List Nm) (x : Nm) : pre.flatMap nvs ++ nvs x = (pre ++ [x]).flatMap nvs := by simp
theorem nvs_one (x : Nm) : ∀ u ∈ nvs x, u.oneCell' = true := by
  intro u hu
  simp only [nvs, List.mem_cons, List.not_mem_nil, or_false] at hu
  rcases hu with rfl | rfl | rfl | rfl <;> rfl
/-- A block of cells lies on through an iterator's step. -/
theorem cells_own {β : Type} (B0 : Nat) (g : Nat) (cs : Array Value) (t : TypeId) : OwnFrom B0 (fun (_ : β) W => W.heap[g]? = some (.cells cs t (0, 0))) := fun s X Y row hs hg hr => by
  have hlt : g < X.heap.size := (Array.getElem?_eq_some_iff.1 hs).1
  refine (hg.block g hlt (fun e => ?_)).trans hs
  obtain ⟨_, o, ho, hc⟩ := hr g e.symm
  rw [hs] at ho
  cases ho
  cases hc
theorem not_row4 {W : World} {g : Nat} {cs : Array Value} {t e : TypeId} (h : W.heap[g]? = some (.cells cs t (0, 0))) (hte : t ≠ e) {base size k : Nat} {v : Value} {xs : List Value} (hr : W.ownsRow base e size v k xs) : some g ≠ v.ownBlock := by
  rcases hr.2 with ⟨rfl, _⟩ | ⟨g', cap, cur, rfl, _, hgb, _⟩
  · simp [Value.ownBlock]
  · intro e'
    obtain rfl : g = g' := by simpa [Value.ownBlock] using e'
    have := h.symm.trans hgb
    simp at this
    exact hte this.2

set_option maxRecDepth 100000 in
set_option maxHeartbeats 2000000 in
theorem appendSeq_in (F : Fence) (n : Nat) (h11 : F.fn 85) (hro : F.round = none) (hn : 2 ≤ n) (g : Nat) (lb : Array Value) (hFg : F.fn g) (eg : ∀ args w, (callFunc g args).run Tryz.prog w = .ok (.enter g args) w)
    (S Sp : List Nm → Prop) (N : Nat) (hN : N ≤ maxLen) (hNb : N * 32 ≤ 140737488355328) (w : World) (hseq : SeqStopsK F (n - 1) Tryz.prog g lb (fun x : Nm => #[nv x]) KeepsWalks S Sp N w) :
    CallsIn F n Tryz.prog 85 #[.slice none 0 0, .func (.func g) #[] lb] w fun e w' => ∃ (v : Value) (ss : List Nm), e = .returned v ∧ S ss ∧ w'.ownsRow w.heap.size 46 4 v ss.length (ss.flatMap nvs) ∧ (v = .slice none 0 0 ↔ ss = []) ∧ Below w.heap.size w w' := by
  have h1 : 1 ≤ n := by omega
  obtain ⟨i0, hi, hz0, hz1, hz2⟩ := info_parts infoName
  refine callsIn_of_wp_marks Tryz.func85 rfl h11 ?_ hro
  simp only [Tryz.ntmps85, List.size_toArray, List.length_cons, List.length_nil, Nat.reduceAdd, Nat.reduceSub, Array.replicate_succ, Array.replicate_zero, List.push_toArray, List.append_toArray, List.nil_append, List.cons_append]
  gi_wp2
  have bO := Boxed.new w 84 (.slice none 0 0)
  have hB0 : Below w.heap.size w (w.alloc (.cells #[.slice none 0 0] 84)) := (Below.refl _ w).alloc (Nat.le_refl _) _
  refine wpIn_rangeFunc_ownH hro h1 (gf := g) (lb := lb) rfl hFg eg hseq walksK_t walksK_b hB0 (fun _ => rfl)
    (fun pre W => (∃ v, Boxed W w.heap.size 84 v ∧ W.ownsRow w.heap.size 46 4 v pre.length (pre.flatMap nvs) ∧ (v = .slice none 0 0 ↔ pre = [])) ∧ Below w.heap.size w W)
    (fun _ _ _ => False)
    (OwnFrom.and (Own.from (holdsRow_own w.heap.size w.heap.size 84 46 4 (fun pre : List Nm => pre.length) (fun pre => pre.flatMap nvs) (fun pre v => v = .slice none 0 0 ↔ pre = [])) _) (ownFrom_below (Nat.le_refl _) (by simp)))
    (fun _ _ _ _ _ hs _ _ => hs)
    ⟨⟨_, bO, ⟨rfl, .inl ⟨rfl, rfl⟩⟩, by simp⟩, hB0⟩
    (fun x a' W => ∃ Bx, w.heap.size < Bx ∧ W.heap[Bx]? = some (.cells #[.int .i64 x.kind, .int .i64 x.of_, .int .u32 x.page, .int .i64 x.slot] 46 (0, 0)) ∧ a' = { tmps := #[.slice none 0 0, .func (.func g) #[] lb, .pointer (some ⟨w.heap.size, 0, none⟩), undef, .slice none 0 0, .pointer (some ⟨Bx, 0, none⟩), .func (.func g) #[] lb, nv x, undef, undef, undef, undef, undef], defers := [] })
    (fun x a' _ X Y row hs hg hr => by
      obtain ⟨Bx, h1, h2, h3⟩ := hs
      exact ⟨Bx, h1, cells_own _ Bx _ _ () X Y row h2 hg hr, h3⟩)
    ?assign ?body ?done ?stop
  case assign =>
    rintro l pre ⟨k, o, p, s⟩ W K ⟨⟨v, hv, hrow, hnil⟩, hB⟩ hK
    have hlt := hv.lt
    simp only [nv]
    gi_wp2
    exact hK _ _ ((KeepsOthers.alloc _ _).from _) (KeepsWalks.alloc _ _) ⟨⟨v, hv.alloc _, hrow.alloc _, hnil⟩, hB.alloc hB.size _⟩ ⟨W.heap.size, hlt, heap_alloc_new W _, rfl⟩
  case body =>
    rintro l pre ⟨k, o, p, s⟩ a' W hl ⟨r, hr⟩ ⟨⟨v, hv, hrow, hnil⟩, hB⟩ ⟨Bx, hBx, bX, rfl⟩ hlt
    have hc := hv.cell
    have b0 := cell_of_row W Bx 0 _ _ (0, 0) bX
    have b1 := cell_of_row W Bx 1 _ _ (0, 0) bX
    have b2 := cell_of_row W Bx 2 _ _ (0, 0) bX
    have b3 := cell_of_row W Bx 3 _ _ (0, 0) bX
    change W.cell? _ = some (.int .i64 k) at b0
    change W.cell? _ = some (.int .i64 o) at b1
    change W.cell? _ = some (.int .u32 p) at b2
    change W.cell? _ = some (.int .i64 s) at b3
    show Code.wpIn _ _ _ _ _ { tmps := #[.slice none 0 0, .func (.func g) #[] lb, .pointer (some ⟨w.heap.size, 0, none⟩), undef, .slice none 0 0, .pointer (some ⟨Bx, 0, none⟩), .func (.func g) #[] lb, .agg #[.int .i64 k, .int .i64 o, .int .u32 p, .int .i64 s], undef, undef, undef, undef, undef], defers := [] } W
    gi_wp2_with (gi_at_builtin; refine wpListIn_append_own _ rfl _ _ 84 rfl w.heap.size 46 i0 (.agg #[.int .i64 0, .int .i64 0, .int .u32 0, .int .i64 0]) 4 32 Tryz.underlying84 hi hz0 hz1 hz2 rfl (by decide) _ _ _ rfl (hrow.alloc _) ⟨W.heap.size, 0, none⟩ 1 1 [.int .i64 k, .int .i64 o, .int .u32 p, .int .i64 s] rfl rfl (World.news_of_block (cs := #[.int .i64 k, .int .i64 o, .int .u32 p, .int .i64 s]) (t := 46) (fr := (0, 0)) (heap_alloc_new W _)) (by simp [Value.oneCell']) (by omega) (by omega) (by have := hB.size; simp; omega) ?_; intro v' w1 hown' hgrow _; obtain ⟨g', cap', rfl⟩ := ownsRow_succ hown'; obtain ⟨hv1, hv2, hr2, hk2, hb2⟩ := hv.appended (by decide) hrow hB.size (Nat.le_refl _) hown' hgrow; have hc1 := hv1.cell; have hf1 := hv1.frozen)
    exact ⟨hk2.from _, hk2.walks, ⟨_, hv2, by rw [← nvs_snoc, List.length_append]; exact hr2, by simp⟩, hB.trans hb2⟩
  case done =>
    rintro D ys W hD hS ⟨⟨v, hv, hrow, hnil⟩, hB⟩ hK
    have hc := hv.cell
    gi_wp2
    refine ⟨by simp, .inl ⟨_, _, rfl, run_takeDeferred hK, ?_⟩⟩
    exact ⟨_, results_tmp rfl _ _ _, v, ys, rfl, hS, ownsRow_putObj hrow _ hK rfl, hnil, hB.trans (belowK_b (w := w) (Nat.le_refl _) W D _ _ (by simp at hD; omega) hK rfl rfl)⟩
  case stop =>
    rintro D c pre W _ _ h _
    exact h.elim
end Go.Proofs.YtcdlplbccblbaaaGreat
