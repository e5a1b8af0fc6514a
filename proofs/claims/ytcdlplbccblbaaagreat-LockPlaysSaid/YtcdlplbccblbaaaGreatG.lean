import Derived.Test.YtcdlplbccblbaaaGreatDf
import Derived.Maps.AppendAt
namespace Go.Proofs.YtcdlplbccblbaaaGreat
open Go.RowKit
set_option linter.unusedVariables false

/-! ### What granting does -/
structure Gs where
  q : List Ak
  out : List Int
  stop : Bool
def fired (a : Ak) : Ak := ⟨a.tx, if a.inst = true then a.has else a.wants, 0, false⟩
/-- Is it none of this round's? -/
def passed (conv : Bool) (a : Ak) : Bool := a.wants == 0 || ((a.has != 0) != conv)
def gstep (conv : Bool) (i : Nat) (s : Gs) : Gs :=
  if s.stop = true then s else match s.q[i]? with
  | none => s
  | some a => if passed conv a = true then s else if mayS s.q a.tx a.wants = true then ⟨s.q.set i (fired a), s.out ++ [a.tx], false⟩ else { s with stop := true }
def gpass (conv : Bool) : Nat → Gs → Gs
  | 0, s => s
  | k + 1, s => gstep conv k (gpass conv k s)
def gk (q : List Ak) : Nat → Gs
  | 0 => ⟨q, [], false⟩
  | k + 1 => gpass (k == 0) q.length (gk q k)
def gq (q : List Ak) : List Ak := stay (gk q 2).q
def gout (q : List Ak) : List Int := (gk q 2).out

theorem gstep_len (conv : Bool) (i : Nat) (s : Gs) : (gstep conv i s).q.length = s.q.length := by
  unfold gstep
  split
  · rfl
  · split
    · rfl
    · split
      · rfl
      · split <;> simp
theorem gstep_out (conv : Bool) (i : Nat) (s : Gs) : (gstep conv i s).out.length ≤ s.out.length + 1 := by
  unfold gstep
  split
  · simp
  · split
    · simp
    · split
      · simp
      · split <;> simp
theorem gpass_len (conv : Bool) (k : Nat) (s : Gs) : (gpass conv k s).q.length = s.q.length := by
  induction k with
  | zero => rfl
  | succ k ih => unfold gpass; rw [gstep_len, ih]
theorem gpass_out (conv : Bool) (k : Nat) (s : Gs) : (gpass conv k s).out.length ≤ s.out.length + k := by
  induction k with
  | zero => exact Nat.le_refl _
  | succ k ih => unfold gpass; have := gstep_out conv k (gpass conv k s); omega
theorem gk_len (q : List Ak) (k : Nat) : (gk q k).q.length = q.length := by
  induction k with
  | zero => rfl
  | succ k ih => unfold gk; rw [gpass_len, ih]
theorem gk_out (q : List Ak) (k : Nat) : (gk q k).out.length ≤ k * q.length := by
  induction k with
  | zero => simp [gk]
  | succ k ih => unfold gk; have := gpass_out (k == 0) q.length (gk q k); rw [Nat.succ_mul]; omega
theorem gpass_stop (conv : Bool) (s : Gs) (h : s.stop = true) (k : Nat) : gpass conv k s = s := by
  induction k with
  | zero => rfl
  | succ k ih => unfold gpass; rw [ih]; unfold gstep; rw [if_pos h]
theorem gpass_stopped {conv : Bool} {s : Gs} {j : Nat} (h : (gpass conv j s).stop = true) {k : Nat} (hk : j ≤ k) : gpass conv k s = gpass conv j s := by
  induction k with
  | zero => obtain rfl : j = 0 := by omega
            rfl
  | succ k ih =>
    rcases Nat.lt_or_ge k j with h' | h'
    · obtain rfl : j = k + 1 := by omega
      rfl
    · have e : gpass conv (k + 1) s = gstep conv k (gpass conv k s) := rfl
      rw [e, ih h']
      unfold gstep
      rw [if_pos h]

/-! ### A row of numbers -/
def iv (n : Int) : Value := .int .i64 n
theorem infoInt : (Tryz.prog.info? 3).map (fun i => (i.zero, i.size, i.bytes)) = some (some (.int .i64 0), 1, 8) := by kernel_rfl
/-- v is a row of these numbers, nil if there are none. -/
def IntsAt (w : World) (base : Nat) (v : Value) (l : List Int) : Prop := w.ownsRow base 3 1 v l.length (l.map iv) ∧ (v = .slice none 0 0 ↔ l = [])

/-- A table within granting. -/
structure GI (w : World) (T QB WB : Nat) (R1 : List Row) (r : Row) (R2 : List Row) (W : List (Int × Nm)) (s : Gs) (v : Value) (wr : World) : Prop where
  tab : Tab wr T QB WB (R1 ++ { r with q := s.q } :: R2) (W.filter fun p => !s.out.contains p.1)
  own : IntsAt wr w.heap.size v s.out
  keeps : Keeps w wr (Foot T QB WB (R1 ++ r :: R2))
  name : Blk wr w.heap.size 46 #[.int .i64 r.n.kind, .int .i64 r.n.of_, .int .u32 r.n.page, .int .i64 r.n.slot]
section
variable {w wr w' : World} {T QB WB : Nat} {R1 R2 : List Row} {r : Row} {W : List (Int × Nm)} {s : Gs} {v : Value}
theorem IntsAt.of_block {base : Nat} {l : List Int} (h : IntsAt w base v l) (hs : w.heap.size ≤ w'.heap.size) (hb : ∀ k, k < w.heap.size → base ≤ k → w'.heap[k]? = w.heap[k]?) : IntsAt w' base v l := by
  refine ⟨⟨h.1.1, ?_⟩, h.2⟩
  rcases h.1.2 with h0 | ⟨g', cap', cur, hv, hg, hb', r1⟩
  · exact .inl h0
  · have hlt : g' < w.heap.size := (Array.getElem?_eq_some_iff.1 hb').1
    exact .inr ⟨g', cap', cur, hv, hg, (hb g' hlt hg).trans hb', r1⟩
theorem GI.below (h : GI w T QB WB R1 r R2 W s v wr) (hb : Below wr.heap.size wr w') : GI w T QB WB R1 r R2 W s v w' := by
  have hlt : w.heap.size < wr.heap.size := h.name.lt
  exact ⟨h.tab.below hb, h.own.of_block hb.size (fun k hk _ => hb.block k hk), h.keeps.trans (F' := fun _ => False) (.of_below hb _) (fun _ _ h => h.elim), h.name.of_block (hb.block _ hlt)⟩
end

theorem gstep_skip {conv : Bool} {i : Nat} {s : Gs} (h0 : s.stop = false) (hi : i < s.q.length) (h : passed conv s.q[i] = true) : gstep conv i s = s := by
  unfold gstep
  rw [if_neg (by simp [h0]), List.getElem?_eq_getElem hi]
  simp only [h, if_true]
theorem gstep_halt {conv : Bool} {i : Nat} {s : Gs} (h0 : s.stop = false) (hi : i < s.q.length) (h : passed conv s.q[i] = false) (hm : mayS s.q s.q[i].tx s.q[i].wants = false) : gstep conv i s = { s with stop := true } := by
  unfold gstep
  rw [if_neg (by simp [h0]), List.getElem?_eq_getElem hi]
  simp [h, hm]
theorem gstep_fire {conv : Bool} {i : Nat} {s : Gs} (h0 : s.stop = false) (hi : i < s.q.length) (h : passed conv s.q[i] = false) (hm : mayS s.q s.q[i].tx s.q[i].wants = true) :
    gstep conv i s = ⟨s.q.set i (fired s.q[i]), s.out ++ [s.q[i].tx], false⟩ := by
  unfold gstep
  rw [if_neg (by simp [h0]), List.getElem?_eq_getElem hi]
  simp [h, hm]

theorem filter_out (W : List (Int × Nm)) (l : List Int) (tx : Int) : (W.filter fun p => !l.contains p.1).filter (fun p => p.1 != tx) = W.filter fun p => !(l ++ [tx]).contains p.1 := by
  rw [List.filter_filter]
  congr 1
  funext p
  rw [Bool.eq_iff_iff]
  simp
  exact And.comm

section
variable {w w2 w3 w5 : World} {T QB WB : Nat} {R1 R2 : List Row} {r : Row} {W : List (Int × Nm)} {sg : Gs} {v : Value}
theorem IntsAt.far {base : Nat} {l : List Int} (h : IntsAt w base v l) {k : Nat} (hk : k < base) : some k ≠ v.ownBlock := by
  rcases h.1.2 with ⟨rfl, _⟩ | ⟨g', cap', cur, rfl, hg, _⟩
  · simp [Value.ownBlock]
  · intro e
    obtain rfl : k = g' := by simpa [Value.ownBlock] using e
    omega
theorem GI.fire (h0 : Tab w T QB WB (R1 ++ r :: R2) W) (h : GI w T QB WB R1 r R2 W sg v w2) {i : Nat} (hi : i < sg.q.length)
    (hw3 : w3 = if sg.q[i].inst = true then w2 else w2.setCell ⟨r.g, i * 4 + 1, none⟩ (.int .i64 sg.q[i].wants))
    (hw5 : w5 = (w3.setCell ⟨r.g, i * 4 + 2, none⟩ (.int .i64 0)).setCell ⟨r.g, i * 4 + 3, none⟩ (.bool false)) :
    Keeps w2 w5 (· = r.g) ∧ ∃ w6, (Builtin.delete_ #[35, 3] 0 #[.map (some WB), .int .i64 sg.q[i].tx]).run Tryz.prog w5.drew = .ok (.tuple #[]) w6 ∧ Turned w5.drew w6 WB ∧ IntsAt w6 w.heap.size v sg.out ∧
      ∀ w7 w8 v', Below w6.heap.size w6 w7 → w7.grownBy w8 v.ownBlock → IntsAt w8 w.heap.size v' (sg.out ++ [sg.q[i].tx]) → GI w T QB WB R1 r R2 W ⟨sg.q.set i (fired sg.q[i]), sg.out ++ [sg.q[i].tx], false⟩ v' w8 := by
  have hg : r.g < w.heap.size := (h0.rows r (by simp)).lt
  have hfoot : ∀ {k}, Foot T QB WB (R1 ++ r :: R2) k → k < w.heap.size := fun hk => h0.foot_lt hk
  have t3 : Tab w3 T QB WB (R1 ++ { r with q := sg.q.set i { sg.q[i] with has := if sg.q[i].inst = true then sg.q[i].has else sg.q[i].wants } } :: R2) (W.filter fun p => !sg.out.contains p.1) ∧ Keeps w2 w3 (· = r.g) := by
    rw [hw3]
    cases hin : sg.q[i].inst with
    | true =>
      refine ⟨?_, .refl _ _⟩
      have e : sg.q.set i (⟨sg.q[i].tx, sg.q[i].has, sg.q[i].wants, true⟩ : Ak) = sg.q := by
        rw [show (⟨sg.q[i].tx, sg.q[i].has, sg.q[i].wants, true⟩ : Ak) = sg.q[i] from by rw [← hin]]
        exact List.set_getElem_self hi
      simp only [if_true]
      have := h.tab
      simpa [e, hin] using this
    | false =>
      refine ⟨?_, by simpa using Keeps.setCell w2 ⟨r.g, i * 4 + 1, none⟩ _ (F := (· = r.g)) (Eq.refl r.g)⟩
      have := h.tab.putCell (r := { r with q := sg.q }) hi (j := 1) (by omega) (a := { sg.q[i] with has := sg.q[i].wants }) (u := .int .i64 sg.q[i].wants) rfl
      simpa [hin] using this
  have t4 := t3.1.putCell (k := i) (by simpa using hi) (j := 2) (by omega) (a := { sg.q[i] with has := if sg.q[i].inst = true then sg.q[i].has else sg.q[i].wants, wants := 0 }) (u := .int .i64 0) (by simp [av])
  have t5 := t4.putCell (k := i) (by simpa using hi) (j := 3) (by omega) (a := fired sg.q[i]) (u := .bool false) (by simp [av, fired])
  simp only [List.set_set] at t5
  have hk5 : Keeps w2 w5 (· = r.g) := by
    rw [hw5]
    exact (t3.2.trans (F' := (· = r.g)) (Keeps.setCell _ ⟨r.g, i * 4 + 2, none⟩ _ (Eq.refl r.g)) (fun _ _ h => h)).trans (F' := (· = r.g)) (Keeps.setCell _ ⟨r.g, i * 4 + 3, none⟩ _ (Eq.refl r.g)) (fun _ _ h => h)
  refine ⟨hk5, ?_⟩
  rw [← hw5] at t5
  obtain ⟨w6, hrun, t6, ht6⟩ := (t5.below (Below.refl _ _).drew).unwait sg.q[i].tx 0
  rw [filter_out] at t6
  have hs2 : w.heap.size < w2.heap.size := h.name.lt
  have hk6 : Keeps w2 w6 (Foot T QB WB (R1 ++ r :: R2)) :=
    ((hk5.mono (F' := Foot T QB WB (R1 ++ r :: R2)) (fun k _ e => .inr (.inr (.inr (by simp [e]))))).trans (F' := fun _ => False) (.of_below (Below.refl _ _).drew _) (fun _ _ h => h.elim)).trans (.of_turned ht6 (F := Foot T QB WB (R1 ++ r :: R2)) (.inr (.inr (.inl rfl)))) (fun _ _ h => h)
  have ho6 : IntsAt w6 w.heap.size v sg.out := h.own.of_block hk6.size (fun k hk hb => hk6.block k hk (fun hf => by have := hfoot hf; omega))
  refine ⟨w6, hrun, ht6, ho6, fun w7 w8 v' hb hgr hi8 => ?_⟩
  have hblk : ∀ k, k < w.heap.size + 1 → w8.heap[k]? = w6.heap[k]? := fun k hk => by
    have h6 := hk6.size
    have h7 := hb.size
    refine (hgr.block k (by omega) (h.own.1.2.elim (fun e => ?_) (fun e => ?_))).trans (hb.block k (by omega))
    · rw [e.1]; simp [Value.ownBlock]
    · obtain ⟨g', cap', cur, rfl, hg', hbk, _⟩ := e
      intro e2
      obtain rfl : k = g' := by simpa [Value.ownBlock] using e2
      have hnm := h.name
      obtain rfl : k = w.heap.size := by omega
      unfold Blk at hnm
      rw [hnm] at hbk
      injection hbk with hbk
      injection hbk with _ hbk
      exact absurd hbk (by decide)
  refine ⟨t6.of_blocks fun k hk => hblk k ?_, hi8, ?_, ?_⟩
  · have : Foot T QB WB (R1 ++ r :: R2) k := by
      rcases hk with hk | hk | hk | hk
      · exact .inl hk
      · exact .inr (.inl hk)
      · exact .inr (.inr (.inl hk))
      · exact .inr (.inr (.inr (by simpa using hk)))
    have := hfoot this
    omega
  · refine (h.keeps.trans hk6 (fun _ _ h => h)).trans (F' := fun k => w.heap.size < k) ⟨?_, ?_, ?_, ?_, ?_⟩ (fun k hk h => by omega)
    · exact hgr.os.trans hb.os
    · exact hgr.tape.trans hb.tape
    · exact hgr.output.trans hb.output
    · exact Nat.le_trans hb.size hgr.size
    · intro k hk hn; exact hblk k (by omega)
  · exact (h.name.of_block (hk6.block _ hs2 (fun hf => by have := hfoot hf; omega))).of_block (hblk _ (by omega))
end

/-- 'delete(m, k)' as a step of a region that draws, its run known as an equation. -/
theorem step_delete_run {P : Program} {ops : Array Oper} {o : Oper} {a : Act} {w : World} {K : Act → World → Prop} {Q : Exit → Act → World → Prop} {E : Prop} (hg : o.guard = none) (m x : Operand) (t k : TypeId)
    (hop : o.op = Op.call { callee := Callee.builtin Builtin.delete, args := #[m, x], argTypes := #[t, k] }) (hty : o.type = 0) (vm vx : Value) (hm : a.eval m = vm) (hx : a.eval x = vx) {w' : World}
    (hrun : (Builtin.delete_ #[t, k] 0 #[vm, vx]).run P w = .ok (.tuple #[]) w') (hK : K (a.put o.dst (.tuple #[])) w') :
    if Region.wanted o (yielded ops a.tmps) = true then Oper.wp P o a w K Q else E := by
  have hw : Region.wanted o (yielded ops a.tmps) = true := by simp [Region.wanted, hg]
  rw [if_pos hw]
  unfold Oper.wp
  simp [execOp, hop, hty, resolve, invoke, builtin, hm, hx, hrun, Result.andThen]
  exact hK

section
variable {w w' : World} {T QB WB : Nat} {R1 R2 : List Row} {r : Row} {W : List (Int × Nm)}
theorem IntsAt.other {base : Nat} {v : Value} {l : List Int} (h : IntsAt w base v l) {k : Nat} {t : TypeId} {cs : Array Value} (hb : Blk w k t cs) (ht : t ≠ 3) : some k ≠ v.ownBlock := by
  rcases h.1.2 with ⟨rfl, _⟩ | ⟨g', cap', cur, rfl, hg, hb', _⟩
  · simp [Value.ownBlock]
  · intro e
    obtain rfl : k = g' := by simpa [Value.ownBlock] using e
    unfold Blk at hb
    rw [hb] at hb'
    simp at hb'
    exact ht hb'.2
theorem IntsAt.snoc {base : Nat} {v v' : Value} {l : List Int} {x : Int} (h : w.ownsRow base 3 1 v' (l.length + 1) (l.map iv ++ [iv x])) (hn : v' = .slice none 0 0 ↔ v = .slice none 0 0 ∧ 1 = 0) : IntsAt w base v' (l ++ [x]) :=
  ⟨by simpa using h, by rw [hn]; simp⟩

/-- A lock's queue is another one, in the map too. -/
theorem Tab.rerow (h : Tab w T QB WB (R1 ++ r :: R2) W) (hk : Keeps w w' (· = r.g)) {g' cap' : Nat} {q' : List Ak} (hrow : RowAt w' g' cap' q') (hat : g' = r.g ∨ w.heap.size ≤ g') :
    ∃ w2, (Instr.mapUpdate 34 (.map (some QB)) (nv r.n) (.slice (some ⟨g', 0, none⟩) q'.length cap')).run Tryz.prog w' = .ok () w2 ∧ Tab w2 T QB WB (R1 ++ ⟨r.n, g', cap', q'⟩ :: R2) W ∧ Turned w' w2 QB := by
  obtain ⟨k1, k2, k3⟩ := h.kinds
  obtain ⟨e1, e2, e3⟩ := k3 r (by simp)
  have hap := h.apart
  rw [List.map_append, List.map_cons, List.nodup_append] at hap
  obtain ⟨n1, n2, n3⟩ := hap
  rw [List.nodup_cons] at n2
  have hblk : ∀ k, Foot T QB WB (R1 ++ r :: R2) k → k ≠ r.g → w'.heap[k]? = w.heap[k]? := fun k hf hne => hk.block k (h.foot_lt hf) hne
  have hq1 : MapAt KN w' QB (R1.map (fun r => (r.n, r.v)) ++ (r.n, r.v) :: R2.map (fun r => (r.n, r.v))) := by
    have := h.qm.of_block (hblk QB (.inr (.inl rfl)) (fun e => e2 e.symm))
    simpa using this
  obtain ⟨w2, hrun, hm, ht⟩ := hq1.put_old Tryz.underlying34 (.slice (some ⟨g', 0, none⟩) q'.length cap')
  have hkey : ∀ k, Foot T QB WB (R1 ++ r :: R2) k → k ≠ r.g → k ≠ g' := by
    intro k hf hne e
    rcases hat with h' | h'
    · exact hne (e.trans h')
    · have := h.foot_lt hf; omega
  have hg'Q : g' ≠ QB := fun e => by
    rcases hat with h' | h'
    · exact e2 (h' ▸ e)
    · have := h.qm.lt; omega
  refine ⟨w2, hrun, ⟨?_, by simpa [Row.v] using hm, ?_, h.ne, ?_, ?_⟩, ht⟩
  · exact (h.head.of_block (hblk T (.inl rfl) (fun e => e1 e.symm))).of_block (ht.block T k1)
  · exact (h.wm.of_block (hblk WB (.inr (.inr (.inl rfl))) (fun e => e3 e.symm))).of_block (ht.block WB (fun e => h.ne e.symm))
  · have hfar : ∀ x ∈ R1 ++ r :: R2, x.g ≠ r.g → RowAt w2 x.g x.cap x.q := fun x hx hne =>
      ((h.rows x hx).of_block (hblk x.g (.inr (.inr (.inr (List.mem_map_of_mem hx)))) hne)).of_block (ht.block _ (k3 x hx).2.1)
    intro r' hr'
    rw [List.mem_append, List.mem_cons] at hr'
    rcases hr' with hr' | rfl | hr'
    · exact hfar r' (by simp [hr']) (fun e => n3 r'.g (List.mem_map_of_mem hr') r.g (by simp) e)
    · exact hrow.of_block (ht.block g' hg'Q)
    · exact hfar r' (by simp [hr']) (fun e => n2.1 (e ▸ List.mem_map_of_mem hr'))
  · rw [List.map_append, List.map_cons, List.nodup_append, List.nodup_cons]
    refine ⟨n1, ⟨?_, n2.2⟩, ?_⟩
    · intro hm'
      obtain ⟨x, hx, hxg⟩ := List.mem_map.1 hm'
      exact hkey x.g (.inr (.inr (.inr (List.mem_map_of_mem (by simp [hx]))))) (fun e => n2.1 (e ▸ List.mem_map_of_mem hx)) hxg
    · intro x hx y hy
      rw [List.mem_cons] at hy
      rcases hy with rfl | hy
      · obtain ⟨x', hx', rfl⟩ := List.mem_map.1 hx
        exact hkey x'.g (.inr (.inr (.inr (List.mem_map_of_mem (by simp [hx']))))) (fun e => n3 x'.g (List.mem_map_of_mem hx') r.g (by simp) e)
      · exact n3 x hx y (by simp [hy])
/-- A lock is taken out of the map. -/
theorem Tab.unrow (h : Tab w T QB WB (R1 ++ r :: R2) W) (hk : Keeps w w' (· = r.g)) :
    ∃ w2, (Builtin.delete_ #[34, 46] 0 #[.map (some QB), nv r.n]).run Tryz.prog w' = .ok (.tuple #[]) w2 ∧ Tab w2 T QB WB (R1 ++ R2) W ∧ Turned w' w2 QB := by
  obtain ⟨k1, k2, k3⟩ := h.kinds
  obtain ⟨e1, e2, e3⟩ := k3 r (by simp)
  have hap := h.apart
  rw [List.map_append, List.map_cons, List.nodup_append] at hap
  obtain ⟨n1, n2, n3⟩ := hap
  rw [List.nodup_cons] at n2
  have hblk : ∀ k, Foot T QB WB (R1 ++ r :: R2) k → k ≠ r.g → w'.heap[k]? = w.heap[k]? := fun k hf hne => hk.block k (h.foot_lt hf) hne
  have hq1 : MapAt KN w' QB (R1.map (fun r => (r.n, r.v)) ++ (r.n, r.v) :: R2.map (fun r => (r.n, r.v))) := by
    have := h.qm.of_block (hblk QB (.inr (.inl rfl)) (fun e => e2 e.symm))
    simpa using this
  obtain ⟨w2, hrun, hm, ht⟩ := hq1.del_old (ty := 0) Tryz.underlying34
  refine ⟨w2, hrun, ⟨?_, by simpa using hm, ?_, h.ne, ?_, ?_⟩, ht⟩
  · exact (h.head.of_block (hblk T (.inl rfl) (fun e => e1 e.symm))).of_block (ht.block T k1)
  · exact (h.wm.of_block (hblk WB (.inr (.inr (.inl rfl))) (fun e => e3 e.symm))).of_block (ht.block WB (fun e => h.ne e.symm))
  · have hfar : ∀ x ∈ R1 ++ r :: R2, x.g ≠ r.g → RowAt w2 x.g x.cap x.q := fun x hx hne =>
      ((h.rows x hx).of_block (hblk x.g (.inr (.inr (.inr (List.mem_map_of_mem hx)))) hne)).of_block (ht.block _ (k3 x hx).2.1)
    intro r' hr'
    rw [List.mem_append] at hr'
    rcases hr' with hr' | hr'
    · exact hfar r' (by simp [hr']) (fun e => n3 r'.g (List.mem_map_of_mem hr') r.g (by simp) e)
    · exact hfar r' (by simp [hr']) (fun e => n2.1 (e ▸ List.mem_map_of_mem hr'))
  · rw [List.map_append, List.nodup_append]
    exact ⟨n1, n2.2, fun x hx y hy => n3 x hx y (by simp [hy])⟩
end

section
variable {w : World} {T QB WB : Nat} {R1 R2 : List Row} {r : Row} {W : List (Int × Nm)}
/-- What granting leaves of the queues. -/
def gR (R1 : List Row) (r : Row) (R2 : List Row) : List Row := if (gq r.q).isEmpty = true then R1 ++ R2 else R1 ++ { r with q := gq r.q } :: R2

set_option maxRecDepth 100000 in
set_option maxHeartbeats 4000000 in
theorem grant_any (h : Tab w T QB WB (R1 ++ r :: R2) W) (hlen : r.q.length ≤ 1000000) {v0 : Value} (hv0 : v0 = nv r.n) :
    Calls Tryz.prog 37 #[.pointer (some ⟨T, 0, none⟩), v0] w fun e w' => ∃ v, e = .returned v ∧ IntsAt w' w.heap.size v (gout r.q) ∧
      Tab w' T QB WB (gR R1 r R2) (W.filter fun p => !(gout r.q).contains p.1) ∧ Keeps w w' (Foot T QB WB (R1 ++ r :: R2)) := by
  obtain ⟨n, g, cap, q⟩ := r
  obtain ⟨k, o, p, s⟩ := n
  simp only [nv] at hv0
  subst hv0
  obtain ⟨i0, hi0, hz0, hz1, hz2⟩ := info_parts infoInt
  have HT := Lib.hid h
  have hW : (W.filter fun p => !([] : List Int).contains p.1) = W := by simp
  go_enter Tryz.func37, Tryz.ntmps37
  obtain ⟨wA, hwA⟩ : ∃ wA, wA = w.alloc (.cells #[.int .i64 k, .int .i64 o, .int .u32 p, .int .i64 s] 46) := ⟨_, rfl⟩
  have hG0 : GI w T QB WB R1 ⟨⟨k, o, p, s⟩, g, cap, q⟩ R2 W (gk q 0) (.slice none 0 0) wA := by
    have hb : Below w.heap.size w wA := by rw [hwA]; exact (Below.refl _ _).alloc (Nat.le_refl _) _
    exact ⟨by rw [show (gk q 0).out = [] from rfl, hW]; exact h.below hb, ⟨⟨rfl, .inl ⟨rfl, rfl⟩⟩, by simp [gk]⟩, .of_below hb _, by rw [hwA]; exact Blk.new _ _ _⟩
  go_wp2_with fail
  rw [← hwA]
  have c0 := hG0.tab.head.cell 0
  have b0 := hG0.name.cell 0
  have b1 := hG0.name.cell 1
  have b2 := hG0.name.cell 2
  have b3 := hG0.name.cell 3
  simp at c0 b0 b1 b2 b3
  have hlk : ∀ q', (Instr.lookup 34 (.map (some QB)) (.agg #[.int .i64 k, .int .i64 o, .int .u32 p, .int .i64 s]) false).run Tryz.prog (wA.drewN q') = .ok (.slice (some ⟨g, 0, none⟩) q.length cap) (wA.drewN q') := by
    intro q'
    exact (hG0.tab.below (below_drewN (Below.refl _ _) q')).qm.look_some (a := ⟨k, o, p, s⟩) (v := Row.v ⟨⟨k, o, p, s⟩, g, cap, q⟩) Tryz.underlying34 (by simp [Row.v, gk]) false
  clear hwA
  go_quiet (fail)
  obtain ⟨wB, hwB⟩ : ∃ wB, wB = (wA.drewN nq).alloc (.cells #[.bool true, .bool false] 4) := ⟨_, rfl⟩
  have hG1 : GI w T QB WB R1 ⟨⟨k, o, p, s⟩, g, cap, q⟩ R2 W (gk q 0) (.slice none 0 0) wB := by
    rw [hwB]
    exact hG0.below ((below_drewN (Below.refl _ _) nq).alloc (Nat.le_refl _) _)
  have hBb : Blk wB wA.heap.size 4 #[.bool true, .bool false] := by rw [hwB]; exact Blk.new _ _ _
  have hBn : w.heap.size < wA.heap.size := hG0.name.lt
  clear c0 b0 b1 b2 b3 hlk
  go_wp2_with fail
  rw [← hwB]
  clear hwB
  go_loopw [5, 7, 20] (fun v st j wr => ∃ c : Nat, c ≤ 2 ∧ j = .int .i64 c ∧ st = .bool (gk q c).stop ∧ GI w T QB WB R1 ⟨⟨k, o, p, s⟩, g, cap, q⟩ R2 W (gk q c) v wr ∧ Blk wr wA.heap.size 4 #[.bool true, .bool false]) (fun _ _ j _ => 2 - (intOf j).toNat)
  case atStart => exact ⟨0, by omega, rfl, rfl, hG1, hBb⟩
  case round =>
    obtain ⟨c, hc2, rfl, rfl, hG, hBb⟩ := hrel
    by_cases hc : c < 2
    · have hcell : wr.cell? ⟨wA.heap.size, c, none⟩ = some (.bool (c == 0)) := by
        rw [hBb.cell]
        rcases (by omega : c = 0 ∨ c = 1) with rfl | rfl <;> rfl
      obtain ⟨conv, hconv⟩ : ∃ conv, conv = (c == 0) := ⟨_, rfl⟩
      rw [← hconv] at hcell
      have HC := Lib.hid hconv
      have hdc : decide ((c : Int) < 2) = true := by simp; omega
      clear hconv
      go_wp2_with fail
      go_loopw [5, 7, 10] (fun v st j wr => ∃ i : Nat, i ≤ q.length ∧ j = .int .i64 i ∧ st = .bool (gpass conv i (gk q c)).stop ∧ GI w T QB WB R1 ⟨⟨k, o, p, s⟩, g, cap, q⟩ R2 W (gpass conv i (gk q c)) v wr ∧ Blk wr wA.heap.size 4 #[.bool true, .bool false]) (fun _ st j _ => q.length - (intOf j).toNat)
      case atStart => exact ⟨0, by omega, rfl, rfl, hG, hBb⟩
      case round =>
        obtain ⟨i, hiq, rfl, rfl, hG, hBb⟩ := hrel
        obtain ⟨sg, hsg⟩ : ∃ sg, sg = gpass conv i (gk q c) := ⟨_, rfl⟩
        rw [← hsg] at hG
        rw [← hsg]
        have hlsg : sg.q.length = q.length := by rw [hsg, gpass_len, gk_len]
        have HSG := Lib.hid hsg
        clear hsg
        have hdone : ∀ sg', sg' = gpass conv q.length (gk q c) → sg' = gk q (c + 1) := by
          intro sg' e
          rw [e, HC.out]
          rfl
        have HD := Lib.hid hdone
        clear hdone
        cases hst : sg.stop with
        | true =>
          have HX : Hid (sg = gk q (c + 1)) := Lib.hid (HD.out sg (by rw [HSG.out]; exact (gpass_stopped (by rw [← HSG.out]; exact hst) hiq).symm))
          by_cases hlt : i < q.length
          all_goals
            go_wp2_with fail
            go_roundw
            case rel => exact ⟨c + 1, by omega, by go_num, by rw [← HX.out, hst], by rw [← HX.out]; exact hG, hBb⟩
            case measure => simp [intOf]; omega
        | false =>
          by_cases hlt : i < q.length
          · have hiL : i < sg.q.length := by omega
            have hrow : RowAt wr g cap sg.q := hG.tab.rows ⟨⟨k, o, p, s⟩, g, cap, sg.q⟩ (by simp)
            have hrc := hrow.le
            have hrm := hrow.max
            unfold maxLen at hrm
            have hsw : w.heap.size < wr.heap.size := hG.name.lt
            have hBbl := hBb.lt
            obtain ⟨a, ha⟩ : ∃ a, a = sg.q[i] := ⟨_, rfl⟩
            have c0 := hrow.c0 hiL
            have c1 := hrow.c1 hiL
            have c2 := hrow.c2 hiL
            have c3 := hrow.c3 hiL
            rw [← ha] at c0 c1 c2 c3
            have HA := Lib.hid ha
            clear ha
            obtain ⟨wa, hwa⟩ : ∃ wa, wa = wr.alloc (.cells #[.int .i64 a.tx, .int .i64 a.has, .int .i64 a.wants, .bool a.inst] 80) := ⟨_, rfl⟩
            have hBa : Below wr.heap.size wr wa := by rw [hwa]; exact (Below.refl _ _).alloc (Nat.le_refl _) _
            have hGa := hG.below hBa
            have hBba := hBb.of_block (hBa.block _ hBbl)
            have hbla : Blk wa wr.heap.size 80 #[.int .i64 a.tx, .int .i64 a.has, .int .i64 a.wants, .bool a.inst] := by rw [hwa]; exact Blk.new _ _ _
            by_cases hp : passed conv a = true
            · have HP : Hid (gpass conv (i + 1) (gk q c) = sg) := Lib.hid (by
                show gstep conv i (gpass conv i (gk q c)) = sg
                rw [← HSG.out]
                exact gstep_skip hst hiL (by rw [← HA.out]; exact hp))
              cases hw0 : (a.wants == 0) with
              | true =>
                clear hp
                go_wp2_with fail
                rw [← hwa]
                go_roundw
                case rel => exact ⟨i + 1, by omega, by go_num, by rw [HP.out, hst], by rw [HP.out]; exact hGa, hBba⟩
                case measure => simp [intOf]; omega
              | false =>
                have hh : ((a.has != 0) != conv) = true := by unfold passed at hp; rw [hw0] at hp; simpa using hp
                have hh2 : ((a.has != 0) == conv) = false := by revert hh; cases (a.has != 0) <;> cases conv <;> simp
                clear hp
                go_wp2_with fail
                rw [← hwa]
                go_roundw
                case rel => exact ⟨i + 1, by omega, by go_num, by rw [HP.out, hst], by rw [HP.out]; exact hGa, hBba⟩
                case measure => simp [intOf]; omega
            · have hp : passed conv a = false := by simpa using hp
              have hw0 : (a.wants == 0) = false := by unfold passed at hp; revert hp; cases a.wants == 0 <;> simp
              have hh : ((a.has != 0) != conv) = false := by unfold passed at hp; rw [hw0] at hp; simpa using hp
              have hh2 : ((a.has != 0) == conv) = true := by revert hh; cases (a.has != 0) <;> cases conv <;> simp
              have HP := Lib.hid hp
              clear hp
              go_wp2_with fail
              rw [← hwa]
              clear hwa
              refine (may_any _ sg.q a.tx a.wants wa (.inr ⟨g, cap, by rw [hlsg], hrow.of_block (hBa.block _ hrow.lt)⟩)).mono ?_
              rintro e w2 ⟨rfl, hB2⟩
              have hG2 := hGa.below hB2
              have hBb2 := hBba.of_block (hB2.block _ hBba.lt)
              have hbl2 := hbla.of_block (hB2.block _ hbla.lt)
              clear c0 c1 c2 c3
              cases hm : mayS sg.q a.tx a.wants with
              | false =>
                have HX : Hid (({ sg with stop := true } : Gs) = gk q (c + 1)) := Lib.hid (HD.out _ (by
                  have e1 : gpass conv (i + 1) (gk q c) = { sg with stop := true } := by
                    show gstep conv i (gpass conv i (gk q c)) = _
                    rw [← HSG.out]
                    exact gstep_halt hst hiL (by rw [← HA.out]; exact HP.out) (by rw [← HA.out]; exact hm)
                  rw [← e1]
                  exact (gpass_stopped (by rw [e1]) hlt).symm))
                go_wp2_with fail
                go_roundw
                case rel => exact ⟨c + 1, by omega, by go_num, by rw [← HX.out], by rw [← HX.out]; exact ⟨hG2.tab, hG2.own, hG2.keeps, hG2.name⟩, hBb2⟩
                case measure => simp [intOf]; omega
              | true =>
                have hTt : T < w.heap.size := h.head.lt
                have hWt : WB < w.heap.size := h.wm.lt
                have hgt : g < w.heap.size := (h.rows ⟨⟨k, o, p, s⟩, g, cap, q⟩ (by simp)).lt
                obtain ⟨kT1, kT2, kT3⟩ := h.kinds
                obtain ⟨kg1, kg2, kg3⟩ := kT3 ⟨⟨k, o, p, s⟩, g, cap, q⟩ (by simp)
                have hsz2 : wr.heap.size < w2.heap.size := hbl2.lt
                have row2 : RowAt w2 g cap sg.q := hG2.tab.rows ⟨⟨k, o, p, s⟩, g, cap, sg.q⟩ (by simp)
                have d0 := hbl2.cell 0
                have d2 := hbl2.cell 2
                have d3 := hbl2.cell 3
                simp at d0 d2 d3
                cases hin : a.inst with
                | true =>
                  have hfire := hG2.fire (w3 := w2) (w5 := (w2.setCell ⟨g, i * 4 + 2, none⟩ (.int .i64 0)).setCell ⟨g, i * 4 + 3, none⟩ (.bool false)) h hiL (by rw [← HA.out, hin]; rfl) rfl
                  simp only [← HA.out] at hfire
                  obtain ⟨hk5, w6, hrun, ht6, ho6, hfin⟩ := hfire
                  have row4 := row2.put hiL (j := 2) (by omega) (a := { sg.q[i] with wants := 0 }) (u := .int .i64 0) (by simp [av])
                  have e2 := row2.c2 hiL
                  have e3 := row4.c3 (k := i) (by simpa using hiL)
                  have f2 := row2.frozen (i * 4 + 2)
                  have f3 := row4.frozen (i * 4 + 3)
                  obtain ⟨w5, hw5⟩ : ∃ w5, w5 = (w2.setCell ⟨g, i * 4 + 2, none⟩ (.int .i64 0)).setCell ⟨g, i * 4 + 3, none⟩ (.bool false) := ⟨_, rfl⟩
                  rw [← hw5] at hk5 hrun ht6
                  have t5 : Blk w5.drew T 37 #[.map (some QB), .map (some WB)] := hG2.tab.head.of_block (hk5.block T (by omega) (fun e => kg1 e.symm))
                  have a5 : Blk w5.drew wr.heap.size 80 #[.int .i64 a.tx, .int .i64 a.has, .int .i64 a.wants, .bool a.inst] := hbl2.of_block (hk5.block _ (by omega) (by omega))
                  have x1 := t5.cell 1
                  have x0 := a5.cell 0
                  simp at x0 x1
                  go_wp2_with fail
                  rw [← hw5]
                  clear hw5 e2 e3 f2 f3 d0 d2 d3
                  go_region
                  have hsz6 : w5.heap.size = w6.heap.size := ht6.size.symm
                  have a6 := a5.of_block (ht6.block _ (by omega))
                  have x2 := a6.cell 0
                  simp at x2
                  have hBb6 : Blk w6 wA.heap.size 4 #[.bool true, .bool false] := (hBb2.of_block (hk5.block _ hBb2.lt (by omega))).of_block (ht6.block _ (by omega))
                  have hol : sg.out.length ≤ 2 * q.length := by
                    have e1 := gpass_out conv i (gk q c)
                    have e2 := gk_out q c
                    have e3 : c * q.length ≤ 1 * q.length := Nat.mul_le_mul_right _ (by omega)
                    rw [HSG.out]; omega
                  have hwb : w.heap.size ≤ w6.heap.size := by have := hk5.size; omega
                  clear x0 x1
                  go_wp2_with (at_builtin; refine wpList_append_own_at _ rfl _ _ 52 rfl w.heap.size 3 i0 _ 1 8 Tryz.underlying52 hi0 hz0 hz1 hz2 rfl (by decide) _ _ _ rfl (ho6.1.alloc _) ⟨w6.heap.size, 0, none⟩ 1 1 [.int .i64 a.tx] rfl rfl (cell_one_new _ _ _) (by simp [Value.oneCell']) (by unfold maxLen; omega) (by omega) (by simp; omega) ?_; intro v' w8 hown8 hgr8 hnil8 _)
                  have hb7 : Below w6.heap.size w6 (w6.alloc (.cells #[.int .i64 a.tx] 3)) := (Below.refl _ _).alloc (Nat.le_refl _) _
                  have hi8 : IntsAt w8 w.heap.size v' (sg.out ++ [a.tx]) := ⟨by rw [List.length_append, List.map_append]; exact hown8, by simpa using hnil8⟩
                  have hG8 := hfin _ _ _ hb7 hgr8 hi8
                  have hBb8 : Blk w8 wA.heap.size 4 #[.bool true, .bool false] := by
                    refine (hBb6.alloc _).of_block (hgr8.block _ (by have := hBb6.lt; simp; omega) (ho6.other hBb6 (by decide)))
                  have HP2 : Hid (gpass conv (i + 1) (gk q c) = ⟨sg.q.set i (fired a), sg.out ++ [a.tx], false⟩) := Lib.hid (by
                    show gstep conv i (gpass conv i (gk q c)) = _
                    rw [← HSG.out]
                    have := gstep_fire hst hiL (by rw [← HA.out]; exact HP.out) (by rw [← HA.out]; exact hm)
                    rw [← HA.out] at this
                    exact this)
                  go_wp2_with fail
                  go_roundw
                  case rel => exact ⟨i + 1, by omega, by go_num, by rw [HP2.out], by rw [HP2.out]; exact hG8, hBb8⟩
                  case measure => simp [intOf]; omega
                | false =>
                  have hfire := hG2.fire (w3 := w2.setCell ⟨g, i * 4 + 1, none⟩ (.int .i64 a.wants)) (w5 := ((w2.setCell ⟨g, i * 4 + 1, none⟩ (.int .i64 a.wants)).setCell ⟨g, i * 4 + 2, none⟩ (.int .i64 0)).setCell ⟨g, i * 4 + 3, none⟩ (.bool false)) h hiL (by rw [← HA.out, hin]; rfl) rfl
                  simp only [← HA.out] at hfire
                  obtain ⟨hk5, w6, hrun, ht6, ho6, hfin⟩ := hfire
                  have row3 := row2.put hiL (j := 1) (by omega) (a := { sg.q[i] with has := a.wants }) (u := .int .i64 a.wants) (by simp [av])
                  have row4 := row3.put (k := i) (by simpa using hiL) (j := 2) (by omega) (a := { sg.q[i] with has := a.wants, wants := 0 }) (u := .int .i64 0) (by simp [av])
                  have e1 := row2.c1 hiL
                  have f1 := row2.frozen (i * 4 + 1)
                  have e2 := row3.c2 (k := i) (by simpa using hiL)
                  have e3 := row4.c3 (k := i) (by simpa using hiL)
                  have f2 := row3.frozen (i * 4 + 2)
                  have f3 := row4.frozen (i * 4 + 3)
                  obtain ⟨w5, hw5⟩ : ∃ w5, w5 = ((w2.setCell ⟨g, i * 4 + 1, none⟩ (.int .i64 a.wants)).setCell ⟨g, i * 4 + 2, none⟩ (.int .i64 0)).setCell ⟨g, i * 4 + 3, none⟩ (.bool false) := ⟨_, rfl⟩
                  rw [← hw5] at hk5 hrun ht6
                  have t5 : Blk w5.drew T 37 #[.map (some QB), .map (some WB)] := hG2.tab.head.of_block (hk5.block T (by omega) (fun e => kg1 e.symm))
                  have a5 : Blk w5.drew wr.heap.size 80 #[.int .i64 a.tx, .int .i64 a.has, .int .i64 a.wants, .bool a.inst] := hbl2.of_block (hk5.block _ (by omega) (by omega))
                  have x1 := t5.cell 1
                  have x0 := a5.cell 0
                  simp at x0 x1
                  go_wp2_with fail
                  rw [← hw5]
                  clear hw5 e1 f1 e2 e3 f2 f3 d0 d2 d3
                  go_region
                  have hsz6 : w5.heap.size = w6.heap.size := ht6.size.symm
                  have a6 := a5.of_block (ht6.block _ (by omega))
                  have x2 := a6.cell 0
                  simp at x2
                  have hBb6 : Blk w6 wA.heap.size 4 #[.bool true, .bool false] := (hBb2.of_block (hk5.block _ hBb2.lt (by omega))).of_block (ht6.block _ (by omega))
                  have hol : sg.out.length ≤ 2 * q.length := by
                    have e1 := gpass_out conv i (gk q c)
                    have e2 := gk_out q c
                    have e3 : c * q.length ≤ 1 * q.length := Nat.mul_le_mul_right _ (by omega)
                    rw [HSG.out]; omega
                  have hwb : w.heap.size ≤ w6.heap.size := by have := hk5.size; omega
                  clear x0 x1
                  go_wp2_with (at_builtin; refine wpList_append_own_at _ rfl _ _ 52 rfl w.heap.size 3 i0 _ 1 8 Tryz.underlying52 hi0 hz0 hz1 hz2 rfl (by decide) _ _ _ rfl (ho6.1.alloc _) ⟨w6.heap.size, 0, none⟩ 1 1 [.int .i64 a.tx] rfl rfl (cell_one_new _ _ _) (by simp [Value.oneCell']) (by unfold maxLen; omega) (by omega) (by simp; omega) ?_; intro v' w8 hown8 hgr8 hnil8 _)
                  have hb7 : Below w6.heap.size w6 (w6.alloc (.cells #[.int .i64 a.tx] 3)) := (Below.refl _ _).alloc (Nat.le_refl _) _
                  have hi8 : IntsAt w8 w.heap.size v' (sg.out ++ [a.tx]) := ⟨by rw [List.length_append, List.map_append]; exact hown8, by simpa using hnil8⟩
                  have hG8 := hfin _ _ _ hb7 hgr8 hi8
                  have hBb8 : Blk w8 wA.heap.size 4 #[.bool true, .bool false] := by
                    refine (hBb6.alloc _).of_block (hgr8.block _ (by have := hBb6.lt; simp; omega) (ho6.other hBb6 (by decide)))
                  have HP2 : Hid (gpass conv (i + 1) (gk q c) = ⟨sg.q.set i (fired a), sg.out ++ [a.tx], false⟩) := Lib.hid (by
                    show gstep conv i (gpass conv i (gk q c)) = _
                    rw [← HSG.out]
                    have := gstep_fire hst hiL (by rw [← HA.out]; exact HP.out) (by rw [← HA.out]; exact hm)
                    rw [← HA.out] at this
                    exact this)
                  go_wp2_with fail
                  go_roundw
                  case rel => exact ⟨i + 1, by omega, by go_num, by rw [HP2.out], by rw [HP2.out]; exact hG8, hBb8⟩
                  case measure => simp [intOf]; omega
          · obtain rfl : i = q.length := by omega
            have HX : Hid (sg = gk q (c + 1)) := Lib.hid (HD.out sg HSG.out)
            go_wp2_with fail
            go_roundw
            case rel => exact ⟨c + 1, by omega, by go_num, by rw [← HX.out, hst], by rw [← HX.out]; exact hG, hBb⟩
            case measure => simp [intOf]; omega
    · obtain rfl : c = 2 := by omega
      have hrow : RowAt wr g cap (gk q 2).q := hG.tab.rows ⟨⟨k, o, p, s⟩, g, cap, (gk q 2).q⟩ (by simp)
      have hl2 := gk_len q 2
      go_wp2_with fail
      have hcall := deleteFunc_row g cap (gk q 2).q wr hrow
      rw [hl2] at hcall
      refine hcall.mono ?_
      rintro e w2 ⟨rfl, hrow2, hk2⟩
      have hgq : gq q = stay (gk q 2).q := rfl
      rw [← hgq] at hrow2 ⊢
      have hTt : T < w.heap.size := h.head.lt
      have hsw : w.heap.size < wr.heap.size := hG.name.lt
      obtain ⟨kT1, kT2, kT3⟩ := h.kinds
      obtain ⟨kg1, kg2, kg3⟩ := kT3 ⟨⟨k, o, p, s⟩, g, cap, q⟩ (by simp)
      have hgt : g < w.heap.size := (h.rows ⟨⟨k, o, p, s⟩, g, cap, q⟩ (by simp)).lt
      have hQt : QB < w.heap.size := h.qm.lt
      have hkd : Keeps wr w2.drew (· = g) := hk2.trans (F' := fun _ => False) (.of_below (Below.refl _ _).drew _) (fun _ _ h => h.elim)
      have t5 : Blk w2.drew T 37 #[.map (some QB), .map (some WB)] := hG.tab.head.of_block (hkd.block T (by omega) (fun e => kg1 e.symm))
      have a5 : Blk w2.drew w.heap.size 46 #[.int .i64 k, .int .i64 o, .int .u32 p, .int .i64 s] := hG.name.of_block (hkd.block _ hsw (by omega))
      have x0 := t5.cell 0
      have y0 := a5.cell 0
      have y1 := a5.cell 1
      have y2 := a5.cell 2
      have y3 := a5.cell 3
      simp at x0 y0 y1 y2 y3
      have hkf : Keeps w w2.drew (Foot T QB WB (R1 ++ ⟨⟨k, o, p, s⟩, g, cap, q⟩ :: R2)) := hG.keeps.trans hkd (fun _ _ e => .inr (.inr (.inr (by simp [e]))))
      have hmine : ∀ {w6}, Turned w2.drew w6 QB → IntsAt w6 w.heap.size _ (gk q 2).out := fun {w6} ht => hG.own.of_block (by have := hkd.size; have := ht.size; omega) (fun kk hk hb => (ht.block kk (by omega)).trans (hkd.block kk hk (by omega)))
      by_cases he : gq q = []
      · have hgR : gR R1 ⟨⟨k, o, p, s⟩, g, cap, q⟩ R2 = R1 ++ R2 := by unfold gR; rw [if_pos (by simp [he])]
        obtain ⟨w6, hrun, t6, ht6⟩ := hG.tab.unrow (r := ⟨⟨k, o, p, s⟩, g, cap, (gk q 2).q⟩) hkd
        simp only [nv] at hrun
        have hi6 := hmine ht6
        have hl0 : (gq q).length = 0 := by rw [he]; rfl
        rw [hl0]
        clear hmine hcall hgq
        go_wp2_with fail
        go_region_law (refine step_delete_run rfl (.tmp 92) (.tmp 93) 34 46 rfl rfl _ _ (by simp [Act.eval]) (by simp [Act.eval]) hrun ?_)
        all_goals
          go_wp2_with fail
          go_ret
          rw [hgR]
          exact ⟨_, rfl, hi6, t6, hkf.trans (.of_turned ht6 (F := Foot T QB WB (R1 ++ ⟨⟨k, o, p, s⟩, g, cap, q⟩ :: R2)) (.inr (.inl rfl))) (fun _ _ h => h)⟩
      · have hgR : gR R1 ⟨⟨k, o, p, s⟩, g, cap, q⟩ R2 = R1 ++ ⟨⟨k, o, p, s⟩, g, cap, gq q⟩ :: R2 := by unfold gR; rw [if_neg (by simp [he])]
        have hne : ¬ ((gq q).length = 0) := by simpa using he
        have hnb : (((gq q).length : Int) == 0) = false := by rw [beq_eq_false_iff_ne]; omega
        obtain ⟨w6, hrun, t6, ht6⟩ := hG.tab.rerow (r := ⟨⟨k, o, p, s⟩, g, cap, (gk q 2).q⟩) hkd (hrow2.of_block rfl) (.inl rfl)
        simp only [nv] at hrun
        have hi6 := hmine ht6
        clear hmine hcall hgq
        go_wp2_with fail
        go_region
        go_wp2_with fail
        go_ret
        rw [hgR]
        exact ⟨_, rfl, hi6, t6, hkf.trans (.of_turned ht6 (F := Foot T QB WB (R1 ++ ⟨⟨k, o, p, s⟩, g, cap, q⟩ :: R2)) (.inr (.inl rfl))) (fun _ _ h => h)⟩
end
end Go.Proofs.YtcdlplbccblbaaaGreat
