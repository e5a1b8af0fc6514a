import Derived.Test.YtcdlplbccblbaaaGreatQc
namespace Go.Proofs.YtcdlplbccblbaaaGreat
open Go.RowKit
set_option linter.unusedVariables false
set_option linter.unusedSimpArgs false

theorem infoRQ : (Tryz.prog.info? 69).map (fun i => (i.zero, i.size, i.bytes)) = some (some (.agg #[.int .i64 0, .int .i64 0, .int .u32 0, .int .i64 0, .slice none 0 0]), 5, 56) := by kernel_rfl
/-! ### The table with another queue for a lock -/
def wstep (lr : Qr) (s : List Qr × Bool) (e : Qr) : List Qr × Bool := if e.n = lr.n then s else if (!s.2 && ltN lr.n e.n) = true then (s.1 ++ [lr] ++ [e], true) else (s.1 ++ [e], s.2)
def wiK (lr : Qr) (E : List Qr) : List Qr × Bool := E.foldl (wstep lr) ([], lr.q.isEmpty)
def withE (lr : Qr) (E : List Qr) : List Qr := if (wiK lr E).2 = true then (wiK lr E).1 else (wiK lr E).1 ++ [lr]
theorem wiK_take {lr : Qr} {E : List Qr} {i : Nat} (hi : i < E.length) : wiK lr (E.take (i + 1)) = wstep lr (wiK lr (E.take i)) E[i] := by
  unfold wiK
  rw [List.take_succ_eq_append_getElem hi, List.foldl_append]
  rfl
theorem wfold_mem (lr : Qr) : ∀ (E : List Qr) (s : List Qr × Bool), ∀ e ∈ (E.foldl (wstep lr) s).1, e ∈ s.1 ∨ e ∈ E ∨ e = lr
  | [], s, e, h => .inl h
  | x :: E, s, e, h => by
    rcases wfold_mem lr E (wstep lr s x) e h with h1 | h1 | h1
    · unfold wstep at h1
      split at h1
      · exact .inl h1
      · split at h1
        · simp at h1
          rcases h1 with h1 | h1 | h1
          · exact .inl h1
          · exact .inr (.inr h1)
          · exact .inr (.inl (by simp [h1]))
        · simp at h1
          rcases h1 with h1 | h1
          · exact .inl h1
          · exact .inr (.inl (by simp [h1]))
    · exact .inr (.inl (by simp [h1]))
    · exact .inr (.inr h1)
theorem wfold_len (lr : Qr) : ∀ (E : List Qr) (s : List Qr × Bool), (E.foldl (wstep lr) s).1.length + (if (E.foldl (wstep lr) s).2 = true then 0 else 1) ≤ s.1.length + (if s.2 = true then 0 else 1) + E.length
  | [], s => Nat.le_refl _
  | x :: E, s => by
    have ih := wfold_len lr E (wstep lr s x)
    have h1 : (wstep lr s x).1.length + (if (wstep lr s x).2 = true then 0 else 1) ≤ s.1.length + (if s.2 = true then 0 else 1) + 1 := by
      obtain ⟨l, d⟩ := s
      unfold wstep
      by_cases hx : x.n = lr.n
      · rw [if_pos hx]; omega
      · rw [if_neg hx]
        cases d
        · cases hl : ltN lr.n x.n <;> simp
        · simp
    rw [List.foldl_cons, List.length_cons]
    omega
theorem wiK_mem {lr : Qr} {E : List Qr} {e : Qr} (h : e ∈ (wiK lr E).1) : e ∈ E ∨ e = lr := by
  rcases wfold_mem lr E _ e h with h1 | h1
  · simp at h1
  · exact h1
theorem withE_mem {lr : Qr} {E : List Qr} {e : Qr} (h : e ∈ withE lr E) : e ∈ E ∨ e = lr := by
  unfold withE at h
  split at h
  · exact wiK_mem h
  · simp at h
    rcases h with h | h
    · exact wiK_mem h
    · exact .inr h
theorem wiK_len (lr : Qr) (E : List Qr) : (wiK lr E).1.length ≤ E.length + 1 := by
  have := wfold_len lr E ([], lr.q.isEmpty)
  unfold wiK
  simp at this
  have h2 : (if lr.q = [] then 0 else 1) ≤ 1 := by split <;> omega
  omega
theorem withE_len (lr : Qr) (E : List Qr) : (withE lr E).length ≤ E.length + 1 := by
  have := wfold_len lr E ([], lr.q.isEmpty)
  unfold withE wiK
  have h2 : (if lr.q.isEmpty = true then 0 else 1) ≤ 1 := by split <;> omega
  simp at this h2
  split
  · omega
  · rename_i hne
    simp [wiK] at hne
    simp [hne] at this
    simp
    omega

/-- A row of queues that is still being written. -/
def RO (w : World) (base : Nat) (v : Value) (E : List Qr) : Prop := w.ownsRow base 69 5 v E.length (E.flatMap qc)
theorem RO.below {w w' : World} {base : Nat} {v : Value} {E : List Qr} (h : RO w base v E) (hb : Below w.heap.size w w') : RO w' base v E := by
  obtain ⟨h1, h2 | ⟨g, cap, cur, hv, hg, hh, r⟩⟩ := h
  · exact ⟨h1, .inl h2⟩
  · exact ⟨h1, .inr ⟨g, cap, cur, hv, hg, (hb.block g (Array.getElem?_eq_some_iff.1 hh).1).trans hh, r⟩⟩
theorem RO.made (w : World) : RO (w.alloc (.cells #[] 69)) w.heap.size (.slice (some ⟨w.heap.size, 0, none⟩) 0 0) [] :=
  ⟨rfl, .inr ⟨w.heap.size, 0, #[], rfl, Nat.le_refl _, heap_alloc_new w _, Nat.le_refl _, by simp, rfl, rfl⟩⟩
theorem RO.grownBelow {w w1 w2 : World} {base : Nat} {v : Value} {E : List Qr} (ho : RO w1 base v E) (h : Below base w w1) (hg : w1.grownBy w2 v.ownBlock) (hs : base ≤ w1.heap.size) : Below base w w2 :=
  h.grown hg hs (fun k hk => by
    rcases ho.2 with ⟨e, _⟩ | ⟨g, cap, cur, e, hg', _⟩
    · rw [e] at hk; simp [Value.ownBlock] at hk
    · rw [e] at hk
      obtain rfl : g = k := by simpa [Value.ownBlock] using hk
      exact hg')
theorem RO.form {w : World} {base : Nat} {v : Value} {E : List Qr} (h : RO w base v E) : ∃ a c, v = .slice a E.length c ∧ E.length ≤ c ∧ c ≤ maxLen := by
  rcases h.2 with ⟨rfl, h0⟩ | ⟨g, cap, cur, rfl, _, _, h1, h2, _⟩
  · exact ⟨none, 0, by rw [h0], by omega, by omega⟩
  · exact ⟨_, _, rfl, h1, h2⟩
theorem RO.other {w : World} {base : Nat} {v : Value} {E : List Qr} (h : RO w base v E) {k : Nat} {t : TypeId} {cs : Array Value} (hb : Blk w k t cs) (ht : t ≠ 69) : some k ≠ v.ownBlock := by
  rcases h.2 with ⟨rfl, _⟩ | ⟨g, cap, cur, rfl, _, hh, _⟩
  · simp [Value.ownBlock]
  · intro e
    obtain rfl : k = g := by simpa [Value.ownBlock] using e
    unfold Blk at hb
    rw [hb] at hh
    simp at hh
    exact ht hh.2
theorem qc_one (e : Qr) (hv : e.v.oneCell' = true) : ∀ u ∈ qc e, u.oneCell' = true := by
  intro u hu
  simp [qc] at hu
  rcases hu with rfl | rfl | rfl | rfl | rfl
  · rfl
  · rfl
  · rfl
  · rfl
  · exact hv
section
variable {w : World} {ops : Array Oper} {rest : List Oper} {o : Oper} {a : Act} {K : Act → World → Prop} {Q : Exit → Act → World → Prop} {E : Prop}
/-- A queue is appended. -/
theorem wpList_append_ro (hgd : o.guard = none) (s x : Operand) (ho : o.op = .call { callee := .builtin .append, args := #[s, x], argTypes := #[27, 27] })
    (base : Nat) (v : Value) (l : List Qr) (e : Qr) (hs : a.eval s = v) (hown : RO w base v l) (g : Nat) (hx : a.eval x = .slice (some ⟨g, 0, none⟩) 1 1) (hb : w.heap[g]? = some (.cells #[.int .i64 e.n.kind, .int .i64 e.n.of_, .int .u32 e.n.page, .int .i64 e.n.slot, e.v] 69 (0, 0)))
    (hv : e.v.oneCell' = true) (hlen : l.length ≤ 1000000) (hbase : base ≤ w.heap.size)
    (h : ∀ v' w', RO w' base v' (l ++ [e]) → w.grownBy w' v.ownBlock → wpList Tryz.prog ops Q rest (a.put o.dst v') w') : wpList Tryz.prog ops Q (o :: rest) a w := by
  obtain ⟨i0, hi0, hz0, hz1, hz2⟩ := info_parts infoRQ
  refine wpList_append_src hgd s x 27 ho base 69 i0 _ 5 56 Tryz.underlying27 hi0 hz0 hz1 hz2 rfl (by decide) v l.length (l.flatMap qc) hs hown (some ⟨g, 0, none⟩) 1 1 (qc e) hx (fun h => by simp at h) rfl ?_ (qc_one e hv) (by unfold maxLen; omega) (by omega) hbase
    (fun v' w' ho' hg' => h v' w' (by unfold RO; rw [List.length_append, List.flatMap_append]; simpa using ho') hg')
  intro j u hj p hp
  obtain rfl : (⟨g, 0, none⟩ : Addr) = p := by simpa using hp
  have hB : Blk w g 69 #[.int .i64 e.n.kind, .int .i64 e.n.of_, .int .u32 e.n.page, .int .i64 e.n.slot, e.v] := hb
  rw [show (⟨g, 0, none⟩ : Addr).add j = ⟨g, j, none⟩ by unfold Addr.add; split <;> simp_all, hB.cell j]
  have : (qc e)[j]? = (#[.int .i64 e.n.kind, .int .i64 e.n.of_, .int .u32 e.n.page, .int .i64 e.n.slot, e.v] : Array Value)[j]? := by simp [qc]
  rw [← this]
  exact hj
end

/-- Are two names the same? -/
def eqN (k o p s k' o' p' s' : Int) : Bool := decide ((⟨k, o, p, s⟩ : Nm) = ⟨k', o', p', s'⟩)
theorem eql_rname (k o p s k' o' p' s' : Int) (w : World) : (binOp .eql 49 (.agg #[.int .i64 k, .int .i64 o, .int .u32 p, .int .i64 s]) (.agg #[.int .i64 k', .int .i64 o', .int .u32 p', .int .i64 s'])).run Tryz.prog w = .ok (.bool (eqN k o p s k' o' p' s')) w := by
  have h := eq_rname ⟨k, o, p, s⟩ ⟨k', o', p', s'⟩ w
  have h2 : (Op.equalIn 10000 49 (.agg #[.int .i64 k, .int .i64 o, .int .u32 p, .int .i64 s]) (.agg #[.int .i64 k', .int .i64 o', .int .u32 p', .int .i64 s'])).run Tryz.prog w = .ok (eqN k o p s k' o' p' s') w := h
  rw [run_eql_struct, h2]
  rfl
attribute [local go_sem ↓] eql_rname

set_option maxRecDepth 100000 in
set_option maxHeartbeats 4000000 in
theorem rwith_any {w : World} {v lv : Value} {E : List Qr} {l : List Ak} (h : RE w 0 v E) (hl : AO w 0 lv l) (hlen : E.length ≤ 1000) (k o p s : Int) :
    Calls Tryz.prog 39 #[v, .agg #[.int .i64 k, .int .i64 o, .int .u32 p, .int .i64 s], lv] w fun e w' => ∃ v', e = .returned v' ∧ RE w' 0 v' (withE ⟨⟨k, o, p, s⟩, l, lv⟩ E) ∧ Below w.heap.size w w' := by
  have hgd : Tryz.prog.eqGuardType Tryz.prog.depth 49 = false := by kernel_rfl
  obtain ⟨A, c, rfl, h1, h2⟩ := h.form
  unfold maxLen at h2
  obtain ⟨la, lc, rfl, hl1, hl2⟩ := hl.form
  unfold maxLen at hl2
  obtain ⟨lr, hlr⟩ : ∃ lr : Qr, lr = ⟨⟨k, o, p, s⟩, l, .slice la l.length lc⟩ := ⟨_, rfl⟩
  rw [← hlr]
  have hmem : ∀ j e, e ∈ (wiK lr (E.take j)).1 → AO w 0 e.v e.q := fun j e he => by
    rcases wiK_mem he with h' | rfl
    · exact h.2 e (List.mem_of_mem_take h')
    · rw [hlr]; exact hl
  obtain ⟨wa, hwa⟩ : ∃ wa, wa = (w.alloc (.cells #[.int .i64 k, .int .i64 o, .int .u32 p, .int .i64 s] 49)).alloc (.cells #[] 69) := ⟨_, rfl⟩
  have hBa : Below w.heap.size w wa := by rw [hwa]; exact ((Below.refl _ _).alloc (Nat.le_refl _) _).alloc (by simp) _
  have hbn : Blk wa w.heap.size 49 #[.int .i64 k, .int .i64 o, .int .u32 p, .int .i64 s] := by rw [hwa]; exact (Blk.new _ _ _).alloc _
  have hro : RO wa w.heap.size (.slice (some ⟨w.heap.size + 1, 0, none⟩) 0 0) [] := by
    rw [hwa]
    have := RO.made (w.alloc (.cells #[.int .i64 k, .int .i64 o, .int .u32 p, .int .i64 s] 49))
    simp only [World.size_alloc] at this
    exact own_base this (by omega)
  have hz : (((l.length : Int) == 0) : Bool) = lr.q.isEmpty := by
    rw [hlr]
    cases l with
    | nil => rfl
    | cons a l => simp; omega
  have HZ := Lib.hid hz
  clear hz
  go_enter Tryz.func39, Tryz.ntmps39
  go_wp2_with fail
  rw [← hwa]
  go_loopw [7, 8, 9] (fun ov dv i wr => ∃ j : Nat, j ≤ E.length ∧ i = .int .i64 j ∧ dv = .bool (wiK lr (E.take j)).2 ∧ RO wr w.heap.size ov (wiK lr (E.take j)).1 ∧ Blk wr w.heap.size 49 #[.int .i64 k, .int .i64 o, .int .u32 p, .int .i64 s] ∧ Below w.heap.size w wr) (fun _ _ i _ => E.length - (intOf i).toNat)
  case atStart => exact ⟨0, Nat.zero_le _, rfl, by simp [wiK]; exact HZ.out, by simpa [wiK] using hro, hbn, hBa⟩
  case round =>
    obtain ⟨j, hj, rfl, rfl, hO, hbr, hB⟩ := hrel
    have hwsz := hB.size
    by_cases hlt : j < E.length
    · obtain ⟨g, rfl, hgw, hgl, c0, c1, c2, c3, c4, hao⟩ := h.cell_in hB hlt
      have HST := Lib.hid (wiK_take (lr := lr) hlt)
      have hes := wiK_len lr (E.take j)
      rw [List.length_take] at hes
      obtain ⟨sd, hsd⟩ : ∃ sd, sd = wiK lr (E.take j) := ⟨_, rfl⟩
      rw [← hsd] at HST hes hO ⊢
      clear hsd
      obtain ⟨es, d⟩ := sd
      simp only at hes hO ⊢
      have hes1 : es.length ≤ 1000000 := by omega
      have hcell : ∀ w', Below w.heap.size w w' → g < w'.heap.size ∧ w'.cell? ⟨g, j * 5, none⟩ = some (.int .i64 E[j].n.kind) ∧ w'.cell? ⟨g, j * 5 + 1, none⟩ = some (.int .i64 E[j].n.of_) ∧ w'.cell? ⟨g, j * 5 + 2, none⟩ = some (.int .u32 E[j].n.page) ∧ w'.cell? ⟨g, j * 5 + 3, none⟩ = some (.int .i64 E[j].n.slot) ∧ w'.cell? ⟨g, j * 5 + 4, none⟩ = some E[j].v := fun w' hb => by
        obtain ⟨g', e', -, r0, r1, r2, r3, r4, r5, -⟩ := h.cell_in hb hlt
        obtain rfl : g = g' := by simpa using e'
        exact ⟨r0, r1, r2, r3, r4, r5⟩
      obtain ⟨e, he⟩ : ∃ e, e = E[j] := ⟨_, rfl⟩
      rw [← he] at c0 c1 c2 c3 c4 hao HST hcell
      obtain ⟨⟨k', o', p', s'⟩, q, ev⟩ := e
      simp only at c0 c1 c2 c3 c4 hao hcell
      have HCELL := Lib.hid hcell
      clear hcell
      clear he
      obtain ⟨sa, sc, rfl, hs1, hs2⟩ := hao.form
      have b0 := hbr.cell 0
      have b1 := hbr.cell 1
      have b2 := hbr.cell 2
      have b3 := hbr.cell 3
      simp at b0 b1 b2 b3
      obtain ⟨oa, oc, rfl, ho1, ho2⟩ := hO.form
      by_cases hn : (⟨k', o', p', s'⟩ : Nm) = ⟨k, o, p, s⟩
      · have HS1 : Hid (wiK lr (E.take (j + 1)) = (es, d)) := Lib.hid (by rw [HST.out]; unfold wstep; rw [if_pos (by rw [hlr]; exact hn)])
        have hd : eqN k' o' p' s' k o p s = true := decide_eq_true hn
        clear hn
        go_wp2_with fail
        go_quiet (fail)
        go_wp2_with fail
        go_roundw
        case rel => exact ⟨j + 1, by omega, by go_num, by rw [HS1.out], by rw [HS1.out]; exact hO, hbr, below_drewN hB _⟩
        case measure => simp [intOf]; omega
      · have hn0 : (⟨⟨k', o', p', s'⟩, q, .slice sa q.length sc⟩ : Qr).n ≠ lr.n := by rw [hlr]; exact hn
        have hd : eqN k' o' p' s' k o p s = false := decide_eq_false hn
        cases d with
        | true =>
          have HS1 : Hid (wiK lr (E.take (j + 1)) = (es ++ [⟨⟨k', o', p', s'⟩, q, .slice sa q.length sc⟩], true)) := Lib.hid (by rw [HST.out]; unfold wstep; rw [if_neg hn0]; simp)
          clear hn hn0 HST
          · skip
            go_wp2_with fail
            go_quiet (fail)
            obtain ⟨wq1, hwq⟩ : ∃ wq, wq = wr.drewN nq := ⟨_, rfl⟩
            have hBq1 : Below wr.heap.size wr wq1 := by rw [hwq]; exact below_drewN (Below.refl _ _) nq
            rw [← hwq]
            clear hwq nq
            have d0 := below_cell hBq1 (p := ⟨g, j * 5, none⟩) hgl c0
            have d1 := below_cell hBq1 (p := ⟨g, j * 5 + 1, none⟩) hgl c1
            have d2 := below_cell hBq1 (p := ⟨g, j * 5 + 2, none⟩) hgl c2
            have d3 := below_cell hBq1 (p := ⟨g, j * 5 + 3, none⟩) hgl c3
            have d4 := below_cell hBq1 (p := ⟨g, j * 5 + 4, none⟩) hgl c4
            go_wp2_with fail
            go_quiet (fail)
            obtain ⟨wq2, hwq⟩ : ∃ wq, wq = wq1.drewN nq := ⟨_, rfl⟩
            have hBq2 : Below wr.heap.size wr wq2 := by rw [hwq]; exact below_drewN hBq1 nq
            rw [← hwq]
            clear hwq nq
            clear d0 d1 d2 d3 d4
            have d0 := below_cell hBq2 (p := ⟨g, j * 5, none⟩) hgl c0
            have d1 := below_cell hBq2 (p := ⟨g, j * 5 + 1, none⟩) hgl c1
            have d2 := below_cell hBq2 (p := ⟨g, j * 5 + 2, none⟩) hgl c2
            have d3 := below_cell hBq2 (p := ⟨g, j * 5 + 3, none⟩) hgl c3
            have d4 := below_cell hBq2 (p := ⟨g, j * 5 + 4, none⟩) hgl c4
            have hOq := hO.below hBq2
            have hbq := hbr.of_block (hBq2.block _ hbr.lt)
            have hBw : Below w.heap.size w wq2 := hB.trans (hBq2.mono hwsz)
            have hqs := hBw.size
            have hglq : g < wq2.heap.size := by have := hBq2.size; omega
            go_wp2_with (at_builtin; refine wpList_append_ro rfl _ _ rfl w.heap.size _ es ⟨⟨k', o', p', s'⟩, q, .slice sa q.length sc⟩ rfl (hOq.below ((Below.refl _ _).alloc (Nat.le_refl _) _)) wq2.heap.size rfl (heap_alloc_new wq2 _) rfl hes1 (by simp; omega) ?_; intro v' w8 ho8 hg8)
            have hBa8 : Below w.heap.size w (wq2.alloc (.cells #[.int .i64 k', .int .i64 o', .int .u32 p', .int .i64 s', .slice sa q.length sc] 69)) := hBw.alloc hqs _
            have hB8 : Below w.heap.size w w8 := (hOq.below ((Below.refl _ _).alloc (Nat.le_refl _) _)).grownBelow hBa8 hg8 (by simp; omega)
            have hb8 := (hbq.alloc (.cells #[.int .i64 k', .int .i64 o', .int .u32 p', .int .i64 s', .slice sa q.length sc] 69)).of_block (hg8.block _ (by have := hbq.lt; simp; omega) (hOq.other hbq (by decide)))
            go_wp2_with fail
            go_roundw
            case rel => exact ⟨j + 1, by omega, by go_num, by rw [HS1.out], by rw [HS1.out]; exact ho8, hb8, hB8⟩
            case measure => simp [intOf]; omega
        | false =>
          have HS0 : Hid (wiK lr (E.take (j + 1)) = if ltN ⟨k, o, p, s⟩ ⟨k', o', p', s'⟩ = true then (es ++ [lr] ++ [⟨⟨k', o', p', s'⟩, q, .slice sa q.length sc⟩], true) else (es ++ [⟨⟨k', o', p', s'⟩, q, .slice sa q.length sc⟩], false)) := Lib.hid (by rw [HST.out]; unfold wstep; rw [if_neg hn0]; rw [hlr]; simp)
          clear hn hn0 HST
          · skip
            go_wp2_with fail
            go_quiet (fail)
            obtain ⟨wq1, hwq⟩ : ∃ wq, wq = wr.drewN nq := ⟨_, rfl⟩
            have hBq1 : Below wr.heap.size wr wq1 := by rw [hwq]; exact below_drewN (Below.refl _ _) nq
            rw [← hwq]
            clear hwq nq
            have d0 := below_cell hBq1 (p := ⟨g, j * 5, none⟩) hgl c0
            have d1 := below_cell hBq1 (p := ⟨g, j * 5 + 1, none⟩) hgl c1
            have d2 := below_cell hBq1 (p := ⟨g, j * 5 + 2, none⟩) hgl c2
            have d3 := below_cell hBq1 (p := ⟨g, j * 5 + 3, none⟩) hgl c3
            have d4 := below_cell hBq1 (p := ⟨g, j * 5 + 4, none⟩) hgl c4
            have hbq := hbr.of_block (hBq1.block _ hbr.lt)
            clear b0 b1 b2 b3
            have b0 := hbq.cell 0
            have b1 := hbq.cell 1
            have b2 := hbq.cell 2
            have b3 := hbq.cell 3
            simp at b0 b1 b2 b3
            have hgl1 : g < wq1.drew.heap.size := by have := hBq1.size; exact Nat.lt_of_lt_of_le hgl this
            have hnl1 : w.heap.size < wq1.drew.heap.size := hbq.lt
            go_wp2_with fail
            go_region_held3 (fun w' => w'.cell? ⟨g, j * 5, none⟩ = some (.int .i64 k') ∧ w'.cell? ⟨g, j * 5 + 1, none⟩ = some (.int .i64 o') ∧ w'.cell? ⟨g, j * 5 + 2, none⟩ = some (.int .u32 p') ∧ w'.cell? ⟨g, j * 5 + 3, none⟩ = some (.int .i64 s') ∧
                w'.cell? ⟨w.heap.size, 0, none⟩ = some (.int .i64 k) ∧ w'.cell? ⟨w.heap.size, 1, none⟩ = some (.int .i64 o) ∧ w'.cell? ⟨w.heap.size, 2, none⟩ = some (.int .u32 p) ∧ w'.cell? ⟨w.heap.size, 3, none⟩ = some (.int .i64 s))
              ((go_split_ands; refine ⟨?_, ?_, ?_, ?_, ?_, ?_, ?_, ?_⟩ <;> first
                | go_keep
                | (rw [World.cell?_of_block (hBf.block _ (by first | exact hgl1 | exact hnl1))]; assumption)))
              ((go_at_call 61; refine (before_any _ _ _ _ _ _ _ _ _).mono ?_; rintro e wf ⟨rfl, hBf⟩))
            have hBrf : Below wr.heap.size wr wf := hBq1.trans (((Below.refl _ _).drew.trans hBf).mono hBq1.size)
            have hOf := hO.below hBrf
            have hbf := hbr.of_block (hBrf.block _ hbr.lt)
            clear d0 d1 d2 d3 d4 b0 b1 b2 b3 c0 c1 c2 c3 c4
            cases hlt2 : ltN ⟨k, o, p, s⟩ ⟨k', o', p', s'⟩ with
            | true =>
              have HS1 : Hid (wiK lr (E.take (j + 1)) = (es ++ [lr] ++ [⟨⟨k', o', p', s'⟩, q, .slice sa q.length sc⟩], true)) := Lib.hid (by rw [HS0.out, if_pos hlt2])
              have hBwf : Below w.heap.size w wf := hB.trans (hBrf.mono hwsz)
              have hsf := hBwf.size
              have b0 := hbf.cell 0
              have b1 := hbf.cell 1
              have b2 := hbf.cell 2
              have b3 := hbf.cell 3
              simp at b0 b1 b2 b3
              have hnlf := hbf.lt
              go_split_ands
              go_upto_region 9 with (at_builtin; refine wpList_append_ro rfl _ _ rfl w.heap.size _ es ⟨⟨k, o, p, s⟩, l, .slice la l.length lc⟩ rfl (hOf.below ((Below.refl _ _).alloc (Nat.le_refl _) _)) wf.heap.size rfl (heap_alloc_new wf _) rfl (by omega) (by simp; omega) ?_; intro v' w8 ho8 hg8)
              have hB8 : Below w.heap.size w w8 := (hOf.below ((Below.refl _ _).alloc (Nat.le_refl _) _)).grownBelow (hBwf.alloc hsf (.cells #[.int .i64 k, .int .i64 o, .int .u32 p, .int .i64 s, .slice la l.length lc] 69)) hg8 (by simp; omega)
              have hb8 := (hbf.alloc (.cells #[.int .i64 k, .int .i64 o, .int .u32 p, .int .i64 s, .slice la l.length lc] 69)).of_block (hg8.block _ (by have := hbf.lt; simp; omega) (hOf.other hbf (by decide)))
              rw [← hlr] at ho8
              obtain ⟨va, vc, rfl, -, -⟩ := ho8.form
              clear hd hnlf b0 b1 b2 b3
              have hBzw : Below w.heap.size w w8 := hB8
              have hqsz := hBzw.size
              obtain ⟨hglqz, d0, d1, d2, d3, d4⟩ := HCELL.out _ hBzw
              go_wp2_with (at_builtin; refine wpList_append_ro rfl _ _ rfl w.heap.size _ (es ++ [lr]) ⟨⟨k', o', p', s'⟩, q, .slice sa q.length sc⟩ rfl (ho8.below ((Below.refl _ _).alloc (Nat.le_refl _) _)) w8.heap.size rfl (heap_alloc_new w8 _) rfl (by simp; omega) (by simp; omega) ?_; intro v' w9 ho9 hg9)
              have hB9 : Below w.heap.size w w9 := (ho8.below ((Below.refl _ _).alloc (Nat.le_refl _) _)).grownBelow (hBzw.alloc hqsz (.cells #[.int .i64 k', .int .i64 o', .int .u32 p', .int .i64 s', .slice sa q.length sc] 69)) hg9 (by simp; omega)
              have hb9 := (hb8.alloc (.cells #[.int .i64 k', .int .i64 o', .int .u32 p', .int .i64 s', .slice sa q.length sc] 69)).of_block (hg9.block _ (by have := hb8.lt; simp; omega) (ho8.other hb8 (by decide)))
              go_wp2_with fail
              go_roundw
              case rel => exact ⟨j + 1, by omega, by go_num, by rw [HS1.out], by rw [HS1.out]; exact ho9, hb9, hB9⟩
              case measure => simp [intOf]; omega
            | false =>
              have HS1 : Hid (wiK lr (E.take (j + 1)) = (es ++ [⟨⟨k', o', p', s'⟩, q, .slice sa q.length sc⟩], false)) := Lib.hid (by rw [HS0.out, if_neg (by rw [hlt2]; simp)])
              have hBwf : Below w.heap.size w wf := hB.trans (hBrf.mono hwsz)
              go_split_ands
              have hBzw : Below w.heap.size w wf := hBwf
              have hqsz := hBzw.size
              obtain ⟨hglqz, d0, d1, d2, d3, d4⟩ := HCELL.out _ hBzw
              go_wp2_with (at_builtin; refine wpList_append_ro rfl _ _ rfl w.heap.size _ es ⟨⟨k', o', p', s'⟩, q, .slice sa q.length sc⟩ rfl (hOf.below ((Below.refl _ _).alloc (Nat.le_refl _) _)) wf.heap.size rfl (heap_alloc_new wf _) rfl hes1 (by simp; omega) ?_; intro v' w9 ho9 hg9)
              have hB9 : Below w.heap.size w w9 := (hOf.below ((Below.refl _ _).alloc (Nat.le_refl _) _)).grownBelow (hBzw.alloc hqsz (.cells #[.int .i64 k', .int .i64 o', .int .u32 p', .int .i64 s', .slice sa q.length sc] 69)) hg9 (by simp; omega)
              have hb9 := (hbf.alloc (.cells #[.int .i64 k', .int .i64 o', .int .u32 p', .int .i64 s', .slice sa q.length sc] 69)).of_block (hg9.block _ (by have := hbf.lt; simp; omega) (hOf.other hbf (by decide)))
              go_wp2_with fail
              go_roundw
              case rel => exact ⟨j + 1, by omega, by go_num, by rw [HS1.out], by rw [HS1.out]; exact ho9, hb9, hB9⟩
              case measure => simp [intOf]; omega
    · obtain rfl : j = E.length := by omega
      rw [List.take_length] at hO ⊢
      have hes := wiK_len lr E
      obtain ⟨sd, hsd⟩ : ∃ sd, sd = wiK lr E := ⟨_, rfl⟩
      have hmem2 : ∀ e ∈ withE lr E, AO wr 0 e.v e.q := fun e he => by
        rcases withE_mem he with h' | h'
        · exact (h.2 e h').below hB
        · rw [h', hlr]; exact hl.below hB
      have HM := Lib.hid hmem2
      have hres : withE lr E = if sd.2 = true then sd.1 else sd.1 ++ [lr] := by unfold withE; rw [hsd]
      rw [← hsd] at hes hO ⊢
      have HRES := Lib.hid hres
      clear hsd hmem2 hres
      obtain ⟨es, d⟩ := sd
      simp only at hes hO ⊢
      obtain ⟨oa, oc, rfl, ho1, ho2⟩ := hO.form
      cases d with
      | true =>
        have HR : Hid (withE lr E = es) := Lib.hid (by rw [HRES.out]; rfl)
        go_wp2_with fail
        go_ret
        rw [hlr] at HR HM
        rw [HR.out] at HM
        exact ⟨_, rfl, by rw [HR.out]; exact ⟨own_base hO (Nat.zero_le _), HM.out⟩, hB⟩
      | false =>
        have HR : Hid (withE lr E = es ++ [lr]) := Lib.hid (by rw [HRES.out]; rfl)
        have b0 := hbr.cell 0
        have b1 := hbr.cell 1
        have b2 := hbr.cell 2
        have b3 := hbr.cell 3
        simp at b0 b1 b2 b3
        have hnlf := hbr.lt
        go_wp2_with (at_builtin; refine wpList_append_ro rfl _ _ rfl w.heap.size _ es ⟨⟨k, o, p, s⟩, l, .slice la l.length lc⟩ rfl (hO.below ((Below.refl _ _).alloc (Nat.le_refl _) _)) wr.heap.size rfl (heap_alloc_new wr _) rfl (by omega) (by simp; omega) ?_; intro v' w8 ho8 hg8)
        have hB8 : Below w.heap.size w w8 := (hO.below ((Below.refl _ _).alloc (Nat.le_refl _) _)).grownBelow (hB.alloc hwsz (.cells #[.int .i64 k, .int .i64 o, .int .u32 p, .int .i64 s, .slice la l.length lc] 69)) hg8 (by simp; omega)
        rw [← hlr] at ho8
        go_wp2_with fail
        go_ret
        have hm8 : ∀ e ∈ withE lr E, AO w8 0 e.v e.q := fun e he => by
          rcases withE_mem he with h' | h'
          · exact (h.2 e h').below hB8
          · rw [h', hlr]; exact hl.below hB8
        have ho9 : RO w8 0 v' (withE lr E) := by rw [HR.out]; exact own_base ho8 (Nat.zero_le _)
        rw [hlr] at hm8 ho9
        exact ⟨_, rfl, ⟨ho9, hm8⟩, hB8⟩
end Go.Proofs.YtcdlplbccblbaaaGreat
