import Derived.Test.YtcdlplbccblbaaaGreatMg7
import Derived.Laws.AppendOwnNone
import Derived.Maps.AppendAt
namespace Go.Proofs.YtcdlplbccblbaaaGreat
open Go.RowKit
set_option linter.unusedVariables false
set_option linter.unusedSimpArgs false

/-! ### The reference's rows: nobody writes where they lie -/
theorem infoAsker : (Tryz.prog.info? 74).map (fun i => (i.zero, i.size, i.bytes)) = some (some (.agg #[.int .i64 0, .int .i64 0, .int .i64 0, .bool false]), 4, 32) := by kernel_rfl
theorem own_base {w : World} {base base' : Nat} {e : TypeId} {size : Nat} {v : Value} {n : Nat} {xs : List Value} (h : w.ownsRow base e size v n xs) (hb : base' ≤ base) : w.ownsRow base' e size v n xs := by
  rcases h with ⟨h1, h2 | ⟨g, cap, cur, hv, hg, r⟩⟩
  · exact ⟨h1, .inl h2⟩
  · exact ⟨h1, .inr ⟨g, cap, cur, hv, Nat.le_trans hb hg, r⟩⟩
/-- A row of askers, in blocks from base on. -/
def AO (w : World) (base : Nat) (v : Value) (q : List Ak) : Prop := w.ownsRow base 74 4 v q.length (q.flatMap av)
section
variable {w w' : World} {base : Nat} {v : Value} {q : List Ak}
theorem AO.nil (w : World) (base : Nat) : AO w base (.slice none 0 0) [] := ⟨rfl, .inl ⟨rfl, rfl⟩⟩
theorem AO.form (h : AO w base v q) : ∃ a c, v = .slice a q.length c ∧ q.length ≤ c ∧ c ≤ maxLen := by
  rcases h.2 with ⟨rfl, h0⟩ | ⟨g, cap, cur, rfl, _, _, h1, h2, _⟩
  · exact ⟨none, 0, by rw [h0], by omega, by omega⟩
  · exact ⟨_, _, rfl, h1, h2⟩
theorem AO.of_block (h : AO w base v q) (hh : ∀ (k : Nat) (cs : Array Value), w.heap[k]? = some (Obj.cells cs 74 (0, 0)) → w'.heap[k]? = w.heap[k]?) : AO w' base v q := by
  rcases h with ⟨h1, h2 | ⟨g, cap, cur, hv, hg, hb, r⟩⟩
  · exact ⟨h1, .inl h2⟩
  · exact ⟨h1, .inr ⟨g, cap, cur, hv, hg, (hh g cur hb).trans hb, r⟩⟩
theorem AO.below (h : AO w base v q) (hb : Below w.heap.size w w') : AO w' base v q := h.of_block fun k cs hk => hb.block k (Array.getElem?_eq_some_iff.1 hk).1
theorem AO.base_ (h : AO w base v q) {b' : Nat} (hb : b' ≤ base) : AO w b' v q := own_base h hb
theorem AO.cell {A : Option Addr} {n c : Nat} (h : AO w base (.slice A n c) q) {k : Nat} (hk : k < q.length) : ∃ g, A = some ⟨g, 0, none⟩ ∧ n = q.length ∧ q.length ≤ c ∧ c ≤ maxLen ∧ base ≤ g ∧ g < w.heap.size ∧
    w.cell? ⟨g, k * 4, none⟩ = some (.int .i64 q[k].tx) ∧ w.cell? ⟨g, k * 4 + 1, none⟩ = some (.int .i64 q[k].has) ∧ w.cell? ⟨g, k * 4 + 2, none⟩ = some (.int .i64 q[k].wants) ∧ w.cell? ⟨g, k * 4 + 3, none⟩ = some (.bool q[k].inst) := by
  have h0 := h
  rcases h with ⟨_, ⟨_, hn⟩ | ⟨g, cap, cur, hv, hg, hb, r1, r2, _⟩⟩
  · omega
  · simp only [Value.slice.injEq] at hv
    obtain ⟨rfl, rfl, rfl⟩ := hv
    have hc : ∀ j, j < 4 → w.cell? ⟨g, k * 4 + j, none⟩ = (av q[k])[j]? := fun j hj => by
      rw [World.ownsRow.cellAt h0 (k * 4 + j) (by omega)]
      exact av_get q k j hk hj
    exact ⟨g, rfl, rfl, r1, r2, hg, (Array.getElem?_eq_some_iff.1 hb).1, hc 0 (by omega), hc 1 (by omega), hc 2 (by omega), hc 3 (by omega)⟩
end

/-- A step of a region that draws: an append to a row of the call's own, of whatever lies at an address, or of nothing. -/
theorem step_append_src {P : Program} {w : World} {ops : Array Oper} {o : Oper} {a : Act} {K : Act → World → Prop} {Q : Exit → Act → World → Prop} {E : Prop} (hgd : o.guard = none) (s x : Operand) (t : TypeId)
    (ho : o.op = .call { callee := .builtin .append, args := #[s, x], argTypes := #[t, t] })
    (base : Nat) (e : TypeId) (i : TypeInfo) (z : Value) (size bytes : Nat) (ht : P.underlying t = some (.slice e)) (hi : P.info? e = some i) (hz : i.zero = some z)
    (hsize : i.size = size) (hby : i.bytes = bytes) (hzs : z.cells.size = size) (hsz : 0 < size)
    (v : Value) (n : Nat) (xs : List Value) (hs : a.eval s = v) (hown : w.ownsRow base e size v n xs)
    (sa : Option Addr) (m c : Nat) (news : List Value) (hx : a.eval x = .slice sa m c) (hsrc : sa = none → m = 0 ∧ c = 0) (hl : news.length = m * size)
    (hnews : ∀ j u, news[j]? = some u → ∀ p, sa = some p → w.cell? (p.add j) = some u) (h1 : ∀ u ∈ news, u.oneCell' = true)
    (h63 : n + m ≤ maxLen) (hbytes : (n + m) * bytes ≤ 140737488355328) (hbase : base ≤ w.heap.size)
    (h : ∀ v' w', w'.ownsRow base e size v' (n + m) (xs ++ news) → w.grownBy w' v.ownBlock → K (a.put o.dst v') w') :
    if Region.wanted o (yielded ops a.tmps) = true then Oper.wp P o a w K Q else E := by
  have hw : Region.wanted o (yielded ops a.tmps) = true := by simp [Region.wanted, hgd]
  rw [if_pos hw]
  cases sa with
  | none =>
    obtain ⟨rfl, rfl⟩ := hsrc rfl
    have hn : news = [] := List.length_eq_zero_iff.1 (by simpa using hl)
    subst hn
    have hrun := run_append_owned_none (P := P) (w := w) base t o.type e i size ht hi v n xs hown
    unfold Oper.wp
    simp [execOp, ho, resolve, invoke, builtin, hs, hx, hrun, Result.andThen, Oper.upon]
    exact h v w (by simpa using hown) (World.grownBy.refl _ _)
  | some p =>
    obtain ⟨v', w', hr, h2, h3, h4, h5⟩ := run_append_own_at (P := P) w base t o.type e i z size bytes ht hi hz hsize hby hzs hsz v n xs hown p m c news hl (fun j u hu => hnews j u hu p rfl) h1 h63 hbytes hbase
    unfold Oper.wp execOp
    simp only [ho, resolve, invoke, builtin, Sem.run_bind, Sem.run_pure, Result.andThen_ok, List.map_toArray, List.map_cons, List.map_nil, hs, hx, hr, Oper.upon]
    exact h v' w' h2 h3
/-- The same in a region without an order of its own. -/
theorem wpList_append_src {P : Program} {w : World} {ops : Array Oper} {rest : List Oper} {o : Oper} {a : Act} {Q : Exit → Act → World → Prop} (hgd : o.guard = none) (s x : Operand) (t : TypeId)
    (ho : o.op = .call { callee := .builtin .append, args := #[s, x], argTypes := #[t, t] })
    (base : Nat) (e : TypeId) (i : TypeInfo) (z : Value) (size bytes : Nat) (ht : P.underlying t = some (.slice e)) (hi : P.info? e = some i) (hz : i.zero = some z)
    (hsize : i.size = size) (hby : i.bytes = bytes) (hzs : z.cells.size = size) (hsz : 0 < size)
    (v : Value) (n : Nat) (xs : List Value) (hs : a.eval s = v) (hown : w.ownsRow base e size v n xs)
    (sa : Option Addr) (m c : Nat) (news : List Value) (hx : a.eval x = .slice sa m c) (hsrc : sa = none → m = 0 ∧ c = 0) (hl : news.length = m * size)
    (hnews : ∀ j u, news[j]? = some u → ∀ p, sa = some p → w.cell? (p.add j) = some u) (h1 : ∀ u ∈ news, u.oneCell' = true)
    (h63 : n + m ≤ maxLen) (hbytes : (n + m) * bytes ≤ 140737488355328) (hbase : base ≤ w.heap.size)
    (h : ∀ v' w', w'.ownsRow base e size v' (n + m) (xs ++ news) → w.grownBy w' v.ownBlock → wpList P ops Q rest (a.put o.dst v') w') :
    wpList P ops Q (o :: rest) a w := by
  cases sa with
  | none =>
    obtain ⟨rfl, rfl⟩ := hsrc rfl
    have hn : news = [] := List.length_eq_zero_iff.1 (by simpa using hl)
    subst hn
    exact wpList_append_own_none hgd s x t ho base e i size ht hi v n xs hs hown hx (h v w (by simpa using hown) (World.grownBy.refl _ _))
  | some p => exact wpList_append_own_at w hgd s x t ho base e i z size bytes ht hi hz hsize hby hzs hsz v n xs hs hown p m c news hx hl (fun j u hu => hnews j u hu p rfl) h1 h63 hbytes hbase (fun v' w' h2 h3 _ _ => h v' w' h2 h3)

/-- What an append reads. -/
def SrcAt (w : World) (sa : Option Addr) (news : List Value) : Prop := ∀ j u, news[j]? = some u → ∀ p, sa = some p → w.cell? (p.add j) = some u
theorem av_one (q : List Ak) : ∀ u ∈ q.flatMap av, u.oneCell' = true := by
  intro u hu
  obtain ⟨a, _, hu⟩ := List.mem_flatMap.1 hu
  simp [av] at hu
  rcases hu with rfl | rfl | rfl | rfl <;> rfl
theorem AO.src {w : World} {base : Nat} {sa : Option Addr} {n c : Nat} {q : List Ak} (h : AO w base (.slice sa n c) q) : SrcAt w sa (q.flatMap av) := by
  intro j u hj p hp
  subst hp
  rcases h.2 with ⟨h0, _⟩ | ⟨g, cap, cur, hv, _⟩
  · simp at h0
  · simp only [Value.slice.injEq, Option.some.injEq] at hv
    obtain ⟨rfl, _, _⟩ := hv
    exact World.ownsRow.cells h rfl j u hj
theorem AO.src_none {w : World} {base : Nat} {sa : Option Addr} {n c : Nat} {q : List Ak} (h : AO w base (.slice sa n c) q) : sa = none → n = 0 ∧ c = 0 := by
  rintro rfl
  rcases h.2 with ⟨h0, _⟩ | ⟨g, cap, cur, hv, _⟩
  · simpa using h0
  · simp at hv
theorem AO.made (w : World) : AO (w.alloc (.cells #[] 74)) w.heap.size (.slice (some ⟨w.heap.size, 0, none⟩) 0 0) [] :=
  ⟨rfl, .inr ⟨w.heap.size, 0, #[], rfl, Nat.le_refl _, heap_alloc_new w _, Nat.le_refl _, by simp, rfl, rfl⟩⟩
theorem AO.grown {w w' : World} {base : Nat} {v : Value} {q : List Ak} (h : AO w base v q) {row : Option Nat} (hg : w.grownBy w' row) (hne : ∀ k, some k = v.ownBlock → some k ≠ row) : AO w' base v q := by
  rcases h with ⟨h1, h2 | ⟨g, cap, cur, rfl, hg0, hb, r⟩⟩
  · exact ⟨h1, .inl h2⟩
  · exact ⟨h1, .inr ⟨g, cap, cur, rfl, hg0, (hg.block g (Array.getElem?_eq_some_iff.1 hb).1 (hne g rfl)).trans hb, r⟩⟩
/-- A block that grows from base on leaves what lies below. -/
theorem below_grown {w w1 w2 : World} {base : Nat} {v : Value} {q : List Ak} (h : Below base w w1) (ho : AO w1 base v q) (hg : w1.grownBy w2 v.ownBlock) (hs : base ≤ w1.heap.size) : Below base w w2 :=
  h.grown hg hs (fun k hk => by
    rcases ho.2 with ⟨e, _⟩ | ⟨g, cap, cur, e, hg', _⟩
    · rw [e] at hk; simp [Value.ownBlock] at hk
    · rw [e] at hk
      obtain rfl : g = k := by simpa [Value.ownBlock] using hk
      exact hg')

section
variable {w : World} {ops : Array Oper} {rest : List Oper} {o : Oper} {a : Act} {K : Act → World → Prop} {Q : Exit → Act → World → Prop} {E : Prop}
theorem wpList_append_ao (hgd : o.guard = none) (s x : Operand) (ho : o.op = .call { callee := .builtin .append, args := #[s, x], argTypes := #[67, 67] })
    (base : Nat) (v : Value) (q q1 : List Ak) (hs : a.eval s = v) (hown : AO w base v q) (sa : Option Addr) (m c : Nat) (hx : a.eval x = .slice sa m c) (hm : m = q1.length) (hn : sa = none → m = 0 ∧ c = 0) (hsrc : SrcAt w sa (q1.flatMap av))
    (hlen : q.length + q1.length ≤ 1000000) (hbase : base ≤ w.heap.size)
    (h : ∀ v' w', AO w' base v' (q ++ q1) → w.grownBy w' v.ownBlock → wpList Tryz.prog ops Q rest (a.put o.dst v') w') : wpList Tryz.prog ops Q (o :: rest) a w := by
  obtain ⟨i0, hi0, hz0, hz1, hz2⟩ := info_parts infoAsker
  subst hm
  exact wpList_append_src hgd s x 67 ho base 74 i0 _ 4 32 Tryz.underlying67 hi0 hz0 hz1 hz2 rfl (by decide) v q.length (q.flatMap av) hs hown sa q1.length c (q1.flatMap av) hx hn (av_len q1) hsrc (av_one q1) (by unfold maxLen; omega) (by omega) hbase
    (fun v' w' ho' hg' => h v' w' (by unfold AO; rw [List.length_append, List.flatMap_append]; exact ho') hg')
theorem step_append_ao (hgd : o.guard = none) (s x : Operand) (ho : o.op = .call { callee := .builtin .append, args := #[s, x], argTypes := #[67, 67] })
    (base : Nat) (v : Value) (q q1 : List Ak) (hs : a.eval s = v) (hown : AO w base v q) (sa : Option Addr) (m c : Nat) (hx : a.eval x = .slice sa m c) (hm : m = q1.length) (hn : sa = none → m = 0 ∧ c = 0) (hsrc : SrcAt w sa (q1.flatMap av))
    (hlen : q.length + q1.length ≤ 1000000) (hbase : base ≤ w.heap.size)
    (h : ∀ v' w', AO w' base v' (q ++ q1) → w.grownBy w' v.ownBlock → K (a.put o.dst v') w') : if Region.wanted o (yielded ops a.tmps) = true then Oper.wp Tryz.prog o a w K Q else E := by
  obtain ⟨i0, hi0, hz0, hz1, hz2⟩ := info_parts infoAsker
  subst hm
  exact step_append_src hgd s x 67 ho base 74 i0 _ 4 32 Tryz.underlying67 hi0 hz0 hz1 hz2 rfl (by decide) v q.length (q.flatMap av) hs hown sa q1.length c (q1.flatMap av) hx hn (av_len q1) hsrc (av_one q1) (by unfold maxLen; omega) (by omega) hbase
    (fun v' w' ho' hg' => h v' w' (by unfold AO; rw [List.length_append, List.flatMap_append]; exact ho') hg')
end

/-- A queue of the reference's table: its name, who stands in it, and where they lie. -/
structure Qr where
  n : Nm
  q : List Ak
  v : Value
def qc (e : Qr) : List Value := [.int .i64 e.n.kind, .int .i64 e.n.of_, .int .u32 e.n.page, .int .i64 e.n.slot, e.v]
theorem qc_len (E : List Qr) : (E.flatMap qc).length = E.length * 5 := by
  induction E with
  | nil => rfl
  | cons a E ih => simp [qc, ih]; omega
theorem qc_get : ∀ (E : List Qr) (k j : Nat) (hk : k < E.length) (hj : j < 5), (E.flatMap qc)[k * 5 + j]? = (qc E[k])[j]?
  | a :: E, 0, j, _, hj => by
    rw [List.flatMap_cons, List.getElem?_append_left (by simp [qc]; omega)]
    simp
  | a :: E, k + 1, j, hk, hj => by
    rw [List.flatMap_cons, List.getElem?_append_right (by simp [qc]; omega)]
    have e : (k + 1) * 5 + j - (qc a).length = k * 5 + j := by simp [qc]; omega
    rw [e, qc_get E k j (by simpa using hk) hj]
    simp
  | [], k, j, hk, _ => by simp at hk
/-- A row of queues. -/
def RE (w : World) (base : Nat) (v : Value) (E : List Qr) : Prop := w.ownsRow base 69 5 v E.length (E.flatMap qc) ∧ ∀ e ∈ E, AO w 0 e.v e.q
def eq2 (e : Qr) : Nm × List Ak := (e.n, e.q)
/-- The reference's table. -/
def RT (w : World) (v : Value) (M : List (Nm × List Ak)) : Prop := ∃ E, E.map eq2 = M ∧ RE w 0 v E
section
variable {w w' : World} {base : Nat} {v : Value} {E : List Qr} {M : List (Nm × List Ak)}
theorem RE.form (h : RE w base v E) : ∃ a c, v = .slice a E.length c ∧ E.length ≤ c ∧ c ≤ maxLen := by
  rcases h.1.2 with ⟨rfl, h0⟩ | ⟨g, cap, cur, rfl, _, _, h1, h2, _⟩
  · exact ⟨none, 0, by rw [h0], by omega, by omega⟩
  · exact ⟨_, _, rfl, h1, h2⟩
theorem RE.of_block (h : RE w base v E) (hh : ∀ (k : Nat) (cs : Array Value) (t : TypeId), t = 74 ∨ t = 69 → w.heap[k]? = some (Obj.cells cs t (0, 0)) → w'.heap[k]? = w.heap[k]?) : RE w' base v E := by
  obtain ⟨h1, h2⟩ := h
  refine ⟨?_, fun e he => (h2 e he).of_block fun k cs hk => hh k cs _ (.inl rfl) hk⟩
  rcases h1 with ⟨h3, h4 | ⟨g, cap, cur, hv, hg, hb, r⟩⟩
  · exact ⟨h3, .inl h4⟩
  · exact ⟨h3, .inr ⟨g, cap, cur, hv, hg, (hh g cur _ (.inr rfl) hb).trans hb, r⟩⟩
theorem RE.below (h : RE w base v E) (hb : Below w.heap.size w w') : RE w' base v E := h.of_block fun k cs t _ hk => hb.block k (Array.getElem?_eq_some_iff.1 hk).1
theorem RE.base_ (h : RE w base v E) {b' : Nat} (hb : b' ≤ base) : RE w b' v E := ⟨own_base h.1 hb, h.2⟩
theorem RT.below (h : RT w v M) (hb : Below w.heap.size w w') : RT w' v M := by
  obtain ⟨E, e, h⟩ := h
  exact ⟨E, e, h.below hb⟩
theorem RT.form (h : RT w v M) : ∃ a c, v = .slice a M.length c := by
  obtain ⟨E, rfl, h⟩ := h
  obtain ⟨a, c, e, _⟩ := h.form
  exact ⟨a, c, by simpa using e⟩
theorem RE.cell {A : Option Addr} {n c : Nat} (h : RE w base (.slice A n c) E) {k : Nat} (hk : k < E.length) : ∃ g, A = some ⟨g, 0, none⟩ ∧ n = E.length ∧ E.length ≤ c ∧ c ≤ maxLen ∧ base ≤ g ∧ g < w.heap.size ∧
    w.cell? ⟨g, k * 5, none⟩ = some (.int .i64 E[k].n.kind) ∧ w.cell? ⟨g, k * 5 + 1, none⟩ = some (.int .i64 E[k].n.of_) ∧ w.cell? ⟨g, k * 5 + 2, none⟩ = some (.int .u32 E[k].n.page) ∧ w.cell? ⟨g, k * 5 + 3, none⟩ = some (.int .i64 E[k].n.slot) ∧
    w.cell? ⟨g, k * 5 + 4, none⟩ = some E[k].v ∧ AO w 0 E[k].v E[k].q := by
  have h0 := h.1
  have h9 := h.2 E[k] (List.getElem_mem hk)
  rcases h.1 with ⟨_, ⟨_, hn⟩ | ⟨g, cap, cur, hv, hg, hb, r1, r2, _⟩⟩
  · omega
  · simp only [Value.slice.injEq] at hv
    obtain ⟨rfl, rfl, rfl⟩ := hv
    have hc : ∀ j, j < 5 → w.cell? ⟨g, k * 5 + j, none⟩ = (qc E[k])[j]? := fun j hj => by
      rw [World.ownsRow.cellAt h0 (k * 5 + j) (by omega)]
      exact qc_get E k j hk hj
    exact ⟨g, rfl, rfl, r1, r2, hg, (Array.getElem?_eq_some_iff.1 hb).1, hc 0 (by omega), hc 1 (by omega), hc 2 (by omega), hc 3 (by omega), hc 4 (by omega), h9⟩
end

/-! ### Reading them -/
set_option maxHeartbeats 1000000 in
theorem rfind_any {w : World} {v : Value} {q : List Ak} (h : AO w 0 v q) (tx : Int) :
    Calls Tryz.prog 38 #[v, .int .i64 tx] w fun e w' => e = .returned (.int .i64 (idx q tx)) ∧ Below w.heap.size w w' := by
  obtain ⟨A, c, rfl, h1, h2⟩ := h.form
  unfold maxLen at h2
  go_enter Tryz.func38, Tryz.ntmps38
  go_wp2
  go_loopw [5] (fun i wr => ∃ k : Nat, k ≤ q.length ∧ i = .int .i64 k ∧ Below w.heap.size w wr ∧ Hid (∀ j (hj : j < q.length), j < k → q[j].tx ≠ tx)) (fun i _ => q.length - (intOf i).toNat)
  case atStart => exact ⟨0, Nat.zero_le _, rfl, Below.refl _ _, Lib.hid (fun j _ h => by omega)⟩
  case round =>
    obtain ⟨k, hk, rfl, hB, hno⟩ := hrel
    by_cases hlt2 : k < q.length
    · obtain ⟨g, rfl, -, -, -, -, -, c0, -⟩ := (h.below hB).cell hlt2
      by_cases htx : q[k].tx = tx
      · have hbe : (q[k].tx == tx) = true := by simpa using htx
        have HR : Hid (idx q tx = k) := Lib.hid (idx_some hlt2 htx hno.out)
        clear htx
        go_wp2_with fail
        go_ret
        exact ⟨ret_int HR.out.symm, hB⟩
      · have hbe : (q[k].tx == tx) = false := by simpa using htx
        have HN : Hid (∀ j (hj : j < q.length), j < k + 1 → q[j].tx ≠ tx) := Lib.hid (fun j hj hjk => by
          rcases Nat.lt_or_ge j k with h' | h'
          · exact hno.out j hj h'
          · obtain rfl : j = k := by omega
            exact htx)
        clear htx
        go_wp2_with fail
        go_roundw
        case rel => exact ⟨k + 1, by omega, by go_num, hB, HN⟩
        case measure => simp [intOf]; omega
    · obtain rfl : k = q.length := by omega
      have HR : Hid (idx q tx = -1) := Lib.hid (idx_none fun j hj => hno.out j hj hj)
      go_wp2_with fail
      go_ret
      exact ⟨ret_int HR.out.symm, hB⟩

set_option maxHeartbeats 1000000 in
theorem rmay_any {w : World} {v : Value} {q : List Ak} (h : AO w 0 v q) (tx mode : Int) :
    Calls Tryz.prog 44 #[v, .int .i64 tx, .int .i64 mode] w fun e w' => e = .returned (.bool (mayS q tx mode)) ∧ Below w.heap.size w w' := by
  obtain ⟨A, c, rfl, h1, h2⟩ := h.form
  unfold maxLen at h2
  go_enter Tryz.func44, Tryz.ntmps44
  go_wp2
  go_loopw [7] (fun i wr => ∃ k : Nat, k ≤ q.length ∧ i = .int .i64 k ∧ Below w.heap.size w wr ∧ Hid (∀ j (hj : j < q.length), j < k → mayOne q[j] tx mode = true)) (fun i _ => q.length - (intOf i).toNat)
  case atStart => exact ⟨0, Nat.zero_le _, rfl, Below.refl _ _, Lib.hid (fun j _ h => by omega)⟩
  case round =>
    obtain ⟨k, hk, rfl, hB, hno⟩ := hrel
    by_cases hlt2 : k < q.length
    · obtain ⟨g, rfl, -, -, -, -, -, c0, c1, -⟩ := (h.below hB).cell hlt2
      have hsz := hB.size
      have hnext : ∀ (h : mayOne q[k] tx mode = true), Hid (∀ j (hj : j < q.length), j < k + 1 → mayOne q[j] tx mode = true) := fun h => Lib.hid (fun j hj hjk => by
        rcases Nat.lt_or_ge j k with h' | h'
        · exact hno.out j hj h'
        · obtain rfl : j = k := by omega
          exact h)
      have HN := Lib.hid hnext
      clear hnext
      by_cases htx : q[k].tx = tx
      · have hbe : (q[k].tx != tx) = false := by simpa using htx
        have HE : Hid (mayOne q[k] tx mode = true) := Lib.hid (by simp [mayOne, htx])
        clear htx
        go_wp2_with fail
        go_roundw
        case rel => exact ⟨k + 1, by omega, by go_num, hB, HN.out HE.out⟩
        case measure => simp [intOf]; omega
      · have hbe : (q[k].tx != tx) = true := by simpa using htx
        by_cases hh0 : q[k].has = 0
        · have hbh : (q[k].has != 0) = false := by simpa using hh0
          have HE : Hid (mayOne q[k] tx mode = true) := Lib.hid (by simp [mayOne, hh0])
          clear htx hh0
          go_wp2_with fail
          go_roundw
          case rel => exact ⟨k + 1, by omega, by go_num, hB, HN.out HE.out⟩
          case measure => simp [intOf]; omega
        · have hbh : (q[k].has != 0) = true := by simpa using hh0
          by_cases hcp : compat q[k].has mode = true
          · have HE : Hid (mayOne q[k] tx mode = true) := Lib.hid (by simp [mayOne, hcp])
            clear htx hh0
            go_wp2_with (go_at_call 47; refine (together_any _ _ _).mono ?_; rintro e w' ⟨rfl, rfl⟩)
            go_roundw
            case rel => exact ⟨k + 1, by omega, by go_num, hB, HN.out HE.out⟩
            case measure => simp [intOf]; omega
          · have hcp' : compat q[k].has mode = false := by simpa using hcp
            have HE : Hid (mayOne q[k] tx mode = false) := Lib.hid (by simp [mayOne, hcp', htx, hh0])
            clear htx hh0 hcp
            go_wp2_with (go_at_call 47; refine (together_any _ _ _).mono ?_; rintro e w' ⟨rfl, rfl⟩)
            go_ret
            exact ⟨ret_bool (mayS_false hlt2 HE.out).symm, hB⟩
    · obtain rfl : k = q.length := by omega
      go_wp2_with fail
      go_ret
      exact ⟨ret_bool (mayS_true (fun j hj => hno.out j hj hj)).symm, hB⟩
end Go.Proofs.YtcdlplbccblbaaaGreat
