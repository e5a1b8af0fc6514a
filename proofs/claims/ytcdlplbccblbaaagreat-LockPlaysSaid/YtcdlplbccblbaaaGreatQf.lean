import Derived.Test.YtcdlplbccblbaaaGreatQe
namespace Go.Proofs.YtcdlplbccblbaaaGreat
open Go.RowKit
set_option linter.unusedVariables false
set_option linter.unusedSimpArgs false

/-! ### Rows of numbers that one owns -/
def IO (w : World) (base : Nat) (v : Value) (l : List Int) : Prop := w.ownsRow base 3 1 v l.length (l.map iv)
theorem IO.nil (w : World) (base : Nat) : IO w base (.slice none 0 0) [] := ⟨rfl, .inl ⟨rfl, rfl⟩⟩
theorem IO.of_ints {w : World} {base : Nat} {v : Value} {l : List Int} (h : IntsAt w base v l) : IO w base v l := h.1
theorem IO.below {w w' : World} {base : Nat} {v : Value} {l : List Int} (h : IO w base v l) (hb : Below w.heap.size w w') : IO w' base v l := by
  obtain ⟨h1, h2 | ⟨g, cap, cur, hv, hg, hh, r⟩⟩ := h
  · exact ⟨h1, .inl h2⟩
  · exact ⟨h1, .inr ⟨g, cap, cur, hv, hg, (hb.block g (Array.getElem?_eq_some_iff.1 hh).1).trans hh, r⟩⟩
theorem IO.of_block {w w' : World} {base : Nat} {v : Value} {l : List Int} (h : IO w base v l) (hh : ∀ (k : Nat) (cs : Array Value), w.heap[k]? = some (Obj.cells cs 3 (0, 0)) → w'.heap[k]? = w.heap[k]?) : IO w' base v l := by
  rcases h with ⟨h1, h2 | ⟨g, cap, cur, hv, hg, hb, r⟩⟩
  · exact ⟨h1, .inl h2⟩
  · exact ⟨h1, .inr ⟨g, cap, cur, hv, hg, (hh g cur hb).trans hb, r⟩⟩
theorem IO.made (w : World) : IO (w.alloc (.cells #[] 3)) w.heap.size (.slice (some ⟨w.heap.size, 0, none⟩) 0 0) [] :=
  ⟨rfl, .inr ⟨w.heap.size, 0, #[], rfl, Nat.le_refl _, heap_alloc_new w _, Nat.le_refl _, by simp, rfl, rfl⟩⟩
theorem IO.form {w : World} {base : Nat} {v : Value} {l : List Int} (h : IO w base v l) : ∃ a c, v = .slice a l.length c ∧ l.length ≤ c ∧ c ≤ maxLen := by
  rcases h.2 with ⟨rfl, h0⟩ | ⟨g, cap, cur, rfl, _, _, h1, h2, _⟩
  · exact ⟨none, 0, by rw [h0], by omega, by omega⟩
  · exact ⟨_, _, rfl, h1, h2⟩
theorem IO.base_ {w : World} {base : Nat} {v : Value} {l : List Int} (h : IO w base v l) {b' : Nat} (hb : b' ≤ base) : IO w b' v l := own_base h hb
theorem IO.other {w : World} {base : Nat} {v : Value} {l : List Int} (h : IO w base v l) {k : Nat} {t : TypeId} {cs : Array Value} (hb : Blk w k t cs) (ht : t ≠ 3) : some k ≠ v.ownBlock := by
  rcases h.2 with ⟨rfl, _⟩ | ⟨g, cap, cur, rfl, _, hh, _⟩
  · simp [Value.ownBlock]
  · intro e
    obtain rfl : k = g := by simpa [Value.ownBlock] using e
    unfold Blk at hb
    rw [hb] at hh
    simp at hh
    exact ht hh.2
theorem IO.grownBelow {w w1 w2 : World} {base : Nat} {v : Value} {l : List Int} (ho : IO w1 base v l) (h : Below base w w1) (hg : w1.grownBy w2 v.ownBlock) (hs : base ≤ w1.heap.size) : Below base w w2 :=
  h.grown hg hs (fun k hk => by
    rcases ho.2 with ⟨e, _⟩ | ⟨g, cap, cur, e, hg', _⟩
    · rw [e] at hk; simp [Value.ownBlock] at hk
    · rw [e] at hk
      obtain rfl : g = k := by simpa [Value.ownBlock] using hk
      exact hg')
theorem IO.cell {w : World} {base : Nat} {A : Option Addr} {n c : Nat} {l : List Int} (h : IO w base (.slice A n c) l) {k : Nat} (hk : k < l.length) : ∃ g, A = some ⟨g, 0, none⟩ ∧ n = l.length ∧ l.length ≤ c ∧ c ≤ maxLen ∧ base ≤ g ∧ g < w.heap.size ∧ w.cell? ⟨g, k, none⟩ = some (.int .i64 l[k]) := by
  have h0 := h
  rcases h with ⟨_, ⟨_, hn⟩ | ⟨g, cap, cur, hv, hg, hb, r1, r2, _⟩⟩
  · omega
  · simp only [Value.slice.injEq] at hv
    obtain ⟨rfl, rfl, rfl⟩ := hv
    refine ⟨g, rfl, rfl, r1, r2, hg, (Array.getElem?_eq_some_iff.1 hb).1, ?_⟩
    rw [World.ownsRow.cellAt h0 k (by omega)]
    simp [hk, iv]
theorem IO.src {w : World} {base : Nat} {sa : Option Addr} {n c : Nat} {l : List Int} (h : IO w base (.slice sa n c) l) : SrcAt w sa (l.map iv) := by
  intro j u hj p hp
  subst hp
  rcases h.2 with ⟨h0, _⟩ | ⟨g, cap, cur, hv, _⟩
  · simp at h0
  · simp only [Value.slice.injEq, Option.some.injEq] at hv
    obtain ⟨rfl, _, _⟩ := hv
    exact World.ownsRow.cells h rfl j u hj
theorem IO.src_none {w : World} {base : Nat} {sa : Option Addr} {n c : Nat} {l : List Int} (h : IO w base (.slice sa n c) l) : sa = none → n = 0 ∧ c = 0 := by
  rintro rfl
  rcases h.2 with ⟨h0, _⟩ | ⟨g, cap, cur, hv, _⟩
  · simpa using h0
  · simp at hv
theorem ivs_one (l : List Int) : ∀ u ∈ l.map iv, u.oneCell' = true := by
  intro u hu
  obtain ⟨x, _, rfl⟩ := List.mem_map.1 hu
  rfl
theorem src_int (w : World) (x : Int) : SrcAt (w.alloc (.cells #[.int .i64 x] 3)) (some ⟨w.heap.size, 0, none⟩) ([x].map iv) := by
  intro j u hj p hp
  obtain rfl : (⟨w.heap.size, 0, none⟩ : Addr) = p := by simpa using hp
  rw [show (⟨w.heap.size, 0, none⟩ : Addr).add j = ⟨w.heap.size, j, none⟩ by unfold Addr.add; split <;> simp_all, (Blk.new w 3 _).cell j]
  have : ([x].map iv)[j]? = (#[.int .i64 x] : Array Value)[j]? := by simp [iv]
  rw [← this]
  exact hj
section
variable {w : World} {ops : Array Oper} {rest : List Oper} {o : Oper} {a : Act} {K : Act → World → Prop} {Q : Exit → Act → World → Prop} {E : Prop}
theorem wpList_append_io (hgd : o.guard = none) (s x : Operand) (ho : o.op = .call { callee := .builtin .append, args := #[s, x], argTypes := #[52, 52] })
    (base : Nat) (v : Value) (q q1 : List Int) (hs : a.eval s = v) (hown : IO w base v q) (sa : Option Addr) (m c : Nat) (hx : a.eval x = .slice sa m c) (hm : m = q1.length) (hn : sa = none → m = 0 ∧ c = 0) (hsrc : SrcAt w sa (q1.map iv))
    (hlen : q.length + q1.length ≤ 1000000000) (hbase : base ≤ w.heap.size)
    (h : ∀ v' w', IO w' base v' (q ++ q1) → w.grownBy w' v.ownBlock → wpList Tryz.prog ops Q rest (a.put o.dst v') w') : wpList Tryz.prog ops Q (o :: rest) a w := by
  obtain ⟨i0, hi0, hz0, hz1, hz2⟩ := info_parts infoInt
  subst hm
  exact wpList_append_src hgd s x 52 ho base 3 i0 _ 1 8 Tryz.underlying52 hi0 hz0 hz1 hz2 rfl (by decide) v q.length (q.map iv) hs hown sa q1.length c (q1.map iv) hx hn (by simp) hsrc (ivs_one q1) (by unfold maxLen; omega) (by omega) hbase
    (fun v' w' ho' hg' => h v' w' (by unfold IO; rw [List.length_append, List.map_append]; exact ho') hg')
theorem step_append_io (hgd : o.guard = none) (s x : Operand) (ho : o.op = .call { callee := .builtin .append, args := #[s, x], argTypes := #[52, 52] })
    (base : Nat) (v : Value) (q q1 : List Int) (hs : a.eval s = v) (hown : IO w base v q) (sa : Option Addr) (m c : Nat) (hx : a.eval x = .slice sa m c) (hm : m = q1.length) (hn : sa = none → m = 0 ∧ c = 0) (hsrc : SrcAt w sa (q1.map iv))
    (hlen : q.length + q1.length ≤ 1000000000) (hbase : base ≤ w.heap.size)
    (h : ∀ v' w', IO w' base v' (q ++ q1) → w.grownBy w' v.ownBlock → K (a.put o.dst v') w') : if Region.wanted o (yielded ops a.tmps) = true then Oper.wp Tryz.prog o a w K Q else E := by
  obtain ⟨i0, hi0, hz0, hz1, hz2⟩ := info_parts infoInt
  subst hm
  exact step_append_src hgd s x 52 ho base 3 i0 _ 1 8 Tryz.underlying52 hi0 hz0 hz1 hz2 rfl (by decide) v q.length (q.map iv) hs hown sa q1.length c (q1.map iv) hx hn (by simp) hsrc (ivs_one q1) (by unfold maxLen; omega) (by omega) hbase
    (fun v' w' ho' hg' => h v' w' (by unfold IO; rw [List.length_append, List.map_append]; exact ho') hg')
end

/-! ### Granting -/
theorem stay_take {q : List Ak} {i : Nat} (hi : i < q.length) : stay (q.take (i + 1)) = stay (q.take i) ++ (if (q[i].has != 0 || q[i].wants != 0) = true then [q[i]] else []) := by
  unfold stay
  rw [List.take_succ_eq_append_getElem hi, List.filter_append]
  congr 1
  simp only [List.filter_cons, List.filter_nil]
  by_cases h1 : q[i].has = 0 <;> by_cases h2 : q[i].wants = 0 <;> simp [zAk, h1, h2]
/-- The reference's queue within granting. -/
structure GR (w : World) (qv ov : Value) (k o p s : Int) (g : Gs) (wr : World) : Prop where
  row : AO wr w.heap.size qv g.q
  out : IO wr w.heap.size ov g.out
  name : Blk wr w.heap.size 49 #[.int .i64 k, .int .i64 o, .int .u32 p, .int .i64 s]
  below : Below w.heap.size w wr
theorem GR.later {w wr w' : World} {qv ov : Value} {k o p s : Int} {g : Gs} (h : GR w qv ov k o p s g wr) (hb : Below wr.heap.size wr w') : GR w qv ov k o p s g w' :=
  ⟨h.row.below hb, h.out.below hb, h.name.of_block (hb.block _ h.name.lt), h.below.trans (hb.mono h.below.size)⟩
end Go.Proofs.YtcdlplbccblbaaaGreat
