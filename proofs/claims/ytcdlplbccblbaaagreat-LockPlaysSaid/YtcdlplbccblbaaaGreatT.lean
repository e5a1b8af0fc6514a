import Derived.Test.YtcdlplbccblbaaaGreatMg3
namespace Go.Proofs.YtcdlplbccblbaaaGreat
open Go.RowKit
set_option linter.unusedVariables false

/-- A lock's queue, and where it lies. -/
structure Row where
  n : Nm
  g : Nat
  cap : Nat
  q : List Ak
def Row.v (r : Row) : Value := .slice (some ⟨r.g, 0, none⟩) r.q.length r.cap

/-- THE TABLE: its struct in block T, its maps in QB and WB, its queues R, who waits for what W. -/
structure Tab (w : World) (T QB WB : Nat) (R : List Row) (W : List (Int × Nm)) : Prop where
  head : Blk w T 37 #[.map (some QB), .map (some WB)]
  qm : MapAt KN w QB (R.map fun r => (r.n, r.v))
  wm : MapAt KI w WB (W.map fun p => (p.1, nv p.2))
  ne : QB ≠ WB
  rows : ∀ r ∈ R, RowAt w r.g r.cap r.q
  apart : (R.map (·.g)).Nodup

/-- The blocks of a table. -/
def Foot (T QB WB : Nat) (R : List Row) (k : Nat) : Prop := k = T ∨ k = QB ∨ k = WB ∨ k ∈ R.map (·.g)

section
variable {w w' : World} {T QB WB : Nat} {R : List Row} {W : List (Int × Nm)}
theorem Tab.names (h : Tab w T QB WB R W) : (R.map (·.n)).Nodup := by
  obtain ⟨es, clock, _, _, hn, _⟩ := h.qm
  simpa [List.map_map, Function.comp_def] using hn
theorem Tab.txs (h : Tab w T QB WB R W) : (W.map (·.1)).Nodup := by
  obtain ⟨es, clock, _, _, hn, _⟩ := h.wm
  simpa [List.map_map, Function.comp_def] using hn
theorem Tab.foot_lt (h : Tab w T QB WB R W) {k : Nat} (hk : Foot T QB WB R k) : k < w.heap.size := by
  rcases hk with rfl | rfl | rfl | hk
  · exact h.head.lt
  · exact h.qm.lt
  · exact h.wm.lt
  · obtain ⟨r, hr, rfl⟩ := List.mem_map.1 hk
    exact (h.rows r hr).lt
theorem Tab.of_blocks (h : Tab w T QB WB R W) (hh : ∀ k, Foot T QB WB R k → w'.heap[k]? = w.heap[k]?) : Tab w' T QB WB R W :=
  ⟨h.head.of_block (hh _ (.inl rfl)), h.qm.of_block (hh _ (.inr (.inl rfl))), h.wm.of_block (hh _ (.inr (.inr (.inl rfl)))), h.ne,
   fun r hr => (h.rows r hr).of_block (hh _ (.inr (.inr (.inr (List.mem_map_of_mem hr))))), h.apart⟩
theorem Tab.below (h : Tab w T QB WB R W) (hb : Below w.heap.size w w') : Tab w' T QB WB R W := h.of_blocks fun k hk => hb.block k (h.foot_lt hk)
theorem Tab.kinds (h : Tab w T QB WB R W) : T ≠ QB ∧ T ≠ WB ∧ ∀ r ∈ R, r.g ≠ T ∧ r.g ≠ QB ∧ r.g ≠ WB := by
  obtain ⟨es, c, hq, _⟩ := h.qm
  obtain ⟨es', c', hw, _⟩ := h.wm
  have hT := h.head
  unfold Blk at hT
  refine ⟨?_, ?_, fun r hr => ?_⟩
  · rintro rfl; rw [hT] at hq; cases hq
  · rintro rfl; rw [hT] at hw; cases hw
  · obtain ⟨cur, hb, _⟩ := (h.rows r hr).ex
    unfold Blk at hb
    refine ⟨?_, ?_, ?_⟩
    · intro e; rw [e, hT] at hb; injection hb with hb; injection hb with _ h2; exact absurd h2 (by decide)
    · intro e; rw [e, hq] at hb; cases hb
    · intro e; rw [e, hw] at hb; cases hb

/-! ### What stands there -/
def wOf (W : List (Int × Nm)) (tx : Int) : Option Nm := (W.find? (fun p => p.1 == tx)).map (·.2)
def n0 : Nm := ⟨0, 0, 0, 0⟩
def wz (W : List (Int × Nm)) (tx : Int) : Nm := (wOf W tx).getD n0
def rOf (R : List Row) (n : Nm) : Option Row := R.find? (fun r => r.n == n)
def qOf (R : List Row) (n : Nm) : List Ak := ((rOf R n).map (·.q)).getD []
def vOf (R : List Row) (n : Nm) : Value := ((rOf R n).map Row.v).getD (.slice none 0 0)

theorem zeroName (w : World) : (zeroValue 46).run Tryz.prog w = .ok (nv n0) w := by kernel_rfl
theorem zeroAsks (w : World) : (zeroValue 77).run Tryz.prog w = .ok (.slice none 0 0) w := by kernel_rfl

theorem wOf_none {tx : Int} (h : wOf W tx = none) : tx ∉ (W.map fun p => (p.1, nv p.2)).map (·.1) := by
  unfold wOf at h
  simp at h
  simp
  intro x hx
  exact h _ _ hx rfl
theorem Tab.waits (h : Tab w T QB WB R W) (tx : Int) : (Instr.lookup 35 (.map (some WB)) (.int .i64 tx) true).run Tryz.prog w =
    .ok (.tuple #[.agg #[.int .i64 (wz W tx).kind, .int .i64 (wz W tx).of_, .int .u32 (wz W tx).page, .int .i64 (wz W tx).slot], .bool (wOf W tx).isSome]) w := by
  cases hw : wOf W tx with
  | none =>
    have := h.wm.look_none Tryz.underlying35 (zeroName w) (a := tx) (wOf_none hw) true
    simp only [wz, hw]
    exact this
  | some n =>
    have hmem : (tx, nv n) ∈ W.map fun p => (p.1, nv p.2) := by
      unfold wOf at hw
      obtain ⟨p, hp, rfl⟩ := Option.map_eq_some_iff.1 hw
      have h1 := List.find?_some hp
      simp at h1
      subst h1
      exact List.mem_map.2 ⟨p, List.mem_of_find?_eq_some hp, rfl⟩
    have := h.wm.look_some Tryz.underlying35 hmem true
    simp only [wz, hw]
    exact this
theorem rOf_some {n : Nm} {r : Row} (h : rOf R n = some r) : r ∈ R ∧ r.n = n := by
  unfold rOf at h
  have h1 := List.find?_some h
  simp at h1
  exact ⟨List.mem_of_find?_eq_some h, h1⟩
theorem rOf_none {n : Nm} (h : rOf R n = none) : n ∉ R.map (·.n) := by
  unfold rOf at h
  simp at h
  simp
  intro x hx
  exact h _ hx
theorem Tab.look (h : Tab w T QB WB R W) (n : Nm) : (Instr.lookup 34 (.map (some QB)) (nv n) false).run Tryz.prog w = .ok (vOf R n) w := by
  cases hr : rOf R n with
  | none =>
    have := h.qm.look_none Tryz.underlying34 (zeroAsks w) (a := n) (by simpa [List.map_map, Function.comp_def] using rOf_none hr) false
    simp only [vOf, hr]
    exact this
  | some r =>
    obtain ⟨hm, rfl⟩ := rOf_some hr
    have := h.qm.look_some Tryz.underlying34 (List.mem_map.2 ⟨r, hm, rfl⟩) false
    simp only [vOf, hr]
    exact this
theorem Tab.qv (h : Tab w T QB WB R W) (n : Nm) : QV w (vOf R n) (qOf R n) := by
  unfold vOf qOf
  cases hr : rOf R n with
  | none => exact .inl ⟨rfl, rfl⟩
  | some r => exact .inr ⟨r.g, r.cap, rfl, h.rows r (rOf_some hr).1⟩

theorem waits_any (h : Tab w T QB WB R W) (tx : Int) : Calls Tryz.prog 9 #[.pointer (some ⟨T, 0, none⟩), .int .i64 tx] w fun e w' => e = .returned (.bool (wOf W tx).isSome) ∧ Below w.heap.size w w' := by
  have h0 := h.head.cell 1
  simp at h0
  have hl := h.waits tx
  go_enter Tryz.func9, Tryz.ntmps9
  go_wp2
  go_ret
  exact ⟨rfl, (Below.refl _ _).alloc (Nat.le_refl _) _⟩
theorem waits_nil (tx : Int) (w : World) : Calls Tryz.prog 9 #[.pointer none, .int .i64 tx] w fun e w' => e = .returned (.bool false) ∧ w = w' := by
  go_enter Tryz.func9, Tryz.ntmps9
  go_wp2
  go_ret
  exact ⟨rfl, rfl⟩

/-! ### How a table turns -/
theorem Row.v_set (r : Row) (k : Nat) (a : Ak) : ({ r with q := r.q.set k a } : Row).v = r.v := by simp [Row.v]

theorem Tab.putCell {R1 R2 : List Row} {r : Row} (h : Tab w T QB WB (R1 ++ r :: R2) W) {k j : Nat} (hk : k < r.q.length) (hj : j < 4) {a : Ak} {u : Value} (ha : av a = (av r.q[k]).set j u) :
    Tab (w.setCell ⟨r.g, k * 4 + j, none⟩ u) T QB WB (R1 ++ { r with q := r.q.set k a } :: R2) W := by
  obtain ⟨k1, k2, k3⟩ := h.kinds
  obtain ⟨g1, g2, g3⟩ := k3 r (by simp)
  have hap := h.apart
  refine ⟨h.head.far (p := ⟨r.g, k * 4 + j, none⟩) (fun e => g1 e.symm) u, ?_, h.wm.of_block (Below.heap_setCell w ⟨r.g, k * 4 + j, none⟩ u _ (fun e => g3 e.symm)), h.ne, ?_, by simpa using hap⟩
  · have := h.qm.of_block (Below.heap_setCell w ⟨r.g, k * 4 + j, none⟩ u QB (fun e => g2 e.symm))
    simpa [Row.v_set] using this
  · intro r' hr'
    rw [List.map_append, List.map_cons, List.nodup_append] at hap
    obtain ⟨n1, n2, n3⟩ := hap
    rw [List.nodup_cons] at n2
    rw [List.mem_append, List.mem_cons] at hr'
    have hfar : ∀ x ∈ R1 ++ r :: R2, x.g ≠ r.g → RowAt (w.setCell ⟨r.g, k * 4 + j, none⟩ u) x.g x.cap x.q := fun x hx hne =>
      (h.rows x hx).of_block (Below.heap_setCell w ⟨r.g, k * 4 + j, none⟩ u _ hne)
    rcases hr' with hr' | rfl | hr'
    · exact hfar r' (by simp [hr']) (fun e => n3 r'.g (List.mem_map_of_mem hr') r.g (by simp) e)
    · exact (h.rows r (by simp)).put hk hj ha
    · exact hfar r' (by simp [hr']) (fun e => n2.1 (e ▸ List.mem_map_of_mem hr'))

theorem Tab.grow_old {R1 R2 : List Row} {r : Row} (h : Tab w T QB WB (R1 ++ r :: R2) W) {w1 : World} (hg : w.grownBy w1 (some r.g)) {base g' cap' : Nat} {a : Ak}
    (hown : w1.ownsRow base 80 4 (.slice (some ⟨g', 0, none⟩) (r.q.length + 1) cap') (r.q.length + 1) (r.q.flatMap av ++ av a)) (hat : g' = r.g ∨ w.heap.size ≤ g') :
    ∃ w2, (Instr.mapUpdate 34 (.map (some QB)) (nv r.n) (.slice (some ⟨g', 0, none⟩) (r.q.length + 1) cap')).run Tryz.prog w1 = .ok () w2 ∧ Tab w2 T QB WB (R1 ++ ⟨r.n, g', cap', r.q ++ [a]⟩ :: R2) W ∧ Turned w1 w2 QB := by
  obtain ⟨k1, k2, k3⟩ := h.kinds
  obtain ⟨e1, e2, e3⟩ := k3 r (by simp)
  have hap := h.apart
  rw [List.map_append, List.map_cons, List.nodup_append] at hap
  obtain ⟨n1, n2, n3⟩ := hap
  rw [List.nodup_cons] at n2
  have hblk : ∀ k, Foot T QB WB (R1 ++ r :: R2) k → k ≠ r.g → w1.heap[k]? = w.heap[k]? := fun k hk hne => hg.block k (h.foot_lt hk) (fun e => hne (by simpa using e))
  have hq1 : MapAt KN w1 QB (R1.map (fun r => (r.n, r.v)) ++ (r.n, r.v) :: R2.map (fun r => (r.n, r.v))) := by
    have := h.qm.of_block (hblk QB (.inr (.inl rfl)) (fun e => e2 e.symm))
    simpa using this
  obtain ⟨w2, hrun, hm, ht⟩ := hq1.put_old Tryz.underlying34 (.slice (some ⟨g', 0, none⟩) (r.q.length + 1) cap')
  have hrow : RowAt w1 g' cap' (r.q ++ [a]) := RowAt.of_own (base := base) (by simpa using hown)
  have hg'lt : g' < w1.heap.size := hrow.lt
  have hkey : ∀ k, Foot T QB WB (R1 ++ r :: R2) k → k ≠ r.g → k ≠ g' := by
    intro k hk hne e
    rcases hat with h' | h'
    · exact hne (e.trans h')
    · have := h.foot_lt hk; omega
  have hg'Q : g' ≠ QB := fun e => by
    rcases hat with h' | h'
    · exact e2 (h' ▸ e)
    · have := h.qm.lt; omega
  refine ⟨w2, hrun, ⟨?_, by simpa [Row.v] using hm, ?_, h.ne, ?_, ?_⟩, ht⟩
  · exact (h.head.of_block (hblk T (.inl rfl) (fun e => e1 e.symm))).of_block (ht.block T k1)
  · exact (h.wm.of_block (hblk WB (.inr (.inr (.inl rfl))) (fun e => e3 e.symm))).of_block (ht.block WB (fun e => h.ne e.symm))
  · have hfar : ∀ x ∈ R1 ++ r :: R2, x.g ≠ r.g → RowAt w2 x.g x.cap x.q := fun x hx hne =>
      ((h.rows x hx).of_block (hblk x.g (.inr (.inr (.inr (List.mem_map_of_mem hx)))) hne)).of_block (ht.block _ (k3 x hx).2.1)
    intro r' hr'
    rw [List.mem_append, List.mem_cons] at hr'
    rcases hr' with hr' | rfl | hr'
    · exact hfar r' (by simp [hr']) (fun e => n3 r'.g (List.mem_map_of_mem hr') r.g (by simp) e)
    · exact hrow.of_block (ht.block g' hg'Q)
    · exact hfar r' (by simp [hr']) (fun e => n2.1 (e ▸ List.mem_map_of_mem hr'))
  · rw [List.map_append, List.map_cons, List.nodup_append, List.nodup_cons]
    refine ⟨n1, ⟨?_, n2.2⟩, ?_⟩
    · intro hm'
      obtain ⟨x, hx, hxg⟩ := List.mem_map.1 hm'
      exact hkey x.g (.inr (.inr (.inr (List.mem_map_of_mem (by simp [hx]))))) (fun e => n2.1 (e ▸ List.mem_map_of_mem hx)) hxg
    · intro x hx y hy
      rw [List.mem_cons] at hy
      rcases hy with rfl | hy
      · obtain ⟨x', hx', rfl⟩ := List.mem_map.1 hx
        exact hkey x'.g (.inr (.inr (.inr (List.mem_map_of_mem (by simp [hx']))))) (fun e => n3 x'.g (List.mem_map_of_mem hx') r.g (by simp) e)
      · exact n3 x hx y (by simp [hy])

theorem Tab.grow_new (h : Tab w T QB WB R W) {w1 : World} (hg : w.grownBy w1 none) {base g' cap' : Nat} {a : Ak} {n : Nm} (hn : n ∉ R.map (·.n))
    (hown : w1.ownsRow base 80 4 (.slice (some ⟨g', 0, none⟩) 1 cap') 1 (av a)) (hat : w.heap.size ≤ g') :
    ∃ w2, (Instr.mapUpdate 34 (.map (some QB)) (nv n) (.slice (some ⟨g', 0, none⟩) 1 cap')).run Tryz.prog w1 = .ok () w2 ∧ Tab w2 T QB WB (R ++ [⟨n, g', cap', [a]⟩]) W ∧ Turned w1 w2 QB := by
  obtain ⟨k1, k2, k3⟩ := h.kinds
  have hblk : ∀ k, Foot T QB WB R k → w1.heap[k]? = w.heap[k]? := fun k hk => hg.block k (h.foot_lt hk) (by simp)
  have hq1 := h.qm.of_block (hblk QB (.inr (.inl rfl)))
  obtain ⟨w2, hrun, hm, ht⟩ := hq1.put_new Tryz.underlying34 (a := n) (by simpa [List.map_map, Function.comp_def] using hn) (.slice (some ⟨g', 0, none⟩) 1 cap')
  have hrow : RowAt w1 g' cap' [a] := RowAt.of_own (base := base) (by simpa using hown)
  have hg'Q : g' ≠ QB := fun e => by have := h.qm.lt; omega
  refine ⟨w2, hrun, ⟨?_, by simpa [Row.v] using hm, ?_, h.ne, ?_, ?_⟩, ht⟩
  · exact (h.head.of_block (hblk T (.inl rfl))).of_block (ht.block T k1)
  · exact (h.wm.of_block (hblk WB (.inr (.inr (.inl rfl))))).of_block (ht.block WB (fun e => h.ne e.symm))
  · intro r' hr'
    rw [List.mem_append, List.mem_singleton] at hr'
    rcases hr' with hr' | rfl
    · exact ((h.rows r' hr').of_block (hblk r'.g (.inr (.inr (.inr (List.mem_map_of_mem hr')))))).of_block (ht.block _ (k3 r' hr').2.1)
    · exact hrow.of_block (ht.block g' hg'Q)
  · rw [List.map_append, List.nodup_append]
    refine ⟨h.apart, by simp, ?_⟩
    intro x hx y hy
    simp at hy
    subst hy
    obtain ⟨x', hx', rfl⟩ := List.mem_map.1 hx
    have := (h.rows x' hx').lt
    omega

theorem Tab.wait (h : Tab w T QB WB R W) {tx : Int} (hw : wOf W tx = none) (n : Nm) :
    ∃ w2, (Instr.mapUpdate 35 (.map (some WB)) (.int .i64 tx) (nv n)).run Tryz.prog w = .ok () w2 ∧ Tab w2 T QB WB R (W ++ [(tx, n)]) ∧ Turned w w2 WB := by
  obtain ⟨k1, k2, k3⟩ := h.kinds
  obtain ⟨w2, hrun, hm, ht⟩ := h.wm.put_new Tryz.underlying35 (a := tx) (wOf_none hw) (nv n)
  exact ⟨w2, hrun, ⟨h.head.of_block (ht.block T k2), h.qm.of_block (ht.block QB h.ne), by simpa using hm, h.ne, fun r hr => (h.rows r hr).of_block (ht.block _ (k3 r hr).2.2), h.apart⟩, ht⟩

theorem Tab.unwait (h : Tab w T QB WB R W) (tx : Int) (ty : TypeId) :
    ∃ w2, (Builtin.delete_ #[35, 3] ty #[.map (some WB), .int .i64 tx]).run Tryz.prog w = .ok (.tuple #[]) w2 ∧ Tab w2 T QB WB R (W.filter (fun p => p.1 != tx)) ∧ Turned w w2 WB := by
  obtain ⟨k1, k2, k3⟩ := h.kinds
  have hdone : ∀ {w2 : World} {W'}, MapAt KI w2 WB (W'.map fun p => (p.1, nv p.2)) → Turned w w2 WB → Tab w2 T QB WB R W' := fun hm ht =>
    ⟨h.head.of_block (ht.block T k2), h.qm.of_block (ht.block QB h.ne), hm, h.ne, fun r hr => (h.rows r hr).of_block (ht.block _ (k3 r hr).2.2), h.apart⟩
  cases hw : wOf W tx with
  | none =>
    obtain ⟨w2, hrun, hm, ht⟩ := h.wm.del_none (ty := ty) Tryz.underlying35 (a := tx) (wOf_none hw)
    have : W.filter (fun p => p.1 != tx) = W := by
      rw [List.filter_eq_self]
      intro p hp
      have := wOf_none hw
      simp at this
      simp
      intro e
      exact this p.2 (e ▸ hp)
    rw [this]
    exact ⟨w2, hrun, hdone hm ht, ht⟩
  | some n =>
    obtain ⟨W1, p, W2, rfl, hp⟩ : ∃ W1 p W2, W = W1 ++ p :: W2 ∧ p.1 = tx := by
      unfold wOf at hw
      obtain ⟨p, hp, _⟩ := Option.map_eq_some_iff.1 hw
      obtain ⟨W1, W2, rfl⟩ := List.append_of_mem (List.mem_of_find?_eq_some hp)
      exact ⟨W1, p, W2, rfl, by have := List.find?_some hp; simpa using this⟩
    obtain ⟨tx', m⟩ := p
    subst hp
    have hnd := h.txs
    have hwm := h.wm
    rw [List.map_append, List.map_cons] at hwm
    obtain ⟨w2, hrun, hm, ht⟩ := hwm.del_old (ty := ty) Tryz.underlying35
    have : (W1 ++ (tx', m) :: W2).filter (fun p => p.1 != tx') = W1 ++ W2 := by
      rw [List.map_append, List.map_cons, List.nodup_append, List.nodup_cons] at hnd
      obtain ⟨_, ⟨n2, _⟩, n3⟩ := hnd
      rw [List.filter_append, List.filter_cons]
      have f1 : W1.filter (fun p => p.1 != tx') = W1 := by
        rw [List.filter_eq_self]
        intro p hp
        simp
        exact n3 p.1 (List.mem_map_of_mem hp) tx' (by simp)
      have f2 : W2.filter (fun p => p.1 != tx') = W2 := by
        rw [List.filter_eq_self]
        intro p hp
        simp
        intro e
        exact n2 (List.mem_map.2 ⟨p, hp, e⟩)
      rw [f1, f2]
      simp
    rw [this]
    exact ⟨w2, hrun, hdone (by simpa using hm) ht, ht⟩
end
end Go.Proofs.YtcdlplbccblbaaaGreat
