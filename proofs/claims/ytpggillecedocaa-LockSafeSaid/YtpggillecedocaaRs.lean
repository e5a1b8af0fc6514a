import Derived.Test.YtpggillecedocaaG
import Derived.Test.YtpggillecedocaaN
namespace Go.Proofs.Ytpggillecedocaa
open Go.RowKit
set_option linter.unusedVariables false

/-! ### A table told by its queues -/
def nq (r : Row) : Nm × List Ak := (r.n, r.q)
def qL (L : List (Nm × List Ak)) (n : Nm) : List Ak := ((L.find? fun p => p.1 == n).map (·.2)).getD []
/-- Another queue for a name that stands there; none: it goes. -/
def repl (L : List (Nm × List Ak)) (n : Nm) (q : List Ak) : List (Nm × List Ak) := L.flatMap fun p => if p.1 = n then (if q.isEmpty = true then [] else [(n, q)]) else [p]
theorem qL_rows (R : List Row) (n : Nm) : qL (R.map nq) n = qOf R n := by
  unfold qL qOf rOf nq
  rw [List.find?_map]
  simp [Function.comp_def, Option.map_map]
theorem repl_out {L : List (Nm × List Ak)} {n : Nm} (h : n ∉ L.map (·.1)) (q : List Ak) : repl L n q = L := by
  induction L with
  | nil => rfl
  | cons p L ih =>
    simp only [List.map_cons, List.mem_cons, not_or] at h
    unfold repl at ih ⊢
    rw [List.flatMap_cons, ih h.2, if_neg (fun e => h.1 e.symm)]
    rfl
theorem repl_mid {L1 L2 : List (Nm × List Ak)} {n : Nm} {q0 q : List Ak} (h1 : n ∉ L1.map (·.1)) (h2 : n ∉ L2.map (·.1)) : repl (L1 ++ (n, q0) :: L2) n q = if q.isEmpty = true then L1 ++ L2 else L1 ++ (n, q) :: L2 := by
  have e1 := repl_out h1 q
  have e2 := repl_out h2 q
  unfold repl at *
  rw [List.flatMap_append, List.flatMap_cons, e1, e2]
  simp only [if_true]
  split <;> simp

structure Rs where
  L : List (Nm × List Ak)
  W : List (Int × Nm)
  out : List Int
def relOne (tx : Int) (s : Rs) (n : Nm) : Rs :=
  match (qL s.L n).findIdx? fun a => a.tx == tx with
  | none => s
  | some i => ⟨repl s.L n (gq ((qL s.L n).eraseIdx i)), s.W.filter fun p => !(gout ((qL s.L n).eraseIdx i)).contains p.1, s.out ++ gout ((qL s.L n).eraseIdx i)⟩
def relK (tx : Int) (s : Rs) (l : List Nm) : Rs := l.foldl (relOne tx) s
/-- All is let go. -/
def rel (tx : Int) (L : List (Nm × List Ak)) (W : List (Int × Nm)) : Rs := relK tx ⟨L, W.filter fun p => p.1 != tx, []⟩ (sortN (L.map (·.1)))

theorem stay_len (q : List Ak) : (stay q).length ≤ q.length := List.length_filter_le _ _
theorem gq_len (q : List Ak) : (gq q).length ≤ q.length := by
  unfold gq
  have := stay_len (gk q 2).q
  rw [gk_len] at this
  exact this
theorem gout_len (q : List Ak) : (gout q).length ≤ 2 * q.length := gk_out q 2
/-- How great a table is. -/
def Fits (N : Nat) (L : List (Nm × List Ak)) : Prop := L.length ≤ N ∧ ∀ p ∈ L, p.2.length ≤ N
theorem Fits.qL {N : Nat} {L : List (Nm × List Ak)} (h : Fits N L) (n : Nm) : (qL L n).length ≤ N := by
  unfold Ytpggillecedocaa.qL
  cases hf : L.find? fun p => p.1 == n with
  | none => simp
  | some p => exact h.2 p (List.mem_of_find?_eq_some hf)
theorem repl_length (L : List (Nm × List Ak)) (n : Nm) (q : List Ak) : (repl L n q).length ≤ L.length := by
  induction L with
  | nil => simp [repl]
  | cons p L ih =>
    unfold repl at ih ⊢
    rw [List.flatMap_cons, List.length_append, List.length_cons]
    have h1 : (if p.1 = n then (if q.isEmpty = true then [] else [(n, q)]) else [p]).length ≤ 1 := by
      split
      · split <;> simp
      · simp
    omega
theorem repl_mem {L : List (Nm × List Ak)} {n : Nm} {q : List Ak} {p : Nm × List Ak} (h : p ∈ repl L n q) : p ∈ L ∨ p = (n, q) := by
  unfold repl at h
  rw [List.mem_flatMap] at h
  obtain ⟨p0, h0, h1⟩ := h
  split at h1
  · split at h1
    · simp at h1
    · simp at h1; exact .inr h1
  · simp at h1; exact .inl (h1 ▸ h0)
theorem Fits.repl {N : Nat} {L : List (Nm × List Ak)} (h : Fits N L) (n : Nm) {q : List Ak} (hq : q.length ≤ N) : Fits N (repl L n q) :=
  ⟨Nat.le_trans (repl_length L n q) h.1, fun p hp => by
    rcases repl_mem hp with hp | rfl
    · exact h.2 p hp
    · exact hq⟩
theorem Fits.relOne {N : Nat} {s : Rs} (h : Fits N s.L) (tx : Int) (n : Nm) : Fits N (relOne tx s n).L := by
  unfold Ytpggillecedocaa.relOne
  split
  · exact h
  · exact h.repl n (Nat.le_trans (gq_len _) (Nat.le_trans (by rw [List.length_eraseIdx]; split <;> omega) (h.qL n)))
theorem relOne_out {N : Nat} {s : Rs} (h : Fits N s.L) (tx : Int) (n : Nm) : (relOne tx s n).out.length ≤ s.out.length + 2 * N := by
  unfold relOne
  split
  · simp
  · simp only [List.length_append]
    rename_i i _
    have := gout_len ((qL s.L n).eraseIdx i)
    have h2 := h.qL n
    have h3 : ((qL s.L n).eraseIdx i).length ≤ (qL s.L n).length := by rw [List.length_eraseIdx]; split <;> omega
    omega
theorem Fits.relK {N : Nat} (tx : Int) : ∀ (l : List Nm) {s : Rs}, Fits N s.L → Fits N (relK tx s l).L ∧ (relK tx s l).out.length ≤ s.out.length + l.length * (2 * N)
  | [], s, h => ⟨h, by simp [Ytpggillecedocaa.relK]⟩
  | n :: l, s, h => by
    have ih := Fits.relK tx l (h.relOne tx n)
    have ho := relOne_out h tx n
    refine ⟨ih.1, Nat.le_trans ih.2 ?_⟩
    rw [List.length_cons, Nat.add_mul]
    omega
theorem relK_take {tx : Int} {s : Rs} {l : List Nm} {i : Nat} (hi : i < l.length) : relK tx s (l.take (i + 1)) = relOne tx (relK tx s (l.take i)) l[i] := by
  unfold relK
  rw [List.take_succ_eq_append_getElem hi, List.foldl_append]
  rfl

/-! ### The walk's words -/
theorem IntsAt.keeps {w w' : World} {base : Nat} {v : Value} {l : List Int} {F : Nat → Prop} (h : IntsAt w base v l) (hk : Keeps w w' F) (hF : ∀ k cs, Blk w k 3 cs → ¬ F k) : IntsAt w' base v l := by
  refine ⟨⟨h.1.1, ?_⟩, h.2⟩
  rcases h.1.2 with h0 | ⟨g', cap', cur, hv, hg, hb', r1⟩
  · exact .inl h0
  · exact .inr ⟨g', cap', cur, hv, hg, (hk.block g' (Array.getElem?_eq_some_iff.1 hb').1 (hF g' cur hb')).trans hb', r1⟩
theorem NamesAt.keeps {w w' : World} {base : Nat} {v : Value} {l : List Nm} {F : Nat → Prop} (h : NamesAt w base v l) (hk : Keeps w w' F) (hF : ∀ k cs, Blk w k 34 cs → ¬ F k) : NamesAt w' base v l := by
  refine ⟨⟨h.1.1, ?_⟩, h.2⟩
  rcases h.1.2 with h0 | ⟨g', cap', cur, hv, hg, hb', r1⟩
  · exact .inl h0
  · exact .inr ⟨g', cap', cur, hv, hg, (hk.block g' (Array.getElem?_eq_some_iff.1 hb').1 (hF g' cur hb')).trans hb', r1⟩
theorem Tab.not_foot {w : World} {T QB WB : Nat} {R : List Row} {W : List (Int × Nm)} (h : Tab w T QB WB R W) {k : Nat} {t : TypeId} {cs : Array Value} (hb : Blk w k t cs) (h1 : t ≠ 64) (h2 : t ≠ 68) : ¬ Foot T QB WB R k := by
  unfold Blk at hb
  rintro (rfl | rfl | rfl | hk)
  · have := h.head
    unfold Blk at this
    rw [hb] at this
    simp at this
    exact h1 this.2
  · obtain ⟨es, c, hq, _⟩ := h.qm
    rw [hb] at hq; cases hq
  · obtain ⟨es, c, hq, _⟩ := h.wm
    rw [hb] at hq; cases hq
  · obtain ⟨r, hr, rfl⟩ := List.mem_map.1 hk
    obtain ⟨cur, hb2, _⟩ := (h.rows r hr).ex
    unfold Blk at hb2
    rw [hb] at hb2
    simp at hb2
    exact h2 hb2.2

/-- A table within letting go. -/
structure RI (w : World) (T QB WB : Nat) (R0 : List Row) (nsv : Value) (ns : List Nm) (s : Rs) (v : Value) (wr : World) (R : List Row) : Prop where
  tab : Tab wr T QB WB R s.W
  map : R.map nq = s.L
  own : IntsAt wr w.heap.size v s.out
  names : NamesAt wr w.heap.size nsv ns
  foot : ∀ k, Foot T QB WB R k → Foot T QB WB R0 k ∨ w.heap.size ≤ k
  keeps : Keeps w wr (Foot T QB WB R0)
section
variable {w wr w' : World} {T QB WB : Nat} {R0 R R1 R2 : List Row} {r : Row} {nsv v : Value} {ns : List Nm} {s : Rs}
theorem RI.below (h : RI w T QB WB R0 nsv ns s v wr R) (hb : Below wr.heap.size wr w') : RI w T QB WB R0 nsv ns s v w' R :=
  ⟨h.tab.below hb, h.map, h.own.keeps (.of_below hb (fun _ => False)) (fun _ _ _ h => h), h.names.keeps (.of_below hb (fun _ => False)) (fun _ _ _ h => h), h.foot, h.keeps.trans (F' := fun _ => False) (.of_below hb _) (fun _ _ h => h.elim)⟩
theorem gR_foot {k : Nat} {q' : List Ak} {g' cap' : Nat} (h : Foot T QB WB (gR R1 ⟨r.n, g', cap', q'⟩ R2) k) : Foot T QB WB (R1 ++ r :: R2) k ∨ k = g' := by
  rcases h with h | h | h | h
  · exact .inl (.inl h)
  · exact .inl (.inr (.inl h))
  · exact .inl (.inr (.inr (.inl h)))
  · unfold gR at h
    split at h
    · exact .inl (.inr (.inr (.inr (by simp only [List.map_append, List.mem_append, List.map_cons, List.mem_cons] at h ⊢; rcases h with h | h <;> simp [h]))))
    · simp only [List.map_append, List.mem_append, List.map_cons, List.mem_cons] at h
      rcases h with h | h | h
      · exact .inl (.inr (.inr (.inr (by simp only [List.map_append, List.mem_append, List.map_cons, List.mem_cons]; exact .inl h))))
      · exact .inr h
      · exact .inl (.inr (.inr (.inr (by simp only [List.map_append, List.mem_append, List.map_cons, List.mem_cons]; exact .inr (.inr h)))))
theorem gR_map {q' : List Ak} {g' cap' : Nat} (h : ((R1 ++ r :: R2).map (·.n)).Nodup) : (gR R1 ⟨r.n, g', cap', q'⟩ R2).map nq = repl ((R1 ++ r :: R2).map nq) r.n (gq q') := by
  rw [List.map_append, List.map_cons, List.nodup_append, List.nodup_cons] at h
  obtain ⟨n1, ⟨n2, _⟩, n3⟩ := h
  have h1 : r.n ∉ (R1.map nq).map (·.1) := by
    rw [List.map_map]
    intro hm
    exact n3 _ hm r.n (by simp) rfl
  have h2 : r.n ∉ (R2.map nq).map (·.1) := by rw [List.map_map]; exact n2
  rw [List.map_append, List.map_cons, show nq r = (r.n, r.q) from rfl, repl_mid h1 h2]
  unfold gR
  split
  · simp
  · simp [nq]
theorem RI.grant (h : RI w T QB WB R0 nsv ns s v wr (R1 ++ r :: R2)) {q' : List Ak} {w4 w5 w6 : World} (hb4 : Below wr.heap.size wr w4) {g' cap' : Nat} (hrow : RowAt w4 g' cap' q') (hg' : wr.heap.size ≤ g') (ht5 : Turned w4 w5 QB)
    (h5 : Tab w5 T QB WB (R1 ++ ⟨r.n, g', cap', q'⟩ :: R2) s.W)
    (t6 : Tab w6 T QB WB (gR R1 ⟨r.n, g', cap', q'⟩ R2) (s.W.filter fun p => !(gout q').contains p.1)) (k6 : Keeps w5 w6 (Foot T QB WB (R1 ++ ⟨r.n, g', cap', q'⟩ :: R2))) :
    IntsAt w6 w.heap.size v s.out ∧ ∀ w7 v', w6.grownBy w7 v.ownBlock → IntsAt w7 w.heap.size v' (s.out ++ gout q') →
      RI w T QB WB R0 nsv ns ⟨repl s.L r.n (gq q'), s.W.filter fun p => !(gout q').contains p.1, s.out ++ gout q'⟩ v' w7 (gR R1 ⟨r.n, g', cap', q'⟩ R2) := by
  have h4 := h.below hb4
  have k5 : Keeps w4 w5 (· = QB) := .of_turned ht5 (Eq.refl QB)
  have i5 : IntsAt w5 w.heap.size v s.out := h4.own.keeps k5 (fun k cs hb e => h4.tab.not_foot hb (by decide) (by decide) (.inr (.inl e)))
  have n5 : NamesAt w5 w.heap.size nsv ns := h4.names.keeps k5 (fun k cs hb e => h4.tab.not_foot hb (by decide) (by decide) (.inr (.inl e)))
  have i6 : IntsAt w6 w.heap.size v s.out := i5.keeps k6 (fun k cs hb => h5.not_foot hb (by decide) (by decide))
  have n6 : NamesAt w6 w.heap.size nsv ns := n5.keeps k6 (fun k cs hb => h5.not_foot hb (by decide) (by decide))
  have hs : w.heap.size ≤ wr.heap.size := h.keeps.size
  have k16 : Keeps w w6 (Foot T QB WB R0) := by
    refine (h4.keeps.trans k5 (fun k hk e => ?_)).trans k6 (fun k hk hf => ?_)
    · subst e
      rcases h.foot k (.inr (.inl rfl)) with h' | h'
      · exact h'
      · omega
    · have hf2 : Foot T QB WB (R1 ++ r :: R2) k ∨ k = g' := by
        rcases hf with hf | hf | hf | hf
        · exact .inl (.inl hf)
        · exact .inl (.inr (.inl hf))
        · exact .inl (.inr (.inr (.inl hf)))
        · simp only [List.map_append, List.mem_append, List.map_cons, List.mem_cons] at hf
          rcases hf with hf | hf | hf
          · exact .inl (.inr (.inr (.inr (by simp only [List.map_append, List.mem_append, List.map_cons, List.mem_cons]; exact .inl hf))))
          · exact .inr hf
          · exact .inl (.inr (.inr (.inr (by simp only [List.map_append, List.mem_append, List.map_cons, List.mem_cons]; exact .inr (.inr hf)))))
      rcases hf2 with hf2 | hf2
      · rcases h.foot k hf2 with h' | h'
        · exact h'
        · omega
      · omega
  refine ⟨i6, fun w7 v' hgr hi7 => ?_⟩
  have hv : ∀ k, some k = v.ownBlock → ∃ cs, Blk w6 k 3 cs ∧ w.heap.size ≤ k := by
    intro k e
    rcases i6.1.2 with ⟨rfl, _⟩ | ⟨g2, cap2, cur, rfl, hg2, hb2, _⟩
    · simp [Value.ownBlock] at e
    · obtain rfl : k = g2 := by simpa [Value.ownBlock] using e
      exact ⟨cur, hb2, hg2⟩
  have kg : Keeps w6 w7 (fun k => some k = v.ownBlock) := .of_grown hgr (fun k e => e.symm)
  refine ⟨t6.of_blocks fun k hf => hgr.block k (t6.foot_lt hf) (fun e => ?_), ?_, hi7, n6.keeps kg (fun k cs hb e => ?_), fun k hf => ?_, k16.trans kg (fun k hk e => ?_)⟩
  · obtain ⟨cs, hb, _⟩ := hv k e
    exact t6.not_foot hb (by decide) (by decide) hf
  · have := h.tab.names
    rw [gR_map this, h.map]
  · obtain ⟨cs2, hb2, _⟩ := hv k e
    unfold Blk at hb hb2
    rw [hb] at hb2
    simp at hb2
  · rcases gR_foot hf with h' | h'
    · exact h.foot k h'
    · exact .inr (by omega)
  · obtain ⟨_, _, h3⟩ := hv k e
    omega
end
end Go.Proofs.Ytpggillecedocaa
