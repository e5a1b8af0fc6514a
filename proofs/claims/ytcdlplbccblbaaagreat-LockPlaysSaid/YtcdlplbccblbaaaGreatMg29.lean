import Derived.Test.YtcdlplbccblbaaaGreatMg19
import Derived.Test.YtcdlplbccblbaaaGreatMg28
import Derived.Test.YtcdlplbccblbaaaGreatMg7
namespace Go.Proofs.YtcdlplbccblbaaaGreat
open Go.RowKit
set_option linter.unusedVariables false

/-! ### What is done -/
structure Act4 where
  kind : Int
  tx : Int
  name : Int
  mode : Int
structure ActAt (w : World) (A : Option Addr) (k : Nat) (v : Act4) (ad : Addr) : Prop where
  at_ : A = some ad
  lt : ad.block < w.heap.size
  c0 : w.cell? (ad.add (k * 4)) = some (.int .i64 v.kind)
  c1 : w.cell? ⟨(ad.add (k * 4)).block, (ad.add (k * 4)).off + 1, none⟩ = some (.int .i64 v.tx)
  c2 : w.cell? ⟨(ad.add (k * 4)).block, (ad.add (k * 4)).off + 2, none⟩ = some (.int .i64 v.name)
  c3 : w.cell? ⟨(ad.add (k * 4)).block, (ad.add (k * 4)).off + 3, none⟩ = some (.int .i64 v.mode)
def ActsAt (w : World) (A : Option Addr) (l : List Act4) : Prop := ∀ k (h : k < l.length), ∃ ad, ActAt w A k l[k] ad
theorem block_of_add (a : Addr) (n : Nat) : (a.add n).block = a.block := by unfold Addr.add; split <;> rfl
theorem ActAt.below {w w' : World} {A : Option Addr} {k : Nat} {v : Act4} {ad : Addr} (h : ActAt w A k v ad) (hb : Below w.heap.size w w') : ActAt w' A k v ad := by
  have := hb.size
  have hl := h.lt
  exact ⟨h.at_, by omega, (hb.cell (by rw [block_of_add]; exact h.lt)).trans h.c0, (hb.cell (by show (ad.add (k * 4)).block < _; rw [block_of_add]; exact h.lt)).trans h.c1, (hb.cell (by show (ad.add (k * 4)).block < _; rw [block_of_add]; exact h.lt)).trans h.c2, (hb.cell (by show (ad.add (k * 4)).block < _; rw [block_of_add]; exact h.lt)).trans h.c3⟩
theorem HeldAt.others {B : Nat} {w w' : World} {base : Nat} {v : Value} {l : List (Nm × Int)} (h : HeldAt w base v l) (hf : Frame B w w') : HeldAt w' base v l := by
  refine ⟨⟨h.1.1, ?_⟩, h.2⟩
  rcases h.1.2 with h0 | ⟨g', cap', cur, hv, hg, hb', r1⟩
  · exact .inl h0
  · exact .inr ⟨g', cap', cur, hv, hg, hf.others g' 71 cur (by decide) (by decide) hb', r1⟩

/-! ### The plain law -/
theorem held_mem {L : List (Nm × List Ak)} {tx : Int} {n : Nm} {m : Int} (h : (n, m) ∈ held L tx) : m ≠ 0 ∧ hasQ (qL L n) tx = m := by
  unfold held heldK at h
  rw [List.mem_filterMap] at h
  obtain ⟨n', _, h2⟩ := h
  split at h2
  · cases h2
  · rename_i h0
    simp only [Option.some.injEq, Prod.mk.injEq] at h2
    obtain ⟨rfl, rfl⟩ := h2
    exact ⟨h0, rfl⟩
theorem hasQ_ok {q : List Ak} (h : okQ q) (tx : Int) : okMode (hasQ q tx) := by
  unfold hasQ
  split
  · exact ⟨by omega, by omega⟩
  · exact (h.getD _).1
/-- To ask again for what one has is had at once, and changes nothing. -/
theorem ask_again {L : List (Nm × List Ak)} {W : List (Int × Nm)} {tx : Int} {n : Nm} {md m : Int} (ht : 1 ≤ tx) (hw : (wOf W tx).isSome = false) (hh : hasQ (qL L n) tx = md) (h0 : md ≠ 0) (hm : isMode m = true) (hj : join md m = md) :
    ask L W tx n m false false = ⟨true, 0, L, W⟩ := by
  unfold ask
  rw [if_neg (by rw [hm]; simp; omega), if_neg (by rw [hw]; simp)]
  unfold hasQ qL at hh
  cases hf : L.find? fun p => p.1 == n with
  | none => rw [hf] at hh; simp at hh; omega
  | some p =>
    obtain ⟨n', q⟩ := p
    rw [hf] at hh
    simp only [Option.map_some, Option.getD_some] at hh
    cases hi : q.findIdx? fun a => a.tx == tx with
    | none => rw [hi] at hh; simp at hh; omega
    | some i =>
      rw [hi] at hh
      simp only at hh
      simp only [hi]
      rw [hh, if_pos hj]
/-- An instant asking for what nobody has is had, and leaves nothing. -/
theorem ask_instant {L : List (Nm × List Ak)} {W : List (Int × Nm)} {tx : Int} {n : Nm} {m : Int} (ht : 1 ≤ tx) (hw : (wOf W tx).isSome = false) (hn : n ∉ L.map (·.1)) (hm : isMode m = true) :
    ask L W tx n m true true = ⟨true, 0, L, W⟩ ∧ hasQ (qL L n) tx = 0 := by
  have hf : (L.find? fun p => p.1 == n) = none := by
    rw [List.find?_eq_none]
    intro p hp
    simp only [beq_iff_eq]
    intro e
    exact hn (List.mem_map.2 ⟨p, hp, e⟩)
  refine ⟨?_, ?_⟩
  · unfold ask
    rw [if_neg (by rw [hm]; simp; omega), if_neg (by rw [hw]; simp), hf]
    rfl
  · unfold qL hasQ
    rw [hf]
    rfl
end Go.Proofs.YtcdlplbccblbaaaGreat

namespace Go.Proofs.YtcdlplbccblbaaaGreat
open Go.RowKit
set_option linter.unusedVariables false

/-! ### What the law asks, of the table's plain form -/
def blkL (L : List (Nm × List Ak)) (W : List (Int × Nm)) (tx : Int) : List Int := match wOf W tx with
  | none => []
  | some n => blockersQ (qL L n) tx
theorem blkF_eq (R : List Row) (W : List (Int × Nm)) : blkF R W = blkL (R.map nq) W := by
  funext tx
  unfold blkF blkL
  cases wOf W tx with
  | none => rfl
  | some n => simp only [qL_rows]
theorem blkTo_mem {q : List Ak} {tx y : Int} {m : Nat} : ∀ k, y ∈ blkTo q tx m k ↔ ∃ j, j < k ∧ (q.getD j ak0).tx ≠ tx ∧ blkA (q.getD j ak0) (q.getD m ak0) j m = true ∧ (q.getD j ak0).tx = y
  | 0 => by simp [blkTo]
  | k + 1 => by
    unfold blkTo
    rw [List.mem_append, blkTo_mem k]
    constructor
    · rintro (⟨j, h1, h2⟩ | h)
      · exact ⟨j, by omega, h2⟩
      · split at h
        · simp at h
        · rename_i h1
          split at h
          · rename_i h2
            simp at h
            exact ⟨k, by omega, h1, h2, h.symm⟩
          · simp at h
    · rintro ⟨j, h1, h2, h3, h4⟩
      by_cases hj : j = k
      · subst hj
        right
        rw [if_neg h2, if_pos h3]
        exact List.mem_singleton.2 h4.symm
      · exact .inl ⟨j, by omega, h2, h3, h4⟩
theorem blockers_mem {q : List Ak} {tx y : Int} (h : y ∈ blockersQ q tx) : y ≠ tx ∧ ∃ a ∈ q, a.tx = y := by
  unfold blockersQ at h
  split at h
  · simp at h
  · rename_i m hm
    rw [(sortI_perm _).mem_iff, blkTo_mem] at h
    obtain ⟨j, h1, h2, _, h4⟩ := h
    have hg : q.getD j ak0 = q[j] := by simp [List.getD, h1]
    rw [hg] at h2 h4
    exact ⟨h4 ▸ h2, q[j], List.getElem_mem h1, h4⟩
theorem blockers_of {q : List Ak} {me : Ak} (hq : QP q) (hme : me ∈ q) (h : Blocked q me) : ∃ y, y ∈ blockersQ q me.tx := by
  obtain ⟨b, hb, hne, h⟩ := h
  obtain ⟨i, hi, rfl⟩ := List.getElem_of_mem hme
  obtain ⟨j, hj, rfl⟩ := List.getElem_of_mem hb
  have hf : (q.findIdx? fun a => a.tx == q[i].tx) = some i := by
    rw [List.findIdx?_eq_some_iff_getElem]
    refine ⟨hi, by simp, fun k hk => ?_⟩
    have hk' : k < q.length := by omega
    simp only [beq_iff_eq]
    intro e
    have := hq.inj_get hk' hi e
    omega
  refine ⟨q[j].tx, ?_⟩
  unfold blockersQ
  rw [hf]
  simp only
  rw [(sortI_perm _).mem_iff, blkTo_mem]
  have hgj : q.getD j ak0 = q[j] := by simp [List.getD, hj]
  have hgi : q.getD i ak0 = q[i] := by simp [List.getD, hi]
  refine ⟨j, hj, by rw [hgj]; exact hne, ?_, by rw [hgj]⟩
  rw [hgj, hgi]
  unfold blkA
  rcases h with ⟨h1, h2⟩ | ⟨h1, h | ⟨h2, h3⟩⟩
  · simp [h1, h2]
  · simp [h1, h.1, h.2]
  · have hlt : j < i := by
      obtain ⟨r1, r2, e, c1, c2⟩ := h3
      subst e
      have hj1 : j < r1.length := by
        obtain ⟨j', hj', e⟩ := List.getElem_of_mem c1
        have : (r1 ++ r2)[j']'(by rw [List.length_append]; omega) = (r1 ++ r2)[j] := by rw [List.getElem_append_left hj', e]
        have := hq.inj_get (i := j') (j := j) (by rw [List.length_append]; omega) hj (by rw [this])
        omega
      have hi1 : r1.length ≤ i := by
        obtain ⟨i', hi', e⟩ := List.getElem_of_mem c2
        have : (r1 ++ r2)[r1.length + i']'(by rw [List.length_append]; omega) = (r1 ++ r2)[i] := by
          rw [List.getElem_append_right (by omega)]
          simpa using e
        have := hq.inj_get (i := r1.length + i') (j := i) (by rw [List.length_append]; omega) hi (by rw [this])
        omega
      omega
    have h4 : (q[j].has != 0) = (q[i].has != 0) := by
      by_cases c : q[j].has = 0
      · have : q[i].has = 0 := Classical.byContradiction fun d => h2.2 d c
        simp [c, this]
      · have : q[i].has ≠ 0 := h2.1 c
        have e1 : (q[j].has != 0) = true := by simpa using c
        have e2 : (q[i].has != 0) = true := by simpa using this
        rw [e1, e2]
    simp [h1, h4, hlt]

section
variable {L : List (Nm × List Ak)} {W : List (Int × Nm)}
theorem TI.waitsIn (h : TI L W nobody) (tx : Int) (n : Nm) (hw : wOf W tx = some n) : ∃ m, (qL L n).findIdx? (fun a => a.tx == tx) = some m := by
  obtain ⟨a, ha, e, _⟩ := (h.wt tx n (fun h => h)).1 hw
  cases hf : (qL L n).findIdx? fun a => a.tx == tx with
  | some m => exact ⟨m, rfl⟩
  | none =>
    rw [List.findIdx?_eq_none_iff] at hf
    have := hf a ha
    simp [e] at this
theorem TI.blockers (h : TI L W nobody) {tx : Int} (hw : (wOf W tx).isSome = true) : ∃ y ∈ blkL L W tx, 1 ≤ y ∧ y ≤ 9223372036854775807 := by
  obtain ⟨n, hn⟩ := Option.isSome_iff_exists.1 hw
  obtain ⟨a, ha, rfl, hwa⟩ := (h.wt tx n (fun h => h)).1 hn
  obtain ⟨y, hy⟩ := blockers_of (h.qp n) ha (h.blk n a ha hwa)
  obtain ⟨_, b, hb, rfl⟩ := blockers_mem hy
  exact ⟨b.tx, by unfold blkL; rw [hn]; exact hy, h.who n b hb⟩
theorem TI.compat (h : TI L W nobody) (n : Nm) {x y : Int} (hxy : x ≠ y) (hx : hasQ (qL L n) x ≠ 0) (hy : hasQ (qL L n) y ≠ 0) : compat (hasQ (qL L n) x) (hasQ (qL L n) y) = true := by
  have hg : ∀ t, hasQ (qL L n) t ≠ 0 → ∃ a ∈ qL L n, a.tx = t ∧ a.has = hasQ (qL L n) t := fun t ht => by
    unfold hasQ at ht ⊢
    cases hf : (qL L n).findIdx? fun a => a.tx == t with
    | none => rw [hf] at ht; simp at ht
    | some i =>
      obtain ⟨hi, hti⟩ := find_get hf
      refine ⟨(qL L n)[i], List.getElem_mem hi, hti, ?_⟩
      simp [List.getD, hi]
  obtain ⟨a, ha, e1, e2⟩ := hg x hx
  obtain ⟨b, hb, e3, e4⟩ := hg y hy
  rw [← e2, ← e4]
  exact (h.qp n).hc a ha b hb (by rw [e1, e3]; exact hxy) (by rw [e2]; exact hx) (by rw [e4]; exact hy)
theorem nW_le (W : List (Int × Nm)) (s : List Int) : nW W s ≤ W.length := List.length_filter_le _ _

/-! ### The counts -/
def wK (W : List (Int × Nm)) : Nat → Int
  | 0 => 0
  | j + 1 => wK W j + (if j ≠ 0 ∧ (wOf W (j : Int)).isSome = true then 1 else 0)
def fK (W : List (Int × Nm)) : Nat → Int
  | 0 => 0
  | j + 1 => fK W j + (if j ≠ 0 ∧ (wOf W (j : Int)).isSome = false then 1 else 0)
def cK (L : List (Nm × List Ak)) (W : List (Int × Nm)) : Nat → Bool
  | 0 => false
  | j + 1 => cK L W j || (decide (j ≠ 0) && (wOf W (j : Int)).isSome && !(cyc (blkL L W) W.length (j : Int)).isEmpty)
theorem wK_le (W : List (Int × Nm)) (x : Nat) : 0 ≤ wK W x ∧ wK W x ≤ x := by
  induction x with
  | zero => simp [wK]
  | succ j ih => unfold wK; split <;> omega
theorem fK_le (W : List (Int × Nm)) (x : Nat) : 0 ≤ fK W x ∧ fK W x ≤ x := by
  induction x with
  | zero => simp [fK]
  | succ j ih => unfold fK; split <;> omega
theorem fK_zero {x : Nat} (h : fK W x = 0) : ∀ j : Nat, j ≠ 0 → j < x → (wOf W (j : Int)).isSome = true := by
  induction x with
  | zero => intro j _ hj; omega
  | succ k ih =>
    intro j h0 hj
    unfold fK at h
    have hk := fK_le W k
    have h1 : fK W k = 0 := by split at h <;> omega
    by_cases e : j = k
    · subst e
      cases hs : (wOf W (j : Int)).isSome with
      | true => rfl
      | false =>
        rw [if_pos ⟨h0, hs⟩] at h
        omega
    · exact ih h1 j h0 (by omega)
theorem cK_of {x : Nat} {j : Nat} (h0 : j ≠ 0) (hj : j < x) (hw : (wOf W (j : Int)).isSome = true) (hc : cyc (blkL L W) W.length (j : Int) ≠ []) : cK L W x = true := by
  induction x with
  | zero => omega
  | succ k ih =>
    unfold cK
    by_cases e : j = k
    · subst e
      have : (!(cyc (blkL L W) W.length (j : Int)).isEmpty) = true := by simpa using hc
      rw [hw, this]
      simp [h0]
    · rw [ih (by omega), Bool.true_or]
/-! ### How many wait -/
theorem ask_wlen (tx : Int) (n : Nm) (mode : Int) (inst wt : Bool) : (ask L W tx n mode inst wt).W.length ≤ W.length + 1 := by
  unfold ask
  repeat' split
  all_goals first | simp; done | (simp only; split <;> simp)
theorem ask_fits {N : Nat} (hf : Fits N L) (W : List (Int × Nm)) (tx : Int) (n : Nm) (mode : Int) (inst wt : Bool) : Fits (N + 1) (ask L W tx n mode inst wt).L := by
  have hf1 : Fits (N + 1) L := hf.mono (by omega)
  unfold ask
  split
  · exact hf1
  · split
    · exact hf1
    · split
      · simp only
        split
        · exact hf1
        · refine ⟨by simp; exact hf.1, fun p hp => ?_⟩
          rw [List.mem_append, List.mem_singleton] at hp
          rcases hp with hp | rfl
          · exact hf1.2 p hp
          · simp
      · rename_i nm q hfq
        have hql : q.length ≤ N := hf.2 _ (List.mem_of_find?_eq_some hfq)
        split
        · split
          · simp only
            split
            · exact hf1
            · exact hf1.repl _ (by simp; exact hql)
          · simp only
            split
            · exact hf1
            · exact hf1.repl _ (by simp; exact hql)
        · split
          · exact hf1
          · split
            · simp only
              split
              · exact hf1
              · exact hf1.repl _ (by simp; omega)
            · simp only
              split
              · exact hf1
              · exact hf1.repl _ (by simp; omega)
theorem rel_wlen (tx : Int) : (rel tx L W).W.length ≤ W.length := by
  have h1 : ∀ (l : List Nm) (s : Rs), (relK tx s l).W.length ≤ s.W.length := by
    intro l
    induction l with
    | nil => intro s; exact Nat.le_refl _
    | cons n l ih =>
      intro s
      refine Nat.le_trans (ih (relOne tx s n)) ?_
      unfold relOne
      split
      · exact Nat.le_refl _
      · exact List.length_filter_le _ _
  exact Nat.le_trans (h1 _ _) (List.length_filter_le _ _)
theorem can_wlen (tx : Int) : (can tx L W).W.length ≤ W.length := by
  unfold can
  split
  · exact Nat.le_refl _
  · split
    · exact Nat.le_refl _
    · exact Nat.le_trans (List.length_filter_le _ _) (List.length_filter_le _ _)
theorem can_fits {N : Nat} (h : Fits N L) (tx : Int) : Fits N (can tx L W).L := by
  unfold can
  split
  · exact h
  · split
    · exact h
    · exact h.repl _ (Nat.le_trans (gq_len _) (by simpa using h.qL _))
end

section
variable {B : Nat} {w : World} {T QB WB : Nat} {L : List (Nm × List Ak)} {W : List (Int × Nm)}
theorem waits_ta (h : TA B w T QB WB L W) (tx : Int) : Calls Tryz.prog 9 #[.pointer (some ⟨T, 0, none⟩), .int .i64 tx] w fun e w' => e = .returned (.bool (wOf W tx).isSome) ∧ Below w.heap.size w w' := by
  obtain ⟨R, ht, _⟩ := h
  exact waits_any ht tx
theorem waits_in_rows {R : List Row} (hm : R.map nq = L) (hTI : TI L W nobody) (hfit : Fits 1000 L) : WaitsIn R W := by
  intro t n hw
  have e : qOf R n = qL L n := by rw [← hm, qL_rows]
  rw [e]
  exact ⟨hTI.waitsIn t n hw, Nat.le_trans (hfit.qL n) (by omega)⟩
theorem blockers_ta (h : TA B w T QB WB L W) (hTI : TI L W nobody) (hfit : Fits 1000 L) (tx : Int) :
    Calls Tryz.prog 21 #[.pointer (some ⟨T, 0, none⟩), .int .i64 tx] w fun e w' => ∃ v, e = .returned v ∧ IntsAt w' w.heap.size v (blkL L W tx) ∧ Below w.heap.size w w' := by
  obtain ⟨R, ht, hm, hf⟩ := h
  have := blockers_any ht (waits_in_rows hm hTI hfit) tx
  rw [blkF_eq, hm] at this
  exact this
theorem cycle_ta (h : TA B w T QB WB L W) (hTI : TI L W nobody) (hfit : Fits 1000 L) (hl : W.length < 1000000) (tx : Int) :
    Calls Tryz.prog 23 #[.pointer (some ⟨T, 0, none⟩), .int .i64 tx] w fun e w' => ∃ v, e = .returned v ∧ IntsAt w' w.heap.size v (cyc (blkL L W) W.length tx) ∧ Below w.heap.size w w' := by
  obtain ⟨R, ht, hm, hf⟩ := h
  have := cycle_tab ht (waits_in_rows hm hTI hfit) hl tx
  rw [blkF_eq, hm] at this
  exact this
theorem blk_len (hTI : TI L W nobody) (hfit : Fits 1000 L) (tx : Int) : (blkL L W tx).length ≤ 1000 := by
  unfold blkL
  split
  · simp
  · exact Nat.le_trans (blockersQ_len _ _) (hfit.qL _)
theorem cyc_len (B : Int → List Int) (k : Nat) (tx : Int) : (cyc B k tx).length ≤ k := by
  unfold cyc
  split
  · rw [List.length_reverse, sortI_len]; exact srch_path _ _ _ _ _
  · simp
end
end Go.Proofs.YtcdlplbccblbaaaGreat
