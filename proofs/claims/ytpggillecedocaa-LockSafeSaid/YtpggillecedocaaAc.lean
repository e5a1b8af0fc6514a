import Derived.Test.YtpggillecedocaaI
import Derived.Test.YtpggillecedocaaHe
import Derived.Test.YtpggillecedocaaNa
namespace Go.Proofs.Ytpggillecedocaa
open Go.RowKit
set_option linter.unusedVariables false

/-! ### What is done -/
structure Act4 where
  kind : Int
  tx : Int
  name : Int
  mode : Int
structure ActAt (w : World) (A : Option Addr) (k : Nat) (v : Act4) (ad : Addr) : Prop where
  at_ : A = some ad
  lt : ad.block < w.heap.size
  c0 : w.cell? (ad.add (k * 4)) = some (.int .i64 v.kind)
  c1 : w.cell? ⟨(ad.add (k * 4)).block, (ad.add (k * 4)).off + 1, none⟩ = some (.int .i64 v.tx)
  c2 : w.cell? ⟨(ad.add (k * 4)).block, (ad.add (k * 4)).off + 2, none⟩ = some (.int .i64 v.name)
  c3 : w.cell? ⟨(ad.add (k * 4)).block, (ad.add (k * 4)).off + 3, none⟩ = some (.int .i64 v.mode)
def ActsAt (w : World) (A : Option Addr) (l : List Act4) : Prop := ∀ k (h : k < l.length), ∃ ad, ActAt w A k l[k] ad
theorem block_of_add (a : Addr) (n : Nat) : (a.add n).block = a.block := by unfold Addr.add; split <;> rfl
theorem ActAt.below {w w' : World} {A : Option Addr} {k : Nat} {v : Act4} {ad : Addr} (h : ActAt w A k v ad) (hb : Below w.heap.size w w') : ActAt w' A k v ad := by
  have := hb.size
  have hl := h.lt
  exact ⟨h.at_, by omega, (hb.cell (by rw [block_of_add]; exact h.lt)).trans h.c0, (hb.cell (by show (ad.add (k * 4)).block < _; rw [block_of_add]; exact h.lt)).trans h.c1, (hb.cell (by show (ad.add (k * 4)).block < _; rw [block_of_add]; exact h.lt)).trans h.c2, (hb.cell (by show (ad.add (k * 4)).block < _; rw [block_of_add]; exact h.lt)).trans h.c3⟩
theorem HeldAt.others {B : Nat} {w w' : World} {base : Nat} {v : Value} {l : List (Nm × Int)} (h : HeldAt w base v l) (hf : Frame B w w') : HeldAt w' base v l := by
  refine ⟨⟨h.1.1, ?_⟩, h.2⟩
  rcases h.1.2 with h0 | ⟨g', cap', cur, hv, hg, hb', r1⟩
  · exact .inl h0
  · exact .inr ⟨g', cap', cur, hv, hg, hf.others g' 51 cur (by decide) (by decide) hb', r1⟩

/-! ### The plain law -/
theorem held_mem {L : List (Nm × List Ak)} {tx : Int} {n : Nm} {m : Int} (h : (n, m) ∈ held L tx) : m ≠ 0 ∧ hasQ (qL L n) tx = m := by
  unfold held heldK at h
  rw [List.mem_filterMap] at h
  obtain ⟨n', _, h2⟩ := h
  split at h2
  · cases h2
  · rename_i h0
    simp only [Option.some.injEq, Prod.mk.injEq] at h2
    obtain ⟨rfl, rfl⟩ := h2
    exact ⟨h0, rfl⟩
theorem hasQ_ok {q : List Ak} (h : okQ q) (tx : Int) : okMode (hasQ q tx) := by
  unfold hasQ
  split
  · exact ⟨by omega, by omega⟩
  · exact (h.getD _).1
/-- To ask again for what one has is had at once, and changes nothing. -/
theorem ask_again {L : List (Nm × List Ak)} {W : List (Int × Nm)} {tx : Int} {n : Nm} {md m : Int} (ht : 1 ≤ tx) (hw : (wOf W tx).isSome = false) (hh : hasQ (qL L n) tx = md) (h0 : md ≠ 0) (hm : isMode m = true) (hj : join md m = md) :
    ask L W tx n m false false = ⟨true, 0, L, W⟩ := by
  unfold ask
  rw [if_neg (by rw [hm]; simp; omega), if_neg (by rw [hw]; simp)]
  unfold hasQ qL at hh
  cases hf : L.find? fun p => p.1 == n with
  | none => rw [hf] at hh; simp at hh; omega
  | some p =>
    obtain ⟨n', q⟩ := p
    rw [hf] at hh
    simp only [Option.map_some, Option.getD_some] at hh
    cases hi : q.findIdx? fun a => a.tx == tx with
    | none => rw [hi] at hh; simp at hh; omega
    | some i =>
      rw [hi] at hh
      simp only at hh
      simp only [hi]
      rw [hh, if_pos hj]
/-- An instant asking for what nobody has is had, and leaves nothing. -/
theorem ask_instant {L : List (Nm × List Ak)} {W : List (Int × Nm)} {tx : Int} {n : Nm} {m : Int} (ht : 1 ≤ tx) (hw : (wOf W tx).isSome = false) (hn : n ∉ L.map (·.1)) (hm : isMode m = true) :
    ask L W tx n m true true = ⟨true, 0, L, W⟩ ∧ hasQ (qL L n) tx = 0 := by
  have hf : (L.find? fun p => p.1 == n) = none := by
    rw [List.find?_eq_none]
    intro p hp
    simp only [beq_iff_eq]
    intro e
    exact hn (List.mem_map.2 ⟨p, hp, e⟩)
  refine ⟨?_, ?_⟩
  · unfold ask
    rw [if_neg (by rw [hm]; simp; omega), if_neg (by rw [hw]; simp), hf]
    rfl
  · unfold qL hasQ
    rw [hf]
    rfl
end Go.Proofs.Ytpggillecedocaa
