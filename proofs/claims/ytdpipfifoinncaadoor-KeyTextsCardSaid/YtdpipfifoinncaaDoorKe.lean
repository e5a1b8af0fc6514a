import Derived.Test.YtdpipfifoinncaaDoorKd
import Derived.Deep.QuietTactic
import Derived.BigQuiet
namespace Go.Proofs.YtdpipfifoinncaaDoor
open Go.RowKit
set_option linter.unusedVariables false

/-! ### The reader -/
def RdAt (w : World) (b : Nat) (s : ByteArray) (p : Nat) (e : Int) : Prop := w.heap[b]? = some (.cells #[.string s, .int .i64 p, .int .i64 e] 83 (0, 0))
def numS (s : ByteArray) (p : Nat) (e : Int) (K : Nat) : Nat × Int × Nat := if e ≠ 0 then (p, e, 0) else if s.size < p + K then (p, 4, 0) else (p + K, 0, getN (seg s p K))
def bytesS (s : ByteArray) (p : Nat) (e : Int) (n : Nat) : Nat × Int × List UInt8 := if e ≠ 0 then (p, e, []) else if s.size < p + n then (p, 4, []) else (p + n, 0, seg s p n)
section
variable {w w' : World} {b : Nat} {s : ByteArray} {p : Nat} {e : Int}
theorem RdAt.lt (h : RdAt w b s p e) : b < w.heap.size := lt_of_block h
theorem RdAt.cell (h : RdAt w b s p e) (i : Nat) : w.cell? ⟨b, i, none⟩ = #[Value.string s, .int .i64 p, .int .i64 e][i]? := cell_of_row w b i _ _ (0, 0) h
theorem RdAt.c0 (h : RdAt w b s p e) : w.cell? ⟨b, 0, none⟩ = some (.string s) := h.cell 0
theorem RdAt.c1 (h : RdAt w b s p e) : w.cell? ⟨b, 1, none⟩ = some (.int .i64 p) := h.cell 1
theorem RdAt.c2 (h : RdAt w b s p e) : w.cell? ⟨b, 2, none⟩ = some (.int .i64 e) := h.cell 2
theorem RdAt.frozen (h : RdAt w b s p e) (i : Nat) : w.frozen? ⟨b, i, none⟩ = false := Lib.frozen_of_heap h i
theorem RdAt.below (h : RdAt w b s p e) (hb : Below w.heap.size w w') : RdAt w' b s p e := (hb.block b h.lt).trans h
theorem RdAt.alloc (h : RdAt w b s p e) (o : Obj) : RdAt (w.alloc o) b s p e := (Below.heap_alloc w o b h.lt).trans h
theorem heap_setCell_same {w : World} {g : Nat} {cs : Array Value} {t : TypeId} (h : w.heap[g]? = some (.cells cs t (0, 0))) (i : Nat) (u : Value) : (w.setCell ⟨g, i, none⟩ u).heap[g]? = some (.cells (cs.setIfInBounds i u) t (0, 0)) := by
  have hlt := lt_of_block h
  have h' : w.heap[g] = .cells cs t (0, 0) := by simpa [Array.getElem?_eq_getElem hlt] using h
  show (w.heap.modify g _)[g]? = _
  rw [Array.getElem?_modify, if_pos rfl, h]
  rfl
theorem RdAt.at_ (h : RdAt w b s p e) (q : Nat) : RdAt (w.setCell ⟨b, 1, none⟩ (.int .i64 q)) b s q e := heap_setCell_same h 1 _
theorem RdAt.err (h : RdAt w b s p e) (f : Int) : RdAt (w.setCell ⟨b, 2, none⟩ (.int .i64 f)) b s p f := heap_setCell_same h 2 _
end

theorem NewR_any (s : ByteArray) (w : World) : Calls Tryd.prog 28 #[.string s] w fun e w' => e = .returned (.pointer (some ⟨w.heap.size, 0, none⟩)) ∧ RdAt w' w.heap.size s 0 0 ∧ Below w.heap.size w w' := by
  go_enter Tryd.func28, Tryd.ntmps28
  go_wp2
  go_ret
  exact ⟨rfl, heap_alloc_new w _, (Below.refl _ _).alloc (Nat.le_refl _) _⟩

set_option maxRecDepth 100000 in
theorem Err_any {w : World} {b : Nat} {s : ByteArray} {p : Nat} {e : Int} (h : RdAt w b s p e) :
    Calls Tryd.prog 30 #[.pointer (some ⟨b, 0, none⟩)] w fun r w' => r = .returned (.int .i64 e) ∧ w = w' := by
  have h2 := h.c2
  go_enter Tryd.func30, Tryd.ntmps30
  go_wp2
  go_ret
  exact ⟨rfl, rfl⟩

section
variable {w w' : World} {b : Nat} {s : ByteArray} {p : Nat} {e : Int}
theorem RdAt.drewN (h : RdAt w b s p e) (n : Nat) : RdAt (w.drewN n) b s p e := h
theorem only_refl (w : World) (b : Nat) : w.grownBy w (some b) := ⟨rfl, rfl, rfl, Nat.le_refl _, fun _ _ _ => rfl⟩
theorem only_drewN {b : Nat} (h : w.grownBy w' (some b)) (n : Nat) : w.grownBy (w'.drewN n) (some b) := ⟨h.os, h.tape, h.output, h.size, h.block⟩
theorem only_set {b : Nat} (h : w.grownBy w' (some b)) (i : Nat) (u : Value) : w.grownBy (w'.setCell ⟨b, i, none⟩ u) (some b) :=
  ⟨h.os, h.tape, h.output, by simpa using h.size, fun k hk hne => (Below.heap_setCell w' ⟨b, i, none⟩ u k (fun e => hne (by rw [e]))).trans (h.block k hk hne)⟩
theorem below_drewN {B : Nat} (h : Below B w w') (n : Nat) : Below B w (w'.drewN n) := by
  induction n with
  | zero => exact h
  | succ n ih => exact ih.drew
end

set_option maxRecDepth 100000 in
theorem Num_one {w : World} {b : Nat} {s : ByteArray} {p : Nat} {e : Int} (h : RdAt w b s p e) (hs : s.size ≤ 9223372036854775800) (hp : p ≤ s.size) :
    Calls Tryd.prog 29 #[.pointer (some ⟨b, 0, none⟩), .int .i64 1] w fun r w' => r = .returned (.int .u64 (numS s p e 1).2.2) ∧ RdAt w' b s (numS s p e 1).1 (numS s p e 1).2.1 ∧ w.grownBy w' (some b) := by
  have h0 := h.c0
  have h1 := h.c1
  have h2 := h.c2
  have hf := h.frozen
  have hBw := only_refl w b
  by_cases he : e = 0
  · subst he
    by_cases hc : s.size < p + 1
    · have hN : numS s p 0 1 = (p, 4, 0) := by simp [numS, hc]
      rw [hN]
      have HC := Lib.hid hc
      clear hN hc
      go_enter Tryd.func29, Tryd.ntmps29
      go_wp2_with fail
      refine (Err_any h).mono ?_
      rintro e w' ⟨rfl, rfl⟩
      go_wp2_with fail
      go_quiet ((go_at_call 44; refine Calls.quiet_of_same ((Get_one_cut s p _ (by omega) hp HC.out).mono fun _ _ ⟨a, b⟩ => ⟨a, b.symm⟩)))
      go_wp2
      go_ret
      exact ⟨rfl, (h.drewN nq).err 4, only_set (only_drewN hBw nq) _ _⟩
    · have hN : numS s p 0 1 = (p + 1, 0, getN (seg s p 1)) := by simp [numS, hc]
      rw [hN]
      obtain ⟨x, hx⟩ : ∃ x, x = getN (seg s p 1) := ⟨_, rfl⟩
      rw [← hx]
      have HX := Lib.hid hx
      have HC := Lib.hid hc
      have hov : p + 1 ≤ 9223372036854775800 := by omega
      clear hN hc hx
      go_enter Tryd.func29, Tryd.ntmps29
      go_wp2_with fail
      refine (Err_any h).mono ?_
      rintro e w' ⟨rfl, rfl⟩
      go_wp2_with fail
      go_quiet ((go_at_call 44; refine Calls.quiet_of_same (v := .tuple #[.int .u64 x, .int .i64 0]) ((Get_one s p _ (by omega) (by have := HC.out; omega)).mono fun _ _ ⟨a, b⟩ => ⟨by rw [HX.out]; exact a, b.symm⟩)))
      go_wp2
      go_ret
      exact ⟨rfl, (h.drewN nq).at_ (p + 1), only_set (only_drewN hBw nq) _ _⟩
  · have hN : numS s p e 1 = (p, e, 0) := by simp [numS, he]
    rw [hN]
    clear hN
    go_enter Tryd.func29, Tryd.ntmps29
    go_wp2_with fail
    refine (Err_any h).mono ?_
    rintro e w' ⟨rfl, rfl⟩
    go_wp2
    go_ret
    exact ⟨rfl, h, hBw⟩

set_option maxRecDepth 100000 in
theorem Num_eight {w : World} {b : Nat} {s : ByteArray} {p : Nat} {e : Int} (h : RdAt w b s p e) (hs : s.size ≤ 9223372036854775800) (hp : p ≤ s.size) :
    Calls Tryd.prog 29 #[.pointer (some ⟨b, 0, none⟩), .int .i64 8] w fun r w' => r = .returned (.int .u64 (numS s p e 8).2.2) ∧ RdAt w' b s (numS s p e 8).1 (numS s p e 8).2.1 ∧ w.grownBy w' (some b) := by
  have h0 := h.c0
  have h1 := h.c1
  have h2 := h.c2
  have hf := h.frozen
  have hBw := only_refl w b
  by_cases he : e = 0
  · subst he
    by_cases hc : s.size < p + 8
    · have hN : numS s p 0 8 = (p, 4, 0) := by simp [numS, hc]
      rw [hN]
      have HC := Lib.hid hc
      clear hN hc
      go_enter Tryd.func29, Tryd.ntmps29
      go_wp2_with fail
      refine (Err_any h).mono ?_
      rintro e w' ⟨rfl, rfl⟩
      go_wp2_with fail
      go_quiet ((go_at_call 44; refine Calls.quiet_of_same ((Get_eight_cut s p _ (by omega) hp HC.out).mono fun _ _ ⟨a, b⟩ => ⟨a, b.symm⟩)))
      go_wp2
      go_ret
      exact ⟨rfl, (h.drewN nq).err 4, only_set (only_drewN hBw nq) _ _⟩
    · have hN : numS s p 0 8 = (p + 8, 0, getN (seg s p 8)) := by simp [numS, hc]
      rw [hN]
      obtain ⟨x, hx⟩ : ∃ x, x = getN (seg s p 8) := ⟨_, rfl⟩
      rw [← hx]
      have HX := Lib.hid hx
      have HC := Lib.hid hc
      have hov : p + 8 ≤ 9223372036854775800 := by omega
      clear hN hc hx
      go_enter Tryd.func29, Tryd.ntmps29
      go_wp2_with fail
      refine (Err_any h).mono ?_
      rintro e w' ⟨rfl, rfl⟩
      go_wp2_with fail
      go_quiet ((go_at_call 44; refine Calls.quiet_of_same (v := .tuple #[.int .u64 x, .int .i64 0]) ((Get_eight s p _ (by omega) (by have := HC.out; omega)).mono fun _ _ ⟨a, b⟩ => ⟨by rw [HX.out]; exact a, b.symm⟩)))
      go_wp2
      go_ret
      exact ⟨rfl, (h.drewN nq).at_ (p + 8), only_set (only_drewN hBw nq) _ _⟩
  · have hN : numS s p e 8 = (p, e, 0) := by simp [numS, he]
    rw [hN]
    clear hN
    go_enter Tryd.func29, Tryd.ntmps29
    go_wp2_with fail
    refine (Err_any h).mono ?_
    rintro e w' ⟨rfl, rfl⟩
    go_wp2
    go_ret
    exact ⟨rfl, h, hBw⟩

theorem extract_seg (s : ByteArray) (p n : Nat) : s.extract p (p + n) = bs (seg s p n) := by
  apply ByteArray.ext
  rw [ByteArray.data_extract]
  apply Array.ext'
  simp [bs, seg, Array.toList_extract, List.extract]

set_option maxRecDepth 100000 in
theorem Bytes_any {w : World} {b : Nat} {s : ByteArray} {p : Nat} {e : Int} (n : Nat) (h : RdAt w b s p e) (hs : s.size ≤ 9223372036854775000) (hp : p ≤ s.size) (hn : n < 256) :
    Calls Tryd.prog 31 #[.pointer (some ⟨b, 0, none⟩), .int .i64 n] w fun r w' => r = .returned (.string (bs (bytesS s p e n).2.2)) ∧ RdAt w' b s (bytesS s p e n).1 (bytesS s p e n).2.1 ∧ w.grownBy w' (some b) := by
  have h0 := h.c0
  have h1 := h.c1
  have h2 := h.c2
  have hf := h.frozen
  have hBw := only_refl w b
  by_cases he : e = 0
  · subst he
    by_cases hc : s.size < p + n
    · have hN : bytesS s p 0 n = (p, 4, []) := by simp [bytesS, hc]
      rw [hN]
      have hd : decide ((s.size : Int) - p < n) = true := by simp; omega
      have hd0 : decide ((n : Int) < 0) = false := by simp
      clear hN hc
      go_enter Tryd.func31, Tryd.ntmps31
      go_wp2_with fail
      refine (Err_any h).mono ?_
      rintro e w' ⟨rfl, rfl⟩
      go_wp2_with fail
      go_quiet (fail)
      go_wp2
      go_ret
      exact ⟨rfl, (h.drewN nq).err 4, only_set (only_drewN hBw nq) _ _⟩
    · have hN : bytesS s p 0 n = (p + n, 0, seg s p n) := by simp [bytesS, hc]
      rw [hN]
      have hd : decide ((s.size : Int) - p < n) = false := by simp; omega
      have hd0 : decide ((n : Int) < 0) = false := by simp
      have hle : p + n ≤ s.size := by omega
      have hA := h.at_ (p + n)
      have k0 := hA.c0
      have k1 := hA.c1
      have hkf := hA.frozen
      clear hN hc
      go_enter Tryd.func31, Tryd.ntmps31
      go_wp2_with fail
      refine (Err_any h).mono ?_
      rintro e w' ⟨rfl, rfl⟩
      go_wp2_with fail
      go_quiet (fail)
      rename Nat => m1
      go_wp2_with fail
      go_quiet (fail)
      go_wp2
      go_ret
      exact ⟨by rw [← extract_seg]; rfl, ((h.drewN m1).at_ (p + n)).drewN nq, only_drewN (only_set (only_drewN hBw m1) _ _) nq⟩
  · have hN : bytesS s p e n = (p, e, []) := by simp [bytesS, he]
    rw [hN]
    clear hN
    go_enter Tryd.func31, Tryd.ntmps31
    go_wp2_with fail
    refine (Err_any h).mono ?_
    rintro e w' ⟨rfl, rfl⟩
    go_wp2
    go_ret
    exact ⟨rfl, h, hBw⟩

set_option maxRecDepth 100000 in
theorem Left_any {w : World} {b : Nat} {s : ByteArray} {p : Nat} {e : Int} (h : RdAt w b s p e) (hs : s.size ≤ 9223372036854775000) (hp : p ≤ s.size) :
    Calls Tryd.prog 45 #[.pointer (some ⟨b, 0, none⟩)] w fun r w' => r = .returned (.int .i64 ((s.size : Int) - p)) ∧ ∃ m, w' = w.drewN m := by
  have h0 := h.c0
  have h1 := h.c1
  go_enter Tryd.func45, Tryd.ntmps45
  go_wp2_with fail
  go_quiet (fail)
  go_wp2
  go_ret
  exact ⟨rfl, nq, rfl⟩

set_option maxRecDepth 100000 in
theorem Fail_any {w : World} {b : Nat} {s : ByteArray} {p : Nat} {e : Int} (f : Int) (h : RdAt w b s p e) :
    Calls Tryd.prog 46 #[.pointer (some ⟨b, 0, none⟩), .int .i64 f] w fun r w' => r = .returned (.tuple #[]) ∧ RdAt w' b s p (if e = 0 then f else e) ∧ w.grownBy w' (some b) := by
  have h0 := h.c0
  have h1 := h.c1
  have h2 := h.c2
  have hf := h.frozen
  have hBw := only_refl w b
  by_cases he : e = 0
  · subst he
    rw [if_pos rfl]
    go_enter Tryd.func46, Tryd.ntmps46
    go_wp2
    go_end0
    exact ⟨rfl, h.err f, only_set hBw _ _⟩
  · rw [if_neg he]
    have he2 : (e == 0) = false := by simp [he]
    go_enter Tryd.func46, Tryd.ntmps46
    go_wp2
    go_end0
    exact ⟨rfl, h, hBw⟩

set_option maxRecDepth 100000 in
theorem End_any {w : World} {b : Nat} {s : ByteArray} {p : Nat} {e : Int} (h : RdAt w b s p e) (hs : s.size ≤ 9223372036854775000) (hp : p ≤ s.size) :
    Calls Tryd.prog 32 #[.pointer (some ⟨b, 0, none⟩)] w fun r w' => r = .returned (.int .i64 (if e = 0 then (if p = s.size then 0 else 5) else e)) ∧ w.grownBy w' (some b) := by
  have hBw := only_refl w b
  by_cases hps : p = s.size
  · have hr : (if e = 0 then (if p = s.size then (0 : Int) else 5) else e) = e := by
      rw [if_pos hps]
      split
      · rename_i he; exact he.symm
      · rfl
    rw [hr]
    have hd : decide ((0 : Int) < (s.size : Int) - p) = false := by simp; omega
    clear hr
    go_enter Tryd.func32, Tryd.ntmps32
    go_wp2_with fail
    refine (Left_any h hs hp).mono ?_
    rintro r w1 ⟨rfl, m, rfl⟩
    go_wp2_with fail
    refine (Err_any (h.drewN m)).mono ?_
    rintro r w1 ⟨rfl, rfl⟩
    go_wp2
    go_ret
    exact ⟨rfl, only_drewN hBw m⟩
  · obtain ⟨f, hr⟩ : ∃ f, f = (if e = 0 then (if p = s.size then (0 : Int) else 5) else e) := ⟨_, rfl⟩
    rw [← hr]
    rw [if_neg hps] at hr
    have HR := Lib.hid hr
    have hd : decide ((0 : Int) < (s.size : Int) - p) = true := by simp; omega
    clear hr
    go_enter Tryd.func32, Tryd.ntmps32
    go_wp2_with fail
    refine (Left_any h hs hp).mono ?_
    rintro r w1 ⟨rfl, m, rfl⟩
    go_wp2_with fail
    refine (Fail_any 5 (h.drewN m)).mono ?_
    rintro r w1 ⟨rfl, k1, k2⟩
    rw [← HR.out] at k1
    go_wp2_with fail
    refine (Err_any k1).mono ?_
    rintro r w1 ⟨rfl, rfl⟩
    go_wp2
    go_ret
    exact ⟨rfl, World.grownBy.trans (only_drewN hBw m) k2⟩
end Go.Proofs.YtdpipfifoinncaaDoor
