import Derived.Test.YtcdlplbccblbaaaGreatJ
import Derived.Deep.AppendLies
import Derived.Deep.RegionHeld3
namespace Go.Proofs.YtcdlplbccblbaaaGreat
open Go.RowKit
set_option linter.unusedVariables false

/-! ### Blocks -/
def Blk (w : World) (g : Nat) (t : TypeId) (cs : Array Value) : Prop := w.heap[g]? = some (.cells cs t (0, 0))
section
variable {w w' : World} {g : Nat} {t : TypeId} {cs : Array Value}
theorem Blk.lt (h : Blk w g t cs) : g < w.heap.size := by
  rcases Nat.lt_or_ge g w.heap.size with hlt | hge
  · exact hlt
  · unfold Blk at h; rw [Array.getElem?_eq_none hge] at h; cases h
theorem Blk.cell (h : Blk w g t cs) (i : Nat) : w.cell? ⟨g, i, none⟩ = cs[i]? := cell_of_row w g i cs t (0, 0) h
theorem Blk.frozen (h : Blk w g t cs) (i : Nat) : w.frozen? ⟨g, i, none⟩ = false := by
  unfold Blk at h
  simp [World.frozen?, h]
theorem Blk.new (w : World) (t : TypeId) (cs : Array Value) : Blk (w.alloc (.cells cs t)) w.heap.size t cs := heap_alloc_new w _
theorem Blk.alloc (h : Blk w g t cs) (o : Obj) : Blk (w.alloc o) g t cs := (Below.heap_alloc w o g h.lt).trans h
theorem Blk.set_ (h : Blk w g t cs) (i : Nat) (u : Value) : Blk (w.setCell ⟨g, i, none⟩ u) g t (cs.setIfInBounds i u) := by
  unfold Blk at h ⊢
  simp [World.setCell, Array.getElem?_modify, h]
theorem Blk.far (h : Blk w g t cs) {p : Addr} (hp : g ≠ p.block) (u : Value) : Blk (w.setCell p u) g t cs := (Below.heap_setCell w p u g hp).trans h
theorem Blk.of_block (h : Blk w g t cs) (hh : w'.heap[g]? = w.heap[g]?) : Blk w' g t cs := hh.trans h
end

/-- But for the blocks of F all that was there is as it was. -/
structure Keeps (w w' : World) (F : Nat → Prop) : Prop where
  os : w'.os = w.os
  tape : w'.tape = w.tape
  output : w'.output = w.output
  size : w.heap.size ≤ w'.heap.size
  block : ∀ k, k < w.heap.size → ¬ F k → w'.heap[k]? = w.heap[k]?
section
variable {w w' w'' : World} {F F' : Nat → Prop}
theorem Keeps.refl (w : World) (F : Nat → Prop) : Keeps w w F := ⟨rfl, rfl, rfl, Nat.le_refl _, fun _ _ _ => rfl⟩
theorem Keeps.of_below (h : Below w.heap.size w w') (F : Nat → Prop) : Keeps w w' F := ⟨h.os, h.tape, h.output, h.size, fun k hk _ => h.block k hk⟩
theorem Keeps.of_grown {row : Option Nat} (h : w.grownBy w' row) (hr : ∀ k, row = some k → F k) : Keeps w w' F :=
  ⟨h.os, h.tape, h.output, h.size, fun k hk hn => h.block k hk (fun e => hn (hr k e.symm))⟩
theorem Keeps.of_turned {b : Nat} (h : Turned w w' b) (hb : F b) : Keeps w w' F :=
  ⟨h.os, h.tape, h.output, Nat.le_of_eq h.size.symm, fun k _ hn => h.block k (fun e => hn (e ▸ hb))⟩
theorem Keeps.mono (h : Keeps w w' F) (hF : ∀ k, k < w.heap.size → F k → F' k) : Keeps w w' F' := ⟨h.os, h.tape, h.output, h.size, fun k hk hn => h.block k hk (fun hf => hn (hF k hk hf))⟩
theorem Keeps.trans (h : Keeps w w' F) (k : Keeps w' w'' F') (hF : ∀ i, i < w.heap.size → F' i → F i) : Keeps w w'' F :=
  ⟨k.os.trans h.os, k.tape.trans h.tape, k.output.trans h.output, Nat.le_trans h.size k.size, fun i hi hn => (k.block i (Nat.lt_of_lt_of_le hi h.size) (fun hf => hn (hF i hi hf))).trans (h.block i hi hn)⟩
theorem Keeps.below (h : Keeps w w' F) {B : Nat} (hB : B ≤ w.heap.size) (hF : ∀ k, k < B → ¬ F k) : Below B w w' := ⟨h.os, h.tape, h.output, h.size, fun k hk => h.block k (by omega) (hF k hk)⟩
theorem Keeps.setCell (w : World) (p : Addr) (u : Value) (hF : F p.block) : Keeps w (w.setCell p u) F :=
  ⟨rfl, rfl, rfl, by simp [World.setCell], fun k _ hn => Below.heap_setCell w p u k (fun e => hn (e ▸ hF))⟩
theorem Keeps.cell (h : Keeps w w' F) {p : Addr} (hp : p.block < w.heap.size) (hn : ¬ F p.block) : w'.cell? p = w.cell? p := World.cell?_of_block (h.block _ hp hn)
end

/-! ### Queues -/
/-- Somebody who has a lock, or waits. -/
structure Ak where
  tx : Int
  has : Int
  wants : Int
  inst : Bool
deriving DecidableEq
def av (a : Ak) : List Value := [.int .i64 a.tx, .int .i64 a.has, .int .i64 a.wants, .bool a.inst]
theorem av_len (q : List Ak) : (q.flatMap av).length = q.length * 4 := by
  induction q with
  | nil => rfl
  | cons a q ih => simp [av, ih]; omega
theorem av_get : ∀ (q : List Ak) (k j : Nat) (hk : k < q.length) (hj : j < 4), (q.flatMap av)[k * 4 + j]? = (av q[k])[j]?
  | a :: q, 0, j, _, hj => by
    rw [List.flatMap_cons, List.getElem?_append_left (by simp [av]; omega)]
    simp
  | a :: q, k + 1, j, hk, hj => by
    rw [List.flatMap_cons, List.getElem?_append_right (by simp [av]; omega)]
    have e : (k + 1) * 4 + j - (av a).length = k * 4 + j := by simp [av]; omega
    rw [e, av_get q k j (by simpa using hk) hj]
    simp
  | [], k, j, hk, _ => by simp at hk

/-- Block g holds a queue, with room for cap. -/
structure RowAt (w : World) (g cap : Nat) (q : List Ak) : Prop where
  ex : ∃ cur, Blk w g 80 cur ∧ cur.size = cap * 4 ∧ cur.toList.take (q.length * 4) = q.flatMap av
  le : q.length ≤ cap
  max : cap ≤ maxLen
section
variable {w w' : World} {g cap : Nat} {q : List Ak}
theorem RowAt.lt (h : RowAt w g cap q) : g < w.heap.size := by
  obtain ⟨cur, hb, _⟩ := h.ex
  exact hb.lt
theorem RowAt.of_block (h : RowAt w g cap q) (hh : w'.heap[g]? = w.heap[g]?) : RowAt w' g cap q :=
  ⟨let ⟨cur, hb, r⟩ := h.ex; ⟨cur, hb.of_block hh, r⟩, h.le, h.max⟩
theorem RowAt.own (h : RowAt w g cap q) (base : Nat) (hb : base ≤ g) : w.ownsRow base 80 4 (.slice (some ⟨g, 0, none⟩) q.length cap) q.length (q.flatMap av) := by
  obtain ⟨cur, hc, hs, ht⟩ := h.ex
  exact ⟨av_len q, .inr ⟨g, cap, cur, rfl, hb, hc, h.le, h.max, hs, ht⟩⟩
theorem RowAt.of_own {base : Nat} (h : w.ownsRow base 80 4 (.slice (some ⟨g, 0, none⟩) q.length cap) q.length (q.flatMap av)) : RowAt w g cap q := by
  rcases h.2 with ⟨h0, _⟩ | ⟨g', cap', cur, hv, _, hb, hn, hm, hs, ht⟩
  · simp at h0
  · simp at hv
    obtain ⟨rfl, rfl⟩ := hv
    exact ⟨⟨cur, hb, hs, ht⟩, hn, hm⟩
theorem RowAt.cell (h : RowAt w g cap q) {k j : Nat} (hk : k < q.length) (hj : j < 4) : w.cell? ⟨g, k * 4 + j, none⟩ = (av q[k])[j]? := by
  obtain ⟨cur, hb, hs, ht⟩ := h.ex
  rw [hb.cell]
  have h1 : (cur.toList.take (q.length * 4))[k * 4 + j]? = (q.flatMap av)[k * 4 + j]? := by rw [ht]
  rw [List.getElem?_take_of_lt (by omega), Array.getElem?_toList, av_get q k j hk hj] at h1
  exact h1
theorem RowAt.c0 (h : RowAt w g cap q) {k : Nat} (hk : k < q.length) : w.cell? ⟨g, k * 4, none⟩ = some (.int .i64 q[k].tx) := h.cell hk (j := 0) (by omega)
theorem RowAt.c1 (h : RowAt w g cap q) {k : Nat} (hk : k < q.length) : w.cell? ⟨g, k * 4 + 1, none⟩ = some (.int .i64 q[k].has) := h.cell hk (j := 1) (by omega)
theorem RowAt.c2 (h : RowAt w g cap q) {k : Nat} (hk : k < q.length) : w.cell? ⟨g, k * 4 + 2, none⟩ = some (.int .i64 q[k].wants) := h.cell hk (j := 2) (by omega)
theorem RowAt.c3 (h : RowAt w g cap q) {k : Nat} (hk : k < q.length) : w.cell? ⟨g, k * 4 + 3, none⟩ = some (.bool q[k].inst) := h.cell hk (j := 3) (by omega)
theorem RowAt.frozen (h : RowAt w g cap q) (i : Nat) : w.frozen? ⟨g, i, none⟩ = false := by
  obtain ⟨cur, hb, _⟩ := h.ex
  exact hb.frozen i

theorem av_set : ∀ (q : List Ak) (k j : Nat) (a : Ak) (u : Value), k < q.length → j < 4 → (av a) = (av (q.getD k a)).set j u → (q.flatMap av).set (k * 4 + j) u = (q.set k a).flatMap av
  | [], k, j, a, u, hk, _, _ => by simp at hk
  | x :: q, 0, j, a, u, _, hj, he => by
    simp only [List.set_cons_zero, List.flatMap_cons]
    simp at he
    rw [List.set_append_left _ _ (by simp [av]; omega), Nat.zero_mul, Nat.zero_add, ← he]
  | x :: q, k + 1, j, a, u, hk, hj, he => by
    simp only [List.set_cons_succ, List.flatMap_cons]
    have hl : (av x).length = 4 := rfl
    rw [List.set_append_right _ _ (by omega)]
    have e : (k + 1) * 4 + j - (av x).length = k * 4 + j := by omega
    rw [e, av_set q k j a u (by simpa using hk) hj (by simpa using he)]

/-- One field of one who stands there is written. -/
theorem RowAt.put (h : RowAt w g cap q) {k j : Nat} (hk : k < q.length) (hj : j < 4) {a : Ak} {u : Value} (ha : av a = (av q[k]).set j u) : RowAt (w.setCell ⟨g, k * 4 + j, none⟩ u) g cap (q.set k a) := by
  obtain ⟨cur, hb, hs, ht⟩ := h.ex
  refine ⟨⟨cur.setIfInBounds (k * 4 + j) u, hb.set_ _ u, by simpa using hs, ?_⟩, by simpa using h.le, h.max⟩
  rw [List.length_set, Array.toList_setIfInBounds, ← av_set q k j a u hk hj (by simpa [hk] using ha), ← ht]
  rw [List.take_set]
end
end Go.Proofs.YtcdlplbccblbaaaGreat

namespace Go.Proofs.YtcdlplbccblbaaaGreat
open Go.RowKit
set_option linter.unusedVariables false

/-- A queue as a value: nil, or a row of its own. -/
def QV (w : World) (v : Value) (q : List Ak) : Prop := (v = .slice none 0 0 ∧ q = []) ∨ ∃ g cap, v = .slice (some ⟨g, 0, none⟩) q.length cap ∧ RowAt w g cap q

/-- The place of a transaction; -1: it is not there. -/
def idx (q : List Ak) (tx : Int) : Int := match q.findIdx? (fun a => a.tx == tx) with | some i => i | none => -1
theorem idx_some {q : List Ak} {tx : Int} {k : Nat} (hk : k < q.length) (h : q[k].tx = tx) (hno : ∀ j (hj : j < q.length), j < k → q[j].tx ≠ tx) : idx q tx = k := by
  have : q.findIdx? (fun a => a.tx == tx) = some k := by
    rw [List.findIdx?_eq_some_iff_getElem]
    exact ⟨hk, by simpa using h, fun j hj => by simpa using hno j (by omega) hj⟩
  simp [idx, this]
theorem idx_none {q : List Ak} {tx : Int} (hno : ∀ j (hj : j < q.length), q[j].tx ≠ tx) : idx q tx = -1 := by
  have : q.findIdx? (fun a => a.tx == tx) = none := by
    rw [List.findIdx?_eq_none_iff]
    intro a ha
    obtain ⟨j, hj, rfl⟩ := List.getElem_of_mem ha
    simpa using hno j hj
  simp [idx, this]

theorem find1_any (a : Ak) (tx : Int) (B : Nat) (w : World) (hc : w.cell? ⟨B, 0, none⟩ = some (.int .i64 tx)) :
    Calls Tryz.prog 54 #[.agg #[.int .i64 a.tx, .int .i64 a.has, .int .i64 a.wants, .bool a.inst], .pointer (some ⟨B, 0, none⟩)] w fun e w' => e = .returned (.bool (a.tx == tx)) ∧ Below w.heap.size w w' := by
  have hlt := World.block_lt_of_cell? _ _ hc
  have hc2 : (w.alloc (.cells #[.int .i64 a.tx, .int .i64 a.has, .int .i64 a.wants, .bool a.inst] 80)).cell? ⟨B, 0, none⟩ = some (.int .i64 tx) := by
    rw [World.cell?_alloc_past _ _ _ hlt]; exact hc
  go_enter Tryz.func54, Tryz.ntmps54
  go_wp2
  go_ret
  exact ⟨rfl, (Below.refl _ _).alloc (Nat.le_refl _) _⟩

theorem indexFunc_nil (B : Nat) (w : World) :
    Calls Tryz.prog 53 #[.slice none 0 0, .func (.func 54) #[] #[.pointer (some ⟨B, 0, none⟩)]] w fun e w' => e = .returned (.int .i64 (-1)) ∧ w = w' := by
  go_enter Tryz.func53, Tryz.ntmps53
  go_wp2
  refine wp_loop_rounds 1 ?_
  rw [rounds_succ]
  go_wp2
  go_ret
  exact ⟨rfl, rfl⟩

theorem indexFunc_row (g cap : Nat) (q : List Ak) (tx : Int) (B : Nat) (w : World) (h : RowAt w g cap q) (hc : w.cell? ⟨B, 0, none⟩ = some (.int .i64 tx)) :
    Calls Tryz.prog 53 #[.slice (some ⟨g, 0, none⟩) q.length cap, .func (.func 54) #[] #[.pointer (some ⟨B, 0, none⟩)]] w fun e w' => e = .returned (.int .i64 (idx q tx)) ∧ Below w.heap.size w w' := by
  have hlt := World.block_lt_of_cell? _ _ hc
  have hglt := h.lt
  have hqc := h.le
  have hcm := h.max
  unfold maxLen at hcm
  go_enter Tryz.func53, Tryz.ntmps53
  go_wp2
  go_loopw [8] (fun i wr => ∃ k : Nat, k ≤ q.length ∧ i = .int .i64 k ∧ Below w.heap.size w wr ∧ Hid (∀ j (hj : j < q.length), j < k → q[j].tx ≠ tx)) (fun i _ => q.length - (intOf i).toNat)
  case atStart => exact ⟨0, Nat.zero_le _, rfl, Below.refl _ _, Lib.hid (fun j _ h => by omega)⟩
  case round =>
    obtain ⟨k, hk, rfl, hB, hno⟩ := hrel
    by_cases hlt2 : k < q.length
    · have hr := h.of_block (hB.block g hglt)
      have c0 := hr.c0 hlt2
      have c1 := hr.c1 hlt2
      have c2 := hr.c2 hlt2
      have c3 := hr.c3 hlt2
      have cB : wr.cell? ⟨B, 0, none⟩ = some (.int .i64 tx) := (hB.cell hlt).trans hc
      have hsz := hB.size
      by_cases heq : q[k].tx = tx
      · have hbe : (q[k].tx == tx) = true := by simpa using heq
        have HE := Lib.hid heq
        clear heq
        go_wp2_with fail
        refine (find1_any q[k] tx B wr cB).mono ?_
        rintro e w1 ⟨rfl, hB1⟩
        go_wp2_with fail
        go_ret
        exact ⟨ret_int (idx_some hlt2 HE.out hno.out).symm, hB.trans (hB1.mono hsz)⟩
      · have hbe : (q[k].tx == tx) = false := by simpa using heq
        have HE := Lib.hid heq
        clear heq
        go_wp2_with fail
        refine (find1_any q[k] tx B wr cB).mono ?_
        rintro e w1 ⟨rfl, hB1⟩
        go_wp2_with fail
        go_roundw
        case rel =>
          refine ⟨k + 1, by omega, by go_num, hB.trans (hB1.mono hsz), Lib.hid (fun j hj hjk => ?_)⟩
          rcases Nat.lt_or_ge j k with h | h
          · exact hno.out j hj h
          · obtain rfl : j = k := by omega
            exact HE.out
        case measure => simp [intOf]; omega
    · obtain rfl : k = q.length := by omega
      go_wp2_with fail
      go_ret
      exact ⟨ret_int (idx_none (fun j hj => hno.out j hj hj)).symm, hB⟩

theorem find_any (v : Value) (q : List Ak) (tx : Int) (w : World) (hv : QV w v q) :
    Calls Tryz.prog 31 #[v, .int .i64 tx] w fun e w' => e = .returned (.int .i64 (idx q tx)) ∧ Below w.heap.size w w' := by
  have hmf : ∀ (fn : Fn) (first cap : Array Value) (w : World), (Instr.makeFunc fn first cap).run Tryz.prog w = .ok (.func fn first cap) w := fun _ _ _ _ => rfl
  rcases hv with ⟨rfl, rfl⟩ | ⟨g, cap, rfl, h⟩
  · go_enter Tryz.func31, Tryz.ntmps31
    go_wp2_with fail
    refine (indexFunc_nil _ _).mono ?_
    rintro e w1 ⟨rfl, rfl⟩
    go_wp2_with fail
    go_ret
    exact ⟨rfl, (Below.refl _ _).alloc (Nat.le_refl _) _⟩
  · have hglt := h.lt
    have h2 : RowAt (w.alloc (.cells #[.int .i64 tx] 3)) g cap q := h.of_block (Below.heap_alloc w _ g hglt)
    have hc : (w.alloc (.cells #[.int .i64 tx] 3)).cell? ⟨w.heap.size, 0, none⟩ = some (.int .i64 tx) := by rw [World.cell?_alloc_at _ _ _ _ rfl]; rfl
    go_enter Tryz.func31, Tryz.ntmps31
    go_wp2_with fail
    refine (indexFunc_row g cap q tx _ _ h2 hc).mono ?_
    rintro e w1 ⟨rfl, hB⟩
    go_wp2_with fail
    go_ret
    exact ⟨rfl, ((Below.refl _ _).alloc (Nat.le_refl _) _).trans (hB.mono (by simp))⟩
end Go.Proofs.YtcdlplbccblbaaaGreat

namespace Go.Proofs.YtcdlplbccblbaaaGreat
open Go.RowKit
set_option linter.unusedVariables false

/-- Does a mode get on with what one has? -/
def mayOne (a : Ak) (tx mode : Int) : Bool := a.tx == tx || a.has == 0 || compat a.has mode
def mayS (q : List Ak) (tx mode : Int) : Bool := q.all (fun a => mayOne a tx mode)
theorem mayS_false {q : List Ak} {tx mode : Int} {k : Nat} (hk : k < q.length) (h : mayOne q[k] tx mode = false) : mayS q tx mode = false := by
  unfold mayS
  rw [List.all_eq_false]
  exact ⟨q[k], List.getElem_mem hk, by simp [h]⟩
theorem mayS_true {q : List Ak} {tx mode : Int} (h : ∀ j (hj : j < q.length), mayOne q[j] tx mode = true) : mayS q tx mode = true := by
  unfold mayS
  rw [List.all_eq_true]
  intro a ha
  obtain ⟨j, hj, rfl⟩ := List.getElem_of_mem ha
  exact h j hj

theorem may_nil (tx mode : Int) (w : World) : Calls Tryz.prog 33 #[.slice none 0 0, .int .i64 tx, .int .i64 mode] w fun e w' => e = .returned (.bool true) ∧ w = w' := by
  go_enter Tryz.func33, Tryz.ntmps33
  go_wp2
  refine wp_loop_rounds 1 ?_
  rw [rounds_succ]
  go_wp2
  go_ret
  exact ⟨rfl, rfl⟩

set_option maxHeartbeats 1000000 in
theorem may_row (g cap : Nat) (q : List Ak) (tx mode : Int) (w : World) (h : RowAt w g cap q) :
    Calls Tryz.prog 33 #[.slice (some ⟨g, 0, none⟩) q.length cap, .int .i64 tx, .int .i64 mode] w fun e w' => e = .returned (.bool (mayS q tx mode)) ∧ Below w.heap.size w w' := by
  have hglt := h.lt
  have hqc := h.le
  have hcm := h.max
  unfold maxLen at hcm
  go_enter Tryz.func33, Tryz.ntmps33
  go_wp2
  go_loopw [11] (fun i wr => ∃ k : Nat, k ≤ q.length ∧ i = .int .i64 k ∧ Below w.heap.size w wr ∧ Hid (∀ j (hj : j < q.length), j < k → mayOne q[j] tx mode = true)) (fun i _ => q.length - (intOf i).toNat)
  case atStart => exact ⟨0, Nat.zero_le _, rfl, Below.refl _ _, Lib.hid (fun j _ h => by omega)⟩
  case round =>
    obtain ⟨k, hk, rfl, hB, hno⟩ := hrel
    by_cases hlt2 : k < q.length
    · have hr := h.of_block (hB.block g hglt)
      have c0 := hr.c0 hlt2
      have c1 := hr.c1 hlt2
      have c2 := hr.c2 hlt2
      have c3 := hr.c3 hlt2
      have hsz := hB.size
      have hnext : ∀ (h : mayOne q[k] tx mode = true), Hid (∀ j (hj : j < q.length), j < k + 1 → mayOne q[j] tx mode = true) := fun h => Lib.hid (fun j hj hjk => by
        rcases Nat.lt_or_ge j k with h' | h'
        · exact hno.out j hj h'
        · obtain rfl : j = k := by omega
          exact h)
      have HN := Lib.hid hnext
      clear hnext
      by_cases htx : q[k].tx = tx
      · have hbe : (q[k].tx != tx) = false := by simpa using htx
        have HE : Hid (mayOne q[k] tx mode = true) := Lib.hid (by simp [mayOne, htx])
        clear htx
        go_wp2_with fail
        go_roundw
        case rel => exact ⟨k + 1, by omega, by go_num, hB.alloc hsz _, HN.out HE.out⟩
        case measure => simp [intOf]; omega
      · have hbe : (q[k].tx != tx) = true := by simpa using htx
        by_cases hh0 : q[k].has = 0
        · have hbh : (q[k].has != 0) = false := by simpa using hh0
          have HE : Hid (mayOne q[k] tx mode = true) := Lib.hid (by simp [mayOne, hh0])
          clear htx hh0
          go_wp2_with fail
          go_roundw
          case rel => exact ⟨k + 1, by omega, by go_num, hB.alloc hsz _, HN.out HE.out⟩
          case measure => simp [intOf]; omega
        · have hbh : (q[k].has != 0) = true := by simpa using hh0
          by_cases hcp : compat q[k].has mode = true
          · have HE : Hid (mayOne q[k] tx mode = true) := Lib.hid (by simp [mayOne, hcp])
            clear htx hh0
            go_wp2_with fail
            refine (compat_any _ _ _).mono ?_
            rintro e w1 ⟨rfl, hB1⟩
            go_wp2_with fail
            go_roundw
            case rel => exact ⟨k + 1, by omega, by go_num, (hB.alloc hsz _).trans (hB1.mono (by simp; omega)), HN.out HE.out⟩
            case measure => simp [intOf]; omega
          · have hcp' : compat q[k].has mode = false := by simpa using hcp
            have HE : Hid (mayOne q[k] tx mode = false) := Lib.hid (by simp [mayOne, hcp', htx, hh0])
            clear htx hh0 hcp
            go_wp2_with fail
            refine (compat_any _ _ _).mono ?_
            rintro e w1 ⟨rfl, hB1⟩
            go_wp2_with fail
            go_ret
            exact ⟨ret_bool (mayS_false hlt2 HE.out).symm, (hB.alloc hsz _).trans (hB1.mono (by simp; omega))⟩
    · obtain rfl : k = q.length := by omega
      go_wp2_with fail
      go_ret
      exact ⟨ret_bool (mayS_true (fun j hj => hno.out j hj hj)).symm, hB⟩

theorem may_any (v : Value) (q : List Ak) (tx mode : Int) (w : World) (hv : QV w v q) :
    Calls Tryz.prog 33 #[v, .int .i64 tx, .int .i64 mode] w fun e w' => e = .returned (.bool (mayS q tx mode)) ∧ Below w.heap.size w w' := by
  rcases hv with ⟨rfl, rfl⟩ | ⟨g, cap, rfl, h⟩
  · exact (may_nil tx mode w).mono fun e w' ⟨he, hw⟩ => ⟨he, hw ▸ Below.refl _ _⟩
  · exact may_row g cap q tx mode w h
end Go.Proofs.YtcdlplbccblbaaaGreat
