import Derived.Test.YtogeojiaiilghaaGreatB
namespace Go.Proofs.YtogeojiaiilghaaGreat
open Go.RowKit
set_option linter.unusedVariables false

/-- A queue as a value: nil, or a row of its own. -/
def QV (w : World) (v : Value) (q : List Ak) : Prop := (v = .slice none 0 0 ∧ q = []) ∨ ∃ g cap, v = .slice (some ⟨g, 0, none⟩) q.length cap ∧ RowAt w g cap q

/-- The place of a transaction; -1: it is not there. -/
def idx (q : List Ak) (tx : Int) : Int := match q.findIdx? (fun a => a.tx == tx) with | some i => i | none => -1
theorem idx_some {q : List Ak} {tx : Int} {k : Nat} (hk : k < q.length) (h : q[k].tx = tx) (hno : ∀ j (hj : j < q.length), j < k → q[j].tx ≠ tx) : idx q tx = k := by
  have : q.findIdx? (fun a => a.tx == tx) = some k := by
    rw [List.findIdx?_eq_some_iff_getElem]
    exact ⟨hk, by simpa using h, fun j hj => by simpa using hno j (by omega) hj⟩
  simp [idx, this]
theorem idx_none {q : List Ak} {tx : Int} (hno : ∀ j (hj : j < q.length), q[j].tx ≠ tx) : idx q tx = -1 := by
  have : q.findIdx? (fun a => a.tx == tx) = none := by
    rw [List.findIdx?_eq_none_iff]
    intro a ha
    obtain ⟨j, hj, rfl⟩ := List.getElem_of_mem ha
    simpa using hno j hj
  simp [idx, this]

theorem find1_any (a : Ak) (tx : Int) (B : Nat) (w : World) (hc : w.cell? ⟨B, 0, none⟩ = some (.int .i64 tx)) :
    Calls Tryz.prog 130 #[.agg #[.int .i64 a.tx, .int .i64 a.has, .int .i64 a.wants, .bool a.inst], .pointer (some ⟨B, 0, none⟩)] w fun e w' => e = .returned (.bool (a.tx == tx)) ∧ Below w.heap.size w w' := by
  have hlt := World.block_lt_of_cell? _ _ hc
  have hc2 : (w.alloc (.cells #[.int .i64 a.tx, .int .i64 a.has, .int .i64 a.wants, .bool a.inst] 187)).cell? ⟨B, 0, none⟩ = some (.int .i64 tx) := by
    rw [World.cell?_alloc_past _ _ _ hlt]; exact hc
  go_enter Tryz.func130, Tryz.ntmps130
  go_wp2
  go_ret
  exact ⟨rfl, (Below.refl _ _).alloc (Nat.le_refl _) _⟩

theorem indexFunc_nil (B : Nat) (w : World) :
    Calls Tryz.prog 129 #[.slice none 0 0, .func (.func 130) #[] #[.pointer (some ⟨B, 0, none⟩)]] w fun e w' => e = .returned (.int .i64 (-1)) ∧ w = w' := by
  go_enter Tryz.func129, Tryz.ntmps129
  go_wp2
  refine wp_loop_rounds 1 ?_
  rw [rounds_succ]
  go_wp2
  go_ret
  exact ⟨rfl, rfl⟩

theorem indexFunc_row (g cap : Nat) (q : List Ak) (tx : Int) (B : Nat) (w : World) (h : RowAt w g cap q) (hc : w.cell? ⟨B, 0, none⟩ = some (.int .i64 tx)) :
    Calls Tryz.prog 129 #[.slice (some ⟨g, 0, none⟩) q.length cap, .func (.func 130) #[] #[.pointer (some ⟨B, 0, none⟩)]] w fun e w' => e = .returned (.int .i64 (idx q tx)) ∧ Below w.heap.size w w' := by
  have hlt := World.block_lt_of_cell? _ _ hc
  have hglt := h.lt
  have hqc := h.le
  have hcm := h.max
  unfold maxLen at hcm
  go_enter Tryz.func129, Tryz.ntmps129
  go_wp2
  go_loopw [8] (fun i wr => ∃ k : Nat, k ≤ q.length ∧ i = .int .i64 k ∧ Below w.heap.size w wr ∧ Hid (∀ j (hj : j < q.length), j < k → q[j].tx ≠ tx)) (fun i _ => q.length - (intOf i).toNat)
  case atStart => exact ⟨0, Nat.zero_le _, rfl, Below.refl _ _, Lib.hid (fun j _ h => by omega)⟩
  case round =>
    obtain ⟨k, hk, rfl, hB, hno⟩ := hrel
    by_cases hlt2 : k < q.length
    · have hr := h.of_block (hB.block g hglt)
      have c0 := hr.c0 hlt2
      have c1 := hr.c1 hlt2
      have c2 := hr.c2 hlt2
      have c3 := hr.c3 hlt2
      have cB : wr.cell? ⟨B, 0, none⟩ = some (.int .i64 tx) := (hB.cell hlt).trans hc
      have hsz := hB.size
      by_cases heq : q[k].tx = tx
      · have hbe : (q[k].tx == tx) = true := by simpa using heq
        have HE := Lib.hid heq
        clear heq
        go_wp2_with fail
        refine (find1_any q[k] tx B wr cB).mono ?_
        rintro e w1 ⟨rfl, hB1⟩
        go_wp2_with fail
        go_ret
        exact ⟨ret_int (idx_some hlt2 HE.out hno.out).symm, hB.trans (hB1.mono hsz)⟩
      · have hbe : (q[k].tx == tx) = false := by simpa using heq
        have HE := Lib.hid heq
        clear heq
        go_wp2_with fail
        refine (find1_any q[k] tx B wr cB).mono ?_
        rintro e w1 ⟨rfl, hB1⟩
        go_wp2_with fail
        go_roundw
        case rel =>
          refine ⟨k + 1, by omega, by go_num, hB.trans (hB1.mono hsz), Lib.hid (fun j hj hjk => ?_)⟩
          rcases Nat.lt_or_ge j k with h | h
          · exact hno.out j hj h
          · obtain rfl : j = k := by omega
            exact HE.out
        case measure => simp [intOf]; omega
    · obtain rfl : k = q.length := by omega
      go_wp2_with fail
      go_ret
      exact ⟨ret_int (idx_none (fun j hj => hno.out j hj hj)).symm, hB⟩

theorem find_any (v : Value) (q : List Ak) (tx : Int) (w : World) (hv : QV w v q) :
    Calls Tryz.prog 77 #[v, .int .i64 tx] w fun e w' => e = .returned (.int .i64 (idx q tx)) ∧ Below w.heap.size w w' := by
  have hmf : ∀ (fn : Fn) (first cap : Array Value) (w : World), (Instr.makeFunc fn first cap).run Tryz.prog w = .ok (.func fn first cap) w := fun _ _ _ _ => rfl
  rcases hv with ⟨rfl, rfl⟩ | ⟨g, cap, rfl, h⟩
  · go_enter Tryz.func77, Tryz.ntmps77
    go_wp2_with fail
    refine (indexFunc_nil _ _).mono ?_
    rintro e w1 ⟨rfl, rfl⟩
    go_wp2_with fail
    go_ret
    exact ⟨rfl, (Below.refl _ _).alloc (Nat.le_refl _) _⟩
  · have hglt := h.lt
    have h2 : RowAt (w.alloc (.cells #[.int .i64 tx] 3)) g cap q := h.of_block (Below.heap_alloc w _ g hglt)
    have hc : (w.alloc (.cells #[.int .i64 tx] 3)).cell? ⟨w.heap.size, 0, none⟩ = some (.int .i64 tx) := by rw [World.cell?_alloc_at _ _ _ _ rfl]; rfl
    go_enter Tryz.func77, Tryz.ntmps77
    go_wp2_with fail
    refine (indexFunc_row g cap q tx _ _ h2 hc).mono ?_
    rintro e w1 ⟨rfl, hB⟩
    go_wp2_with fail
    go_ret
    exact ⟨rfl, ((Below.refl _ _).alloc (Nat.le_refl _) _).trans (hB.mono (by simp))⟩
end Go.Proofs.YtogeojiaiilghaaGreat
