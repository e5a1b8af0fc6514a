import Derived.Test.YtogeojiaiilghaaGreatF
namespace Go.Proofs.YtogeojiaiilghaaGreat
open Go.RowKit
set_option linter.unusedVariables false

/-- Does a mode get on with what one has? -/
def mayOne (a : Ak) (tx mode : Int) : Bool := a.tx == tx || a.has == 0 || compat a.has mode
def mayS (q : List Ak) (tx mode : Int) : Bool := q.all (fun a => mayOne a tx mode)
theorem mayS_false {q : List Ak} {tx mode : Int} {k : Nat} (hk : k < q.length) (h : mayOne q[k] tx mode = false) : mayS q tx mode = false := by
  unfold mayS
  rw [List.all_eq_false]
  exact ⟨q[k], List.getElem_mem hk, by simp [h]⟩
theorem mayS_true {q : List Ak} {tx mode : Int} (h : ∀ j (hj : j < q.length), mayOne q[j] tx mode = true) : mayS q tx mode = true := by
  unfold mayS
  rw [List.all_eq_true]
  intro a ha
  obtain ⟨j, hj, rfl⟩ := List.getElem_of_mem ha
  exact h j hj

theorem may_nil (tx mode : Int) (w : World) : Calls Tryz.prog 123 #[.slice none 0 0, .int .i64 tx, .int .i64 mode] w fun e w' => e = .returned (.bool true) ∧ w = w' := by
  go_enter Tryz.func123, Tryz.ntmps123
  go_wp2
  refine wp_loop_rounds 1 ?_
  rw [rounds_succ]
  go_wp2
  go_ret
  exact ⟨rfl, rfl⟩

set_option maxHeartbeats 1000000 in
theorem may_row (g cap : Nat) (q : List Ak) (tx mode : Int) (w : World) (h : RowAt w g cap q) :
    Calls Tryz.prog 123 #[.slice (some ⟨g, 0, none⟩) q.length cap, .int .i64 tx, .int .i64 mode] w fun e w' => e = .returned (.bool (mayS q tx mode)) ∧ Below w.heap.size w w' := by
  have hglt := h.lt
  have hqc := h.le
  have hcm := h.max
  unfold maxLen at hcm
  go_enter Tryz.func123, Tryz.ntmps123
  go_wp2
  go_loopw [11] (fun i wr => ∃ k : Nat, k ≤ q.length ∧ i = .int .i64 k ∧ Below w.heap.size w wr ∧ Hid (∀ j (hj : j < q.length), j < k → mayOne q[j] tx mode = true)) (fun i _ => q.length - (intOf i).toNat)
  case atStart => exact ⟨0, Nat.zero_le _, rfl, Below.refl _ _, Lib.hid (fun j _ h => by omega)⟩
  case round =>
    obtain ⟨k, hk, rfl, hB, hno⟩ := hrel
    by_cases hlt2 : k < q.length
    · have hr := h.of_block (hB.block g hglt)
      have c0 := hr.c0 hlt2
      have c1 := hr.c1 hlt2
      have c2 := hr.c2 hlt2
      have c3 := hr.c3 hlt2
      have hsz := hB.size
      have hnext : ∀ (h : mayOne q[k] tx mode = true), Hid (∀ j (hj : j < q.length), j < k + 1 → mayOne q[j] tx mode = true) := fun h => Lib.hid (fun j hj hjk => by
        rcases Nat.lt_or_ge j k with h' | h'
        · exact hno.out j hj h'
        · obtain rfl : j = k := by omega
          exact h)
      have HN := Lib.hid hnext
      clear hnext
      by_cases htx : q[k].tx = tx
      · have hbe : (q[k].tx != tx) = false := by simpa using htx
        have HE : Hid (mayOne q[k] tx mode = true) := Lib.hid (by simp [mayOne, htx])
        clear htx
        go_wp2_with fail
        go_roundw
        case rel => exact ⟨k + 1, by omega, by go_num, hB.alloc hsz _, HN.out HE.out⟩
        case measure => simp [intOf]; omega
      · have hbe : (q[k].tx != tx) = true := by simpa using htx
        by_cases hh0 : q[k].has = 0
        · have hbh : (q[k].has != 0) = false := by simpa using hh0
          have HE : Hid (mayOne q[k] tx mode = true) := Lib.hid (by simp [mayOne, hh0])
          clear htx hh0
          go_wp2_with fail
          go_roundw
          case rel => exact ⟨k + 1, by omega, by go_num, hB.alloc hsz _, HN.out HE.out⟩
          case measure => simp [intOf]; omega
        · have hbh : (q[k].has != 0) = true := by simpa using hh0
          by_cases hcp : compat q[k].has mode = true
          · have HE : Hid (mayOne q[k] tx mode = true) := Lib.hid (by simp [mayOne, hcp])
            clear htx hh0
            go_wp2_with fail
            refine (compat_any _ _ _).mono ?_
            rintro e w1 ⟨rfl, hB1⟩
            go_wp2_with fail
            go_roundw
            case rel => exact ⟨k + 1, by omega, by go_num, (hB.alloc hsz _).trans (hB1.mono (by simp; omega)), HN.out HE.out⟩
            case measure => simp [intOf]; omega
          · have hcp' : compat q[k].has mode = false := by simpa using hcp
            have HE : Hid (mayOne q[k] tx mode = false) := Lib.hid (by simp [mayOne, hcp', htx, hh0])
            clear htx hh0 hcp
            go_wp2_with fail
            refine (compat_any _ _ _).mono ?_
            rintro e w1 ⟨rfl, hB1⟩
            go_wp2_with fail
            go_ret
            exact ⟨ret_bool (mayS_false hlt2 HE.out).symm, (hB.alloc hsz _).trans (hB1.mono (by simp; omega))⟩
    · obtain rfl : k = q.length := by omega
      go_wp2_with fail
      go_ret
      exact ⟨ret_bool (mayS_true (fun j hj => hno.out j hj hj)).symm, hB⟩

theorem may_any (v : Value) (q : List Ak) (tx mode : Int) (w : World) (hv : QV w v q) :
    Calls Tryz.prog 123 #[v, .int .i64 tx, .int .i64 mode] w fun e w' => e = .returned (.bool (mayS q tx mode)) ∧ Below w.heap.size w w' := by
  rcases hv with ⟨rfl, rfl⟩ | ⟨g, cap, rfl, h⟩
  · exact (may_nil tx mode w).mono fun e w' ⟨he, hw⟩ => ⟨he, hw ▸ Below.refl _ _⟩
  · exact may_row g cap q tx mode w h
end Go.Proofs.YtogeojiaiilghaaGreat
