import Derived.Test.YtjonmcbglcidhaaGreatHc
import Derived.Laws.StructEq
import Derived.BigQuiet
import Derived.Deep.QuietTactic
namespace Go.Proofs.YtjonmcbglcidhaaGreat
open Go.RowKit
set_option linter.unusedVariables false

theorem eq_self (k n : Int) (s : ByteArray) (w : World) : (Op.equal 26 (.agg #[.int .i64 k, .int .i64 n, .string s]) (.agg #[.int .i64 k, .int .i64 n, .string s])).run Tryz.prog w = .ok true w := by
  show (Op.equalIn (9998 + 1 + 1) 26 _ _).run Tryz.prog w = _
  generalize 9998 = d
  rw [run_equalIn_struct w (d + 1) 26 _ _ (by kernel_rfl) (by kernel_rfl)]
  have e1 : ∀ x y, (Op.equalIn (d + 1) 3 (.int .i64 x) (.int .i64 y)).run Tryz.prog w = .ok (x == y) w := fun x y => run_equalIn_int w d 3 .i64 .i64 x y Tryz.underlying3
  have e2 : ∀ x y, (Op.equalIn (d + 1) 2 (.int .i64 x) (.int .i64 y)).run Tryz.prog w = .ok (x == y) w := fun x y => run_equalIn_int w d 2 .i64 .i64 x y Tryz.underlying2
  have e3 : ∀ x y, (Op.equalIn (d + 1) 9 (.string x) (.string y)).run Tryz.prog w = .ok (x.toList == y.toList) w := fun x y => run_equalIn_string w d 9 x y Tryz.underlying9
  have f26 : (Tryz.prog.fieldsOf 26).toList = [{ name := "Kind", type := 3, offset := 0, embedded := false, tag := "", pkgPath := "", byteOffset := 0 },
        { name := "N", type := 2, offset := 1, embedded := false, tag := "", pkgPath := "", byteOffset := 8 },
        { name := "S", type := 9, offset := 2, embedded := false, tag := "", pkgPath := "", byteOffset := 16 }] := by kernel_rfl
  have p1 : ∀ x y z : Value, (part 3 #[x, y, z] 0).run Tryz.prog w = .ok x w := fun x y z => by kernel_rfl
  have p2 : ∀ x y z : Value, (part 2 #[x, y, z] 1).run Tryz.prog w = .ok y w := fun x y z => by kernel_rfl
  have p3 : ∀ x y z : Value, (part 9 #[x, y, z] 2).run Tryz.prog w = .ok z w := fun x y z => by kernel_rfl
  rw [f26]
  simp [Op.eqFields, e1, e2, e3, p1, p2, p3, Result.andThen]
theorem neq_self (k n : Int) (s : ByteArray) (w : World) : (binOp .neq 26 (.agg #[.int .i64 k, .int .i64 n, .string s]) (.agg #[.int .i64 k, .int .i64 n, .string s])).run Tryz.prog w = .ok (.bool false) w := by
  have := eq_self k n s w
  simp [binOp, this, Result.andThen]

set_option maxRecDepth 100000 in
set_option maxHeartbeats 1000000 in
/-- Two rows that hold the same values are equal. -/
theorem equal_same (A1 A2 : Option Addr) (c1 c2 : Nat) (l : List V) (w : World) (h1 : VAt w A1 l) (h2 : VAt w A2 l) (n1 : l.length ≤ 9223372036854775807) :
    Calls Tryz.prog 24 #[.slice A1 l.length c1, .slice A2 l.length c2] w fun e w' => e = .returned (.bool true) ∧ Below w.heap.size w w' := by
  have hll : ((l.length : Int) != (l.length : Int)) = false := by simp
  go_enter Tryz.func24, Tryz.ntmps24
  go_wp2_with fail
  go_loopw [13] (fun j wr => ∃ i : Nat, i ≤ l.length ∧ j = .int .i64 i ∧ Below w.heap.size w wr) (fun j _ => l.length - (intOf j).toNat)
  case atStart => exact ⟨0, by omega, rfl, Below.refl _ _⟩
  case round =>
    obtain ⟨i, hi, rfl, hB⟩ := hrel
    by_cases hlt : i < l.length
    · obtain ⟨a1, ha1⟩ := h1 i hlt
      obtain ⟨rfl, hal1, p0, p1, p2⟩ := ha1.read hB
      obtain ⟨a2, ha2⟩ := h2 i hlt
      obtain ⟨rfl, hal2, q0, q1, q2⟩ := ha2.read hB
      obtain ⟨x, hx⟩ : ∃ x, x = l[i] := ⟨_, rfl⟩
      rw [← hx] at p0 p1 p2 q0 q1 q2
      clear hx ha1 ha2
      obtain ⟨xk, xn, xs⟩ := x
      simp only at p0 p1 p2 q0 q1 q2
      have hne := neq_self xk xn xs
      have hii0 : (0 : Int) ≤ (i : Int) := by omega
      have hiil : (i : Int) < (l.length : Int) := by omega
      go_wp2_with fail
      go_quiet (fail)
      clear hne p0 p1 p2 q0 q1 q2
      go_wp2_with fail
      go_roundw
      case rel => exact ⟨i + 1, by omega, by go_num, below_drewN hB _⟩
      case measure => simp [intOf]; omega
    · go_wp2_with fail
      go_ret
      exact ⟨rfl, hB⟩
end Go.Proofs.YtjonmcbglcidhaaGreat
