import Derived.Test.YtpggillecedocaaW
import Derived.Laws.Rows
import Derived.Laws.BitsLemmas
namespace Go.Proofs.Ytpggillecedocaa
open Go.RowKit
set_option linter.unusedVariables false

theorem results_cells2 {P : Program} {fn : Func} {p u : Tmp} {ty ty2 : TypeId} (h : fn.results = #[.cell p ty, .cell u ty2]) (tmps : Array Value) (w : World) (g g2 : Nat) (t t2 : TypeId) (cs cs2 : Array Value) (fr fr2 : Nat × Nat) (d d2 : TypeDesc)
    (hp : tmps.getD p undef = .pointer (some ⟨g, 0, none⟩)) (hg : w.heap[g]? = some (.cells cs t fr)) (hu : P.underlying ty = some d) (hd : (match d with | .struct _ | .array _ _ => true | _ => false) = true) (hi : (P.info? ty).map (·.size) = some cs.size)
    (hp2 : tmps.getD u undef = .pointer (some ⟨g2, 0, none⟩)) (hg2 : w.heap[g2]? = some (.cells cs2 t2 fr2)) (hu2 : P.underlying ty2 = some d2) (hd2 : (match d2 with | .struct _ | .array _ _ => true | _ => false) = true) (hi2 : (P.info? ty2).map (·.size) = some cs2.size) :
    (results fn tmps).run P w = .ok (.tuple #[.agg cs, .agg cs2]) w := by
  have hp' : tmps[p]?.getD undef = .pointer (some ⟨g, 0, none⟩) := by simpa using hp
  have hp2' : tmps[u]?.getD undef = .pointer (some ⟨g2, 0, none⟩) := by simpa using hp2
  simp [results, h, hp', hp2', asAddr, run_loadVar_row w g t ty cs fr d hg hu hd hi, run_loadVar_row w g2 t2 ty2 cs2 fr2 d2 hg2 hu2 hd2 hi2, Sem.run_bind, Result.andThen]

theorem and_mask (x : Int) (i : Nat) (hi : i ≤ 62) : bits BinOp.and IntKind.i64 x ((2 ^ i - 1 : Nat) : Int) = x % 2 ^ i := by
  have hpos : 0 < 2 ^ i := Nat.two_pow_pos i
  have h2 : 2 ^ i ≤ 2 ^ 62 := Nat.pow_le_pow_right (by decide) hi
  have hb : IntKind.i64.bits = 64 := rfl
  simp only [bits, BitVec.toNat_and, BitVec.toNat_ofInt]
  rw [hb]
  have h4 : (((2 ^ i - 1 : Nat) : Int) % ((2 ^ 64 : Nat) : Int)).toNat = 2 ^ i - 1 := by
    rw [← Int.natCast_emod, Int.toNat_natCast]
    exact Nat.mod_eq_of_lt (by omega)
  rw [h4, Nat.and_two_pow_sub_one_eq_mod]
  have h5 : (((x % ((2 ^ 64 : Nat) : Int)).toNat % 2 ^ i : Nat) : Int) = x % 2 ^ i := by
    rw [Int.natCast_emod, Int.toNat_of_nonneg (Int.emod_nonneg _ (by decide))]
    have : ((2 ^ i : Nat) : Int) ∣ ((2 ^ 64 : Nat) : Int) := by
      exact Int.natCast_dvd_natCast.2 (Nat.pow_dvd_pow 2 (by omega))
    rw [Int.emod_emod_of_dvd x this]
    simp
  rw [h5, IntKind.wrap_i64]
  have h0 : (0 : Int) < 2 ^ i := Int.pow_pos (by decide)
  have h6 : 0 ≤ x % 2 ^ i := Int.emod_nonneg _ (by omega)
  have h7 : x % 2 ^ i < 2 ^ i := Int.emod_lt_of_pos _ h0
  have h8 : (2 : Int) ^ i ≤ 2 ^ 62 := by exact_mod_cast h2
  omega

/-- A lock's name by a number. -/
def nmA (n : Int) : Nm :=
  ⟨wrap64 (1 + bits BinOp.and IntKind.i64 (bits BinOp.and IntKind.i64 n 7) 1), bits BinOp.and IntKind.i64 (bits BinOp.and IntKind.i64 n 7 / 2) 1, bits BinOp.and IntKind.i64 n 7 / 4 % 4294967296, bits BinOp.and IntKind.i64 (bits BinOp.and IntKind.i64 n 7) 3⟩

theorem nmA_eq (n : Int) : nmA n = ⟨1 + n % 8 % 2, n % 8 / 2 % 2, n % 8 / 4, n % 8 % 4⟩ := by
  have h7 : bits BinOp.and IntKind.i64 n 7 = n % 8 := and_mask n 3 (by decide)
  have h1 : ∀ x : Int, bits BinOp.and IntKind.i64 x 1 = x % 2 := fun x => and_mask x 1 (by decide)
  have h3 : ∀ x : Int, bits BinOp.and IntKind.i64 x 3 = x % 4 := fun x => and_mask x 2 (by decide)
  unfold nmA
  rw [h7, h1, h1, h3]
  simp only [Nm.mk.injEq, true_and, and_true]
  refine ⟨?_, by omega⟩
  simp [wrap64]
  omega

theorem name_any (n : Int) (w : World) : Calls Try.prog 20 #[.int .i64 n] w fun e w' => e = .returned (.tuple #[.agg #[.int .i64 (nmA n).kind, .int .i64 (nmA n).of_, .int .u32 (nmA n).page, .int .i64 (nmA n).slot], .agg #[.int .i64 (nmA n).kind, .int .i64 (nmA n).of_, .int .u32 (nmA n).page, .int .i64 (nmA n).slot]]) ∧ Below w.heap.size w w' := by
  unfold nmA
  simp only
  generalize h7 : bits BinOp.and IntKind.i64 n 7 = k
  generalize h1 : wrap64 (1 + bits BinOp.and IntKind.i64 k 1) = c1
  generalize h2 : bits BinOp.and IntKind.i64 (k / 2) 1 = c2
  generalize h3 : bits BinOp.and IntKind.i64 k 3 = c3
  go_enter Try.func20, Try.ntmps20
  go_wp2
  (try simp only [Exit.inBlock, Exit.then])
  refine bodyPost_ret (results_cells2 rfl _ _ w.heap.size (w.heap.size + 1) 34 43 #[.int .i64 c1, .int .i64 c2, .int .u32 (k / 4 % 4294967296), .int .i64 c3] #[.int .i64 c1, .int .i64 c2, .int .u32 (k / 4 % 4294967296), .int .i64 c3] (0, 0) (0, 0) _ _ rfl ?_ Try.underlying34 rfl (by kernel_rfl) rfl ?_ Try.underlying43 rfl (by kernel_rfl)) rfl ?_
  · exact (Below.heap_alloc _ _ _ (by simp)).trans (heap_alloc_new w _)
  · exact heap_alloc2_new w _ _
  · exact ⟨rfl, ((Below.refl _ _).alloc (Nat.le_refl _) _).alloc (by simp) _⟩
end Go.Proofs.Ytpggillecedocaa
