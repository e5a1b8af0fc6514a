import Derived.Test.YtcdlplbccblbaaaGreatAn
import Derived.Laws.Rows
import Derived.Laws.BitsLemmas
namespace Go.Proofs.YtcdlplbccblbaaaGreat
open Go.RowKit
set_option linter.unusedVariables false

theorem new_any (w : World) : Calls Tryz.prog 4 #[] w fun e w' => e = .returned (.pointer (some ⟨w.heap.size + 2, 0, none⟩)) ∧ Tab w' (w.heap.size + 2) w.heap.size (w.heap.size + 1) [] [] ∧ Below w.heap.size w w' := by
  have hmm := @run_makeMap Tryz.prog
  go_enter Tryz.func4, Tryz.ntmps4
  go_wp2
  go_ret
  have e0 : ∀ (w : World) (o : Obj), (w.alloc o).heap[w.heap.size]? = some o := fun w o => (MapKept.heap_alloc w o).1
  refine ⟨rfl, ⟨?_, ?_, ?_, by omega, by simp, by simp⟩, ((((Below.refl _ _).alloc (Nat.le_refl _) _).alloc (by simp) _).alloc (by simp; omega) _)⟩
  · have := Blk.new ((w.alloc (.map #[] 0)).alloc (.map #[] 0)) 37 #[.map (some w.heap.size), .map (some (w.heap.size + 1))]
    simpa using this
  · have h1 := MapAt.made KN w
    have h2 := h1.of_block (Below.heap_alloc (w.alloc (.map #[] 0)) (.map #[] 0) _ h1.lt)
    have h3 := h2.of_block (Below.heap_alloc ((w.alloc (.map #[] 0)).alloc (.map #[] 0)) (.cells #[.map (some w.heap.size), .map (some (w.heap.size + 1))] 37) _ h2.lt)
    exact h3
  · have h1 := MapAt.made KI (w.alloc (.map #[] 0))
    have h2 := h1.of_block (Below.heap_alloc ((w.alloc (.map #[] 0)).alloc (.map #[] 0)) (.cells #[.map (some w.heap.size), .map (some (w.heap.size + 1))] 37) _ h1.lt)
    simpa using h2

def r1 (g cap : Nat) : Row := ⟨⟨1, 0, 0, 0⟩, g, cap, [⟨1, 5, 0, false⟩]⟩
def r2 (g cap : Nat) : Row := ⟨⟨1, 0, 0, 0⟩, g, cap, [⟨1, 5, 0, false⟩, ⟨2, 0, 3, false⟩]⟩

set_option maxRecDepth 100000 in
theorem awake_any (w : World) : Calls Tryz.prog 5 #[] w fun e w' => e = .returned (.bool true) ∧ Below w.heap.size w w' := by
  go_enter Tryz.func5, Tryz.ntmps5
  go_wp2_with fail
  refine (new_any _).mono ?_
  rintro e w1 ⟨rfl, hT, hB⟩
  go_wp2_with fail
  refine (ask_fresh 1 5 1 0 0 0 false true hT (by omega) rfl rfl rfl).mono ?_
  rintro e w2 ⟨rfl, hP⟩
  obtain ⟨g, cap, hT2, hg, hK⟩ : ∃ g cap, Tab w2 (w.heap.size + 2) w.heap.size (w.heap.size + 1) ([] ++ r1 g cap :: []) [] ∧ w1.heap.size ≤ g ∧ Keeps w1 w2 (Foot (w.heap.size + 2) w.heap.size (w.heap.size + 1) []) := hP
  go_wp2_with fail
  refine (ask_new 2 3 1 0 0 0 false true [] [] _ hT2 (by omega) rfl rfl rfl rfl (by simp [r1])).mono ?_
  rintro e w3 hP
  have hno : mayS (r1 g cap).q 2 3 = false := rfl
  unfold NewPost at hP
  rw [if_neg (by rw [hno]; simp)] at hP
  obtain ⟨rfl, g', cap', hT3, hg', hK3⟩ := hP
  go_wp2_with fail
  refine (waits_any hT3 2).mono ?_
  rintro e w4 ⟨rfl, hB4⟩
  go_wp2_with fail
  go_ret
  refine ⟨by rfl, ?_⟩
  have s1 := hB.size
  have s2 := hK.size
  have s3 := hK3.size
  have t2 : Below w.heap.size w1 w2 := by
    refine hK.below s1 (fun k hk hf => ?_)
    rcases hf with h | h | h | h
    · omega
    · omega
    · omega
    · simp at h
  have t3 : Below w.heap.size w2 w3 := by
    refine hK3.below (by omega) (fun k hk hf => ?_)
    rcases hf with h | h | h | h
    · omega
    · omega
    · omega
    · simp [r1] at h; omega
  exact ((hB.trans t2).trans t3).trans (hB4.mono (by omega))
end Go.Proofs.YtcdlplbccblbaaaGreat

namespace Go.Proofs.YtcdlplbccblbaaaGreat
open Go.RowKit
set_option linter.unusedVariables false

theorem results_cells2 {P : Program} {fn : Func} {p u : Tmp} {ty ty2 : TypeId} (h : fn.results = #[.cell p ty, .cell u ty2]) (tmps : Array Value) (w : World) (g g2 : Nat) (t t2 : TypeId) (cs cs2 : Array Value) (fr fr2 : Nat × Nat) (d d2 : TypeDesc)
    (hp : tmps.getD p undef = .pointer (some ⟨g, 0, none⟩)) (hg : w.heap[g]? = some (.cells cs t fr)) (hu : P.underlying ty = some d) (hd : (match d with | .struct _ | .array _ _ => true | _ => false) = true) (hi : (P.info? ty).map (·.size) = some cs.size)
    (hp2 : tmps.getD u undef = .pointer (some ⟨g2, 0, none⟩)) (hg2 : w.heap[g2]? = some (.cells cs2 t2 fr2)) (hu2 : P.underlying ty2 = some d2) (hd2 : (match d2 with | .struct _ | .array _ _ => true | _ => false) = true) (hi2 : (P.info? ty2).map (·.size) = some cs2.size) :
    (results fn tmps).run P w = .ok (.tuple #[.agg cs, .agg cs2]) w := by
  have hp' : tmps[p]?.getD undef = .pointer (some ⟨g, 0, none⟩) := by simpa using hp
  have hp2' : tmps[u]?.getD undef = .pointer (some ⟨g2, 0, none⟩) := by simpa using hp2
  simp [results, h, hp', hp2', asAddr, run_loadVar_row w g t ty cs fr d hg hu hd hi, run_loadVar_row w g2 t2 ty2 cs2 fr2 d2 hg2 hu2 hd2 hi2, Sem.run_bind, Result.andThen]

theorem and_mask (x : Int) (i : Nat) (hi : i ≤ 62) : bits BinOp.and IntKind.i64 x ((2 ^ i - 1 : Nat) : Int) = x % 2 ^ i := by
  have hpos : 0 < 2 ^ i := Nat.two_pow_pos i
  have h2 : 2 ^ i ≤ 2 ^ 62 := Nat.pow_le_pow_right (by decide) hi
  have hb : IntKind.i64.bits = 64 := rfl
  simp only [bits, BitVec.toNat_and, BitVec.toNat_ofInt]
  rw [hb]
  have h4 : (((2 ^ i - 1 : Nat) : Int) % ((2 ^ 64 : Nat) : Int)).toNat = 2 ^ i - 1 := by
    rw [← Int.natCast_emod, Int.toNat_natCast]
    exact Nat.mod_eq_of_lt (by omega)
  rw [h4, Nat.and_two_pow_sub_one_eq_mod]
  have h5 : (((x % ((2 ^ 64 : Nat) : Int)).toNat % 2 ^ i : Nat) : Int) = x % 2 ^ i := by
    rw [Int.natCast_emod, Int.toNat_of_nonneg (Int.emod_nonneg _ (by decide))]
    have : ((2 ^ i : Nat) : Int) ∣ ((2 ^ 64 : Nat) : Int) := by
      exact Int.natCast_dvd_natCast.2 (Nat.pow_dvd_pow 2 (by omega))
    rw [Int.emod_emod_of_dvd x this]
    simp
  rw [h5, IntKind.wrap_i64]
  have h0 : (0 : Int) < 2 ^ i := Int.pow_pos (by decide)
  have h6 : 0 ≤ x % 2 ^ i := Int.emod_nonneg _ (by omega)
  have h7 : x % 2 ^ i < 2 ^ i := Int.emod_lt_of_pos _ h0
  have h8 : (2 : Int) ^ i ≤ 2 ^ 62 := by exact_mod_cast h2
  omega

/-- A lock's name by a number. -/
def nmA (n : Int) : Nm :=
  ⟨wrap64 (1 + bits BinOp.and IntKind.i64 (bits BinOp.and IntKind.i64 n 7) 1), bits BinOp.and IntKind.i64 (bits BinOp.and IntKind.i64 n 7 / 2) 1, bits BinOp.and IntKind.i64 n 7 / 4 % 4294967296, bits BinOp.and IntKind.i64 (bits BinOp.and IntKind.i64 n 7) 3⟩

theorem nmA_eq (n : Int) : nmA n = ⟨1 + n % 8 % 2, n % 8 / 2 % 2, n % 8 / 4, n % 8 % 4⟩ := by
  have h7 : bits BinOp.and IntKind.i64 n 7 = n % 8 := and_mask n 3 (by decide)
  have h1 : ∀ x : Int, bits BinOp.and IntKind.i64 x 1 = x % 2 := fun x => and_mask x 1 (by decide)
  have h3 : ∀ x : Int, bits BinOp.and IntKind.i64 x 3 = x % 4 := fun x => and_mask x 2 (by decide)
  unfold nmA
  rw [h7, h1, h1, h3]
  simp only [Nm.mk.injEq, true_and, and_true]
  refine ⟨?_, by omega⟩
  simp [wrap64]
  omega

theorem name_any (n : Int) (w : World) : Calls Tryz.prog 10 #[.int .i64 n] w fun e w' => e = .returned (.tuple #[.agg #[.int .i64 (nmA n).kind, .int .i64 (nmA n).of_, .int .u32 (nmA n).page, .int .i64 (nmA n).slot], .agg #[.int .i64 (nmA n).kind, .int .i64 (nmA n).of_, .int .u32 (nmA n).page, .int .i64 (nmA n).slot]]) ∧ Below w.heap.size w w' := by
  unfold nmA
  simp only
  generalize h7 : bits BinOp.and IntKind.i64 n 7 = k
  generalize h1 : wrap64 (1 + bits BinOp.and IntKind.i64 k 1) = c1
  generalize h2 : bits BinOp.and IntKind.i64 (k / 2) 1 = c2
  generalize h3 : bits BinOp.and IntKind.i64 k 3 = c3
  go_enter Tryz.func10, Tryz.ntmps10
  go_wp2
  (try simp only [Exit.inBlock, Exit.then])
  refine bodyPost_ret (results_cells2 rfl _ _ w.heap.size (w.heap.size + 1) 46 49 #[.int .i64 c1, .int .i64 c2, .int .u32 (k / 4 % 4294967296), .int .i64 c3] #[.int .i64 c1, .int .i64 c2, .int .u32 (k / 4 % 4294967296), .int .i64 c3] (0, 0) (0, 0) _ _ rfl ?_ Tryz.underlying46 rfl (by kernel_rfl) rfl ?_ Tryz.underlying49 rfl (by kernel_rfl)) rfl ?_
  · exact (Below.heap_alloc _ _ _ (by simp)).trans (heap_alloc_new w _)
  · exact heap_alloc2_new w _ _
  · exact ⟨rfl, ((Below.refl _ _).alloc (Nat.le_refl _) _).alloc (by simp) _⟩
end Go.Proofs.YtcdlplbccblbaaaGreat
