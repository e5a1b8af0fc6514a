import Derived.Test.YtjonmcbglcidhaaGreatKa
import Derived.Laws.BitsAllLaws
namespace Go.Proofs.YtjonmcbglcidhaaGreat
open Go.RowKit
set_option linter.unusedVariables false

/-- The number of bytes, the low one first. -/
def getN : List UInt8 → Nat
  | [] => 0
  | b :: r => b.toNat + 256 * getN r
/-- k bytes from a place on. -/
def seg (s : ByteArray) (at_ k : Nat) : List UInt8 := (s.data.toList.drop at_).take k
theorem data_len (s : ByteArray) : s.data.toList.length = s.size := by
  rw [Array.length_toList]
  rfl
theorem seg_len (s : ByteArray) (a k : Nat) (h : a + k ≤ s.size) : (seg s a k).length = k := by
  unfold seg
  rw [List.length_take, List.length_drop, data_len]
  omega
theorem seg_cons (s : ByteArray) (a k : Nat) (h : a < s.size) : seg s a (k + 1) = s[a] :: seg s (a + 1) k := by
  have hl : a < s.data.toList.length := by rw [data_len]; exact h
  unfold seg
  rw [List.drop_eq_getElem_cons hl, List.take_succ_cons]
  rfl
theorem getN_lt : ∀ (l : List UInt8), getN l < 256 ^ l.length
  | [] => by simp [getN]
  | b :: r => by
    have := getN_lt r
    have hb := b.toNat_lt
    simp only [getN, List.length_cons, Nat.pow_succ]
    omega

theorem u64_wrap_id {x : Int} (h₀ : 0 ≤ x) (h₁ : x < 18446744073709551616) : IntKind.u64.wrap x = x := by
  rw [IntKind.wrap_u64]; omega
theorem or_byte (n b : Nat) (hb : b < 256) : n * 256 ||| b = b + 256 * n := by
  have := Nat.two_pow_add_eq_or_of_lt (i := 8) (b := b) (show b < 2 ^ 8 from hb) n
  rw [Nat.mul_comm n 256, Nat.add_comm]
  exact this.symm
theorem orB (x : Nat) (b : UInt8) (h : x < 72057594037927936) :
    bits .or .u64 (IntKind.u64.wrap ((x : Int) * 256)) (IntKind.u64.wrap (b.toNat : Int)) = ((b.toNat + 256 * x : Nat) : Int) := by
  have hb := b.toNat_lt
  rw [u64_wrap_id (by omega) (by omega), u64_wrap_id (by omega) (by omega)]
  have := u64_or_nat (x * 256) b.toNat (by omega) (by omega)
  rw [or_byte x _ hb, Int.natCast_mul] at this
  exact this

end Go.Proofs.YtjonmcbglcidhaaGreat
