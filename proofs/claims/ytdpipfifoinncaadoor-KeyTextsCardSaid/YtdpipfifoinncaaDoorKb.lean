import Derived.Test.YtdpipfifoinncaaDoorKa
import Derived.Laws.BitsAllLaws
namespace Go.Proofs.YtdpipfifoinncaaDoor
open Go.RowKit
set_option linter.unusedVariables false

/-- The number of bytes, the low one first. -/
def getN : List UInt8 → Nat
  | [] => 0
  | b :: r => b.toNat + 256 * getN r
/-- k bytes from a place on. -/
def seg (s : ByteArray) (at_ k : Nat) : List UInt8 := (s.data.toList.drop at_).take k
theorem data_len (s : ByteArray) : s.data.toList.length = s.size := by
  rw [Array.length_toList]
  rfl
theorem seg_len (s : ByteArray) (a k : Nat) (h : a + k ≤ s.size) : (seg s a k).length = k := by
  unfold seg
  rw [List.length_take, List.length_drop, data_len]
  omega
theorem seg_cons (s : ByteArray) (a k : Nat) (h : a < s.size) : seg s a (k + 1) = s[a] :: seg s (a + 1) k := by
  have hl : a < s.data.toList.length := by rw [data_len]; exact h
  unfold seg
  rw [List.drop_eq_getElem_cons hl, List.take_succ_cons]
  rfl
theorem getN_lt : ∀ (l : List UInt8), getN l < 256 ^ l.length
  | [] => by simp [getN]
  | b :: r => by
    have := getN_lt r
    have hb := b.toNat_lt
    simp only [getN, List.length_cons, Nat.pow_succ]
    omega

theorem u64_wrap_id {x : Int} (h₀ : 0 ≤ x) (h₁ : x < 18446744073709551616) : IntKind.u64.wrap x = x := by
  rw [IntKind.wrap_u64]; omega
theorem or_byte (n b : Nat) (hb : b < 256) : n * 256 ||| b = b + 256 * n := by
  have := Nat.two_pow_add_eq_or_of_lt (i := 8) (b := b) (show b < 2 ^ 8 from hb) n
  rw [Nat.mul_comm n 256, Nat.add_comm]
  exact this.symm
theorem orB (x : Nat) (b : UInt8) (h : x < 72057594037927936) :
    bits .or .u64 (IntKind.u64.wrap ((x : Int) * 256)) (IntKind.u64.wrap (b.toNat : Int)) = ((b.toNat + 256 * x : Nat) : Int) := by
  have hb := b.toNat_lt
  rw [u64_wrap_id (by omega) (by omega), u64_wrap_id (by omega) (by omega)]
  have := u64_or_nat (x * 256) b.toNat (by omega) (by omega)
  rw [or_byte x _ hb, Int.natCast_mul] at this
  exact this

set_option maxRecDepth 100000 in
theorem Get_one_cut (s : ByteArray) (p : Nat) (w : World) (hs : s.size ≤ 9223372036854775807) (hp : p ≤ s.size) (hc : s.size < p + 1) :
    Calls Tryd.prog 44 #[.string s, .int .i64 p, .int .i64 1] w fun e w' => e = .returned (.tuple #[.int .u64 0, .int .i64 4]) ∧ w = w' := by
  have h2 : (decide ((s.size : Int) - p < 1)) = true := by simp; omega
  have h3 : decide ((p : Int) < 0) = false := by simp
  have h4 : decide (s.size < p) = false := by simp; omega
  go_enter Tryd.func44, Tryd.ntmps44
  go_wp2
  go_ret2
  exact ⟨rfl, rfl⟩
set_option maxRecDepth 100000 in
theorem Get_one (s : ByteArray) (p : Nat) (w : World) (hs : s.size ≤ 9223372036854775807) (hp : p + 1 ≤ s.size) :
    Calls Tryd.prog 44 #[.string s, .int .i64 p, .int .i64 1] w fun e w' => e = .returned (.tuple #[.int .u64 (getN (seg s p 1)), .int .i64 0]) ∧ w = w' := by
  have h2 : (decide ((s.size : Int) - p < 1)) = false := by simp; omega
  have h3 : decide ((p : Int) < 0) = false := by simp
  have h4 : decide (s.size < p) = false := by simp; omega
  go_enter Tryd.func44, Tryd.ntmps44
  go_wp2_with fail
  go_loopw [8, 9] (fun u i wr => ∃ m : Nat, m ≤ 1 ∧ i = .int .i64 ((m : Int) - 1) ∧ u = .int .u64 (getN (seg s (p + m) (1 - m))) ∧ w = wr) (fun _ i _ => (intOf i + 1).toNat)
  case atStart => exact ⟨1, by omega, rfl, by simp [seg, getN], rfl⟩
  case round =>
    obtain ⟨m, hm, rfl, rfl, rfl⟩ := hrel
    by_cases h0 : m = 0
    · subst h0
      go_wp2
      go_ret2
      exact ⟨rfl, rfl⟩
    · obtain ⟨j, rfl⟩ : ∃ j, m = j + 1 := ⟨m - 1, by omega⟩
      have hj : p + j < s.size := by omega
      obtain ⟨x, hx⟩ : ∃ x, x = getN (seg s (p + (j + 1)) (1 - (j + 1))) := ⟨_, rfl⟩
      have hxl : x < 256 ^ (1 - (j + 1)) := by
        have := getN_lt (seg s (p + (j + 1)) (1 - (j + 1)))
        rw [seg_len s _ _ (by omega)] at this
        rw [hx]; exact this
      have hor : bits .or .u64 (IntKind.u64.wrap ((x : Int) * 256)) (IntKind.u64.wrap (s[p + j].toNat : Int)) = ((getN (seg s (p + j) (1 - j)) : Nat) : Int) := by
        rw [orB x _ (Nat.lt_of_lt_of_le hxl (Nat.pow_le_pow_right (n := 256) (by omega) (show 1 - (j + 1) ≤ 7 by omega)))]
        rw [show 1 - j = (1 - (j + 1)) + 1 by omega, seg_cons s _ _ hj, getN, hx]
        rfl
      rw [← hx]
      have HX := Lib.hid hx
      have HXL := Lib.hid hxl
      have HOR := Lib.hid hor
      clear hx hxl hor
      go_wp2_with fail
      go_roundw
      case rel => exact ⟨j, by omega, rfl, by rw [HOR.out], by trivial⟩
      case measure => simp [intOf] <;> omega
set_option maxRecDepth 100000 in
theorem Get_eight_cut (s : ByteArray) (p : Nat) (w : World) (hs : s.size ≤ 9223372036854775807) (hp : p ≤ s.size) (hc : s.size < p + 8) :
    Calls Tryd.prog 44 #[.string s, .int .i64 p, .int .i64 8] w fun e w' => e = .returned (.tuple #[.int .u64 0, .int .i64 4]) ∧ w = w' := by
  have h2 : (decide ((s.size : Int) - p < 8)) = true := by simp; omega
  have h3 : decide ((p : Int) < 0) = false := by simp
  have h4 : decide (s.size < p) = false := by simp; omega
  go_enter Tryd.func44, Tryd.ntmps44
  go_wp2
  go_ret2
  exact ⟨rfl, rfl⟩
set_option maxRecDepth 100000 in
theorem Get_eight (s : ByteArray) (p : Nat) (w : World) (hs : s.size ≤ 9223372036854775807) (hp : p + 8 ≤ s.size) :
    Calls Tryd.prog 44 #[.string s, .int .i64 p, .int .i64 8] w fun e w' => e = .returned (.tuple #[.int .u64 (getN (seg s p 8)), .int .i64 0]) ∧ w = w' := by
  have h2 : (decide ((s.size : Int) - p < 8)) = false := by simp; omega
  have h3 : decide ((p : Int) < 0) = false := by simp
  have h4 : decide (s.size < p) = false := by simp; omega
  go_enter Tryd.func44, Tryd.ntmps44
  go_wp2_with fail
  go_loopw [8, 9] (fun u i wr => ∃ m : Nat, m ≤ 8 ∧ i = .int .i64 ((m : Int) - 1) ∧ u = .int .u64 (getN (seg s (p + m) (8 - m))) ∧ w = wr) (fun _ i _ => (intOf i + 1).toNat)
  case atStart => exact ⟨8, by omega, rfl, by simp [seg, getN], rfl⟩
  case round =>
    obtain ⟨m, hm, rfl, rfl, rfl⟩ := hrel
    by_cases h0 : m = 0
    · subst h0
      go_wp2
      go_ret2
      exact ⟨rfl, rfl⟩
    · obtain ⟨j, rfl⟩ : ∃ j, m = j + 1 := ⟨m - 1, by omega⟩
      have hj : p + j < s.size := by omega
      obtain ⟨x, hx⟩ : ∃ x, x = getN (seg s (p + (j + 1)) (8 - (j + 1))) := ⟨_, rfl⟩
      have hxl : x < 256 ^ (8 - (j + 1)) := by
        have := getN_lt (seg s (p + (j + 1)) (8 - (j + 1)))
        rw [seg_len s _ _ (by omega)] at this
        rw [hx]; exact this
      have hor : bits .or .u64 (IntKind.u64.wrap ((x : Int) * 256)) (IntKind.u64.wrap (s[p + j].toNat : Int)) = ((getN (seg s (p + j) (8 - j)) : Nat) : Int) := by
        rw [orB x _ (Nat.lt_of_lt_of_le hxl (Nat.pow_le_pow_right (n := 256) (by omega) (show 8 - (j + 1) ≤ 7 by omega)))]
        rw [show 8 - j = (8 - (j + 1)) + 1 by omega, seg_cons s _ _ hj, getN, hx]
        rfl
      rw [← hx]
      have HX := Lib.hid hx
      have HXL := Lib.hid hxl
      have HOR := Lib.hid hor
      clear hx hxl hor
      go_wp2_with fail
      go_roundw
      case rel => exact ⟨j, by omega, rfl, by rw [HOR.out], by trivial⟩
      case measure => simp [intOf] <;> omega
end Go.Proofs.YtdpipfifoinncaaDoor
