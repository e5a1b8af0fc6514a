import Derived.Test.YtdpipfifoinncaaDoorKl
import Derived.Deep.RegionHeld3
namespace Go.Proofs.YtdpipfifoinncaaDoor
open Go.RowKit
set_option linter.unusedVariables false

/-- The same values as the document has them. -/
theorem same_pos (l : List V) (A B : Option Addr) (c d : Nat) (w : World) (hl : l.length ≤ 9223372036854775000) (hA : VAt w A l) (hB : VAt w B l) :
    Calls Tryd.prog 10 #[.slice A l.length c, .slice B l.length d] w fun e w' => e = .returned (.bool true) ∧ Below w.heap.size w w' := by
  obtain ⟨n, hn⟩ : ∃ n, n = l.length := ⟨_, rfl⟩
  rw [← hn] at hl ⊢
  have HN := Lib.hid hn
  clear hn
  go_enter Tryd.func10, Tryd.ntmps10
  go_wp2_with fail
  go_loopw [5] (fun i wr => ∃ k : Nat, k ≤ n ∧ i = .int .i64 k ∧ Below w.heap.size w wr) (fun i _ => n - (intOf i).toNat)
  case atStart => exact ⟨0, Nat.zero_le _, rfl, Below.refl _ _⟩
  case round =>
    obtain ⟨k, hk, rfl, hBr⟩ := hrel
    by_cases hlt : k < n
    · have hkl : k < l.length := by have := HN.out; omega
      obtain ⟨a, ha⟩ := hA.below hBr k hkl
      obtain ⟨b, hb⟩ := hB.below hBr k hkl
      obtain ⟨⟨kd, m, s⟩, hv⟩ : ∃ v, v = l[k] := ⟨_, rfl⟩
      rw [← hv] at ha hb
      obtain rfl := ha.at_
      obtain rfl := hb.at_
      have a0 := ha.c0
      have a1 := ha.c1
      have a2 := ha.c2
      have b0 := hb.c0
      have b1 := hb.c1
      have b2 := hb.c2
      have e0 : (kd != kd) = false := by simp
      have e1 : (m != m) = false := by simp
      have e2 : (s.toList == s.toList) = true := by simp
      have hi1 : (0 : Int) ≤ (k : Int) := by omega
      have hi2 : (k : Int) < (n : Int) := by omega
      have HV := Lib.hid hv
      clear hv ha hb
      go_wp2_with fail
      go_quiet (fail)
      go_wp2_with fail
      go_roundw
      case rel => exact ⟨k + 1, by omega, by go_num, below_drewN hBr _⟩
      case measure => simp [intOf] <;> omega
    · obtain rfl : k = n := by omega
      go_wp2
      go_ret
      exact ⟨rfl, hBr⟩
end Go.Proofs.YtdpipfifoinncaaDoor
