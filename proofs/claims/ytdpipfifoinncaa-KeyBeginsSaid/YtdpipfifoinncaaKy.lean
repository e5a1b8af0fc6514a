import Derived.Test.YtdpipfifoinncaaKx
namespace Go.Proofs.Ytdpipfifoinncaa
open Go.RowKit
set_option linter.unusedVariables false

theorem rem_of (n : Int) (m : Nat) (hm : m ≤ 4) : ∃ (x : Int) (k : Nat), n.tmod ((m : Int) + 1) = x ∧ -4 ≤ x ∧ x ≤ 4 ∧ 0 ≤ x + m ∧ k ≤ m ∧ (x + m + 1) % ((m : Int) + 1) = k := by
  obtain ⟨r1, r2, r3⟩ := rem_at n m hm
  have h1 := Int.emod_nonneg (n.tmod ((m : Int) + 1) + m + 1) (b := (m : Int) + 1) (by omega)
  have h2 := Int.emod_lt_of_pos (n.tmod ((m : Int) + 1) + m + 1) (b := (m : Int) + 1) (by omega)
  exact ⟨_, ((n.tmod ((m : Int) + 1) + m + 1) % ((m : Int) + 1)).toNat, rfl, r1, r2, r3, by omega, by omega⟩

set_option maxRecDepth 100000 in
set_option maxHeartbeats 1600000 in
theorem begins_any (l : List V) (A : Option Addr) (cap : Nat) (n : Int) (w : World) (hl : l.length ≤ cap) (hc : cap ≤ 9223372036854775807) (hA : VAt w A l) (h1 : -9223372036854775808 ≤ n) (h2 : n ≤ 9223372036854775807) :
    Calls Try.prog 4 #[.slice A l.length cap, .int .i64 n] w fun e w' => e = .returned (.bool true) ∧ Below w.heap.size w w' := by
  obtain ⟨q, hq⟩ : ∃ q, q = l.length := ⟨_, rfl⟩
  by_cases h4 : 4 < q
  · obtain ⟨S, E, hT⟩ : ∃ S E, Two w A cap 4 S E := ⟨_, _, two_of cap 4 (by omega) (by omega) hA⟩
    rw [← hq] at hl ⊢
    clear hq hA
    obtain ⟨x, k, hx, x1, x2, x3, hk, hxk⟩ := rem_of n 4 (by omega)
    rw [show ((4 : Nat) : Int) + 1 = 5 from rfl] at hx hxk
    rw [show ((4 : Nat) : Int) = 4 from rfl] at x3 hxk
    have hd : decide ((4 : Int) < (q : Int)) = true := by simp; omega
    have hk1 := hT.1
    have hk2 := hT.2
    have HK1 := Lib.hid hk1
    have HK2 := Lib.hid hk2
    clear hk1 hk2 hT
    go_enter Try.func4, Try.ntmps4
    go_wp2_with fail
    refine (HK1.out _ (Below.refl _ _)).mono ?_
    rintro r w1 ⟨rfl, hB1⟩
    go_wp2_with fail
    refine (awake_any _).mono ?_
    rintro r w2 ⟨rfl, hB2⟩
    have hB02 := hB1.trans (hB2.mono hB1.size)
    by_cases hE : E = 0
    · obtain ⟨T, hT, hk2⟩ := HK2.out hE k hk
      have t1 := hT.size
      have t2 := hT.most
      have t3 := hT.front
      have t4 := hT.low
      have t5 := hT.high
      have HK3 := Lib.hid hk2
      clear hk2 hT HK2
      subst hE
      go_wp2_with fail
      refine (HK3.out _ hB02).mono ?_
      rintro r w3 ⟨rfl, hB3⟩
      go_wp2
      go_ret
      exact ⟨rfl, hB02.trans (hB3.mono hB02.size)⟩
    · have hne : (E != 0) = true := by simpa using hE
      go_wp2_with fail
      refine (awake_any _).mono ?_
      rintro r w3 ⟨rfl, hB3⟩
      go_wp2
      go_ret
      exact ⟨rfl, hB02.trans (hB3.mono hB02.size)⟩
  · obtain ⟨S, E, hT⟩ : ∃ S E, Two w A cap q S E := ⟨_, _, two_of cap q (by omega) (by omega) hA⟩
    rw [← hq] at hl ⊢
    clear hq hA
    obtain ⟨x, k, hx, x1, x2, x3, hk, hxk⟩ := rem_of n q (by omega)
    have h4' : q ≤ 4 := by omega
    have hd : decide ((4 : Int) < (q : Int)) = false := by simp; omega
    have hk1 := hT.1
    have hk2 := hT.2
    have HK1 := Lib.hid hk1
    have HK2 := Lib.hid hk2
    clear hk1 hk2 hT h4
    go_enter Try.func4, Try.ntmps4
    go_wp2_with fail
    refine (HK1.out _ (Below.refl _ _)).mono ?_
    rintro r w1 ⟨rfl, hB1⟩
    go_wp2_with fail
    refine (awake_any _).mono ?_
    rintro r w2 ⟨rfl, hB2⟩
    have hB02 := hB1.trans (hB2.mono hB1.size)
    by_cases hE : E = 0
    · by_cases h0 : q = 0
      · obtain ⟨T, hT, hk2⟩ := HK2.out hE 0 (by omega)
        have t1 := hT.size
        have t2 := hT.most
        have t3 := hT.front
        have t4 := hT.low
        have t5 := hT.high
        have HK3 := Lib.hid hk2
        have hd0 : decide ((0 : Int) < (q : Int)) = false := by simp; omega
        clear hk2 hT HK2 hx hxk
        subst hE
        go_wp2_with fail
        refine (HK3.out _ hB02).mono ?_
        rintro r w3 ⟨rfl, hB3⟩
        go_wp2
        go_ret
        exact ⟨rfl, hB02.trans (hB3.mono hB02.size)⟩
      · obtain ⟨T, hT, hk2⟩ := HK2.out hE k hk
        have t1 := hT.size
        have t2 := hT.most
        have t3 := hT.front
        have t4 := hT.low
        have t5 := hT.high
        have HK3 := Lib.hid hk2
        have hd0 : decide ((0 : Int) < (q : Int)) = true := by simp; omega
        clear hk2 hT HK2
        subst hE
        go_wp2_with fail
        refine (HK3.out _ hB02).mono ?_
        rintro r w3 ⟨rfl, hB3⟩
        go_wp2
        go_ret
        exact ⟨rfl, hB02.trans (hB3.mono hB02.size)⟩
    · have hne : (E != 0) = true := by simpa using hE
      go_wp2_with fail
      refine (awake_any _).mono ?_
      rintro r w3 ⟨rfl, hB3⟩
      go_wp2
      go_ret
      exact ⟨rfl, hB02.trans (hB3.mono hB02.size)⟩
end Go.Proofs.Ytdpipfifoinncaa
