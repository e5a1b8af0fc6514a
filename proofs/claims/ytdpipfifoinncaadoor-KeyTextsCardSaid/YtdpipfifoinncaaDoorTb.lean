import Derived.Test.YtdpipfifoinncaaDoorTa
namespace Go.Proofs.YtdpipfifoinncaaDoor
open Go.RowKit
set_option linter.unusedVariables false

def dz (u : Nat) : List UInt8 := if u = 0 then [] else Lib.decDigits u
theorem dz_step (u : Nat) (h : u ≠ 0) : dz u = dz (u / 10) ++ [UInt8.ofNat (48 + u % 10)] := by
  unfold dz
  rw [if_neg h]
  by_cases h10 : u < 10
  · rw [if_pos (by omega), Lib.decDigits, dif_pos h10, Nat.mod_eq_of_lt h10]
    rfl
  · rw [if_neg (by omega), Lib.decDigits, dif_neg h10]
theorem itoa_dz (n : Int) (h : n ≠ 0) : Lib.itoa n = if n < 0 then 45 :: dz n.natAbs else dz n.natAbs := by
  have h' : ¬ n.natAbs = 0 := by omega
  unfold Lib.itoa dz
  by_cases hn : n < 0
  · rw [if_pos hn, if_pos hn, if_neg h']
  · rw [if_neg hn, if_neg hn, if_neg h', show n.toNat = n.natAbs by omega]
theorem itoa_zero : Lib.itoa 0 = [48] := by
  unfold Lib.itoa
  rw [if_neg (by omega), Lib.decDigits, dif_pos (by decide)]
  rfl
theorem dz_le (u : Nat) (h : u ≤ 9223372036854775808) : (dz u).length ≤ 19 := by
  unfold dz
  split
  · simp
  · exact dd_le u h
theorem quo_abs (x : Int) : (x.tdiv 10).natAbs = x.natAbs / 10 := by rw [Int.natAbs_tdiv]; rfl
theorem rem_abs (x : Int) : (x.tmod 10).natAbs = x.natAbs % 10 := by rw [Int.natAbs_tmod]; rfl
theorem one_str (b : Nat) (X : Int) (h : X = b) (hb : b < 256) : strOfNums [X] = bs [UInt8.ofNat b] := by
  subst h
  unfold strOfNums bs
  simp

theorem digit_run (w : World) (X : Int) (b : Nat) (h : X = b) (hb : b < 256) : (convert 53 9 (.slice (some ⟨w.heap.size, 0, none⟩) 1 1)).run Tryd.prog (w.alloc (.cells #[.int .u8 X] 5)) = .ok (.string (bs [UInt8.ofNat b])) (w.alloc (.cells #[.int .u8 X] 5)) := by
  have := run_convert_bytes_arg (P := Tryd.prog) (w.alloc (.cells #[.int .u8 X] 5)) 53 5 Tryd.underlying53 Tryd.underlying5 w.heap.size 0 1 1 [X] rfl (fun i hi => by
    obtain rfl : i = 0 := by omega
    exact cell_one_new _ _ _ 0 _ rfl) 9 Tryd.underlying9
  rw [one_str b X h hb] at this
  exact this

set_option maxRecDepth 100000 in
set_option maxHeartbeats 800000 in
theorem digits_any (n : Int) (w : World) (hn : inR n) : Calls Tryd.prog 16 #[.int .i64 n] w fun e w' => e = .returned (.string (bs (Lib.itoa n))) ∧ Below w.heap.size w w' := by
  unfold inR at hn
  obtain ⟨n1, n2⟩ := hn
  obtain ⟨D, hD⟩ : ∃ D, D = dz n.natAbs := ⟨_, rfl⟩
  have hDl : D.length ≤ 19 := by rw [hD]; exact dz_le _ (by omega)
  have HD := Lib.hid hD
  clear hD
  go_enter Tryd.func16, Tryd.ntmps16
  go_wp2_with fail
  go_loopw [3, 4] (fun s k wr => ∃ (x : Int) (l : List UInt8), s = .string (bs l) ∧ k = .int .i64 x ∧ -9223372036854775808 ≤ x ∧ x ≤ 9223372036854775807 ∧ l.length ≤ 19 ∧ Hid (D = dz x.natAbs ++ l) ∧ Below w.heap.size w wr) (fun _ k _ => (intOf k).natAbs)
  case atStart => exact ⟨n, [], rfl, rfl, n1, n2, by simp, Lib.hid (by rw [HD.out]; simp), Below.refl _ _⟩
  case round =>
    obtain ⟨x, l, rfl, rfl, x1, x2, hlen, hdz, hBr⟩ := hrel
    by_cases h0 : x = 0
    · have hq : (x != 0) = false := by simp [h0]
      have e : D = l := by rw [hdz.out, h0]; simp [dz]
      have HE := Lib.hid e
      clear e h0
      by_cases hn0 : n = 0
      · have hq2 : (n == 0) = true := by simp [hn0]
        have HN := Lib.hid hn0
        clear hn0
        go_wp2_with fail
        go_ret
        refine ⟨?_, hBr⟩
        rw [HN.out, itoa_zero]
        rfl
      · have hq2 : (n == 0) = false := by simp [hn0]
        have HN := Lib.hid (itoa_dz n hn0)
        clear hn0
        have s2 : (bs l).size ≤ 19 := by rw [bs_size]; exact hlen
        by_cases hneg : n < 0
        · have HG := Lib.hid hneg
          go_wp2_with fail
          go_ret
          refine ⟨?_, hBr⟩
          rw [HN.out, if_pos HG.out, ← HD.out, HE.out]
          rfl
        · have HG := Lib.hid hneg
          go_wp2_with fail
          go_ret
          refine ⟨?_, hBr⟩
          rw [HN.out, if_neg (by have := HG.out; omega), ← HD.out, HE.out]
          rfl
    · have hq : (x != 0) = true := by simp [h0]
      obtain ⟨y, hy⟩ : ∃ y, x.tmod 10 = y := ⟨_, rfl⟩
      obtain ⟨z, hz⟩ : ∃ z, x.tdiv 10 = z := ⟨_, rfl⟩
      have ya : y.natAbs = x.natAbs % 10 := by rw [← hy]; exact rem_abs x
      have za : z.natAbs = x.natAbs / 10 := by rw [← hz]; exact quo_abs x
      obtain ⟨b, hb⟩ : ∃ b, b = 48 + x.natAbs % 10 := ⟨_, rfl⟩
      have hst := dz_step x.natAbs (by omega)
      rw [← za, ← hb] at hst
      have hnew : D = dz z.natAbs ++ (UInt8.ofNat b :: l) := by rw [hdz.out, hst]; simp
      have hl1 : (UInt8.ofNat b :: l).length ≤ 19 := by
        rw [hnew, List.length_append] at hDl
        omega
      have y1 : -9 ≤ y := by omega
      have y2 : y ≤ 9 := by omega
      have z1 : -9223372036854775808 ≤ z := by omega
      have z2 : z ≤ 9223372036854775807 := by omega
      have hzx : z.natAbs < x.natAbs := by omega
      have hby : b = 48 + y.natAbs := by omega
      have hb9 : b < 256 := by omega
      have HNEW := Lib.hid hnew
      have HBY := Lib.hid hby
      have HL := Lib.hid hl1
      have s1 : (bs [UInt8.ofNat b]).size ≤ 1 := by rw [bs_size]; exact Nat.le_refl _
      have s2 : (bs l).size ≤ 19 := by rw [bs_size]; exact hlen
      clear hst hnew hl1 ya za hb hby h0
      by_cases hyn : y < 0
      · have hc := digit_run wr (48 + -y) b (by have := HBY.out; omega) hb9
        go_wp2_with fail
        go_roundw
        case rel => exact ⟨z, UInt8.ofNat b :: l, by rw [bs_append]; rfl, rfl, z1, z2, HL.out, HNEW, hBr.alloc hBr.size _⟩
        case measure => simp [intOf]; omega
      · have hc := digit_run wr (48 + y) b (by have := HBY.out; omega) hb9
        go_wp2_with fail
        go_roundw
        case rel => exact ⟨z, UInt8.ofNat b :: l, by rw [bs_append]; rfl, rfl, z1, z2, HL.out, HNEW, hBr.alloc hBr.size _⟩
        case measure => simp [intOf]; omega
end Go.Proofs.YtdpipfifoinncaaDoor
