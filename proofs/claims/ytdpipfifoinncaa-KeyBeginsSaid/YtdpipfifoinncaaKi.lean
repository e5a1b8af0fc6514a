import Derived.Test.YtdpipfifoinncaaKh
import Derived.Deep.RegionHeld3
namespace Go.Proofs.Ytdpipfifoinncaa
open Go.RowKit
set_option linter.unusedVariables false

set_option maxRecDepth 100000 in
set_option maxHeartbeats 1600000 in
theorem RRow_good {w : World} {A : Option Addr} {cap : Nat} {l : List V} (h1 : 1 ≤ l.length) (h4 : l.length ≤ 4) (hV : VAt w A l) :
    Calls Try.prog 6 #[.slice A l.length cap] w fun e w' => e = .returned (.tuple #[.string (bs (rowE l).1), .int .i64 (rowE l).2]) ∧ Below w.heap.size w w' := by
  obtain ⟨n, hn⟩ : ∃ n, n = l.length := ⟨_, rfl⟩
  obtain ⟨T, hT⟩ : ∃ T, T = bs (rowE l).1 := ⟨_, rfl⟩
  obtain ⟨E, hE⟩ : ∃ E, E = (rowE l).2 := ⟨_, rfl⟩
  rw [← hn, ← hT, ← hE]
  have HT := Lib.hid hT
  have HE := Lib.hid hE
  clear hT hE
  have hd1 : decide ((n : Int) < 1) = false := by simp; omega
  have hd2 : decide ((4 : Int) < (n : Int)) = false := by simp; omega
  have hn4 : n ≤ 4 := by omega
  have HN := Lib.hid hn
  have H1 : Hid (1 ≤ l.length) := h1
  have H4 : Hid (l.length ≤ 4) := h4
  clear hn h1 h4
  go_enter Try.func6, Try.ntmps6
  go_wp2_with fail
  refine (RPut_one n w (by omega)).mono ?_
  rintro e w1 ⟨rfl, hB1⟩
  go_wp2_with fail
  go_loopw [4, 5] (fun u i wr => ∃ k : Nat, k ≤ n ∧ i = .int .i64 k ∧ (l.take k).all may = true ∧ u = .string (bs (putB n 1 ++ (l.take k).flatMap encV)) ∧ Below w.heap.size w wr) (fun _ i _ => n - (intOf i).toNat)
  case atStart => exact ⟨0, by omega, rfl, rfl, by simp, hB1⟩
  case round =>
    obtain ⟨k, hk, rfl, hall, rfl, hBr⟩ := hrel
    have hsz := hBr.size
    by_cases hlt : k < n
    · have hkl : k < l.length := by have := HN.out; omega
      obtain ⟨ad, ha⟩ := hV.below hBr k hkl
      obtain ⟨⟨kd, m, s⟩, hv⟩ : ∃ v, v = l[k] := ⟨_, rfl⟩
      have hnx := enc_next n l k hkl
      have hmy := all_next l k hkl hall
      have hno := all_no l k hkl
      rw [← hv] at ha hnx hmy hno
      obtain rfl := ha.at_
      have c0 := ha.c0
      have c1 := ha.c1
      have c2 := ha.c2
      have hlen : (putB n 1 ++ (l.take k).flatMap encV).length ≤ 1 + 22 * k := by
        have := enc_len (l.take k) hall
        rw [List.length_append, putB_len]
        rw [List.length_take] at this
        omega
      obtain ⟨P, hP⟩ : ∃ P, P = putB n 1 ++ (l.take k).flatMap encV := ⟨_, rfl⟩
      rw [← hP] at hnx hlen
      rw [← hP]
      obtain ⟨S, hS⟩ : ∃ S, S = bs P := ⟨_, rfl⟩
      have hSs : S.size ≤ 200 := by rw [hS, bs_size]; omega
      rw [← hS]
      have HA : Hid (At1 wr (some ad) k ⟨kd, m, s⟩ ad) := ha
      have HV := Lib.hid hv
      have HNX := Lib.hid hnx
      have HMY := Lib.hid hmy
      have HNO := Lib.hid hno
      have HLEN := Lib.hid hlen
      have HP := Lib.hid hP
      have HS := Lib.hid hS
      have HALL := Lib.hid hall
      clear hv hnx hmy hno hlen hP hall ha hS
      go_wp2_with fail
      refine (May_any kd m s _).mono ?_
      rintro e w3 ⟨rfl, hB3⟩
      cases hmv : may ⟨kd, m, s⟩
      · have hr : rowE l = ([], 110) := by
          have h1 := H1.out
          have h4 := H4.out
          unfold rowE
          rw [if_neg (by omega), if_neg (by rw [HNO.out hmv]; decide)]
        have HR := Lib.hid hr
        clear hr
        have hBe := hBr.trans (hB3.mono hsz)
        clear hmv
        go_wp2
        go_ret2
        exact ⟨by rw [HT.out, HE.out, HR.out]; rfl, hBe⟩
      · have hall' := HMY.out hmv
        have hA3 := HA.out.below hB3
        have hB3' := hBr.trans (hB3.mono hsz)
        have hkd := may_kind hmv
        have HMV := Lib.hid hmv
        clear hmv c0 c1 c2
        have c0 := hA3.c0
        have c1 := hA3.c1
        have c2 := hA3.c2
        rcases hkd with rfl | rfl | ⟨rfl, hs20⟩
        · go_wp2_with fail
          refine (RPut_one 0 w3 (by omega)).mono ?_
          rintro e w4 ⟨rfl, hB4⟩
          obtain ⟨X, hX⟩ : ∃ X, X = bs (putB 0 1) := ⟨_, rfl⟩
          have hXs : X.size = 1 := by rw [hX, bs_size, putB_len]
          have hadd : S.size + X.size ≤ 9223372036854775807 := by omega
          have hB4' := hB3'.trans (hB4.mono hB3'.size)
          have hA4 := hA3.below hB4
          clear c0 c1 c2
          have c0 := hA4.c0
          have c1 := hA4.c1
          have c2 := hA4.c2
          have hout : S ++ X = bs (putB n 1 ++ (l.take (k + 1)).flatMap encV) := by
            rw [HS.out, hX, bs_append, ← HNX.out]
            simp [encV, w64]
          rw [← hX]
          have HO := Lib.hid hout
          have HX := Lib.hid hX
          have HXs := Lib.hid hXs
          clear hout hX hXs
          go_wp2_with fail
          go_roundw
          case rel => exact ⟨k + 1, by omega, by go_num, hall', by rw [HO.out], hB4'⟩
          case measure => simp [intOf] <;> omega
        · have hw := w64_wrap m
          go_wp2_with fail
          refine (RPut_one 1 w3 (by omega)).mono ?_
          rintro e w4 ⟨rfl, hB4⟩
          obtain ⟨X, hX⟩ : ∃ X, X = bs (putB 1 1) := ⟨_, rfl⟩
          have hXs : X.size = 1 := by rw [hX, bs_size, putB_len]
          have hadd : S.size + X.size ≤ 9223372036854775807 := by omega
          have hB4' := hB3'.trans (hB4.mono hB3'.size)
          have hA4 := hA3.below hB4
          clear c0 c1 c2
          have c0 := hA4.c0
          have c1 := hA4.c1
          have c2 := hA4.c2
          rw [← hX]
          have HX := Lib.hid hX
          obtain ⟨S2, hS2⟩ : ∃ S2, S2 = S ++ X := ⟨_, rfl⟩
          have hS2s : S2.size ≤ 201 := by rw [hS2, ByteArray.size_append]; omega
          have hS2' : S ++ X = S2 := hS2.symm
          have HXs := Lib.hid hXs
          clear hX hS2 hXs
          go_wp2_with fail
          refine (RPut_eight (w64 m) w4 (w64_lt m)).mono ?_
          rintro e w5 ⟨rfl, hB5⟩
          obtain ⟨Y, hY⟩ : ∃ Y, Y = bs (putB (w64 m) 8) := ⟨_, rfl⟩
          have hYs : Y.size = 8 := by rw [hY, bs_size, putB_len]
          have hadd2 : S2.size + Y.size ≤ 9223372036854775807 := by omega
          have hB5' := hB4'.trans (hB5.mono hB4'.size)
          have hA5 := hA4.below hB5
          clear c0 c1 c2
          have c0 := hA5.c0
          have c1 := hA5.c1
          have c2 := hA5.c2
          have hout : S2 ++ Y = bs (putB n 1 ++ (l.take (k + 1)).flatMap encV) := by
            rw [← hS2', HS.out, HX.out, hY, bs_append, bs_append, ← HNX.out]
            simp [encV, w64]
          rw [← hY]
          have HO := Lib.hid hout
          have HY := Lib.hid hY
          have HYs := Lib.hid hYs
          clear hout hY hYs
          go_wp2_with fail
          go_roundw
          case rel => exact ⟨k + 1, by omega, by go_num, hall', by rw [HO.out], hB5'⟩
          case measure => simp [intOf] <;> omega
        · have hss : s.size ≤ 20 := hs20
          go_wp2_with fail
          refine (RPut_one 2 w3 (by omega)).mono ?_
          rintro e w4 ⟨rfl, hB4⟩
          obtain ⟨X, hX⟩ : ∃ X, X = bs (putB 2 1) := ⟨_, rfl⟩
          have hXs : X.size = 1 := by rw [hX, bs_size, putB_len]
          have hadd : S.size + X.size ≤ 9223372036854775807 := by omega
          have hB4' := hB3'.trans (hB4.mono hB3'.size)
          have hA4 := hA3.below hB4
          clear c0 c1 c2
          have c0 := hA4.c0
          have c1 := hA4.c1
          have c2 := hA4.c2
          rw [← hX]
          have HX := Lib.hid hX
          obtain ⟨S2, hS2⟩ : ∃ S2, S2 = S ++ X := ⟨_, rfl⟩
          have hS2s : S2.size ≤ 201 := by rw [hS2, ByteArray.size_append]; omega
          have hS2' : S ++ X = S2 := hS2.symm
          have HXs := Lib.hid hXs
          clear hX hS2 hXs
          obtain ⟨Y, hY⟩ : ∃ Y, Y = bs (putB s.size 1) := ⟨_, rfl⟩
          have hYs : Y.size = 1 := by rw [hY, bs_size, putB_len]
          have hadd2 : Y.size + s.size ≤ 9223372036854775807 := by omega
          obtain ⟨Z, hZ⟩ : ∃ Z, Y ++ s = Z := ⟨_, rfl⟩
          have hZs : Z.size ≤ 21 := by rw [← hZ, ByteArray.size_append]; omega
          have hadd3 : S2.size + Z.size ≤ 9223372036854775807 := by omega
          have hput : ∀ W, Calls Try.prog 19 #[.int .u64 s.size, .int .i64 1] W fun e w' => e = .returned (.string Y) ∧ Below W.heap.size W w' := fun W => by rw [hY]; exact RPut_one s.size W (by omega)
          have hYZ : Z = bs (putB s.size 1 ++ s.data.toList) := by rw [← hZ, hY]; exact bs_append _ s.data.toList
          have hout : S2 ++ Z = bs (putB n 1 ++ (l.take (k + 1)).flatMap encV) := by
            rw [← hS2', HS.out, HX.out, hYZ, bs_append, bs_append, ← HNX.out]
            simp [encV, w64]
          have hZ : Y ++ s = Z := hZ
          have HPUT := Lib.hid hput
          have HO := Lib.hid hout
          have HYs := Lib.hid hYs
          clear hY hYs hput hout hYZ
          go_wp2_with fail
          have hg2 : ¬ 9223372036854775807 < Y.size + s.size := by omega
          have hg3 : ¬ 9223372036854775807 < S2.size + Z.size := by omega
          have hwz : IntKind.u64.wrap (s.size : Int) = (s.size : Int) := u64_wrap_id (by omega) (by omega)
          go_region_held3 (fun w' => w'.cell? ⟨(ad.add (k * 3)).block, (ad.add (k * 3)).off + 2, none⟩ = some (.string s))
            ((first | assumption | go_keep))
            ((go_at_call 19; refine (HPUT.out _).mono ?_; rintro e w5 ⟨rfl, hB5⟩; have hB5a : Below w4.heap.size w4 w5 := ⟨hB5.os, hB5.tape, hB5.output, hB5.size, hB5.block⟩; have hA5 := hA4.below hB5a; have hB5' := hB4'.trans (hB5a.mono hB4'.size); have c2' := hA5.c2))
          go_wp2_with fail
          go_roundw
          case rel => exact ⟨k + 1, by omega, by go_num, hall', by rw [HO.out], by first | exact hB5' | exact hB5'.drew⟩
          case measure => simp [intOf] <;> omega
    · obtain rfl : k = n := by omega
      have hkl := HN.out
      rw [hkl, List.take_length] at hall
      have hbe : bs (putB l.length 1 ++ (l.take l.length).flatMap encV) = bs (rowB l) := by
        rw [List.take_length]; rfl
      have hrw : rowE l = if 60 < (rowB l).length then ([], 101) else (rowB l, 0) := by
        have h1 := H1.out
        have h4 := H4.out
        unfold rowE
        rw [if_neg (by omega), if_pos hall]
      rw [← hkl] at hbe
      rw [hbe]
      obtain ⟨S, hS⟩ : ∃ S, S = bs (rowB l) := ⟨_, rfl⟩
      have hSs : S.size = (rowB l).length := by rw [hS, bs_size]
      rw [← hSs] at hrw
      rw [← hS]
      have HS := Lib.hid hS
      clear hkl hall hbe hS hSs
      by_cases h60 : 60 < S.size
      · rw [if_pos h60] at hrw
        have HR := Lib.hid hrw
        have hd : decide ((60 : Int) < (S.size : Int)) = true := by simp; omega
        clear hrw
        go_wp2
        go_ret2
        exact ⟨by rw [HT.out, HE.out, HR.out]; rfl, hBr⟩
      · rw [if_neg h60] at hrw
        have HR := Lib.hid hrw
        have hd : decide ((60 : Int) < (S.size : Int)) = false := by simp; omega
        clear hrw
        go_wp2
        go_ret2
        exact ⟨by rw [HT.out, HE.out, HR.out, HS.out]; rfl, hBr⟩
end Go.Proofs.Ytdpipfifoinncaa
