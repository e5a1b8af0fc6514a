import Derived.Test.YtdpipfifoinncaaDoorKg
namespace Go.Proofs.YtdpipfifoinncaaDoor
open Go.RowKit
set_option linter.unusedVariables false

theorem enc_len : ∀ (l : List V), l.all may = true → (l.flatMap encV).length ≤ 22 * l.length
  | [], _ => by simp
  | v :: r, h => by
    simp only [List.all_cons, Bool.and_eq_true] at h
    have := enc_len r h.2
    have := encV_len v h.1
    simp only [List.flatMap_cons, List.length_append, List.length_cons]
    omega
theorem enc_next (n : Nat) (l : List V) (k : Nat) (hk : k < l.length) : (putB n 1 ++ (l.take k).flatMap encV) ++ encV l[k] = putB n 1 ++ (l.take (k + 1)).flatMap encV := by
  rw [List.take_succ_eq_append_getElem hk, List.flatMap_append]
  simp
theorem all_next (l : List V) (k : Nat) (hk : k < l.length) (h : (l.take k).all may = true) (hm : may l[k] = true) : (l.take (k + 1)).all may = true := by
  rw [List.take_succ_eq_append_getElem hk, List.all_append, h]
  simp [hm]
theorem all_no (l : List V) (k : Nat) (hk : k < l.length) (hm : may l[k] = false) : l.all may = false := by
  rw [List.all_eq_false]
  exact ⟨l[k], List.getElem_mem hk, by simp [hm]⟩
theorem may_kind {v : V} (h : may v = true) : v.kind = 0 ∨ v.kind = 1 ∨ (v.kind = 2 ∧ v.s.size ≤ 20) := by
  unfold may at h
  by_cases h0 : v.kind = 0
  · exact .inl h0
  · by_cases h1 : v.kind = 1
    · exact .inr (.inl h1)
    · by_cases h2 : v.kind = 2
      · rw [if_neg h0, if_neg h1, if_pos h2] at h
        simp at h
        exact .inr (.inr ⟨h2, h.2⟩)
      · rw [if_neg h0, if_neg h1, if_neg h2] at h
        exact absurd h (by decide)

/-- The value's block after a call. -/
theorem keep3 {w w' : World} {g b : Nat} {a c d : Value} (h : w.heap[g]? = some (.cells #[a, c, d] 23 (0, 0))) (hs : Spare w w' b) (hg : g ≠ b) : w'.heap[g]? = some (.cells #[a, c, d] 23 (0, 0)) := hs g _ _ _ hg (by decide) h

set_option maxRecDepth 100000 in
set_option maxHeartbeats 1600000 in
theorem Row_good {w : World} {A : Option Addr} {cap : Nat} {l : List V} (h1 : 1 ≤ l.length) (h4 : l.length ≤ 4) (hV : VAt w A l) :
    Calls Tryd.prog 17 #[.slice A l.length cap] w fun e w' => e = .returned (.tuple #[.string (bs (rowE l).1), .int .i64 (rowE l).2]) ∧ Below w.heap.size w w' := by
  obtain ⟨n, hn⟩ : ∃ n, n = l.length := ⟨_, rfl⟩
  obtain ⟨T, hT⟩ : ∃ T, T = bs (rowE l).1 := ⟨_, rfl⟩
  obtain ⟨E, hE⟩ : ∃ E, E = (rowE l).2 := ⟨_, rfl⟩
  rw [← hn, ← hT, ← hE]
  have HT := Lib.hid hT
  have HE := Lib.hid hE
  clear hT hE
  have hd1 : decide ((n : Int) < 1) = false := by simp; omega
  have hd2 : decide ((4 : Int) < (n : Int)) = false := by simp; omega
  have hn4 : n ≤ 4 := by omega
  have HN := Lib.hid hn
  have H1 : Hid (1 ≤ l.length) := h1
  have H4 : Hid (l.length ≤ 4) := h4
  clear hn h1 h4
  go_enter Tryd.func17, Tryd.ntmps17
  go_wp2_with fail
  refine (NewW_any w).mono ?_
  rintro e w1 ⟨rfl, hW1, hB1⟩
  go_wp2_with fail
  refine (WNum_one w.heap.size w.heap.size [] n w1 hW1 (by omega) (by simp) hB1.size).mono ?_
  rintro e w2 ⟨rfl, hW2, hB2, hS2⟩
  rw [List.nil_append] at hW2
  have hB02 := hB1.trans hB2
  go_wp2_with fail
  go_loopw [24] (fun i wr => ∃ k : Nat, k ≤ n ∧ i = .int .i64 k ∧ (l.take k).all may = true ∧ WrAt wr w.heap.size w.heap.size (putB n 1 ++ (l.take k).flatMap encV) ∧ Below w.heap.size w wr) (fun i _ => n - (intOf i).toNat)
  case atStart => exact ⟨0, by omega, rfl, rfl, by simpa using hW2, hB02⟩
  case round =>
    obtain ⟨k, hk, rfl, hall, hWr, hBr⟩ := hrel
    have hsz := hBr.size
    by_cases hlt : k < n
    · have hkl : k < l.length := by have := HN.out; omega
      obtain ⟨ad, ha⟩ := hV.below hBr k hkl
      obtain ⟨⟨kd, m, s⟩, hv⟩ : ∃ v, v = l[k] := ⟨_, rfl⟩
      have hnx := enc_next n l k hkl
      have hmy := all_next l k hkl hall
      have hno := all_no l k hkl
      rw [← hv] at ha hnx hmy hno
      obtain rfl := ha.at_
      have c0 := ha.c0
      have c1 := ha.c1
      have c2 := ha.c2
      have hlen : (putB n 1 ++ (l.take k).flatMap encV).length ≤ 1 + 22 * k := by
        have := enc_len (l.take k) hall
        rw [List.length_append, putB_len]
        rw [List.length_take] at this
        omega
      obtain ⟨P, hP⟩ : ∃ P, P = putB n 1 ++ (l.take k).flatMap encV := ⟨_, rfl⟩
      rw [← hP] at hnx hlen hWr
      have hV0 : (wr.alloc (.cells #[.int .i64 kd, .int .i64 m, .string s] 23)).heap[wr.heap.size]? = some (.cells #[.int .i64 kd, .int .i64 m, .string s] 23 (0, 0)) := heap_alloc_new wr _
      have hWa := hWr.alloc (.cells #[.int .i64 kd, .int .i64 m, .string s] 23)
      have hBa := hBr.alloc hsz (.cells #[.int .i64 kd, .int .i64 m, .string s] 23)
      have hgb : wr.heap.size ≠ w.heap.size := by have := hWr.lt; omega
      have HV := Lib.hid hv
      have HNX := Lib.hid hnx
      have HMY := Lib.hid hmy
      have HNO := Lib.hid hno
      have HLEN := Lib.hid hlen
      have HP := Lib.hid hP
      have HALL := Lib.hid hall
      clear hv hnx hmy hno hlen hP hall ha
      go_wp2_with fail
      refine (Check_any kd m s _).mono ?_
      rintro e w3 ⟨rfl, hB3⟩
      cases hmv : may ⟨kd, m, s⟩
      · have hr : rowE l = ([], 110) := by
          have h1 := H1.out
          have h4 := H4.out
          unfold rowE
          rw [if_neg (by omega), if_neg (by rw [HNO.out hmv]; decide)]
        have HR := Lib.hid hr
        clear hr
        have hBe := hBa.trans (hB3.mono hBa.size)
        clear hmv
        go_wp2
        go_ret2
        exact ⟨by rw [HT.out, HE.out, HR.out]; rfl, hBe⟩
      · have hall' := HMY.out hmv
        have hV3 : w3.heap[wr.heap.size]? = some (.cells #[.int .i64 kd, .int .i64 m, .string s] 23 (0, 0)) := (hB3.block _ (by simp)).trans hV0
        have hW3 := hWa.below hB3
        have hB3' := hBa.trans (hB3.mono hBa.size)
        have hkd := may_kind hmv
        have HMV := Lib.hid hmv
        clear hmv
        rcases hkd with rfl | rfl | ⟨rfl, hs20⟩
        · obtain ⟨v0, v1, v2, vf⟩ := cells3 hV3
          go_wp2_with fail
          refine (WNum_one w.heap.size w.heap.size P 0 w3 hW3 (by omega) (by have := HLEN.out; omega) hB3'.size).mono ?_
          rintro e w4 ⟨rfl, hW4, hB4, hS4⟩
          have hV4 := keep3 hV3 hS4 hgb
          have hB4' := hB3'.trans hB4
          obtain ⟨x0, x1, x2, xf⟩ := cells3 hV4
          clear v0 v1 v2 vf
          go_wp2_with fail
          go_roundw
          case rel => exact ⟨k + 1, by omega, by go_num, hall', by rw [← HNX.out]; simpa [encV, w64] using hW4, hB4'⟩
          case measure => simp [intOf] <;> omega
        · have hw := w64_wrap m
          obtain ⟨v0, v1, v2, vf⟩ := cells3 hV3
          go_wp2_with fail
          refine (WNum_one w.heap.size w.heap.size P 1 w3 hW3 (by omega) (by have := HLEN.out; omega) hB3'.size).mono ?_
          rintro e w4 ⟨rfl, hW4, hB4, hS4⟩
          have hV4 := keep3 hV3 hS4 hgb
          have hB4' := hB3'.trans hB4
          obtain ⟨x0, x1, x2, xf⟩ := cells3 hV4
          clear v0 v1 v2 vf
          go_wp2_with fail
          refine (WNum_eight w.heap.size w.heap.size (P ++ putB 1 1) (w64 m) w4 hW4 (w64_lt m) (by have := HLEN.out; rw [List.length_append, putB_len]; omega) hB4'.size).mono ?_
          rintro e w5 ⟨rfl, hW5, hB5, hS5⟩
          have hV5 := keep3 hV4 hS5 hgb
          have hB5' := hB4'.trans hB5
          obtain ⟨y0, y1, y2, yf⟩ := cells3 hV5
          clear x0 x1 x2 xf
          go_wp2_with fail
          go_roundw
          case rel => exact ⟨k + 1, by omega, by go_num, hall', by rw [← HNX.out]; simpa [encV, w64] using hW5, hB5'⟩
          case measure => simp [intOf] <;> omega
        · have hss : s.size ≤ 20 := hs20
          obtain ⟨v0, v1, v2, vf⟩ := cells3 hV3
          go_wp2_with fail
          refine (WNum_one w.heap.size w.heap.size P 2 w3 hW3 (by omega) (by have := HLEN.out; omega) hB3'.size).mono ?_
          rintro e w4 ⟨rfl, hW4, hB4, hS4⟩
          have hV4 := keep3 hV3 hS4 hgb
          have hB4' := hB3'.trans hB4
          obtain ⟨x0, x1, x2, xf⟩ := cells3 hV4
          clear v0 v1 v2 vf
          go_wp2_with fail
          refine (WNum_one w.heap.size w.heap.size (P ++ putB 2 1) s.size w4 hW4 (by omega) (by have := HLEN.out; rw [List.length_append, putB_len]; omega) hB4'.size).mono ?_
          rintro e w5 ⟨rfl, hW5, hB5, hS5⟩
          have hV5 := keep3 hV4 hS5 hgb
          have hB5' := hB4'.trans hB5
          obtain ⟨y0, y1, y2, yf⟩ := cells3 hV5
          clear x0 x1 x2 xf
          go_wp2_with fail
          refine (WBytes_any w.heap.size w.heap.size (P ++ putB 2 1 ++ putB s.size 1) s w5 hW5 (by have := HLEN.out; simp only [List.length_append, putB_len]; omega) hB5'.size).mono ?_
          rintro e w6 ⟨rfl, hW6, hB6, hS6⟩
          have hB6' := hB5'.trans hB6
          clear y0 y1 y2 yf
          go_wp2_with fail
          go_roundw
          case rel => exact ⟨k + 1, by omega, by go_num, hall', by rw [← HNX.out]; simpa [encV, w64] using hW6, hB6'⟩
          case measure => simp [intOf] <;> omega
    · obtain rfl : k = n := by omega
      have hkl := HN.out
      rw [hkl, List.take_length] at hall
      have hWn : WrAt wr w.heap.size w.heap.size (rowB l) := by
        have := hWr
        rw [hkl, List.take_length] at this
        exact this
      have hrw : rowE l = if 60 < (rowB l).length then ([], 101) else (rowB l, 0) := by
        have h1 := H1.out
        have h4 := H4.out
        unfold rowE
        rw [if_neg (by omega), if_pos hall]
      obtain ⟨P, hP⟩ : ∃ P, P = rowB l := ⟨_, rfl⟩
      rw [← hP] at hrw hWn
      clear hWr hkl hall
      by_cases h60 : 60 < P.length
      · rw [if_pos h60] at hrw
        have HR := Lib.hid hrw
        have hd : decide ((60 : Int) < (P.length : Int)) = true := by simp; omega
        clear hrw hP
        go_wp2_with fail
        refine (WLen_any _ _ _ _ hWn).mono ?_
        rintro e w3 ⟨rfl, rfl⟩
        go_wp2
        go_ret2
        exact ⟨by rw [HT.out, HE.out, HR.out]; rfl, hBr⟩
      · rw [if_neg h60] at hrw
        have HR := Lib.hid hrw
        have hd : decide ((60 : Int) < (P.length : Int)) = false := by simp; omega
        clear hrw hP
        go_wp2_with fail
        refine (WLen_any _ _ _ _ hWn).mono ?_
        rintro e w3 ⟨rfl, rfl⟩
        go_wp2_with fail
        refine (WAll_any _ _ _ _ hWn).mono ?_
        rintro e w3 ⟨rfl, rfl⟩
        go_wp2
        go_ret2
        exact ⟨by rw [HT.out, HE.out, HR.out]; rfl, hBr⟩
end Go.Proofs.YtdpipfifoinncaaDoor
