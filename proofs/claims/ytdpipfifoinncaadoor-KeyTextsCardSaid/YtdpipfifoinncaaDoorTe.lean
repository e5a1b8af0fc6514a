import Derived.Test.YtdpipfifoinncaaDoorTd
namespace Go.Proofs.YtdpipfifoinncaaDoor
open Go.RowKit
set_option linter.unusedVariables false

/-- What strconv's answer decides. -/
theorem by_parse (l : List UInt8) (n : Int) (hn : inR n) (hp : Lib.parseIntB 64 l = .ok n) (h45 : l ≠ [45]) (h39 : l.head? ≠ some 39) : parseE l = if Lib.itoa n = l then (⟨1, n, ⟨#[]⟩⟩, 0) else (v0, 110) := by
  by_cases h : Lib.itoa n = l
  · rw [if_pos h]
    exact parseE_num l n hn h
  · rw [if_neg h]
    refine parseE_none l h45 h39 fun m hm e => h ?_
    have := parse_itoa m hm
    rw [e, hp] at this
    injection this with this
    rw [this]
    exact e
theorem by_none (l : List UInt8) (hp : ∀ n, Lib.parseIntB 64 l ≠ .ok n) (h45 : l ≠ [45]) (h39 : l.head? ≠ some 39) : parseE l = (v0, 110) := by
  refine parseE_none l h45 h39 fun m hm e => hp m ?_
  rw [← e]
  exact parse_itoa m hm
theorem store3 {w w1 : World} {a b c d e f : Value} {t u : TypeId} (hb : Below (w.heap.size + 1) (w.alloc (.cells #[a, b, c] t)) w1) :
    w1.heap[w.heap.size]? = some (.cells #[a, b, c] t (0, 0)) := (hb.block _ (by omega)).trans (heap_alloc_new w _)

set_option maxRecDepth 100000 in
set_option maxHeartbeats 1600000 in
theorem Parse_any (s : ByteArray) (w : World) (hL : Lays w) (hs : s.size ≤ 281474976710656) : Calls Tryd.prog 4 #[.string s] w fun e w' => e = .returned (.tuple #[vv (parseE s.data.toList).1, .int .i64 (parseE s.data.toList).2]) ∧ Below w.heap.size w w' := by
  obtain ⟨Q, hQ⟩ : ∃ Q, Q = parseE s.data.toList := ⟨_, rfl⟩
  rw [← hQ]
  have htl := Lib.toList_data s
  have hB0 : ∀ o, Below w.heap.size w (w.alloc o) := fun o => (Below.refl _ _).alloc (Nat.le_refl _) _
  by_cases h45 : s.data.toList = [45]
  · rw [h45, parseE_line] at hQ
    have hb : (s.toList == [45]) = true := by rw [htl, h45]; rfl
    have HQ := Lib.hid hQ
    clear hQ htl h45
    go_enter Tryd.func4, Tryd.ntmps4
    go_wp2_with fail
    try simp only [Exit.inBlock, Exit.then]
    refine bodyPost_ret (v := .tuple #[vv v0, .int .i64 0]) ?_ rfl ⟨by rw [HQ.out], hB0 _⟩
    rw [results_cell_tmp rfl]
    go_simp
    rfl
  · have hb : (s.toList == [45]) = false := by rw [htl]; simpa using h45
    have hB1 : ∀ o o', Below w.heap.size w ((w.alloc o).alloc o') := fun o o' => (hB0 o).alloc (by simp) _
    by_cases h39 : s.data.toList.head? = some 39
    · rw [parseE_text _ h39, data_len] at hQ
      obtain ⟨t, ht⟩ : ∃ t, t = bs (s.data.toList.drop 1) := ⟨_, rfl⟩
      have hts : t.size + 1 = s.size := by
        have hl : s.data.toList.length = s.size := data_len s
        have h1 : s.data.toList ≠ [] := by intro e; rw [e] at h39; simp at h39
        have h2 := List.length_pos_iff.2 h1
        rw [ht, bs_size, List.length_drop]
        omega
      have hcut := Cut_yes s (w.alloc (.cells #[.int .i64 0, .int .i64 0, .string ⟨#[]⟩] 23)) h39
      rw [← ht] at hcut hQ
      have hck := Check_any 2 0 t ((w.alloc (.cells #[.int .i64 0, .int .i64 0, .string ⟨#[]⟩] 23)).alloc (.cells #[.int .i64 2, .int .i64 0, .string t] 23))
      have hmy : may ⟨2, 0, t⟩ = decide (s.size ≤ 21) := by simp [may]; omega
      rw [hmy] at hck
      have HC := Lib.hid hcut
      clear hcut ht h39 htl h45 hmy
      by_cases h21 : s.size ≤ 21
      · rw [if_pos h21] at hQ
        rw [decide_eq_true h21] at hck
        have HCK := Lib.hid hck
        have HQ := Lib.hid hQ
        clear hck hQ
        go_enter Tryd.func4, Tryd.ntmps4
        go_wp2_with fail
        refine HC.out.mono ?_
        rintro e w1 ⟨rfl, rfl⟩
        go_wp2_with fail
        refine HCK.out.mono ?_
        rintro e w1 ⟨rfl, hB2⟩
        obtain ⟨hV1, hV2, hB02⟩ := two_new (w := w) (by simpa using hB2)
        obtain ⟨z0, z1, z2, zf⟩ := cells3 hV1
        obtain ⟨y0, y1, y2, yf⟩ := cells3 hV2
        go_wp2_with fail
        try simp only [Exit.inBlock, Exit.then]
        refine bodyPost_ret (v := .tuple #[vv ⟨2, 0, t⟩, .int .i64 0]) ?_ rfl ⟨by rw [HQ.out], below_set3 hB02 (Nat.le_refl _) (.int .i64 2) (.int .i64 0) (.string t)⟩
        rw [results_cell_tmp rfl]
        go_simp
        rfl
      · rw [if_neg h21] at hQ
        rw [decide_eq_false h21] at hck
        have HCK := Lib.hid hck
        have HQ := Lib.hid hQ
        clear hck hQ
        go_enter Tryd.func4, Tryd.ntmps4
        go_wp2_with fail
        refine HC.out.mono ?_
        rintro e w1 ⟨rfl, rfl⟩
        go_wp2_with fail
        refine HCK.out.mono ?_
        rintro e w1 ⟨rfl, hB2⟩
        obtain ⟨hV1, hV2, hB02⟩ := two_new (w := w) (by simpa using hB2)
        obtain ⟨z0, z1, z2, zf⟩ := cells3 hV1
        go_wp2_with fail
        try simp only [Exit.inBlock, Exit.then]
        refine bodyPost_ret (v := .tuple #[vv v0, .int .i64 110]) ?_ rfl ⟨by rw [HQ.out], below_set3 hB02 (Nat.le_refl _) (.int .i64 0) (.int .i64 0) (.string ⟨#[]⟩)⟩
        rw [results_cell_tmp rfl]
        go_simp
        rfl
    · have hcut := Cut_no s (w.alloc (.cells #[.int .i64 0, .int .i64 0, .string ⟨#[]⟩] 23)) h39
      have HC := Lib.hid hcut
      clear hcut
      have hLa := hL.below (hB0 (.cells #[.int .i64 0, .int .i64 0, .string ⟨#[]⟩] 23))
      by_cases hp : ∃ n, Lib.parseIntB 64 s.data.toList = .ok n
      · obtain ⟨n, hp⟩ := hp
        have hn : inR n := by
          have := Lib.parseIntB_bounds hp
          unfold inR
          omega
        have hq := by_parse _ n hn hp h45 h39
        rw [← hQ] at hq
        have hpi := ParseInt_ok s n (w.alloc (.cells #[.int .i64 0, .int .i64 0, .string ⟨#[]⟩] 23)) hs hp
        have HP := Lib.hid hpi
        obtain ⟨T, hT⟩ : ∃ T, T = bs (Lib.itoa n) := ⟨_, rfl⟩
        have htt : T.toList = Lib.itoa n := by rw [hT, Lib.toList_data]; rfl
        have hF : ∀ W, Lays W → Calls Tryd.prog 15 #[.int .i64 n, .int .i64 10] W fun e w' => e = .returned (.string T) ∧ Below W.heap.size W w' := fun W h => by rw [hT]; exact Format_any n W h hn
        have HF := Lib.hid hF
        clear hpi hF hn hp hQ h39 h45 hT
        by_cases he : Lib.itoa n = s.data.toList
        · rw [if_pos he] at hq
          have hqe : (T.toList == s.toList) = true := by rw [htt, htl, he]; simp
          have HQ := Lib.hid hq
          clear hq he htt htl
          go_enter Tryd.func4, Tryd.ntmps4
          go_wp2_with fail
          refine HC.out.mono ?_
          rintro e w1 ⟨rfl, rfl⟩
          go_wp2_with fail
          refine HP.out.mono ?_
          rintro e w1 ⟨rfl, hB2⟩
          have hLb := hLa.below hB2
          go_wp2_with fail
          refine (HF.out _ hLb).mono ?_
          rintro e w2 ⟨rfl, hB3⟩
          have hB23 := hB2.trans (hB3.mono hB2.size)
          have hV1 : w2.heap[w.heap.size]? = some (.cells #[.int .i64 0, .int .i64 0, .string ⟨#[]⟩] 23 (0, 0)) := (hB23.block _ (by simp)).trans (heap_alloc_new w _)
          obtain ⟨z0, z1, z2, zf⟩ := cells3 hV1
          have hB02 := (hB0 _).trans (hB23.mono (by simp))
          go_wp2_with fail
          try simp only [Exit.inBlock, Exit.then]
          refine bodyPost_ret (v := .tuple #[vv ⟨1, n, ⟨#[]⟩⟩, .int .i64 0]) ?_ rfl ⟨by rw [HQ.out], below_set3 hB02 (Nat.le_refl _) (.int .i64 1) (.int .i64 n) (.string ⟨#[]⟩)⟩
          rw [results_cell_tmp rfl]
          go_simp
          rfl
        · rw [if_neg he] at hq
          have hqe : (T.toList == s.toList) = false := by rw [htt, htl]; simpa using he
          have HQ := Lib.hid hq
          clear hq he htt htl
          go_enter Tryd.func4, Tryd.ntmps4
          go_wp2_with fail
          refine HC.out.mono ?_
          rintro e w1 ⟨rfl, rfl⟩
          go_wp2_with fail
          refine HP.out.mono ?_
          rintro e w1 ⟨rfl, hB2⟩
          have hLb := hLa.below hB2
          go_wp2_with fail
          refine (HF.out _ hLb).mono ?_
          rintro e w2 ⟨rfl, hB3⟩
          have hB23 := hB2.trans (hB3.mono hB2.size)
          have hV1 : w2.heap[w.heap.size]? = some (.cells #[.int .i64 0, .int .i64 0, .string ⟨#[]⟩] 23 (0, 0)) := (hB23.block _ (by simp)).trans (heap_alloc_new w _)
          obtain ⟨z0, z1, z2, zf⟩ := cells3 hV1
          have hB02 := (hB0 _).trans (hB23.mono (by simp))
          go_wp2_with fail
          try simp only [Exit.inBlock, Exit.then]
          refine bodyPost_ret (v := .tuple #[vv v0, .int .i64 110]) ?_ rfl ⟨by rw [HQ.out], below_set3 hB02 (Nat.le_refl _) (.int .i64 0) (.int .i64 0) (.string ⟨#[]⟩)⟩
          rw [results_cell_tmp rfl]
          go_simp
          rfl
      · have hq := by_none _ (fun n h => hp ⟨n, h⟩) h45 h39
        rw [← hQ] at hq
        have hpi := ParseInt_no s _ hLa hs (fun n h => hp ⟨n, h⟩)
        have HP := Lib.hid hpi
        have HQ := Lib.hid hq
        clear hpi hq hp hQ h39 h45 htl
        go_enter Tryd.func4, Tryd.ntmps4
        go_wp2_with fail
        refine HC.out.mono ?_
        rintro e w1 ⟨rfl, rfl⟩
        go_wp2_with fail
        refine HP.out.mono ?_
        rintro e w2 ⟨m, T, p, rfl, hB2⟩
        have hV1 : w2.heap[w.heap.size]? = some (.cells #[.int .i64 0, .int .i64 0, .string ⟨#[]⟩] 23 (0, 0)) := (hB2.block _ (by simp)).trans (heap_alloc_new w _)
        obtain ⟨z0, z1, z2, zf⟩ := cells3 hV1
        have hB02 := (hB0 _).trans (hB2.mono (by simp))
        go_wp2_with fail
        try simp only [Exit.inBlock, Exit.then]
        refine bodyPost_ret (v := .tuple #[vv v0, .int .i64 110]) ?_ rfl ⟨by rw [HQ.out], below_set3 hB02 (Nat.le_refl _) (.int .i64 0) (.int .i64 0) (.string ⟨#[]⟩)⟩
        rw [results_cell_tmp rfl]
        go_simp
        rfl
end Go.Proofs.YtdpipfifoinncaaDoor
