import Derived.Test.YtdpipfifoinncaaDoorTe
namespace Go.Proofs.YtdpipfifoinncaaDoor
open Go.RowKit
set_option linter.unusedVariables false

theorem keepB {w w' : World} {g : Nat} {o : Obj} (h : w.heap[g]? = some o) (hb : Below w.heap.size w w') : w'.heap[g]? = some o := by
  have hlt : g < w.heap.size := by
    rcases Nat.lt_or_ge g w.heap.size with x | x
    · exact x
    · rw [Array.getElem?_eq_none x] at h; simp at h
  exact (hb.block g hlt).trans h
theorem one_at {w : World} {t : TypeId} (k n : Int) (s : ByteArray) : VOwn (w.alloc (.cells #[.int .i64 k, .int .i64 n, .string s] t)) t w.heap.size (.slice (some ⟨w.heap.size, 0, none⟩) 1 1) [⟨k, n, s⟩] :=
  World.ownsRow_lit (base := w.heap.size) (e := t) (size := 3) w #[.int .i64 k, .int .i64 n, .string s] 1 (Nat.le_refl _) (by decide) rfl
theorem same_vals (k n : Int) (s : ByteArray) (w : World) : (binOp .eql 23 (.agg #[.int .i64 k, .int .i64 n, .string s]) (.agg #[.int .i64 k, .int .i64 n, .string s])).run Tryd.prog w = .ok (.bool true) w := by
  rw [run_eql_struct]
  have h : (Op.equalIn (9998 + 2) 23 (.agg #[.int .i64 k, .int .i64 n, .string s]) (.agg #[.int .i64 k, .int .i64 n, .string s])).run Tryd.prog w = .ok true w := by
    generalize 9998 = d
    rw [run_equalIn_agg w (d + 1) 23 _ _ (by kernel_rfl) (by kernel_rfl)]
    have e1 : ∀ x y, (Op.equalIn (d + 1) 3 (.int .i64 x) (.int .i64 y)).run Tryd.prog w = .ok (x == y) w := fun x y => run_equalIn_int w d 3 .i64 .i64 x y Tryd.underlying3
    have e2 : ∀ x y, (Op.equalIn (d + 1) 2 (.int .i64 x) (.int .i64 y)).run Tryd.prog w = .ok (x == y) w := fun x y => run_equalIn_int w d 2 .i64 .i64 x y Tryd.underlying2
    have e3 : ∀ x y, (Op.equalIn (d + 1) 9 (.string x) (.string y)).run Tryd.prog w = .ok (x.toList == y.toList) w := fun x y => run_equalIn_string w d 9 x y Tryd.underlying9
    have f : (Tryd.prog.fieldsOf 23).toList = [{ name := "Kind", type := 3, offset := 0, embedded := false, tag := "", pkgPath := "", byteOffset := 0 },
        { name := "N", type := 2, offset := 1, embedded := false, tag := "", pkgPath := "", byteOffset := 8 },
        { name := "S", type := 9, offset := 2, embedded := false, tag := "", pkgPath := "", byteOffset := 16 }] := by kernel_rfl
    have p1 : ∀ x y z : Value, (part 3 #[x, y, z] 0).run Tryd.prog w = .ok x w := fun x y z => by kernel_rfl
    have p2 : ∀ x y z : Value, (part 2 #[x, y, z] 1).run Tryd.prog w = .ok y w := fun x y z => by kernel_rfl
    have p3 : ∀ x y z : Value, (part 9 #[x, y, z] 2).run Tryd.prog w = .ok z w := fun x y z => by kernel_rfl
    rw [f]
    simp [Op.eqFields, e1, e2, e3, p1, p2, p3, Result.andThen]
  rw [h]
  rfl

set_option maxRecDepth 100000 in
set_option maxHeartbeats 1600000 in
theorem texts_any (k n : Int) (s x : ByteArray) (w : World) (hL : Lays w) (hn : inR n) (hs : s.size ≤ 140737488355328) (hx : x.size ≤ 140737488355328) :
    Calls Tryd.prog 3 #[.agg #[.int .i64 k, .int .i64 n, .string s], .string x] w fun e w' => e = .returned (.bool true) ∧ Below w.heap.size w w' := by
  obtain ⟨⟨⟨qk, qn, qs⟩, qe⟩, hQ⟩ : ∃ Q, Q = parseE x.data.toList := ⟨_, rfl⟩
  have hP : ∀ W, Lays W → Calls Tryd.prog 4 #[.string x] W fun e w' => e = .returned (.tuple #[.agg #[.int .i64 qk, .int .i64 qn, .string qs], .int .i64 qe]) ∧ Below W.heap.size W w' := fun W h => by
    have := Parse_any x W h (by omega)
    rw [← hQ] at this
    exact this
  have hR : ∀ W, Calls Tryd.prog 5 #[.string x] W fun e w' => e = .returned (.tuple #[.agg #[.int .i64 qk, .int .i64 qn, .string qs], .int .i64 qe]) ∧ Below W.heap.size W w' := fun W => by
    have := RParse_any x W (by omega)
    rw [← hQ] at this
    exact this
  obtain ⟨T, hT⟩ : ∃ T, T = bs (textE ⟨k, n, s⟩) := ⟨_, rfl⟩
  have hTx : ∀ W, Lays W → Calls Tryd.prog 6 #[.agg #[.int .i64 k, .int .i64 n, .string s]] W fun e w' => e = .returned (.string T) ∧ Below W.heap.size W w' := fun W h => by
    rw [hT]; exact Text_any k n s W h hn (by omega)
  have hRTx : ∀ W, Calls Tryd.prog 11 #[.agg #[.int .i64 k, .int .i64 n, .string s]] W fun e w' => e = .returned (.string T) ∧ Below W.heap.size W w' := fun W => by
    rw [hT]; exact RText_any k n s W hn (by omega)
  obtain ⟨m, hm⟩ : ∃ m, m = may ⟨k, n, s⟩ := ⟨_, rfl⟩
  have hBk : m = true → ∀ W, Lays W → Calls Tryd.prog 4 #[.string T] W fun e w' => e = .returned (.tuple #[.agg #[.int .i64 k, .int .i64 n, .string s], .int .i64 0]) ∧ Below W.heap.size W w' := fun h W hW => by
    have hmy : may ⟨k, n, s⟩ = true := by rw [← hm, h]
    have hsz : T.size ≤ 281474976710656 := by
      rw [hT, bs_size]
      unfold textE
      split
      · have := itoa_le n hn
        show (Lib.itoa n).length ≤ _
        omega
      · split
        · rw [List.length_cons, data_len]; show s.size + 1 ≤ _; omega
        · simp
    have := Parse_any T W hW hsz
    rw [hT, show (bs (textE ⟨k, n, s⟩)).data.toList = textE ⟨k, n, s⟩ from rfl, parse_text _ hmy hn, ← hT] at this
    exact this
  have hMy : ∀ W, Calls Tryd.prog 7 #[.agg #[.int .i64 k, .int .i64 n, .string s]] W fun e w' => e = .returned (.bool m) ∧ Below W.heap.size W w' := fun W => by
    rw [hm]; exact May_any k n s W
  have hCk : ∀ W, Calls Tryd.prog 12 #[.agg #[.int .i64 k, .int .i64 n, .string s]] W fun e w' => e = .returned (.int .i64 (if m then 0 else 110)) ∧ Below W.heap.size W w' := fun W => by
    rw [hm]; exact Check_any k n s W
  have HP := Lib.hid hP
  have HR := Lib.hid hR
  have HTX := Lib.hid hTx
  have HRTX := Lib.hid hRTx
  have HBK := Lib.hid hBk
  have HMY := Lib.hid hMy
  have HCK := Lib.hid hCk
  have HL := Lib.hid hL
  have tT : (T.toList == T.toList) = true := by simp
  have tE : (qe != qe) = false := by simp
  have hB0 : Below w.heap.size w (w.alloc (.cells #[.int .i64 k, .int .i64 n, .string s] 23)) := (Below.refl _ _).alloc (Nat.le_refl _) _
  have hV0 : (w.alloc (.cells #[.int .i64 k, .int .i64 n, .string s] 23)).heap[w.heap.size]? = some (.cells #[.int .i64 k, .int .i64 n, .string s] 23 (0, 0)) := heap_alloc_new w _
  clear hP hR hTx hRTx hBk hMy hCk hL hT hm hQ hs hx
  go_enter Tryd.func3, Tryd.ntmps3
  go_wp2_with fail
  refine (HP.out _ (HL.out.below hB0)).mono ?_
  rintro e w1 ⟨rfl, hB1⟩
  have hB01 := hB0.trans (hB1.mono hB0.size)
  have hV1 := keepB hV0 hB1
  have hBa := hB01.alloc hB01.size (.cells #[.int .i64 qk, .int .i64 qn, .string qs] 23)
  have hVa := keepB hV1 ((Below.refl _ _).alloc (Nat.le_refl _) (.cells #[.int .i64 qk, .int .i64 qn, .string qs] 23))
  have hQa := heap_alloc_new w1 (.cells #[.int .i64 qk, .int .i64 qn, .string qs] 23)
  go_wp2_with fail
  refine (HR.out _).mono ?_
  rintro e w2 ⟨rfl, hB2⟩
  have hB02 := hBa.trans (hB2.mono hBa.size)
  have hV2 := keepB hVa hB2
  have hQ2 := keepB hQa hB2
  have hBb := hB02.alloc hB02.size (.cells #[.int .i64 qk, .int .i64 qn, .string qs] 27)
  have hVb := keepB hV2 ((Below.refl _ _).alloc (Nat.le_refl _) (.cells #[.int .i64 qk, .int .i64 qn, .string qs] 27))
  have hQb := keepB hQ2 ((Below.refl _ _).alloc (Nat.le_refl _) (.cells #[.int .i64 qk, .int .i64 qn, .string qs] 27))
  have hRb := heap_alloc_new w2 (.cells #[.int .i64 qk, .int .i64 qn, .string qs] 27)
  obtain ⟨z0, z1, z2, zf⟩ := cells3 hVb
  go_wp2_with fail
  refine (HTX.out _ (HL.out.below hBb)).mono ?_
  rintro e w3 ⟨rfl, hB3⟩
  have hB03 := hBb.trans (hB3.mono hBb.size)
  have hV3 := keepB hVb hB3
  have hQ3 := keepB hQb hB3
  have hR3 := keepB hRb hB3
  clear z0 z1 z2 zf hB01 hV1 hBa hVa hQa hB02 hV2 hQ2 hBb hVb hQb hRb hB0 hV0
  obtain ⟨z0, z1, z2, zf⟩ := cells3 hV3
  have hO3 := (one_at (w := w3) (t := 23) k n s).at_
  have hBc := hB03.alloc hB03.size (.cells #[.int .i64 k, .int .i64 n, .string s] 23)
  have hVc := keepB hV3 ((Below.refl _ _).alloc (Nat.le_refl _) (.cells #[.int .i64 k, .int .i64 n, .string s] 23))
  have hQc := keepB hQ3 ((Below.refl _ _).alloc (Nat.le_refl _) (.cells #[.int .i64 k, .int .i64 n, .string s] 23))
  have hRc := keepB hR3 ((Below.refl _ _).alloc (Nat.le_refl _) (.cells #[.int .i64 k, .int .i64 n, .string s] 23))
  go_wp2_with fail
  refine (ref_any [⟨k, n, s⟩] _ 1 _ (by simp) hO3).mono ?_
  rintro e w4 ⟨v4, rfl, hO4, hB4⟩
  have hB04 := hBc.trans (hB4.mono hBc.size)
  have hV4 := keepB hVc hB4
  have hQ4 := keepB hQc hB4
  have hR4 := keepB hRc hB4
  obtain ⟨g, c, hg, hlt, hc⟩ := hO4.row (by simp)
  rw [show ([⟨k, n, s⟩] : List V).length = 1 from rfl] at hg
  subst hg
  have c0 := hc 0 (by simp)
  have c1 := hc 1 (by simp)
  have c2 := hc 2 (by simp)
  change w4.cell? _ = some (.int .i64 k) at c0
  change w4.cell? _ = some (.int .i64 n) at c1
  change w4.cell? _ = some (.string s) at c2
  clear hB03 hV3 hQ3 hR3 hBc hVc hQc hRc hc hO4 hO3 z0 z1 z2 zf
  go_wp2_with fail
  refine (HMY.out _).mono ?_
  rintro e w5 ⟨rfl, hB5⟩
  have hB05 := hB04.trans (hB5.mono hB04.size)
  have hV5 := keepB hV4 hB5
  have hQ5 := keepB hQ4 hB5
  have hR5 := keepB hR4 hB5
  clear hB04 hV4 hQ4 hR4 c0 c1 c2
  cases m
  · go_wp2_with fail
    refine (awake_any _).mono ?_
    rintro e w6 ⟨rfl, hB6⟩
    have hB06 := hB05.trans (hB6.mono hB05.size)
    have hV6 := keepB hV5 hB6
    have hQ6 := keepB hQ5 hB6
    have hR6 := keepB hR5 hB6
    obtain ⟨q0, q1, q2, qf⟩ := cells3 hQ6
    have hA6 := one_at (w := w6) (t := 23) qk qn qs
    have hBd := hB06.alloc hB06.size (.cells #[.int .i64 qk, .int .i64 qn, .string qs] 23)
    have hS6 := (Below.refl w6.heap.size w6).alloc (Nat.le_refl _) (.cells #[.int .i64 qk, .int .i64 qn, .string qs] 23)
    have hVd := keepB hV6 hS6
    have hQd := keepB hQ6 hS6
    have hRd := keepB hR6 hS6
    obtain ⟨r0, r1, r2, rf⟩ := cells3 hRd
    have hS7 := (Below.refl _ (w6.alloc (.cells #[.int .i64 qk, .int .i64 qn, .string qs] 23))).alloc (Nat.le_refl _) (.cells #[.int .i64 qk, .int .i64 qn, .string qs] 27)
    have hA7 := (hA6.at_).below hS7
    have hC7 := (one_at (w := w6.alloc (.cells #[.int .i64 qk, .int .i64 qn, .string qs] 23)) (t := 27) qk qn qs).at_
    rw [World.size_alloc] at hC7
    have hBe := hBd.alloc hBd.size (.cells #[.int .i64 qk, .int .i64 qn, .string qs] 27)
    have hVe := keepB hVd hS7
    have hQe := keepB hQd hS7
    have hRe := keepB hRd hS7
    clear hS6 hS7 hA6 hV6 hQ6 hR6 hVd hQd hRd hBd hB06
    go_wp2_with fail
    refine (same_pos [⟨qk, qn, qs⟩] _ _ 1 1 _ (by simp) hA7 hC7).mono ?_
    rintro e w8 ⟨rfl, hB8⟩
    have hB08 := hBe.trans (hB8.mono hBe.size)
    have hV8 := keepB hVe hB8
    have hQ8 := keepB hQe hB8
    clear hVe hQe hRe hBe hA7 hC7 q0 q1 q2 qf r0 r1 r2 rf
    obtain ⟨z0, z1, z2, zf⟩ := cells3 hV8
    have hO8 := (one_at (w := w8) (t := 23) k n s).at_
    have hS8 := (Below.refl w8.heap.size w8).alloc (Nat.le_refl _) (.cells #[.int .i64 k, .int .i64 n, .string s] 23)
    have hBf := hB08.alloc hB08.size (.cells #[.int .i64 k, .int .i64 n, .string s] 23)
    have hVf := keepB hV8 hS8
    go_wp2_with fail
    refine (ref_any [⟨k, n, s⟩] _ 1 _ (by simp) hO8).mono ?_
    rintro e w9 ⟨v9, rfl, hO9, hB9⟩
    have hB09 := hBf.trans (hB9.mono hBf.size)
    have hV9 := keepB hVf hB9
    obtain ⟨g9, c9, hg9, hlt9, hc9⟩ := hO9.row (by simp)
    rw [show ([⟨k, n, s⟩] : List V).length = 1 from rfl] at hg9
    subst hg9
    have c0 := hc9 0 (by simp)
    have c1 := hc9 1 (by simp)
    have c2 := hc9 2 (by simp)
    change w9.cell? _ = some (.int .i64 k) at c0
    change w9.cell? _ = some (.int .i64 n) at c1
    change w9.cell? _ = some (.string s) at c2
    clear z0 z1 z2 zf hO8 hS8 hBf hVf hV8 hQ8 hc9 hO9
    go_wp2_with fail
    refine (HRTX.out _).mono ?_
    rintro e w10 ⟨rfl, hB10⟩
    have hB010 := hB09.trans (hB10.mono hB09.size)
    have hV10 := keepB hV9 hB10
    obtain ⟨z0, z1, z2, zf⟩ := cells3 hV10
    clear c0 c1 c2
    go_wp2_with fail
    refine (HCK.out _).mono ?_
    rintro e w11 ⟨rfl, hB11⟩
    have hB011 := hB010.trans (hB11.mono hB010.size)
    go_wp2
    go_ret
    exact ⟨rfl, hB011⟩
  · go_wp2_with fail
    refine (awake_any _).mono ?_
    rintro e w6 ⟨rfl, hB6⟩
    have hB06 := hB05.trans (hB6.mono hB05.size)
    have hV6 := keepB hV5 hB6
    have hQ6 := keepB hQ5 hB6
    have hR6 := keepB hR5 hB6
    obtain ⟨q0, q1, q2, qf⟩ := cells3 hQ6
    have hA6 := one_at (w := w6) (t := 23) qk qn qs
    have hBd := hB06.alloc hB06.size (.cells #[.int .i64 qk, .int .i64 qn, .string qs] 23)
    have hS6 := (Below.refl w6.heap.size w6).alloc (Nat.le_refl _) (.cells #[.int .i64 qk, .int .i64 qn, .string qs] 23)
    have hVd := keepB hV6 hS6
    have hQd := keepB hQ6 hS6
    have hRd := keepB hR6 hS6
    obtain ⟨r0, r1, r2, rf⟩ := cells3 hRd
    have hS7 := (Below.refl _ (w6.alloc (.cells #[.int .i64 qk, .int .i64 qn, .string qs] 23))).alloc (Nat.le_refl _) (.cells #[.int .i64 qk, .int .i64 qn, .string qs] 27)
    have hA7 := (hA6.at_).below hS7
    have hC7 := (one_at (w := w6.alloc (.cells #[.int .i64 qk, .int .i64 qn, .string qs] 23)) (t := 27) qk qn qs).at_
    rw [World.size_alloc] at hC7
    have hBe := hBd.alloc hBd.size (.cells #[.int .i64 qk, .int .i64 qn, .string qs] 27)
    have hVe := keepB hVd hS7
    have hQe := keepB hQd hS7
    have hRe := keepB hRd hS7
    clear hS6 hS7 hA6 hV6 hQ6 hR6 hVd hQd hRd hBd hB06
    go_wp2_with fail
    refine (same_pos [⟨qk, qn, qs⟩] _ _ 1 1 _ (by simp) hA7 hC7).mono ?_
    rintro e w8 ⟨rfl, hB8⟩
    have hB08 := hBe.trans (hB8.mono hBe.size)
    have hV8 := keepB hVe hB8
    have hQ8 := keepB hQe hB8
    clear hVe hQe hRe hBe hA7 hC7 q0 q1 q2 qf r0 r1 r2 rf
    obtain ⟨z0, z1, z2, zf⟩ := cells3 hV8
    have hO8 := (one_at (w := w8) (t := 23) k n s).at_
    have hS8 := (Below.refl w8.heap.size w8).alloc (Nat.le_refl _) (.cells #[.int .i64 k, .int .i64 n, .string s] 23)
    have hBf := hB08.alloc hB08.size (.cells #[.int .i64 k, .int .i64 n, .string s] 23)
    have hVf := keepB hV8 hS8
    go_wp2_with fail
    refine (ref_any [⟨k, n, s⟩] _ 1 _ (by simp) hO8).mono ?_
    rintro e w9 ⟨v9, rfl, hO9, hB9⟩
    have hB09 := hBf.trans (hB9.mono hBf.size)
    have hV9 := keepB hVf hB9
    obtain ⟨g9, c9, hg9, hlt9, hc9⟩ := hO9.row (by simp)
    rw [show ([⟨k, n, s⟩] : List V).length = 1 from rfl] at hg9
    subst hg9
    have c0 := hc9 0 (by simp)
    have c1 := hc9 1 (by simp)
    have c2 := hc9 2 (by simp)
    change w9.cell? _ = some (.int .i64 k) at c0
    change w9.cell? _ = some (.int .i64 n) at c1
    change w9.cell? _ = some (.string s) at c2
    clear z0 z1 z2 zf hO8 hS8 hBf hVf hV8 hQ8 hc9 hO9
    go_wp2_with fail
    refine (HRTX.out _).mono ?_
    rintro e w10 ⟨rfl, hB10⟩
    have hB010 := hB09.trans (hB10.mono hB09.size)
    have hV10 := keepB hV9 hB10
    obtain ⟨z0, z1, z2, zf⟩ := cells3 hV10
    clear c0 c1 c2
    go_wp2_with fail
    refine (HCK.out _).mono ?_
    rintro e w11 ⟨rfl, hB11⟩
    have hB011 := hB010.trans (hB11.mono hB010.size)
    have hV11 := keepB hV10 hB11
    clear z0 z1 z2 zf
    go_wp2_with fail
    refine (HBK.out (by first | exact rfl | trivial) _ (HL.out.below hB011)).mono ?_
    rintro e w12 ⟨rfl, hB12⟩
    have hB012 := hB011.trans (hB12.mono hB011.size)
    have hV12 := keepB hV11 hB12
    have hV13 := keepB hV12 ((Below.refl _ _).alloc (Nat.le_refl _) (.cells #[.int .i64 k, .int .i64 n, .string s] 23))
    obtain ⟨z0, z1, z2, zf⟩ := cells3 hV13
    have hsv := same_vals k n s
    go_wp2
    go_ret
    exact ⟨rfl, hB012.alloc hB012.size _⟩
end Go.Proofs.YtdpipfifoinncaaDoor
