import Derived.Test.YtdpipfifoinncaaKh
namespace Go.Proofs.Ytdpipfifoinncaa
open Go.RowKit
set_option linter.unusedVariables false

/-! ### A value's bytes in a key -/
/-- The bytes of a number, the high one first. -/
def bigB (n k : Nat) : List UInt8 := (List.range k).map fun i => UInt8.ofNat (n / 2 ^ (8 * (7 - i)))
theorem bigB_len (n k : Nat) : (bigB n k).length = k := by simp [bigB]
theorem bigB_succ (n k : Nat) : bigB n (k + 1) = bigB n k ++ [UInt8.ofNat (n / 2 ^ (8 * (7 - k)))] := by simp [bigB, List.range_succ]
/-- The number with its sign turned. -/
def turn (n : Int) : Nat := (bits .xor .u64 (w64 n : Int) 9223372036854775808).toNat

set_option maxRecDepth 100000 in
theorem one_0 (n : Int) (s : ByteArray) (w : World) :
    Calls Try.prog 29 #[.agg #[.int .i64 0, .int .i64 n, .string s]] w fun e w' => e = .returned (.string (bs [0])) ∧ Below w.heap.size w w' := by
  have hconv : ∀ W : World, (convert 63 9 (.slice (some ⟨w.heap.size + 1, 0, none⟩) 1 1)).run Try.prog ((w.alloc (.cells #[.int .i64 0, .int .i64 n, .string s] 43)).alloc (.cells #[Value.int .u8 0] 5)) = .ok (.string (bs [0])) ((w.alloc (.cells #[.int .i64 0, .int .i64 n, .string s] 43)).alloc (.cells #[Value.int .u8 0] 5)) := fun _ => by
    have := World.ownsRow_lit (base := 0) (e := 5) (size := 1) (w.alloc (.cells #[.int .i64 0, .int .i64 n, .string s] 43)) #[Value.int .u8 0] 1 (Nat.zero_le _) (by unfold maxLen; omega) rfl
    rw [show w.heap.size + 1 = (w.alloc (.cells #[.int .i64 0, .int .i64 n, .string s] 43)).heap.size from by simp]
    exact run_str (l := [0]) this
  have hconv := hconv w
  go_enter Try.func29, Try.ntmps29
  go_wp2
  go_ret
  exact ⟨rfl, ((Below.refl _ _).alloc (Nat.le_refl _) _).alloc (by simp) _⟩

theorem big_next (x j P : Nat) (hP : P = 2 ^ (8 * (7 - j))) : bcells (1 :: bigB x j) ++ [Value.int .u8 ((x : Int) / (P : Int) % 256)] = bcells (1 :: bigB x (j + 1)) := by
  rw [bigB_succ, ← hP, ← List.cons_append, ← bcells_append]
  congr 1

set_option maxRecDepth 100000 in
set_option maxHeartbeats 800000 in
theorem one_1 (n : Int) (s : ByteArray) (w : World) (hx : ∃ x : Nat, bits .xor .u64 (w64 n : Int) 9223372036854775808 = x ∧ x < 18446744073709551616 ∧ x = turn n) :
    Calls Try.prog 29 #[.agg #[.int .i64 1, .int .i64 n, .string s]] w fun e w' => e = .returned (.string (bs (1 :: bigB (turn n) 8))) ∧ Below w.heap.size w w' := by
  obtain ⟨i0, hi0, hz0, hz1, hz2⟩ := info_parts infoU8
  obtain ⟨x, hx1, hx2, hx3⟩ := hx
  rw [← hx3]
  have hw := w64_wrap n
  have HX2 := Lib.hid hx2
  clear hx2 hx3
  go_enter Try.func29, Try.ntmps29
  go_wp2_with fail
  go_loopw [3, 5, 19] (fun o i5 i wr => ∃ j : Nat, j ≤ 8 ∧ i = .int .i64 j ∧ wr.ownsRow w.heap.size 5 1 o (j + 1) (bcells (1 :: bigB x j)) ∧ Below w.heap.size w wr) (fun _ _ i _ => 8 - (intOf i).toNat)
  case atStart =>
    refine ⟨0, by omega, rfl, ?_, ((Below.refl _ _).alloc (Nat.le_refl _) _).alloc (by simp) _⟩
    have := World.ownsRow_lit (base := w.heap.size) (e := 5) (size := 1) (w.alloc (.cells #[.int .i64 1, .int .i64 n, .string s] 43)) #[Value.int .u8 1] 1 (by simp) (by unfold maxLen; omega) rfl
    simpa [bigB, bcells] using this
  case round =>
    obtain ⟨j, hj, rfl, hown, hBr⟩ := hrel
    have hsz := hBr.size
    obtain ⟨ao, c, rfl⟩ := own_slice hown
    by_cases hlt : j < 8
    · have hj8 : j = 0 ∨ j = 1 ∨ j = 2 ∨ j = 3 ∨ j = 4 ∨ j = 5 ∨ j = 6 ∨ j = 7 := by omega
      have HO := Lib.hid hown
      clear hown
      rcases hj8 with rfl | rfl | rfl | rfl | rfl | rfl | rfl | rfl
      · have hnx := big_next x 0 72057594037927936 (by decide)
        have HNX := Lib.hid hnx
        clear hnx
        go_wp2_with (at_builtin; refine wpList_append_own _ rfl _ _ 63 rfl w.heap.size 5 i0 _ 1 1 Try.underlying63 hi0 hz0 hz1 hz2 rfl (by decide) (.slice ao 1 c) 1 (bcells (1 :: bigB x 0)) rfl (HO.out.alloc _) ⟨wr.heap.size, 0, none⟩ 1 1 [.int .u8 ((x : Int) / 72057594037927936 % 256)] rfl rfl (cell_one_new wr _ _) (by intro u hu; simp at hu; subst hu; rfl) (by decide) (by decide) (by simp; omega) ?_; intro v' w1 hown' hgrow' hnil')
        have hB1 : Below w.heap.size w w1 := (hBr.alloc hsz _).grown hgrow' (by simp; omega) (fun k hk => (World.ownsRow.lt HO.out k (by first | exact hk | exact hk.symm)).1)
        go_roundw
        case rel => exact ⟨1, by omega, rfl, by rw [← HNX.out]; exact hown', hB1⟩
        case measure => simp [intOf]
      · have hnx := big_next x 1 281474976710656 (by decide)
        have HNX := Lib.hid hnx
        clear hnx
        go_wp2_with (at_builtin; refine wpList_append_own _ rfl _ _ 63 rfl w.heap.size 5 i0 _ 1 1 Try.underlying63 hi0 hz0 hz1 hz2 rfl (by decide) (.slice ao 2 c) 2 (bcells (1 :: bigB x 1)) rfl (HO.out.alloc _) ⟨wr.heap.size, 0, none⟩ 1 1 [.int .u8 ((x : Int) / 281474976710656 % 256)] rfl rfl (cell_one_new wr _ _) (by intro u hu; simp at hu; subst hu; rfl) (by decide) (by decide) (by simp; omega) ?_; intro v' w1 hown' hgrow' hnil')
        have hB1 : Below w.heap.size w w1 := (hBr.alloc hsz _).grown hgrow' (by simp; omega) (fun k hk => (World.ownsRow.lt HO.out k (by first | exact hk | exact hk.symm)).1)
        go_roundw
        case rel => exact ⟨2, by omega, rfl, by rw [← HNX.out]; exact hown', hB1⟩
        case measure => simp [intOf]
      · have hnx := big_next x 2 1099511627776 (by decide)
        have HNX := Lib.hid hnx
        clear hnx
        go_wp2_with (at_builtin; refine wpList_append_own _ rfl _ _ 63 rfl w.heap.size 5 i0 _ 1 1 Try.underlying63 hi0 hz0 hz1 hz2 rfl (by decide) (.slice ao 3 c) 3 (bcells (1 :: bigB x 2)) rfl (HO.out.alloc _) ⟨wr.heap.size, 0, none⟩ 1 1 [.int .u8 ((x : Int) / 1099511627776 % 256)] rfl rfl (cell_one_new wr _ _) (by intro u hu; simp at hu; subst hu; rfl) (by decide) (by decide) (by simp; omega) ?_; intro v' w1 hown' hgrow' hnil')
        have hB1 : Below w.heap.size w w1 := (hBr.alloc hsz _).grown hgrow' (by simp; omega) (fun k hk => (World.ownsRow.lt HO.out k (by first | exact hk | exact hk.symm)).1)
        go_roundw
        case rel => exact ⟨3, by omega, rfl, by rw [← HNX.out]; exact hown', hB1⟩
        case measure => simp [intOf]
      · have hnx := big_next x 3 4294967296 (by decide)
        have HNX := Lib.hid hnx
        clear hnx
        go_wp2_with (at_builtin; refine wpList_append_own _ rfl _ _ 63 rfl w.heap.size 5 i0 _ 1 1 Try.underlying63 hi0 hz0 hz1 hz2 rfl (by decide) (.slice ao 4 c) 4 (bcells (1 :: bigB x 3)) rfl (HO.out.alloc _) ⟨wr.heap.size, 0, none⟩ 1 1 [.int .u8 ((x : Int) / 4294967296 % 256)] rfl rfl (cell_one_new wr _ _) (by intro u hu; simp at hu; subst hu; rfl) (by decide) (by decide) (by simp; omega) ?_; intro v' w1 hown' hgrow' hnil')
        have hB1 : Below w.heap.size w w1 := (hBr.alloc hsz _).grown hgrow' (by simp; omega) (fun k hk => (World.ownsRow.lt HO.out k (by first | exact hk | exact hk.symm)).1)
        go_roundw
        case rel => exact ⟨4, by omega, rfl, by rw [← HNX.out]; exact hown', hB1⟩
        case measure => simp [intOf]
      · have hnx := big_next x 4 16777216 (by decide)
        have HNX := Lib.hid hnx
        clear hnx
        go_wp2_with (at_builtin; refine wpList_append_own _ rfl _ _ 63 rfl w.heap.size 5 i0 _ 1 1 Try.underlying63 hi0 hz0 hz1 hz2 rfl (by decide) (.slice ao 5 c) 5 (bcells (1 :: bigB x 4)) rfl (HO.out.alloc _) ⟨wr.heap.size, 0, none⟩ 1 1 [.int .u8 ((x : Int) / 16777216 % 256)] rfl rfl (cell_one_new wr _ _) (by intro u hu; simp at hu; subst hu; rfl) (by decide) (by decide) (by simp; omega) ?_; intro v' w1 hown' hgrow' hnil')
        have hB1 : Below w.heap.size w w1 := (hBr.alloc hsz _).grown hgrow' (by simp; omega) (fun k hk => (World.ownsRow.lt HO.out k (by first | exact hk | exact hk.symm)).1)
        go_roundw
        case rel => exact ⟨5, by omega, rfl, by rw [← HNX.out]; exact hown', hB1⟩
        case measure => simp [intOf]
      · have hnx := big_next x 5 65536 (by decide)
        have HNX := Lib.hid hnx
        clear hnx
        go_wp2_with (at_builtin; refine wpList_append_own _ rfl _ _ 63 rfl w.heap.size 5 i0 _ 1 1 Try.underlying63 hi0 hz0 hz1 hz2 rfl (by decide) (.slice ao 6 c) 6 (bcells (1 :: bigB x 5)) rfl (HO.out.alloc _) ⟨wr.heap.size, 0, none⟩ 1 1 [.int .u8 ((x : Int) / 65536 % 256)] rfl rfl (cell_one_new wr _ _) (by intro u hu; simp at hu; subst hu; rfl) (by decide) (by decide) (by simp; omega) ?_; intro v' w1 hown' hgrow' hnil')
        have hB1 : Below w.heap.size w w1 := (hBr.alloc hsz _).grown hgrow' (by simp; omega) (fun k hk => (World.ownsRow.lt HO.out k (by first | exact hk | exact hk.symm)).1)
        go_roundw
        case rel => exact ⟨6, by omega, rfl, by rw [← HNX.out]; exact hown', hB1⟩
        case measure => simp [intOf]
      · have hnx := big_next x 6 256 (by decide)
        have HNX := Lib.hid hnx
        clear hnx
        go_wp2_with (at_builtin; refine wpList_append_own _ rfl _ _ 63 rfl w.heap.size 5 i0 _ 1 1 Try.underlying63 hi0 hz0 hz1 hz2 rfl (by decide) (.slice ao 7 c) 7 (bcells (1 :: bigB x 6)) rfl (HO.out.alloc _) ⟨wr.heap.size, 0, none⟩ 1 1 [.int .u8 ((x : Int) / 256 % 256)] rfl rfl (cell_one_new wr _ _) (by intro u hu; simp at hu; subst hu; rfl) (by decide) (by decide) (by simp; omega) ?_; intro v' w1 hown' hgrow' hnil')
        have hB1 : Below w.heap.size w w1 := (hBr.alloc hsz _).grown hgrow' (by simp; omega) (fun k hk => (World.ownsRow.lt HO.out k (by first | exact hk | exact hk.symm)).1)
        go_roundw
        case rel => exact ⟨7, by omega, rfl, by rw [← HNX.out]; exact hown', hB1⟩
        case measure => simp [intOf]
      · have hnx := big_next x 7 1 (by decide)
        simp only [Int.natCast_one, Int.ediv_one] at hnx
        have HNX := Lib.hid hnx
        clear hnx
        go_wp2_with (at_builtin; refine wpList_append_own _ rfl _ _ 63 rfl w.heap.size 5 i0 _ 1 1 Try.underlying63 hi0 hz0 hz1 hz2 rfl (by decide) (.slice ao 8 c) 8 (bcells (1 :: bigB x 7)) rfl (HO.out.alloc _) ⟨wr.heap.size, 0, none⟩ 1 1 [.int .u8 ((x : Int) % 256)] rfl rfl (cell_one_new wr _ _) (by intro u hu; simp at hu; subst hu; rfl) (by decide) (by decide) (by simp; omega) ?_; intro v' w1 hown' hgrow' hnil')
        have hB1 : Below w.heap.size w w1 := (hBr.alloc hsz _).grown hgrow' (by simp; omega) (fun k hk => (World.ownsRow.lt HO.out k (by first | exact hk | exact hk.symm)).1)
        go_roundw
        case rel => exact ⟨8, by omega, rfl, by rw [← HNX.out]; exact hown', hB1⟩
        case measure => simp [intOf]
    · obtain rfl : j = 8 := by omega
      have hconv := run_str hown
      go_wp2
      go_ret
      exact ⟨rfl, hBr⟩
end Go.Proofs.Ytdpipfifoinncaa
