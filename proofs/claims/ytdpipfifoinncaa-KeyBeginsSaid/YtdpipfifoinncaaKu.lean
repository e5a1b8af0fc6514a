import Derived.Test.YtdpipfifoinncaaKt
import Derived.Deep.AppendLies
namespace Go.Proofs.Ytdpipfifoinncaa
open Go.RowKit
set_option linter.unusedVariables false

/-- A text's bytes in a key: behind each zero stands 255. -/
def escB (l : List UInt8) : List UInt8 := l.flatMap fun b => if b = 0 then [0, 255] else [b]
theorem escB_len : ∀ l : List UInt8, (escB l).length ≤ 2 * l.length
  | [] => by simp [escB]
  | b :: r => by
    have := escB_len r
    have e : escB (b :: r) = (if b = 0 then [0, 255] else [b]) ++ escB r := rfl
    rw [e, List.length_append, List.length_cons]
    split
    · show 2 + _ ≤ _; omega
    · show 1 + _ ≤ _; omega
theorem escB_next (s : ByteArray) (j : Nat) (hj : j < s.size) : escB (s.data.toList.take (j + 1)) = escB (s.data.toList.take j) ++ (if s[j] = 0 then [0, 255] else [s[j]]) := by
  have hl : j < s.data.toList.length := by rw [data_len]; exact hj
  unfold escB
  rw [List.take_succ_eq_append_getElem hl, List.flatMap_append]
  simp
  rfl

set_option maxRecDepth 100000 in
set_option maxHeartbeats 800000 in
theorem one_2 (n : Int) (s : ByteArray) (w : World) (hs : s.size ≤ 20) :
    Calls Try.prog 29 #[.agg #[.int .i64 2, .int .i64 n, .string s]] w fun e w' => e = .returned (.string (bs (2 :: escB s.data.toList ++ [0, 0]))) ∧ Below w.heap.size w w' := by
  obtain ⟨i0, hi0, hz0, hz1, hz2⟩ := info_parts infoU8
  go_enter Try.func29, Try.ntmps29
  go_wp2_with fail
  go_loopw [3, 37] (fun o i wr => ∃ (j m : Nat), j ≤ s.size ∧ i = .int .i64 j ∧ m ≤ 1 + 2 * j ∧ wr.ownsRow (w.heap.size + 1) 5 1 o m (bcells (2 :: escB (s.data.toList.take j))) ∧ Below w.heap.size w wr ∧ w.heap.size + 1 ≤ wr.heap.size ∧
      wr.heap[w.heap.size]? = some (.cells #[.int .i64 2, .int .i64 n, .string s] 43 (0, 0))) (fun _ i _ => s.size - (intOf i).toNat)
  case atStart =>
    refine ⟨0, 1, by omega, rfl, by omega, ?_, ((Below.refl _ _).alloc (Nat.le_refl _) _).alloc (by simp) _, by simp, ?_⟩
    · have := World.ownsRow_lit (base := w.heap.size + 1) (e := 5) (size := 1) (w.alloc (.cells #[.int .i64 2, .int .i64 n, .string s] 43)) #[Value.int .u8 2] 1 (by simp) (by unfold maxLen; omega) rfl
      simpa [escB, bcells] using this
    · exact (Lib.alloc_old _ _ _ (by simp)).trans (heap_alloc_new w _)
  case round =>
    obtain ⟨j, m, hj, rfl, hm, hown, hBr, hsz1, hblk⟩ := hrel
    have hsz := hBr.size
    obtain ⟨c0, c1, c2, cf⟩ := cells3 hblk
    obtain ⟨ao, c, rfl⟩ := own_slice hown
    by_cases hlt : j < s.size
    · have hnx := escB_next s j hlt
      have HO := Lib.hid hown
      by_cases hb : s[j] = 0
      · rw [if_pos hb] at hnx
        have HNX := Lib.hid hnx
        have hbz : (s[j].toNat : Int) = 0 := by rw [hb]; rfl
        clear hnx hown
        go_wp2_with (first
          | (at_builtin; refine wpList_append_own _ rfl (.tmp 40) (.tmp 45) 63 rfl (w.heap.size + 1) 5 i0 _ 1 1 Try.underlying63 hi0 hz0 hz1 hz2 rfl (by decide) (.slice ao m c) m (bcells (2 :: escB (s.data.toList.take j))) rfl (HO.out.alloc _) ⟨wr.heap.size, 0, none⟩ 1 1 [.int .u8 0] rfl rfl (cell_one_new wr _ _) (by intro u hu; simp at hu; subst hu; rfl) (by unfold maxLen; omega) (by omega) (by simp; omega) ?_; intro v1 w1 hown1 hgrow1 hnil1; have hne1 : some w.heap.size ≠ (Value.slice ao m c).ownBlock := (fun e => by have := (World.ownsRow.lt HO.out _ e.symm).1; omega); have hblk1 : w1.heap[w.heap.size]? = some (.cells #[.int .i64 2, .int .i64 n, .string s] 43 (0, 0)) := (hgrow1.block _ (by simp; omega) hne1).trans ((Lib.alloc_old _ _ _ (by omega)).trans hblk); obtain ⟨d0, d1, d2, df⟩ := cells3 hblk1; obtain ⟨a1, cc1, rfl⟩ := own_slice hown1; have hB1 : Below (w.heap.size + 1) wr w1 := (((Below.refl _ _).alloc hsz1 _).grown hgrow1 (by simp; omega) (fun k hk => (World.ownsRow.lt HO.out k (by first | exact hk | exact hk.symm)).1)); have hs1 := hB1.size)
          | (at_builtin; refine wpList_append_own _ rfl (.tmp 52) (.tmp 53) 63 rfl (w.heap.size + 1) 5 i0 _ 1 1 Try.underlying63 hi0 hz0 hz1 hz2 rfl (by decide) (.slice a1 (m + 1) cc1) (m + 1) ((bcells (2 :: escB (s.data.toList.take j))) ++ [.int .u8 0]) rfl (hown1.alloc _) ⟨w1.heap.size, 0, none⟩ 1 1 [.int .u8 255] rfl rfl (cell_one_new w1 _ _) (by intro u hu; simp at hu; subst hu; rfl) (by unfold maxLen; omega) (by omega) (by simp; omega) ?_; intro v2 w2 hown2 hgrow2 hnil2))
        have hB2 : Below (w.heap.size + 1) w1 w2 := (((Below.refl _ _).alloc (by omega) _).grown hgrow2 (by simp; omega) (fun k hk => (World.ownsRow.lt hown1 k (by first | exact hk | exact hk.symm)).1))
        have hB12 := hB1.trans hB2
        have he : (bcells (2 :: escB (s.data.toList.take j))) ++ [Value.int .u8 0] ++ [Value.int .u8 255] = bcells (2 :: escB (s.data.toList.take (j + 1))) := by rw [HNX.out]; simp [bcells]
        rw [he] at hown2
        go_roundw
        case rel => exact ⟨j + 1, m + 1 + 1, by omega, by go_num, by omega, hown2, hBr.trans (hB12.mono (Nat.le_succ _)), by have := hB12.size; omega, (hB12.block _ (Nat.lt_succ_self _)).trans hblk⟩
        case measure => simp [intOf] <;> omega
      · rw [if_neg hb] at hnx
        have HNX := Lib.hid hnx
        have hbz : ((s[j].toNat : Int) == 0) = false := by
          rw [beq_eq_false_iff_ne]
          intro e
          apply hb
          apply UInt8.toNat_inj.1
          rw [show (0 : UInt8).toNat = 0 from rfl]
          omega
        have hbz2 : ¬ (s[j].toNat : Int) = 0 := by simpa using hbz
        clear hnx hown
        go_wp2_with (at_builtin; refine wpList_append_own _ rfl (.tmp 40) (.tmp 45) 63 rfl (w.heap.size + 1) 5 i0 _ 1 1 Try.underlying63 hi0 hz0 hz1 hz2 rfl (by decide) (.slice ao m c) m (bcells (2 :: escB (s.data.toList.take j))) rfl (HO.out.alloc _) ⟨wr.heap.size, 0, none⟩ 1 1 [.int .u8 (s[j].toNat : Int)] rfl rfl (cell_one_new wr _ _) (by intro u hu; simp at hu; subst hu; rfl) (by unfold maxLen; omega) (by omega) (by simp; omega) ?_; intro v1 w1 hown1 hgrow1 hnil1; have hne1 : some w.heap.size ≠ (Value.slice ao m c).ownBlock := (fun e => by have := (World.ownsRow.lt HO.out _ e.symm).1; omega); have hblk1 : w1.heap[w.heap.size]? = some (.cells #[.int .i64 2, .int .i64 n, .string s] 43 (0, 0)) := (hgrow1.block _ (by simp; omega) hne1).trans ((Lib.alloc_old _ _ _ (by omega)).trans hblk); obtain ⟨d0, d1, d2, df⟩ := cells3 hblk1)
        have hB1 : Below (w.heap.size + 1) wr w1 := (((Below.refl _ _).alloc hsz1 _).grown hgrow1 (by simp; omega) (fun k hk => (World.ownsRow.lt HO.out k (by first | exact hk | exact hk.symm)).1))
        have he : (bcells (2 :: escB (s.data.toList.take j))) ++ [Value.int .u8 (s[j].toNat : Int)] = bcells (2 :: escB (s.data.toList.take (j + 1))) := by rw [HNX.out]; simp [bcells]
        rw [he] at hown1
        go_roundw
        case rel => exact ⟨j + 1, m + 1, by omega, by go_num, by omega, hown1, hBr.trans (hB1.mono (Nat.le_succ _)), by have := hB1.size; omega, (hB1.block _ (Nat.lt_succ_self _)).trans hblk⟩
        case measure => simp [intOf] <;> omega
    · obtain rfl : j = s.size := by omega
      have HO := Lib.hid hown
      have hfull : s.data.toList.take s.size = s.data.toList := List.take_of_length_le (by rw [data_len]; exact Nat.le_refl _)
      have HF := Lib.hid hfull
      clear hown hfull
      go_wp2_with (at_builtin; refine wpList_append_own _ rfl _ _ 63 rfl (w.heap.size + 1) 5 i0 _ 1 1 Try.underlying63 hi0 hz0 hz1 hz2 rfl (by decide) (.slice ao m c) m (bcells (2 :: escB (s.data.toList.take s.size))) rfl (HO.out.alloc _) ⟨wr.heap.size, 0, none⟩ 2 2 [.int .u8 0, .int .u8 0] rfl rfl (World.news_of_block (t := 5) (fr := (0, 0)) (heap_alloc_new wr _)) (by intro u hu; simp at hu; subst hu; rfl) (by unfold maxLen; omega) (by omega) (by simp; omega) ?_; intro v1 w1 hown1 hgrow1 hnil1; have hconv := run_str (l := 2 :: escB s.data.toList ++ [0, 0]) (by have h := hown1; rw [HF.out] at h; simpa [bcells] using h); obtain ⟨a1, cc1, rfl⟩ := own_slice hown1)
      go_ret
      have hB1 : Below (w.heap.size + 1) wr w1 := (((Below.refl _ _).alloc hsz1 _).grown hgrow1 (by simp; omega) (fun k hk => (World.ownsRow.lt HO.out k (by first | exact hk | exact hk.symm)).1))
      exact ⟨rfl, hBr.trans (hB1.mono (Nat.le_succ _))⟩
end Go.Proofs.Ytdpipfifoinncaa
