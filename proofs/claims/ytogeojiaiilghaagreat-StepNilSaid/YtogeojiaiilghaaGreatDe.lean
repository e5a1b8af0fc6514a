import Derived.Test.YtogeojiaiilghaaGreatD8
namespace Go.Proofs.YtogeojiaiilghaaGreat
open Go.RowKit
set_option linter.unusedVariables false

theorem av_append (p q : List Ak) : (p ++ q).flatMap av = p.flatMap av ++ q.flatMap av := List.flatMap_append
theorem av_drop (q : List Ak) (k : Nat) : (q.flatMap av).drop (k * 4) = (q.drop k).flatMap av := by
  have h : q.flatMap av = (q.take k).flatMap av ++ (q.drop k).flatMap av := by rw [← av_append, List.take_append_drop]
  by_cases hk : k ≤ q.length
  · rw [h, List.drop_append_of_le_length (by rw [av_len, List.length_take]; omega), List.drop_eq_nil_of_le (by rw [av_len, List.length_take]; omega)]
    rfl
  · rw [List.drop_eq_nil_of_le (by rw [av_len]; omega), List.drop_eq_nil_of_le (by omega)]
    rfl
theorem av_take (q : List Ak) (k : Nat) : (q.flatMap av).take (k * 4) = (q.take k).flatMap av := by
  have h : q.flatMap av = (q.take k).flatMap av ++ (q.drop k).flatMap av := by rw [← av_append, List.take_append_drop]
  by_cases hk : k ≤ q.length
  · rw [h, List.take_append_of_le_length (by rw [av_len, List.length_take]; omega), List.take_of_length_le (by rw [av_len, List.length_take]; omega)]
  · rw [List.take_of_length_le (by rw [av_len]; omega), List.take_of_length_le (by omega)]

section
variable {w w' : World} {g cap : Nat} {q : List Ak}
/-- The row behind the move: the first ones, those behind the gap, and what is left. -/
theorem move_row (h : RowAt w g cap q) {i m : Nat} (hm : q.length = m + 1) (hi : i ≤ m) : RowAt (w.setCells g (i * 4) ((q.drop (i + 1)).flatMap av)) g cap (q.eraseIdx i) ∧ Turned w (w.setCells g (i * 4) ((q.drop (i + 1)).flatMap av)) g := by
  obtain ⟨cur, hb, hs, ht⟩ := h.ex
  have hle := h.le
  have hln : ((q.drop (i + 1)).flatMap av).length = (m - i) * 4 := by rw [av_len, List.length_drop]; omega
  refine ⟨⟨⟨_, Blk.setCells _ (i * 4) w cur hb (by rw [hln]; omega), ?_, ?_⟩, ?_, h.max⟩, turned_setCells _ _ _⟩
  · simp only [List.size_toArray, List.length_append, List.length_take, List.length_drop, Array.length_toList, hln]
    omega
  · have he : (q.eraseIdx i).length = m := by rw [List.length_eraseIdx]; split <;> omega
    rw [he, List.eraseIdx_eq_take_drop_succ, av_append]
    have e1 : cur.toList.take (i * 4) = (q.take i).flatMap av := by
      rw [← av_take, ← ht, List.take_take, hm, Nat.min_eq_left (by omega)]
    rw [e1]
    have e2 : ((q.take i).flatMap av ++ (q.drop (i + 1)).flatMap av).length = m * 4 := by
      rw [List.length_append, av_len, List.length_take, hln]
      omega
    show List.take (m * 4) ((q.take i).flatMap av ++ (q.drop (i + 1)).flatMap av ++ _) = _
    rw [List.take_append_of_le_length (by omega), List.take_of_length_le (by omega)]
  · rw [List.length_eraseIdx]
    split <;> omega

set_option maxRecDepth 100000 in
set_option maxHeartbeats 1600000 in
theorem delete_row (h : RowAt w g cap q) {i : Nat} (hi : i < q.length) :
    Calls Tryz.prog 78 #[.slice (some ⟨g, 0, none⟩) q.length cap, .int .i64 i, .int .i64 ((i : Int) + 1)] w fun e w' =>
      e = .returned (.slice (some ⟨g, 0, none⟩) (q.eraseIdx i).length cap) ∧ RowAt w' g cap (q.eraseIdx i) ∧ Keeps w w' (· = g) := by
  obtain ⟨i0, hi0, hz0, hz1, hz2⟩ := info_parts infoAsk
  obtain ⟨m, hm⟩ : ∃ m, q.length = m + 1 := ⟨q.length - 1, by omega⟩
  have him : i ≤ m := by omega
  have hle := h.le
  have hmax := h.max
  unfold maxLen at hmax
  have hel : (q.eraseIdx i).length = m := by rw [List.length_eraseIdx]; split <;> omega
  obtain ⟨hmr, hmt⟩ := move_row (w := w.drew) (h.of_block rfl) hm him
  obtain ⟨A, hA, hnews⟩ : ∃ A : Addr, (if cap = i + 1 then some (⟨g, 0, none⟩ : Addr) else some ⟨g, (i + 1) * 4, none⟩) = some A ∧ Hid (∀ j u, ((q.drop (i + 1)).flatMap av)[j]? = some u → w.drew.cell? (A.add j) = some u) := by
    by_cases hc : cap = i + 1
    · refine ⟨⟨g, 0, none⟩, by simp [hc], fun j u hu => ?_⟩
      rw [List.drop_eq_nil_of_le (by omega)] at hu
      simp at hu
    · refine ⟨⟨g, (i + 1) * 4, none⟩, by simp [hc], fun j u hu => ?_⟩
      rw [← av_drop, List.getElem?_drop] at hu
      have := h.reads _ u hu
      have e1 : (⟨g, 0, none⟩ : Addr).add ((i + 1) * 4 + j) = (⟨g, (i + 1) * 4, none⟩ : Addr).add j := by unfold Addr.add; split <;> split <;> simp_all
      rw [← e1]
      exact this
  have s1 : Hid (((q.drop (i + 1)).flatMap av).length = (m - i) * 4) := Lib.hid (by rw [av_len, List.length_drop]; omega)
  have s2 : Hid (∀ u ∈ (q.drop (i + 1)).flatMap av, u.oneCell' = true) := Lib.hid (av_one _)
  have s3 : Hid (∀ j, j < ((q.drop (i + 1)).flatMap av).length → (w.drew.cell? ⟨g, 0 + i * 4 + j, none⟩).isSome = true ∧ w.drew.frozen? ⟨g, 0 + i * 4 + j, none⟩ = false) := by
    intro j hj
    rw [s1.out] at hj
    obtain ⟨cur, hb, hs, ht⟩ := h.ex
    refine ⟨?_, ?_⟩
    · show (w.cell? _).isSome = true
      rw [hb.cell, Array.getElem?_eq_getElem (by omega)]
      rfl
    · exact hb.frozen _
  obtain ⟨N, hN⟩ : ∃ N, N = (q.drop (i + 1)).flatMap av := ⟨_, rfl⟩
  rw [← hN] at hmr hmt hnews s1 s2 s3
  obtain ⟨q', hq'⟩ : ∃ q', q' = q.eraseIdx i := ⟨_, rfl⟩
  rw [← hq'] at hmr hel ⊢
  rw [hel, hm]
  have HMR := Lib.hid hmr
  have HMT := Lib.hid hmt
  have HEL := Lib.hid hel
  have hp0 : (0 : Int) ≤ (i : Int) + 1 := by omega
  have hp1 : (i : Int) + 1 ≤ (m : Int) + 1 := by omega
  have hne : ((i : Int) == (i : Int) + 1) = false := by rw [beq_eq_false_iff_ne]; omega
  have hcap : m + 1 ≤ cap := by omega
  have hp2 : (0 : Int) ≤ (m : Int) + 1 ∧ (m : Int) + 1 ≤ (cap : Int) := by omega
  have hp3 : (i : Int) ≤ (cap : Int) := by omega
  have hp4 : (i : Int) + 1 ≤ (m + 1 : Nat) := by omega
  have hp5 : ((i : Int) + 1).toNat = i + 1 := by omega
  have hp6 : i + 1 ≤ m + 1 := by omega
  clear hN hq' hmr hmt hel h hi hm
  go_enter Tryz.func78, Tryz.ntmps78
  go_wp2_with fail
  go_region_law (refine step_append_room rfl (.tmp 22) (.tmp 25) 183 rfl 187 i0 4 Tryz.underlying183 hi0 hz1 g 0 i cap (by simp [Act.eval, Act.put]) A (m - i) (cap - (i + 1)) N (by simp [Act.eval, Act.put]) s1.out hnews.out s2.out (by omega) s3.out ?_)
  obtain ⟨w1, hw1⟩ : ∃ w1, w1 = w.drew.setCells g (i * 4) N := ⟨_, rfl⟩
  rw [← hw1]
  rw [← hw1] at HMR HMT
  obtain ⟨cur, hb, hs, ht⟩ := HMR.out.ex
  obtain ⟨w2, hcl, ht2, cur', hb', hs', htk⟩ := run_clear_asks hb m 1 (cap - m) (by omega) (by omega)
  have hne2 : ¬ (cap = m) := by omega
  have hq1 : (m : Int) ≤ (m : Int) + 1 := by omega
  have hq2 : (m : Int) + 1 ≤ (cap : Int) := by omega
  have hq3 : ((m : Int) + 1).toNat = m + 1 := by omega
  have hq4 : m + 1 - m = 1 := by omega
  have HX : Hid (RowAt w2 g cap q' ∧ Keeps w w2 (· = g)) := by
    have hT := HMT.out
    refine Lib.hid ⟨⟨⟨cur', hb', by omega, ?_⟩, HMR.out.le, HMR.out.max⟩, ?_⟩
    · rw [HEL.out, htk, ← HEL.out, ht]
    · have k1 : Keeps w w.drew (· = g) := .of_below (Below.refl _ _).drew _
      have k2 : Keeps w.drew w1 (· = g) := .of_turned hT (Eq.refl g)
      exact (k1.trans k2 (fun _ _ h => h)).trans (F' := (· = g)) (.of_turned ht2 (Eq.refl g)) (fun _ _ h => h)
  clear hb hs ht hb' hs' htk HMR HMT s1 s2 s3 hnews hw1
  go_wp2_with fail
  go_ret
  exact ⟨rfl, HX.out⟩
end
end Go.Proofs.YtogeojiaiilghaaGreat
