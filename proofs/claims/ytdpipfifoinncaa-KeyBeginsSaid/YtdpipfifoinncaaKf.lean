import Derived.Test.YtdpipfifoinncaaKe
import Derived.Laws.ResultCell
import Derived.Deep.RegionWith
namespace Go.Proofs.Ytdpipfifoinncaa
open Go.RowKit
set_option linter.unusedVariables false

def rv (s : ByteArray) (p : Nat) (e : Int) : Value := .agg #[.string s, .int .i64 p, .int .i64 e]

set_option maxRecDepth 100000 in
theorem Take_any (s : ByteArray) (p : Nat) (e : Int) (n : Nat) (w : World) (hs : s.size ≤ 9223372036854775000) (hp : p ≤ s.size) (hn : n < 256) :
    Calls Try.prog 27 #[.agg #[.string s, .int .i64 p, .int .i64 e], .int .i64 n] w fun r w' => r = .returned (.tuple #[rv s (bytesS s p e n).1 (bytesS s p e n).2.1, .string (bs (bytesS s p e n).2.2)]) ∧ Below w.heap.size w w' := by
  have hB : ∀ (q : Nat) (f : Int), Below w.heap.size w ((w.alloc (.cells #[.string s, .int .i64 q, .int .i64 f] 57)).alloc (.cells #[.string s, .int .i64 q, .int .i64 f] 57)) := fun q f => ((Below.refl _ _).alloc (Nat.le_refl _) _).alloc (by simp) _
  by_cases he : e = 0
  · subst he
    by_cases hc : s.size < p + n
    · have hN : bytesS s p 0 n = (p, 4, []) := by simp [bytesS, hc]
      rw [hN]
      have hd : decide ((s.size : Int) - p < n) = true := by simp; omega
      have hd0 : decide ((n : Int) < 0) = false := by simp
      clear hN hc
      go_enter Try.func27, Try.ntmps27
      go_wp2
      try simp only [Exit.inBlock, Exit.then]
      refine bodyPost_ret (v := .tuple #[rv s p 4, .string (bs [])]) ?_ rfl ⟨rfl, hB p 4⟩
      rw [results_cell_tmp rfl]
      go_simp
      exact ⟨rfl, rfl⟩
    · have hN : bytesS s p 0 n = (p + n, 0, seg s p n) := by simp [bytesS, hc]
      rw [hN]
      have hd : decide ((s.size : Int) - p < n) = false := by simp; omega
      have hd0 : decide ((n : Int) < 0) = false := by simp
      have hle : p + n ≤ s.size := by omega
      clear hN hc
      go_enter Try.func27, Try.ntmps27
      go_wp2_with fail
      go_region
      go_wp2
      try simp only [Exit.inBlock, Exit.then]
      refine bodyPost_ret (v := .tuple #[rv s (p + n) 0, .string (bs (seg s p n))]) ?_ rfl ⟨rfl, (hB (p + n) 0).drew⟩
      rw [results_cell_tmp rfl]
      go_simp
      rw [extract_seg]
      exact ⟨rfl, rfl⟩
  · have hN : bytesS s p e n = (p, e, []) := by simp [bytesS, he]
    rw [hN]
    have he2 : (e != 0) = true := by simp [he]
    clear hN
    go_enter Try.func27, Try.ntmps27
    go_wp2
    try simp only [Exit.inBlock, Exit.then]
    refine bodyPost_ret (v := .tuple #[rv s p e, .string (bs [])]) ?_ rfl ⟨rfl, hB p e⟩
    rw [results_cell_tmp rfl]
    go_simp
    exact ⟨rfl, rfl⟩

theorem num_bytes (s : ByteArray) (p : Nat) (e : Int) (K : Nat) : (bytesS s p e K).1 = (numS s p e K).1 ∧ (bytesS s p e K).2.1 = (numS s p e K).2.1 ∧ getN (bytesS s p e K).2.2 = (numS s p e K).2.2 ∧ (bytesS s p e K).2.2.length ≤ K := by
  by_cases he : e = 0
  · by_cases hc : s.size < p + K
    · simp [bytesS, numS, he, hc, getN]
    · simp [bytesS, numS, he, hc]
      rw [seg_len s p K (by omega)]
      exact Nat.le_refl _
  · simp [bytesS, numS, he, getN]

theorem cells3 {w : World} {g : Nat} {a b c : Value} {t : TypeId} (h : w.heap[g]? = some (.cells #[a, b, c] t (0, 0))) :
    w.cell? ⟨g, 0, none⟩ = some a ∧ w.cell? ⟨g, 1, none⟩ = some b ∧ w.cell? ⟨g, 2, none⟩ = some c ∧ ∀ i, w.frozen? ⟨g, i, none⟩ = false :=
  ⟨cell_of_row w g 0 _ _ (0, 0) h, cell_of_row w g 1 _ _ (0, 0) h, cell_of_row w g 2 _ _ (0, 0) h, fun i => Lib.frozen_of_heap h i⟩
/-- Two new blocks of three cells, and what was behind them. -/
theorem two_new {w w' : World} {a b c d e f : Value} {t u : TypeId} (hb : Below (w.heap.size + 2) ((w.alloc (.cells #[a, b, c] t)).alloc (.cells #[d, e, f] u)) w') :
    w'.heap[w.heap.size]? = some (.cells #[a, b, c] t (0, 0)) ∧ w'.heap[w.heap.size + 1]? = some (.cells #[d, e, f] u (0, 0)) ∧ Below w.heap.size w w' := by
  have e1 : ((w.alloc (.cells #[a, b, c] t)).alloc (.cells #[d, e, f] u)).heap[w.heap.size]? = some (.cells #[a, b, c] t (0, 0)) := by
    rw [Lib.alloc_old _ _ _ (by simp)]; exact heap_alloc_new w _
  have e2 : ((w.alloc (.cells #[a, b, c] t)).alloc (.cells #[d, e, f] u)).heap[w.heap.size + 1]? = some (.cells #[d, e, f] u (0, 0)) := by
    have := heap_alloc_new (w.alloc (.cells #[a, b, c] t)) (.cells #[d, e, f] u)
    simpa using this
  refine ⟨(hb.block _ (by omega)).trans e1, (hb.block _ (by omega)).trans e2, ?_⟩
  exact (((Below.refl _ _).alloc (Nat.le_refl _) _).alloc (by simp) _).trans (hb.mono (by omega))
theorem below_set3 {w w' : World} {B g : Nat} (h : Below B w w') (hg : B ≤ g) (a b c : Value) : Below B w (((w'.setCell ⟨g, 0, none⟩ a).setCell ⟨g, 1, none⟩ b).setCell ⟨g, 2, none⟩ c) :=
  ((h.setCell (show B ≤ (⟨g, 0, none⟩ : Addr).block from hg) a).setCell (show B ≤ (⟨g, 1, none⟩ : Addr).block from hg) b).setCell (show B ≤ (⟨g, 2, none⟩ : Addr).block from hg) c
theorem below_drewN' {B : Nat} {w w' : World} (h : Below B w w') (n : Nat) : Below B w (w'.drewN n) := below_drewN h n

set_option maxRecDepth 100000 in
theorem RNum_one (s : ByteArray) (p : Nat) (e : Int) (w : World) (hs : s.size ≤ 9223372036854775000) (hp : p ≤ s.size) :
    Calls Try.prog 26 #[.agg #[.string s, .int .i64 p, .int .i64 e], .int .i64 1] w fun r w' => r = .returned (.tuple #[rv s (numS s p e 1).1 (numS s p e 1).2.1, .int .u64 (numS s p e 1).2.2]) ∧ Below w.heap.size w w' := by
  obtain ⟨t1, t2, t3, t4⟩ := num_bytes s p e 1
  rw [← t1, ← t2, ← t3]
  have hT : ∀ W, Calls Try.prog 27 #[.agg #[.string s, .int .i64 p, .int .i64 e], .int .i64 1] W fun r w' => r = .returned (.tuple #[.agg #[.string s, .int .i64 (bytesS s p e 1).1, .int .i64 (bytesS s p e 1).2.1], .string (bs (bytesS s p e 1).2.2)]) ∧ Below W.heap.size W w' := fun W => Take_any s p e 1 W hs hp (by omega)
  obtain ⟨q, hq⟩ : ∃ q, q = (bytesS s p e 1).1 := ⟨_, rfl⟩
  obtain ⟨f, hf⟩ : ∃ f, f = (bytesS s p e 1).2.1 := ⟨_, rfl⟩
  obtain ⟨l, hl⟩ : ∃ l, l = (bytesS s p e 1).2.2 := ⟨_, rfl⟩
  rw [← hq, ← hf, ← hl] at hT
  rw [← hl] at t4
  rw [← hq, ← hf, ← hl]
  have HT := Lib.hid hT
  have HL := Lib.hid t4
  have h2 : ∀ n, Calls Try.prog 36 #[.string (bs l)] n fun e w' => e = .returned (.int .u64 (getN l)) ∧ n = w' := fun n => RNumber_any (bs l) n (by rw [bs_size]; omega)
  have H2 := Lib.hid h2
  obtain ⟨S, hS⟩ : ∃ S, S = bs l := ⟨_, rfl⟩
  obtain ⟨x, hx⟩ : ∃ x, x = getN l := ⟨_, rfl⟩
  rw [← hS, ← hx] at H2
  rw [← hS] at HT
  rw [← hx]
  clear hT t1 t2 t3 t4 hq hf hl h2 HL hS hx
  by_cases he : e = 0
  · subst he
    go_enter Try.func26, Try.ntmps26
    go_wp2_with fail
    refine (HT.out _).mono ?_
    rintro r w1 ⟨rfl, hb1⟩
    have hb2 := hb1
    simp only [World.size_alloc, Nat.add_assoc, Nat.reduceAdd] at hb2
    obtain ⟨hA, hZ, hB⟩ := two_new hb2
    obtain ⟨a0, a1, a2, af⟩ := cells3 hA
    obtain ⟨z0, z1, z2, zf⟩ := cells3 hZ
    have hB4 := below_set3 (below_set3 hB (Nat.le_refl _) (.string s) (.int .i64 q) (.int .i64 f)) (Nat.le_succ _) (.string s) (.int .i64 q) (.int .i64 f)
    go_wp2_with fail
    go_region_with ((go_at_call 36; refine (H2.out _).mono ?_; rintro e w' ⟨rfl, rfl⟩))
    all_goals
      go_wp2
      try simp only [Exit.inBlock, Exit.then]
      refine bodyPost_ret (v := .tuple #[rv s q f, .int .u64 x]) ?_ rfl ⟨rfl, hB4.drew⟩
      rw [results_cell_tmp rfl]
      go_simp
      rfl
  · have he2 : (e == 0) = false := by simp [he]
    go_enter Try.func26, Try.ntmps26
    go_wp2_with fail
    refine (HT.out _).mono ?_
    rintro r w1 ⟨rfl, hb1⟩
    have hb2 := hb1
    simp only [World.size_alloc, Nat.add_assoc, Nat.reduceAdd] at hb2
    obtain ⟨hA, hZ, hB⟩ := two_new hb2
    obtain ⟨a0, a1, a2, af⟩ := cells3 hA
    obtain ⟨z0, z1, z2, zf⟩ := cells3 hZ
    have hB4 := below_set3 (below_set3 hB (Nat.le_refl _) (.string s) (.int .i64 q) (.int .i64 f)) (Nat.le_succ _) (.string s) (.int .i64 q) (.int .i64 f)
    go_wp2_with fail
    go_region_with ((go_at_call 36; refine (H2.out _).mono ?_; rintro e w' ⟨rfl, rfl⟩))
    all_goals
      go_wp2
      try simp only [Exit.inBlock, Exit.then]
      refine bodyPost_ret (v := .tuple #[rv s q f, .int .u64 x]) ?_ rfl ⟨rfl, hB4.drew⟩
      rw [results_cell_tmp rfl]
      go_simp
      rfl

set_option maxRecDepth 100000 in
theorem RNum_eight (s : ByteArray) (p : Nat) (e : Int) (w : World) (hs : s.size ≤ 9223372036854775000) (hp : p ≤ s.size) :
    Calls Try.prog 26 #[.agg #[.string s, .int .i64 p, .int .i64 e], .int .i64 8] w fun r w' => r = .returned (.tuple #[rv s (numS s p e 8).1 (numS s p e 8).2.1, .int .u64 (numS s p e 8).2.2]) ∧ Below w.heap.size w w' := by
  obtain ⟨t1, t2, t3, t4⟩ := num_bytes s p e 8
  rw [← t1, ← t2, ← t3]
  have hT : ∀ W, Calls Try.prog 27 #[.agg #[.string s, .int .i64 p, .int .i64 e], .int .i64 8] W fun r w' => r = .returned (.tuple #[.agg #[.string s, .int .i64 (bytesS s p e 8).1, .int .i64 (bytesS s p e 8).2.1], .string (bs (bytesS s p e 8).2.2)]) ∧ Below W.heap.size W w' := fun W => Take_any s p e 8 W hs hp (by omega)
  obtain ⟨q, hq⟩ : ∃ q, q = (bytesS s p e 8).1 := ⟨_, rfl⟩
  obtain ⟨f, hf⟩ : ∃ f, f = (bytesS s p e 8).2.1 := ⟨_, rfl⟩
  obtain ⟨l, hl⟩ : ∃ l, l = (bytesS s p e 8).2.2 := ⟨_, rfl⟩
  rw [← hq, ← hf, ← hl] at hT
  rw [← hl] at t4
  rw [← hq, ← hf, ← hl]
  have HT := Lib.hid hT
  have HL := Lib.hid t4
  have h2 : ∀ n, Calls Try.prog 36 #[.string (bs l)] n fun e w' => e = .returned (.int .u64 (getN l)) ∧ n = w' := fun n => RNumber_any (bs l) n (by rw [bs_size]; omega)
  have H2 := Lib.hid h2
  obtain ⟨S, hS⟩ : ∃ S, S = bs l := ⟨_, rfl⟩
  obtain ⟨x, hx⟩ : ∃ x, x = getN l := ⟨_, rfl⟩
  rw [← hS, ← hx] at H2
  rw [← hS] at HT
  rw [← hx]
  clear hT t1 t2 t3 t4 hq hf hl h2 HL hS hx
  by_cases he : e = 0
  · subst he
    go_enter Try.func26, Try.ntmps26
    go_wp2_with fail
    refine (HT.out _).mono ?_
    rintro r w1 ⟨rfl, hb1⟩
    have hb2 := hb1
    simp only [World.size_alloc, Nat.add_assoc, Nat.reduceAdd] at hb2
    obtain ⟨hA, hZ, hB⟩ := two_new hb2
    obtain ⟨a0, a1, a2, af⟩ := cells3 hA
    obtain ⟨z0, z1, z2, zf⟩ := cells3 hZ
    have hB4 := below_set3 (below_set3 hB (Nat.le_refl _) (.string s) (.int .i64 q) (.int .i64 f)) (Nat.le_succ _) (.string s) (.int .i64 q) (.int .i64 f)
    go_wp2_with fail
    go_region_with ((go_at_call 36; refine (H2.out _).mono ?_; rintro e w' ⟨rfl, rfl⟩))
    all_goals
      go_wp2
      try simp only [Exit.inBlock, Exit.then]
      refine bodyPost_ret (v := .tuple #[rv s q f, .int .u64 x]) ?_ rfl ⟨rfl, hB4.drew⟩
      rw [results_cell_tmp rfl]
      go_simp
      rfl
  · have he2 : (e == 0) = false := by simp [he]
    go_enter Try.func26, Try.ntmps26
    go_wp2_with fail
    refine (HT.out _).mono ?_
    rintro r w1 ⟨rfl, hb1⟩
    have hb2 := hb1
    simp only [World.size_alloc, Nat.add_assoc, Nat.reduceAdd] at hb2
    obtain ⟨hA, hZ, hB⟩ := two_new hb2
    obtain ⟨a0, a1, a2, af⟩ := cells3 hA
    obtain ⟨z0, z1, z2, zf⟩ := cells3 hZ
    have hB4 := below_set3 (below_set3 hB (Nat.le_refl _) (.string s) (.int .i64 q) (.int .i64 f)) (Nat.le_succ _) (.string s) (.int .i64 q) (.int .i64 f)
    go_wp2_with fail
    go_region_with ((go_at_call 36; refine (H2.out _).mono ?_; rintro e w' ⟨rfl, rfl⟩))
    all_goals
      go_wp2
      try simp only [Exit.inBlock, Exit.then]
      refine bodyPost_ret (v := .tuple #[rv s q f, .int .u64 x]) ?_ rfl ⟨rfl, hB4.drew⟩
      rw [results_cell_tmp rfl]
      go_simp
      rfl
end Go.Proofs.Ytdpipfifoinncaa
