import Derived.Test.YtkcmedbalemmjaaC
import Derived.Deep.QuietTactic
import Derived.BigQuiet
import Derived.Lib.Hide
namespace Go.Proofs.Ytkcmedbalemmjaa
open Go.RowKit
set_option linter.unusedVariables false

set_option maxRecDepth 100000 in
theorem plays_no (n : Int) (A : Option Addr) (len cap : Nat) (w : World) (h : n < 1 ∨ 64 < n) :
    Calls Try.prog 3 #[.int .i64 n, .slice A len cap] w fun e w' => e = .returned (.bool true) ∧ Below w.heap.size w w' := by
  rcases h with h | h
  · go_enter Try.func3, Try.ntmps3
    go_wp2_with (first
      | (go_at_call 7; refine (new_no _ _ (.inl h)).mono ?_; rintro e w' ⟨rfl, rfl⟩)
      | (go_at_call 8; refine (awake_any _).mono ?_; rintro e w1 ⟨rfl, hB⟩))
    go_ret
    exact ⟨rfl, hB⟩
  · have h2 : ¬ n < 1 := by omega
    go_enter Try.func3, Try.ntmps3
    go_wp2_with (first
      | (go_at_call 7; refine (new_no _ _ (.inr h)).mono ?_; rintro e w' ⟨rfl, rfl⟩)
      | (go_at_call 8; refine (awake_any _).mono ?_; rintro e w1 ⟨rfl, hB⟩))
    go_ret
    exact ⟨rfl, hB⟩


theorem MeterAt.drewN {w : World} {m c : Nat} {l : List Int} {adds : Int} (h : MeterAt w m c l adds) (k : Nat) : MeterAt (w.drewN k) m c l adds := ⟨h.head, h.body, h.ne⟩
theorem top_none (m c : Nat) (i : Int) (l : List Int) (adds y : Int) (w : World) (h : MeterAt w m c l adds) (hi : i < 0 ∨ l.length ≤ i) :
    Calls Try.prog 9 #[.pointer (some ⟨m, 0, none⟩), .int .i64 i, .int .i64 y] w fun e w' => e = .returned (.tuple #[.bool false, .int .i64 1]) ∧ w = w' := by
  by_cases h0 : i < 0
  · exact top_lo _ _ _ _ h0
  · exact top_hi _ _ _ _ _ _ _ h (by omega)
theorem swap_none (m c : Nat) (i : Int) (l : List Int) (adds y : Int) (w : World) (h : MeterAt w m c l adds) (hi : i < 0 ∨ l.length ≤ i) :
    Calls Try.prog 10 #[.pointer (some ⟨m, 0, none⟩), .int .i64 i, .int .i64 y] w fun e w' => e = .returned (.tuple #[.int .i64 0, .int .i64 1]) ∧ w = w' := by
  by_cases h0 : i < 0
  · exact swap_lo _ _ _ _ h0
  · exact swap_hi _ _ _ _ _ _ _ h (by omega)
theorem add_none (m c : Nat) (i : Int) (l : List Int) (adds y : Int) (w : World) (h : MeterAt w m c l adds) (hi : i < 0 ∨ l.length ≤ i) :
    Calls Try.prog 11 #[.pointer (some ⟨m, 0, none⟩), .int .i64 i, .int .i64 y] w fun e w' => e = .returned (.tuple #[.int .i64 0, .int .i64 1]) ∧ w = w' := by
  by_cases h0 : i < 0
  · exact add_lo _ _ _ _ h0
  · exact add_hi _ _ _ _ _ _ _ h (by omega)
theorem block_of_add (a : Addr) (n : Nat) : (a.add n).block = a.block := by unfold Addr.add; split <;> rfl
/-- What an act is at place k. -/
structure ActAt (w : World) (A : Option Addr) (k : Nat) (K I N : Int) (ad : Addr) : Prop where
  at_ : A = some ad
  lt : ad.block < w.heap.size
  c0 : w.cell? (ad.add (k * 3)) = some (.int .i64 K)
  c1 : w.cell? ⟨(ad.add (k * 3)).block, (ad.add (k * 3)).off + 1, none⟩ = some (.int .i64 I)
  c2 : w.cell? ⟨(ad.add (k * 3)).block, (ad.add (k * 3)).off + 2, none⟩ = some (.int .i64 N)

set_option maxRecDepth 100000 in
set_option maxHeartbeats 1000000 in
theorem plays_yes (n : Nat) (A : Option Addr) (len cap : Nat) (w : World) (h1 : 1 ≤ n) (h2 : n ≤ 64) (hlen : len ≤ 9223372036854775807)
    (hA : ∀ k, k < len → ∃ K I N ad, ActAt w A k K I N ad ) :
    Calls Try.prog 3 #[.int .i64 n, .slice A len cap] w fun e w' => e = .returned (.bool true) ∧ Below w.heap.size w w' := by
  have hmk := make2 n h2
  go_enter Try.func3, Try.ntmps3
  go_wp2_with fail
  refine (new_ok n _ h1 h2).mono ?_
  rintro e w1 ⟨rfl, hM, hB, hS⟩
  go_wp2_with fail
  refine (awake_any _).mono ?_
  rintro e w2 ⟨rfl, hB2⟩
  have hM2 := hM.below hB2
  have hB02 := hB.trans (hB2.mono (by omega))
  have hs2 := hB2.size
  have hK : Blk (w2.alloc (.cells (Array.replicate n (Value.int .i64 0)) 2)) w2.heap.size 2 ((List.replicate n (0 : Int)).map (Value.int .i64)).toArray := by
    have := Blk.new w2 2 (Array.replicate n (Value.int .i64 0))
    simpa using this
  go_wp2_with fail
  go_loopw [8, 9] (fun u i wr => ∃ (k : Nat) (L : List Int) (a : Int), k ≤ len ∧ i = .int .i64 k ∧ u = .int .u64 a ∧ L.length = n ∧ MeterAt wr (w.heap.size + 1) w.heap.size L a ∧
      Blk wr w2.heap.size 2 (L.map (Value.int .i64)).toArray ∧ Below w.heap.size w wr) (fun _ i _ => len - (intOf i).toNat)
  case atStart => exact ⟨0, List.replicate n 0, 0, Nat.zero_le _, rfl, rfl, by simp, hM2.alloc _, by simpa using hK, hB02.alloc (by omega) _⟩
  case round =>
    obtain ⟨k, L, a, hk, rfl, rfl, hLn, hMr, hKr, hBr⟩ := hrel
    have hwlt := hKr.lt
    by_cases hlt : k < len
    · obtain ⟨K, I, N, ad, hAt⟩ := hA k hlt
      obtain rfl := hAt.at_
      have hsz := hBr.size
      have c0 : wr.cell? (ad.add (k * 3)) = some (.int .i64 K) := (hBr.cell (by rw [block_of_add]; exact hAt.lt)).trans hAt.c0
      have c1 : wr.cell? ⟨(ad.add (k * 3)).block, (ad.add (k * 3)).off + 1, none⟩ = some (.int .i64 I) := (hBr.cell (by show (ad.add (k * 3)).block < _; rw [block_of_add]; exact hAt.lt)).trans hAt.c1
      have c2 : wr.cell? ⟨(ad.add (k * 3)).block, (ad.add (k * 3)).off + 2, none⟩ = some (.int .i64 N) := (hBr.cell (by show (ad.add (k * 3)).block < _; rw [block_of_add]; exact hAt.lt)).trans hAt.c2
      have hO := hMr.alloc (.cells #[.int .i64 K, .int .i64 I, .int .i64 N] 31)
      have hKO := hKr.alloc (.cells #[.int .i64 K, .int .i64 I, .int .i64 N] 31)
      have hBO := hBr.alloc hsz (.cells #[.int .i64 K, .int .i64 I, .int .i64 N] 31)
      by_cases hno : I < 0 ∨ n ≤ I
      · have hno' : I < 0 ∨ L.length ≤ I := by omega
        have hI : Hid (I < 0 ∨ L.length ≤ I) := hno'
        clear hno'
        by_cases h3 : K = 3
        · subst h3
          rcases hno with hlo | hlo
          all_goals
            try have hlo2 : decide (I < (n : Int)) = false := by simp; omega
            go_wp2_with fail
            refine (top_none _ _ _ _ _ _ _ hO hI.out).mono ?_
            rintro e w' ⟨rfl, rfl⟩
            go_wp2_with fail
            go_quiet (fail)
            go_wp2_with fail
            go_roundw
            case rel => exact ⟨k + 1, L, a, by omega, by go_num, rfl, hLn, hO.drewN _, hKO.drewN _, below_drewN hBO _⟩
            case measure => simp [intOf]; omega
        · by_cases h4 : K = 4
          · subst h4
            rcases hno with hlo | hlo
            all_goals
              try have hlo2 : decide (I < (n : Int)) = false := by simp; omega
              go_wp2_with fail
              refine (swap_none _ _ _ _ _ _ _ hO hI.out).mono ?_
              rintro e w' ⟨rfl, rfl⟩
              go_wp2_with fail
              go_roundw
              case rel => exact ⟨k + 1, L, a, by omega, by go_num, rfl, hLn, hO, hKO, hBO⟩
              case measure => simp [intOf]; omega
          · rcases hno with hlo | hlo
            all_goals
              try have hlo2 : decide (I < (n : Int)) = false := by simp; omega
              go_wp2_with fail
              refine (add_none _ _ _ _ _ _ _ hO hI.out).mono ?_
              rintro e w' ⟨rfl, rfl⟩
              go_wp2_with fail
              go_roundw
              case rel => exact ⟨k + 1, L, a, by omega, by go_num, rfl, hLn, hO, hKO, hBO⟩
              case measure => simp [intOf]; omega
      · obtain ⟨j, rfl⟩ : ∃ j : Nat, I = j := ⟨I.toNat, by omega⟩
        have hjn : j < n := by omega
        have hjL : Hid (j < L.length) := Lib.hid (by omega)
        have hL64 : Hid (L.length ≤ 64) := Lib.hid (by omega)
        clear hno
        have hOwn : Blk (wr.alloc (.cells #[.int .i64 K, .int .i64 j, .int .i64 N] 31)) wr.heap.size 31 #[.int .i64 K, .int .i64 j, .int .i64 N] := Blk.new _ _ _
        have hne1 : w.heap.size ≠ w2.heap.size := by omega
        have hne2 : w.heap.size ≠ wr.heap.size := by omega
        have hne3 : w2.heap.size ≠ wr.heap.size := by omega
        have hne4 : w.heap.size + 1 ≠ w2.heap.size := by omega
        have hne5 : w.heap.size + 1 ≠ wr.heap.size := by omega
        by_cases h3 : K = 3
        · subst h3
          by_cases hy : L[j]'hjL.out < N
          · have hO1 := hO.set j N
            have hK1 := hKO.far (p := ⟨w.heap.size, j, none⟩) (fun e => hne1 e.symm) (.int .i64 N)
            have hW1 := hOwn.far (p := ⟨w.heap.size, j, none⟩) (fun e => hne2 e.symm) (.int .i64 N)
            have q1 := hW1.cell 1
            have q2 := hW1.cell 2
            have qk := hK1.cell j
            have qf := hK1.frozen j
            simp [hjL.out] at q1 q2 qk
            have hdy : decide (L[j]'hjL.out < N) = true := by simpa using hy
            have hF := hK1.set_ j (.int .i64 N)
            go_wp2_with fail
            refine (top_yes _ _ j _ _ N _ hO hjL.out hL64.out hy).mono ?_
            rintro e w' ⟨rfl, rfl⟩
            go_wp2_with fail
            go_quiet (fail)
            go_wp2_with fail
            go_roundw
            case rel => exact ⟨k + 1, L.set j N, a, by omega, by go_num, rfl, by simpa using hLn, (hO1.drewN _).far hne4 hne1 _, by simpa using (hK1.drewN _).set_ j (.int .i64 N), ((below_drewN ((hBO.setCell (by simp) _)) _).setCell (by simp; omega) _)⟩
            case measure => simp [intOf]; omega
          · have hy' : N ≤ L[j]'hjL.out := by omega
            have hdy : decide (L[j]'hjL.out < N) = false := by simpa using hy
            have qk := hKO.cell j
            have qf := hKO.frozen j
            simp [hjL.out] at qk
            go_wp2_with fail
            refine (top_no _ _ j _ _ N _ hO hjL.out hL64.out hy').mono ?_
            rintro e w' ⟨rfl, rfl⟩
            go_wp2_with fail
            go_quiet (fail)
            go_wp2_with fail
            go_roundw
            case rel => exact ⟨k + 1, L, a, by omega, by go_num, rfl, hLn, hO.drewN _, hKO.drewN _, below_drewN hBO _⟩
            case measure => simp [intOf]; omega
        · by_cases h4 : K = 4
          · subst h4
            have hO1 := hO.set j N
            have hK1 := hKO.far (p := ⟨w.heap.size, j, none⟩) (fun e => hne1 e.symm) (.int .i64 N)
            have hW1 := hOwn.far (p := ⟨w.heap.size, j, none⟩) (fun e => hne2 e.symm) (.int .i64 N)
            have q1 := hW1.cell 1
            have q2 := hW1.cell 2
            have qk := hK1.cell j
            have qf := hK1.frozen j
            simp [hjL.out] at q1 q2 qk
            go_wp2_with fail
            refine (swap_ok _ _ j _ _ N _ hO hjL.out hL64.out).mono ?_
            rintro e w' ⟨rfl, rfl⟩
            go_wp2_with fail
            go_roundw
            case rel => exact ⟨k + 1, L.set j N, a, by omega, by go_num, rfl, by simpa using hLn, hO1.far hne4 hne1 _, by simpa using hK1.set_ j (.int .i64 N), ((hBO.setCell (by simp) _).setCell (by simp; omega) _)⟩
            case measure => simp [intOf]; omega
          · have hO1 := (hO.count (IntKind.u64.wrap (a + 1))).set j (wrap64 (L[j]'hjL.out + N))
            have hK1 := (hKO.far (p := ⟨w.heap.size + 1, 1, none⟩) (fun e => hne4 e.symm) (.int .u64 (IntKind.u64.wrap (a + 1)))).far (p := ⟨w.heap.size, j, none⟩) (fun e => hne1 e.symm) (.int .i64 (wrap64 (L[j]'hjL.out + N)))
            have hW1 := (hOwn.far (p := ⟨w.heap.size + 1, 1, none⟩) (fun e => hne5 e.symm) (.int .u64 (IntKind.u64.wrap (a + 1)))).far (p := ⟨w.heap.size, j, none⟩) (fun e => hne2 e.symm) (.int .i64 (wrap64 (L[j]'hjL.out + N)))
            have hB1 := (hBO.setCell (p := ⟨w.heap.size + 1, 1, none⟩) (by simp) (.int .u64 (IntKind.u64.wrap (a + 1)))).setCell (p := ⟨w.heap.size, j, none⟩) (by simp) (.int .i64 (wrap64 (L[j]'hjL.out + N)))
            go_wp2_with fail
            refine (add_ok _ _ j _ _ N _ hO hjL.out hL64.out).mono ?_
            rintro e w' ⟨rfl, HW⟩
            rw [HW] at hO1 hK1 hW1 hB1
            clear HW
            have q1 := hW1.cell 1
            have q2 := hW1.cell 2
            have qk := hK1.cell j
            have qf := hK1.frozen j
            simp [hjL.out] at q1 q2 qk
            have hK2 := hK1.set_ j (.int .i64 (wrap64 (L[j]'hjL.out + N)))
            have hW2 := hW1.far (p := ⟨w2.heap.size, j, none⟩) (fun e => hne3 e.symm) (.int .i64 (wrap64 (L[j]'hjL.out + N)))
            go_wp2_with fail
            go_region
            go_wp2_with fail
            go_roundw
            case rel => exact ⟨k + 1, L.set j (wrap64 (L[j]'hjL.out + N)), IntKind.u64.wrap (a + 1), by omega, by go_num, rfl, by simpa using hLn, (hO1.far (p := ⟨w2.heap.size, j, none⟩) hne4 hne1 _).drewN 1, by simpa using hK2.drew, ((hB1.setCell (p := ⟨w2.heap.size, j, none⟩) (by simp; omega) _)).drew⟩
            case measure => simp [intOf]; omega
    · obtain rfl : k = len := by omega
      have hL64 : L.length ≤ 64 := by omega
      have hsz := hBr.size
      go_wp2_with fail
      refine (all_ok _ _ _ _ _ hMr hL64).mono ?_
      rintro e w3 ⟨v, rfl, hown, hB3⟩
      obtain ⟨g, cap3, cur, rfl, hg, hcur, hnc, hcm, hcs, htk⟩ : ∃ g cap cur, v = .slice (some ⟨g, 0, none⟩) L.length cap ∧ wr.heap.size ≤ g ∧ w3.heap[g]? = some (.cells cur 2 (0, 0)) ∧ L.length ≤ cap ∧ cap ≤ maxLen ∧ cur.size = cap * 1 ∧ cur.toList.take (L.length * 1) = L.map (Value.int .i64) := by
        rcases hown.2 with ⟨_, h0⟩ | h0
        · omega
        · exact h0
      have hM3 := hMr.below hB3
      have hK3 := hKr.below hB3 hKr.lt
      have hB03 := hBr.trans (hB3.mono hsz)
      have hcell : ∀ i, (hi : i < L.length) → w3.cell? ⟨g, i, none⟩ = some (.int .i64 L[i]) := by
        intro i hi
        have h1 := cell_of_row w3 g i cur 2 (0, 0) hcur
        rw [h1]
        have h2 : (cur.toList.take (L.length * 1))[i]? = (L.map (Value.int .i64))[i]? := by rw [htk]
        rw [List.getElem?_take_of_lt (by omega), Array.getElem?_toList] at h2
        rw [h2]
        simp [hi]
      have hgood : Hid (∀ i, (hi : i < L.length) → w3.cell? ⟨g, i, none⟩ = some (.int .i64 L[i])) := hcell
      obtain rfl : L.length = n := hLn
      clear hcell hcur hcs htk hown
      go_wp2_with fail
      go_loopw [20] (fun i wq => ∃ (j : Nat) (q : Nat), j ≤ L.length ∧ i = .int .i64 j ∧ wq = w3.drewN q) (fun i _ => L.length - (intOf i).toNat)
      case atStart => exact ⟨0, 0, Nat.zero_le _, rfl, rfl⟩
      case round =>
        obtain ⟨j, q, hj, rfl, rfl⟩ := hrel
        have hM4 := hM3.drewN q
        have hK4 := hK3.drewN q
        by_cases hlt2 : j < L.length
        · have q1 : w3.cell? ⟨g, j, none⟩ = some (.int .i64 L[j]) := hgood.out j hlt2
          have q2 := hK3.cell j
          simp [hlt2] at q2
          have hdd : decide ((j : Int) < (L.length : Int)) = true := by simpa using hlt2
          go_wp2_with fail
          refine (get_ok _ _ j _ _ _ hM4 hlt2 hL64).mono ?_
          rintro e w' ⟨rfl, rfl⟩
          go_wp2_with fail
          go_quiet (fail)
          go_wp2_with fail
          go_roundw
          case rel => exact ⟨j + 1, q + nq, by omega, by go_num, by simp⟩
          case measure => simp [intOf]; omega
        · obtain rfl : j = L.length := by omega
          go_wp2_with fail
          refine (get_hi _ _ L.length _ _ _ hM4 (by omega)).mono ?_
          rintro e w' ⟨rfl, rfl⟩
          go_wp2_with fail
          refine (adds_ok _ _ _ _ _ hM4).mono ?_
          rintro e w' ⟨rfl, rfl⟩
          go_wp2_with fail
          go_ret
          exact ⟨by simp, below_drewN hB03 _⟩
end Go.Proofs.Ytkcmedbalemmjaa
