import Derived.Test.YtcdlplbccblbaaaGreatA
namespace Go.Proofs.YtcdlplbccblbaaaGreat
open Go.RowKit
set_option linter.unusedVariables false

section
variable {w w' : World} {T QB WB : Nat} {R : List Row} {W : List (Int × Nm)}
/-! ### A lock that somebody has or waits for -/
def aheadOne (a : Ak) (has i : Int) (k : Nat) : Bool := a.wants != 0 && (has == 0 || (a.has != 0 && decide ((k : Int) < i)))
def aheadP (q : List Ak) (has i : Int) : Nat → Bool
  | 0 => false
  | k + 1 => aheadP q has i k || aheadOne (q.getD k ⟨0, 0, 0, false⟩) has i k
/-- Does somebody who waits stand ahead? -/
def aheadS (q : List Ak) (has i : Int) : Bool := aheadP q has i q.length

/-- What an asking by one who is not in the queue comes to. -/
def NewPost (inst wt : Bool) (w : World) (T QB WB : Nat) (R1 : List Row) (r : Row) (R2 : List Row) (W : List (Int × Nm)) (tx mode : Int) (e : Ending) (w' : World) : Prop :=
  if mayS r.q tx mode && !aheadS r.q 0 (-1) then
    e = .returned (.tuple #[.bool true, .int .i64 0]) ∧
    (if inst = true then Below w.heap.size w w' else ∃ g cap, Tab w' T QB WB (R1 ++ ⟨r.n, g, cap, r.q ++ [⟨tx, mode, 0, false⟩]⟩ :: R2) W ∧ (g = r.g ∨ w.heap.size ≤ g) ∧ Keeps w w' (Foot T QB WB (R1 ++ r :: R2)))
  else
    e = .returned (.tuple #[.bool false, .int .i64 0]) ∧
    (if wt = false then Below w.heap.size w w' else ∃ g cap, Tab w' T QB WB (R1 ++ ⟨r.n, g, cap, r.q ++ [⟨tx, 0, mode, inst⟩]⟩ :: R2) (W ++ [(tx, r.n)]) ∧ (g = r.g ∨ w.heap.size ≤ g) ∧ Keeps w w' (Foot T QB WB (R1 ++ r :: R2)))

set_option maxRecDepth 100000 in
set_option maxHeartbeats 2000000 in
theorem ask_new (tx mode : Int) (k o p s : Int) (inst wt : Bool) (R1 R2 : List Row) (r : Row) (h : Tab w T QB WB (R1 ++ r :: R2) W) (ht : 1 ≤ tx) (hm : isMode mode = true) (hw : wOf W tx = none) (hn : r.n = ⟨k, o, p, s⟩)
    (hq : idx r.q tx = -1) (hlen : r.q.length < 1000000) :
    Calls Tryz.prog 8 #[.pointer (some ⟨T, 0, none⟩), .int .i64 tx, .agg #[.int .i64 k, .int .i64 o, .int .u32 p, .int .i64 s], .int .i64 mode, .bool inst, .bool wt] w fun e w' =>
      NewPost inst wt w T QB WB R1 r R2 W tx mode e w' := by
  have h1 : Tab (w.alloc (.cells #[.int .i64 k, .int .i64 o, .int .u32 p, .int .i64 s] 46)) T QB WB (R1 ++ r :: R2) W := h.below ((Below.refl _ _).alloc (Nat.le_refl _) _)
  have HW := Lib.hid hw
  have HN := Lib.hid hn
  have HQ := Lib.hid hq
  have hs : (wOf W tx).isSome = false := by rw [hw]; rfl
  clear hw hn hq
  go_enter Tryz.func8, Tryz.ntmps8
  go_wp2_with (go_at_call 30; refine (mode_any _ _).mono ?_; rintro e w' ⟨rfl, rfl⟩)
  refine (waits_any h1 tx).mono ?_
  rintro e w1 ⟨rfl, hB⟩
  have h2 := h1.below hB
  have c0 := h2.head.cell 0
  simp at c0
  have hbox : Blk w1 w.heap.size 46 #[.int .i64 k, .int .i64 o, .int .u32 p, .int .i64 s] := (Blk.new w 46 _).of_block (hB.block _ (by simp))
  have b0 := hbox.cell 0
  have b1 := hbox.cell 1
  have b2 := hbox.cell 2
  have b3 := hbox.cell 3
  simp at b0 b1 b2 b3
  have hlk : ∀ q, (Instr.lookup 34 (.map (some QB)) (.agg #[.int .i64 k, .int .i64 o, .int .u32 p, .int .i64 s]) false).run Tryz.prog (w1.drewN q) = .ok (.slice (some ⟨r.g, 0, none⟩) r.q.length r.cap) (w1.drewN q) := by
    intro q
    have := (h2.below (below_drewN (Below.refl _ _) q)).qm.look_some (a := r.n) (v := r.v) Tryz.underlying34 (by simp) false
    rw [HN.out] at this
    exact this
  go_wp2_with fail
  go_quiet (fail)
  go_wp2_with fail
  have hrow1 : RowAt (w1.drewN nq) r.g r.cap r.q := (h2.rows r (by simp)).of_block rfl
  refine (find_any _ r.q tx _ (.inr ⟨r.g, r.cap, rfl, hrow1⟩)).mono ?_
  rintro e w2 ⟨rfl, hB2⟩
  rw [HQ.out]
  have hsz := hB.size
  simp at hsz
  have hB2' : Below w.heap.size w w2 := ((below_drewN (((Below.refl _ _).alloc (Nat.le_refl _) _).trans (hB.mono (by simp))) nq).trans (hB2.mono (by show w.heap.size ≤ w1.heap.size; omega)))
  have hT2 := h.below hB2'
  have hwlt : w.heap.size < w2.heap.size := by have : w1.heap.size ≤ w2.heap.size := hB2.size; omega
  have hbox2 : Blk w2 w.heap.size 46 #[.int .i64 k, .int .i64 o, .int .u32 p, .int .i64 s] := hbox.of_block (hB2.block _ (by show w.heap.size < w1.heap.size; omega))
  clear b0 b1 b2 b3 c0 hlk
  go_wp2_with fail
  refine (join_any _ _ _).mono ?_
  rintro e w' ⟨rfl, rfl⟩
  have hj := join0 hm
  have hne : (mode == 0) = false := by have := isMode_iff.1 hm; simp; omega
  go_wp2_with fail
  go_loopw [18, 61] (fun b i wr => ∃ k : Nat, k ≤ r.q.length ∧ i = .int .i64 k ∧ b = .bool (aheadP r.q 0 (-1) k) ∧ Below w2.heap.size w2 wr) (fun _ i _ => r.q.length - (intOf i).toNat)
  case atStart => exact ⟨0, Nat.zero_le _, rfl, rfl, Below.refl _ _⟩
  case round =>
    obtain ⟨j, hjle, rfl, rfl, hBr⟩ := hrel
    have hTr := hT2.below hBr
    have hrow := hTr.rows r (by simp)
    have hrc := hrow.le
    have hsr := hBr.size
    by_cases hlt : j < r.q.length
    · have c0 := hrow.c0 hlt
      have c1 := hrow.c1 hlt
      have c2 := hrow.c2 hlt
      have c3 := hrow.c3 hlt
      have hstep : aheadP r.q 0 (-1) (j + 1) = (aheadP r.q 0 (-1) j || aheadOne r.q[j] 0 (-1) j) := by simp [aheadP, hlt]
      have HS := Lib.hid hstep
      clear hstep
      cases hb : aheadP r.q 0 (-1) j with
      | true =>
        have HB := Lib.hid hb
        clear hb
        go_wp2_with fail
        go_roundw
        case rel => exact ⟨j + 1, by omega, by go_num, by rw [HS.out, HB.out]; rfl, hBr.alloc hsr _⟩
        case measure => simp [intOf]; omega
      | false =>
        have HB := Lib.hid hb
        clear hb
        by_cases hwz : r.q[j].wants = 0
        · have hwb : (r.q[j].wants != 0) = false := by simpa using hwz
          have HO : Hid (aheadOne r.q[j] 0 (-1) j = false) := Lib.hid (by simp [aheadOne, hwz])
          clear hwz
          go_wp2_with fail
          go_roundw
          case rel => exact ⟨j + 1, by omega, by go_num, by rw [HS.out, HB.out, HO.out]; rfl, hBr.alloc hsr _⟩
          case measure => simp [intOf]; omega
        · have hwb : (r.q[j].wants != 0) = true := by simpa using hwz
          have HO : Hid (aheadOne r.q[j] 0 (-1) j = true) := Lib.hid (by simp [aheadOne, hwz])
          clear hwz
          go_wp2_with fail
          go_roundw
          case rel => exact ⟨j + 1, by omega, by go_num, by rw [HS.out, HB.out, HO.out]; rfl, hBr.alloc hsr _⟩
          case measure => simp [intOf]; omega
    · obtain rfl : j = r.q.length := by omega
      have hw2 : w2.heap.size ≤ wr.heap.size := hBr.size
      go_wp2_with fail
      refine (may_any _ r.q tx mode _ (.inr ⟨r.g, r.cap, rfl, hrow⟩)).mono ?_
      rintro e w3 ⟨rfl, hB3⟩
      have hB3' : Below w.heap.size w w3 := (hB2'.trans (hBr.mono (by omega))).trans (hB3.mono (by omega))
      have hT3 := h.below hB3'
      have hw3 : wr.heap.size ≤ w3.heap.size := hB3.size
      have hbox3 : Blk w3 w.heap.size 46 #[.int .i64 k, .int .i64 o, .int .u32 p, .int .i64 s] := (hbox2.of_block (hBr.block _ (by omega))).of_block (hB3.block _ (by omega))
      have d0 := hT3.head.cell 0
      have d0' := hT3.head.cell 1
      have d1 := hbox3.cell 0
      have d2 := hbox3.cell 1
      have d3 := hbox3.cell 2
      have d4 := hbox3.cell 3
      simp at d0 d0' d1 d2 d3 d4
      have hTlt := hT3.head.lt
      have hTQ : T ≠ QB := h.kinds.1
      have hTW : T ≠ WB := h.kinds.2.1
      have hwQ : w.heap.size ≠ QB := fun e => by have := h.qm.lt; omega
      have hwW : w.heap.size ≠ WB := fun e => by have := h.wm.lt; omega
      have hTg : T ≠ r.g := fun e => (h.kinds.2.2 r (by simp)).1 e.symm
      have hwg : w.heap.size ≠ r.g := fun e => by have := (h.rows r (by simp)).lt; omega
      have hw3lt : w.heap.size < w3.heap.size := by omega
      obtain ⟨i0, hi0, hz0, hz1, hz2⟩ := info_parts infoAsk
      have hcap := hrow.max
      unfold maxLen at hcap
      have hown3 : w3.ownsRow 0 80 4 (.slice (some ⟨r.g, 0, none⟩) r.q.length r.cap) r.q.length (r.q.flatMap av) := (hT3.rows r (by simp)).own 0 (by omega)
      have HF := Lib.hid hB3'
      have HH := Lib.hid h
      clear hB3 hBr hB2 hB hB2' hB3' h1 h2 hT2 hTr hrow hrow1 hbox hbox2 h
      by_cases hcan : (mayS r.q tx mode && !aheadS r.q 0 (-1)) = true
      · have hmay : mayS r.q tx mode = true := by simp at hcan; exact hcan.1
        have hah : aheadP r.q 0 (-1) r.q.length = false := by simp at hcan; exact hcan.2
        have HC := Lib.hid hcan
        clear hcan
        cases inst with
        | true =>
          go_wp2_with fail
          go_ret2
          unfold NewPost
          rw [if_pos HC.out]
          exact ⟨rfl, HF.out⟩
        | false =>
          have hT4 : Tab (w3.alloc (.cells #[.int .i64 tx, .int .i64 mode, .int .i64 0, .bool false] 80)).drew T QB WB (R1 ++ r :: R2) W := hT3.below ((Below.refl _ _).alloc (Nat.le_refl _) _).drew
          go_wp2_with fail
          go_region_held3 (fun w' => w'.cell? ⟨T, 0, none⟩ = some (.map (some QB)) ∧ w'.cell? ⟨w.heap.size, 0, none⟩ = some (.int .i64 k) ∧ w'.cell? ⟨w.heap.size, 1, none⟩ = some (.int .i64 o) ∧
              w'.cell? ⟨w.heap.size, 2, none⟩ = some (.int .u32 p) ∧ w'.cell? ⟨w.heap.size, 3, none⟩ = some (.int .i64 s))
            ((go_split_ands; refine ⟨?_, ?_, ?_, ?_, ?_⟩ <;> first
              | go_keep
              | (rw [hgrow.cell_far _ (by simp; omega) (by simp [Value.ownBlock]; first | exact hTg | exact hwg)]; assumption)
              | (rw [World.cell?_of_block (hturn.block _ (by first | exact hTQ | exact hwQ))]; assumption)))
            ((refine step_append_lies _ (by rfl) _ _ _ (by rfl) 0 80 i0 _ 4 32 Tryz.underlying77 hi0 hz0 hz1 hz2 rfl (by omega) (.slice (some ⟨r.g, 0, none⟩) r.q.length r.cap) r.q.length (r.q.flatMap av) (by rfl) ((hown3.alloc _).drew)
                ⟨w3.heap.size, 0, none⟩ 1 1 [.int .i64 tx, .int .i64 mode, .int .i64 0, .bool false] (by rfl) (by rfl) (World.news_of_block (cs := #[.int .i64 tx, .int .i64 mode, .int .i64 0, .bool false]) (t := 80) (fr := (0, 0)) (heap_alloc_new w3 _)) (by simp [Value.oneCell'])
                (by omega) (by unfold maxLen; omega) (by omega) (by omega) (w3.heap.size + 1) (by simp) ?_; intro gg cap w4 hown hgrow hat hlt; obtain ⟨w5, hrun0, hT5, hturn⟩ := Tab.grow_old hT4 hgrow (a := ⟨tx, mode, 0, false⟩) hown (by rcases hat with h' | h' <;> simp [Value.ownBlock] at h' ⊢ <;> omega); rw [HN.out] at hrun0; have hrun : (Instr.mapUpdate 34 (.map (some QB)) (.agg #[.int .i64 k, .int .i64 o, .int .u32 p, .int .i64 s]) (.slice (some ⟨gg, 0, none⟩) (r.q.length + 1) cap)).run Tryz.prog w4 = .ok () w5 := hrun0; clear hrun0))
          go_wp2_with fail
          go_ret2
          unfold NewPost
          rw [if_pos HC.out]
          refine ⟨rfl, gg, cap, hT5, ?_, ?_⟩
          · have := HF.out.size
            rcases hat with h' | h'
            · left; simpa [Value.ownBlock] using h'.symm
            · right; omega
          · have k1 : Keeps w w3 (Foot T QB WB (R1 ++ r :: R2)) := .of_below HF.out _
            have k2 : Keeps w3 (w3.alloc (.cells #[.int .i64 tx, .int .i64 mode, .int .i64 0, .bool false] 80)).drew (Foot T QB WB (R1 ++ r :: R2)) := .of_below ((Below.refl _ _).alloc (Nat.le_refl _) _).drew _
            have k3 : Keeps (w3.alloc (.cells #[.int .i64 tx, .int .i64 mode, .int .i64 0, .bool false] 80)).drew w4 (Foot T QB WB (R1 ++ r :: R2)) := .of_grown hgrow (by
              intro k hk
              simp [Value.ownBlock] at hk
              exact .inr (.inr (.inr (by simp [← hk]))))
            have k4 : Keeps w4 w5 (Foot T QB WB (R1 ++ r :: R2)) := .of_turned hturn (.inr (.inl rfl))
            exact ((k1.trans k2 fun _ _ h => h).trans k3 fun _ _ h => h).trans k4 fun _ _ h => h
      · have hah : (mayS r.q tx mode = true ∧ aheadP r.q 0 (-1) r.q.length = true) ∨ mayS r.q tx mode = false := by
          cases h1 : mayS r.q tx mode
          · exact .inr rfl
          · left
            refine ⟨rfl, ?_⟩
            simp [h1] at hcan
            exact hcan
        have HC := Lib.hid hcan
        clear hcan
        cases wt with
        | false =>
          rcases hah with ⟨ha1, ha2⟩ | ha1
          all_goals
            go_wp2_with fail
            go_ret2
            unfold NewPost
            rw [if_neg HC.out]
            exact ⟨rfl, HF.out⟩
        | true =>
          have hT4 : Tab (w3.alloc (.cells #[.int .i64 tx, .int .i64 0, .int .i64 mode, .bool inst] 80)).drew T QB WB (R1 ++ r :: R2) W := hT3.below ((Below.refl _ _).alloc (Nat.le_refl _) _).drew
          rcases hah with ⟨ha1, ha2⟩ | ha1
          all_goals
            go_wp2_with fail
            go_region_held3 (fun w' => w'.cell? ⟨T, 0, none⟩ = some (.map (some QB)) ∧ w'.cell? ⟨w.heap.size, 0, none⟩ = some (.int .i64 k) ∧ w'.cell? ⟨w.heap.size, 1, none⟩ = some (.int .i64 o) ∧
                w'.cell? ⟨w.heap.size, 2, none⟩ = some (.int .u32 p) ∧ w'.cell? ⟨w.heap.size, 3, none⟩ = some (.int .i64 s))
              ((go_split_ands; refine ⟨?_, ?_, ?_, ?_, ?_⟩ <;> first
                | go_keep
                | (rw [hgrow.cell_far _ (by simp; omega) (by simp [Value.ownBlock]; first | exact hTg | exact hwg)]; assumption)
                | (rw [World.cell?_of_block (hturn.block _ (by first | exact hTQ | exact hwQ))]; assumption)))
              ((refine step_append_lies _ (by rfl) _ _ _ (by rfl) 0 80 i0 _ 4 32 Tryz.underlying77 hi0 hz0 hz1 hz2 rfl (by omega) (.slice (some ⟨r.g, 0, none⟩) r.q.length r.cap) r.q.length (r.q.flatMap av) (by rfl) ((hown3.alloc _).drew)
                  ⟨w3.heap.size, 0, none⟩ 1 1 [.int .i64 tx, .int .i64 0, .int .i64 mode, .bool inst] (by rfl) (by rfl) (World.news_of_block (cs := #[.int .i64 tx, .int .i64 0, .int .i64 mode, .bool inst]) (t := 80) (fr := (0, 0)) (heap_alloc_new w3 _)) (by simp [Value.oneCell'])
                  (by omega) (by unfold maxLen; omega) (by omega) (by omega) (w3.heap.size + 1) (by simp) ?_; intro gg cap w4 hown hgrow hat hlt; obtain ⟨w5, hrun0, hT5, hturn⟩ := Tab.grow_old hT4 hgrow (a := ⟨tx, 0, mode, inst⟩) hown (by rcases hat with h' | h' <;> simp [Value.ownBlock] at h' ⊢ <;> omega); rw [HN.out] at hrun0; have hrun : (Instr.mapUpdate 34 (.map (some QB)) (.agg #[.int .i64 k, .int .i64 o, .int .u32 p, .int .i64 s]) (.slice (some ⟨gg, 0, none⟩) (r.q.length + 1) cap)).run Tryz.prog w4 = .ok () w5 := hrun0; clear hrun0))
            have hT5d : Tab w5.drew T QB WB (R1 ++ ⟨r.n, gg, cap, r.q ++ [⟨tx, 0, mode, inst⟩]⟩ :: R2) W := hT5.below (Below.refl _ _).drew
            have hg34 := hgrow.size
            have hg5 := hturn.size
            simp at hg34
            have hbox5 : Blk w5 w.heap.size 46 #[.int .i64 k, .int .i64 o, .int .u32 p, .int .i64 s] :=
              ((hbox3.alloc (.cells #[.int .i64 tx, .int .i64 0, .int .i64 mode, .bool inst] 80)).of_block (hgrow.block w.heap.size (by simp; omega) (by simp [Value.ownBlock]; exact hwg))).of_block (hturn.block _ hwQ)
            have e0 := hT5.head.cell 1
            have e1 := hbox5.cell 0
            have e2 := hbox5.cell 1
            have e3 := hbox5.cell 2
            have e4 := hbox5.cell 3
            simp at e0 e1 e2 e3 e4
            have hlt5 := hbox5.lt
            obtain ⟨w6, hrun0, hT6, hturn6⟩ := hT5d.wait HW.out r.n
            rw [HN.out] at hrun0
            have hrun6 : (Instr.mapUpdate 35 (.map (some WB)) (.int .i64 tx) (.agg #[.int .i64 k, .int .i64 o, .int .u32 p, .int .i64 s])).run Tryz.prog w5.drew = .ok () w6 := hrun0
            clear hrun0 hrun
            go_wp2_with fail
            go_region_held3 (fun w' => w'.cell? ⟨T, 1, none⟩ = some (.map (some WB)) ∧ w'.cell? ⟨w.heap.size, 0, none⟩ = some (.int .i64 k) ∧ w'.cell? ⟨w.heap.size, 1, none⟩ = some (.int .i64 o) ∧
                w'.cell? ⟨w.heap.size, 2, none⟩ = some (.int .u32 p) ∧ w'.cell? ⟨w.heap.size, 3, none⟩ = some (.int .i64 s))
              ((go_split_ands; refine ⟨?_, ?_, ?_, ?_, ?_⟩ <;> first
                | go_keep
                | (rw [World.cell?_of_block (hturn6.block _ (by first | exact hTW | exact hwW))]; assumption)))
              (fail)
            go_wp2_with fail
            go_ret2
            unfold NewPost
            rw [if_neg HC.out]
            refine ⟨rfl, gg, cap, hT6, ?_, ?_⟩
            · have := HF.out.size
              rcases hat with h' | h'
              · left; simpa [Value.ownBlock] using h'.symm
              · right; omega
            · have k1 : Keeps w w3 (Foot T QB WB (R1 ++ r :: R2)) := .of_below HF.out _
              have k2 : Keeps w3 (w3.alloc (.cells #[.int .i64 tx, .int .i64 0, .int .i64 mode, .bool inst] 80)).drew (Foot T QB WB (R1 ++ r :: R2)) := .of_below ((Below.refl _ _).alloc (Nat.le_refl _) _).drew _
              have k3 : Keeps (w3.alloc (.cells #[.int .i64 tx, .int .i64 0, .int .i64 mode, .bool inst] 80)).drew w4 (Foot T QB WB (R1 ++ r :: R2)) := .of_grown hgrow (by
                intro k hk
                simp [Value.ownBlock] at hk
                exact .inr (.inr (.inr (by simp [← hk]))))
              have k4 : Keeps w4 w5 (Foot T QB WB (R1 ++ r :: R2)) := .of_turned hturn (.inr (.inl rfl))
              have k5 : Keeps w5 w5.drew (Foot T QB WB (R1 ++ r :: R2)) := .of_below (Below.refl _ _).drew _
              have k6 : Keeps w5.drew w6 (Foot T QB WB (R1 ++ r :: R2)) := .of_turned hturn6 (.inr (.inr (.inl rfl)))
              exact ((((k1.trans k2 fun _ _ h => h).trans k3 fun _ _ h => h).trans k4 fun _ _ h => h).trans k5 fun _ _ h => h).trans k6 fun _ _ h => h
end
end Go.Proofs.YtcdlplbccblbaaaGreat
