import Derived.Test.YtpggillecedocaaTr
import Derived.Test.YtpggillecedocaaW
namespace Go.Proofs.Ytpggillecedocaa
open Go.RowKit
set_option linter.unusedVariables false

/-- v holds these numbers. -/
def RowV (w : World) (v : Value) (l : List Int) : Prop :=
  ∃ a c, v = .slice a l.length c ∧ l.length ≤ 1000000 ∧ (l = [] ∨ ∃ g cur, a = some ⟨g, 0, none⟩ ∧ Blk w g 3 cur ∧ cur.toList.take l.length = l.map iv)
theorem RowV.of_ints {w : World} {base : Nat} {v : Value} {l : List Int} (h : IntsAt w base v l) (hl : l.length ≤ 1000000) : RowV w v l := by
  rcases h.1.2 with ⟨rfl, h0⟩ | ⟨g, cap, cur, rfl, _, hb, _, _, _, ht⟩
  · exact ⟨none, 0, by rw [h0], hl, .inl (List.length_eq_zero_iff.1 h0)⟩
  · exact ⟨_, _, rfl, hl, .inr ⟨g, cur, rfl, hb, by simpa using ht⟩⟩
theorem RowV.frame {B : Nat} {w w' : World} {v : Value} {l : List Int} (h : RowV w v l) (hf : Frame B w w') : RowV w' v l := by
  obtain ⟨a, c, e, hl, h⟩ := h
  refine ⟨a, c, e, hl, ?_⟩
  rcases h with h | ⟨g, cur, e2, hb, ht⟩
  · exact .inl h
  · exact .inr ⟨g, cur, e2, hf.others _ _ _ (by decide) (by decide) hb, ht⟩
theorem RowV.below {w w' : World} {v : Value} {l : List Int} (h : RowV w v l) (hb : Below w.heap.size w w') : RowV w' v l := h.frame (.of_below (Nat.le_refl _) hb)
theorem RowV.cell {w : World} {v : Value} {l : List Int} (h : RowV w v l) {i : Nat} (hi : i < l.length) : ∃ g c, v = .slice (some ⟨g, 0, none⟩) l.length c ∧ w.cell? ⟨g, i, none⟩ = some (.int .i64 l[i]) := by
  obtain ⟨a, c, e, hl, h⟩ := h
  rcases h with h | ⟨g, cur, e2, hb, ht⟩
  · rw [h] at hi; simp at hi
  · subst e2
    refine ⟨g, c, e, ?_⟩
    rw [hb.cell]
    have h1 : (cur.toList.take l.length)[i]? = (l.map iv)[i]? := by rw [ht]
    rw [List.getElem?_take_of_lt hi, Array.getElem?_toList, List.getElem?_map, List.getElem?_eq_getElem hi] at h1
    exact h1
theorem RowV.nil (w : World) (a : Option Addr) (c : Nat) : RowV w (.slice a 0 c) [] := ⟨a, c, rfl, by simp, .inl rfl⟩

/-- The row of those asked for: grown. -/
def OrdAt (w : World) (base : Nat) (v : Value) (l : List Int) : Prop := w.ownsRow base 3 1 v l.length (l.map iv)
theorem OrdAt.start (w : World) : OrdAt (w.alloc (.cells #[] 3)) w.heap.size (.slice (some ⟨w.heap.size, 0, none⟩) 0 0) [] :=
  ⟨rfl, .inr ⟨w.heap.size, 0, #[], rfl, Nat.le_refl _, (MapKept.heap_alloc w _).1, Nat.le_refl _, by simp, rfl, rfl⟩⟩
theorem OrdAt.frame {B : Nat} {w w' : World} {base : Nat} {v : Value} {l : List Int} (h : OrdAt w base v l) (hf : Frame B w w') : OrdAt w' base v l := by
  refine ⟨h.1, ?_⟩
  rcases h.2 with h0 | ⟨g', cap', cur, hv, hg, hb', r1⟩
  · exact .inl h0
  · exact .inr ⟨g', cap', cur, hv, hg, hf.others g' 3 cur (by decide) (by decide) hb', r1⟩
theorem OrdAt.row {w : World} {base : Nat} {v : Value} {l : List Int} (h : OrdAt w base v l) (hl : l.length ≤ 1000000) : RowV w v l := by
  rcases h.2 with ⟨rfl, h0⟩ | ⟨g, cap, cur, rfl, _, hb, _, _, _, ht⟩
  · exact ⟨none, 0, by rw [h0], hl, .inl (List.length_eq_zero_iff.1 h0)⟩
  · exact ⟨_, _, rfl, hl, .inr ⟨g, cur, rfl, hb, by simpa using ht⟩⟩

theorem OrdAt.grown {B base : Nat} {w w' : World} {T QB WB : Nat} {L : List (Nm × List Ak)} {W : List (Int × Nm)} {v : Value} {l : List Int} (h : OrdAt w base v l) (hB : B ≤ base) (hBw : B ≤ w.heap.size) (hT : TA B w T QB WB L W) (hg : w.grownBy w' v.ownBlock) :
    TA B w' T QB WB L W ∧ Below B w w' ∧ ∀ k t cs, t ≠ 3 → Blk w k t cs → Blk w' k t cs := by
  have hv : ∀ k, some k = v.ownBlock → ∃ cs, Blk w k 3 cs ∧ base ≤ k := by
    intro k e
    rcases h.2 with ⟨rfl, _⟩ | ⟨g2, cap2, cur, rfl, hg2, hb2, _⟩
    · simp [Value.ownBlock] at e
    · obtain rfl : k = g2 := by simpa [Value.ownBlock] using e
      exact ⟨cur, hb2, hg2⟩
  obtain ⟨R, ht, hm, hf⟩ := hT
  refine ⟨⟨R, ht.of_blocks fun k hk => hg.block k (ht.foot_lt hk) (fun e => ?_), hm, hf⟩, ⟨hg.os, hg.tape, hg.output, hg.size, fun k hk => hg.block k (by omega) (fun e => ?_)⟩, fun k t cs hne hb => hb.of_block (hg.block k hb.lt (fun e => ?_))⟩
  · obtain ⟨cs, hb, _⟩ := hv k e
    exact ht.not_foot hb (by decide) (by decide) hk
  · obtain ⟨cs, _, h2⟩ := hv k e
    omega
  · obtain ⟨cs2, hb2, _⟩ := hv k e
    unfold Blk at hb hb2
    rw [hb] at hb2
    simp at hb2
    exact hne hb2.2

theorem mode_of (x : Int) : isMode (wrap64 ((wrap64 (x.tmod 5 + 5)).tmod 5 + 1)) = true := by
  have h1 : -5 < x.tmod 5 := Int.lt_tmod_of_pos x (by decide)
  have h2 : x.tmod 5 < 5 := Int.tmod_lt_of_pos x (by decide)
  have h3 : wrap64 (x.tmod 5 + 5) = x.tmod 5 + 5 := by simp [wrap64]; omega
  rw [h3]
  have h4 : 0 ≤ (x.tmod 5 + 5).tmod 5 := Int.tmod_nonneg _ (by omega)
  have h5 : (x.tmod 5 + 5).tmod 5 < 5 := Int.tmod_lt_of_pos _ (by decide)
  have h6 : wrap64 ((x.tmod 5 + 5).tmod 5 + 1) = (x.tmod 5 + 5).tmod 5 + 1 := by simp [wrap64]; omega
  rw [h6, isMode_iff]
  omega
theorem fits_first {ms : List Int} (h : ms.length ≤ 12) : Fits 1000 (one (firstQ ms)) := by
  rw [one_ne (by simp [firstQ])]
  refine ⟨by simp, fun p hp => ?_⟩
  simp only [List.mem_singleton] at hp
  subst hp
  simp [firstQ, wt_len]
  omega

/-- The numbers that came in. -/
def NumsAt (w : World) (A : Option Addr) (l : List Int) : Prop := ∀ k (h : k < l.length), ∃ ad, A = some ad ∧ ad.block < w.heap.size ∧ w.cell? (ad.add k) = some (.int .i64 l[k])

theorem waits_ta {B : Nat} {w : World} {T QB WB : Nat} {L : List (Nm × List Ak)} {W : List (Int × Nm)} (h : TA B w T QB WB L W) (tx : Int) :
    Calls Try.prog 19 #[.pointer (some ⟨T, 0, none⟩), .int .i64 tx] w fun e w' => e = .returned (.bool (wOf W tx).isSome) ∧ Below w.heap.size w w' := by
  obtain ⟨R, ht, _⟩ := h
  exact waits_any ht tx
/-- Has one of the first so many the lock? -/
def anyHas (L : List (Nm × List Ak)) : Nat → Bool
  | 0 => false
  | k + 1 => anyHas L k || hasQ (qL L nT) ((k : Int) + 2) != 0
theorem anyHas_of {L : List (Nm × List Ak)} {j b : Nat} (hj : j < b) (h : hasQ (qL L nT) ((j : Int) + 2) ≠ 0) : anyHas L b = true := by
  induction b with
  | zero => omega
  | succ b ih =>
    unfold anyHas
    by_cases hjb : j = b
    · subst hjb
      have : (hasQ (qL L nT) ((j : Int) + 2) != 0) = true := by simpa using h
      rw [this, Bool.or_true]
    · rw [ih (by omega), Bool.true_or]

set_option maxRecDepth 100000 in
set_option maxHeartbeats 4000000 in
theorem turns_any (l : List Int) (A : Option Addr) (cap : Nat) (w : World) (hA : NumsAt w A l) (hl : l.length ≤ 9223372036854775807) :
    Calls Try.prog 4 #[.slice A l.length cap] w fun e w' => e = .returned (.bool true) ∧ Below w.heap.size w w' := by
  obtain ⟨i0, hi0, hz0, hz1, hz2⟩ := info_parts infoInt
  go_enter Try.func4, Try.ntmps4
  go_wp2_with fail
  refine (new_any w).mono ?_
  rintro e w1 ⟨rfl, hT1, hB1⟩
  obtain ⟨T, hTd⟩ : ∃ T, T = w.heap.size + 2 := ⟨_, rfl⟩
  obtain ⟨QB, hQd⟩ : ∃ QB, QB = w.heap.size := ⟨_, rfl⟩
  obtain ⟨WB, hWd⟩ : ∃ WB, WB = w.heap.size + 1 := ⟨_, rfl⟩
  have hTA1 : TA w.heap.size w1 T QB WB [] [] := by
    refine ⟨[], by rw [hTd, hQd, hWd]; exact hT1, rfl, fun k hk => ?_⟩
    rcases hk with h | h | h | h
    · omega
    · omega
    · omega
    · simp at h
  rw [← hTd]
  clear hTd hQd hWd hT1
  obtain ⟨w2, hw2⟩ : ∃ w2, w2 = w1.alloc (.cells #[.int .i64 2, .int .i64 1, .int .u32 0, .int .i64 0] 34) := ⟨_, rfl⟩
  have hB2 : Below w1.heap.size w1 w2 := by rw [hw2]; exact (Below.refl _ _).alloc (Nat.le_refl _) _
  have hbn : Blk w2 w1.heap.size 34 #[.int .i64 2, .int .i64 1, .int .u32 0, .int .i64 0] := by rw [hw2]; exact Blk.new _ _ _
  have hTA2 := hTA1.below hB2
  have hBw2 : Below w.heap.size w w2 := hB1.trans (hB2.mono hB1.size)
  obtain ⟨Bn, hBn⟩ : ∃ Bn, Bn = w1.heap.size := ⟨_, rfl⟩
  have hcon := ask_ta hTA2 ⟨by simp, by simp⟩ 1 5 2 1 0 0 false true
  have hask : ask [] [] 1 ⟨2, 1, 0, 0⟩ 5 false true = _ := ask_first
  rw [hask] at hcon
  go_wp2_with fail
  rw [← hw2]
  refine hcon.mono ?_
  rintro e w3 ⟨rfl, hTA3, hF3⟩
  have hbn3 := hF3.others _ _ _ (by decide) (by decide) hbn
  have hBw3 := hBw2.trans hF3.below
  rw [← hBn] at hbn3 ⊢
  clear hbn hcon hask hw2 hBn
  go_wp2_with fail
  refine (awake_any _).mono ?_
  rintro e w4 ⟨rfl, hB4⟩
  have hTA4 := hTA3.below hB4
  have hbn4 := hbn3.of_block (hB4.block _ hbn3.lt)
  have hBw4 : Below w.heap.size w w4 := hBw3.trans (hB4.mono hBw3.size)
  obtain ⟨w5, hw5⟩ : ∃ w5, w5 = w4.alloc (.cells #[] 3) := ⟨_, rfl⟩
  have hB5 : Below w4.heap.size w4 w5 := by rw [hw5]; exact (Below.refl _ _).alloc (Nat.le_refl _) _
  have hO5 : OrdAt w5 w4.heap.size (.slice (some ⟨w4.heap.size, 0, none⟩) 0 0) [] := by rw [hw5]; exact OrdAt.start w4
  have hTA5 := hTA4.below hB5
  have hbn5 := hbn4.of_block (hB5.block _ hbn4.lt)
  have hBw5 : Below w.heap.size w w5 := hBw4.trans (hB5.mono hBw4.size)
  obtain ⟨bs, hbs⟩ : ∃ bs, bs = w4.heap.size := ⟨_, rfl⟩
  go_wp2_with fail
  rw [← hw5]
  rw [← hbs] at hO5
  have hbw : w.heap.size ≤ bs := by rw [hbs]; exact hBw4.size
  have hbs5 : bs ≤ w5.heap.size := by rw [hbs]; exact hB5.size
  clear hw5
  go_loopw [7, 8] (fun v j wr => ∃ (i : Nat) (ms : List Int), i ≤ l.length ∧ i ≤ 12 ∧ ms.length = i ∧ j = .int .i64 i ∧ modesOk ms ∧ TA w.heap.size wr T QB WB (one (firstQ ms)) (ws (nos 0 ms.length)) ∧ Below w.heap.size w wr ∧ Blk wr Bn 34 #[.int .i64 2, .int .i64 1, .int .u32 0, .int .i64 0] ∧ OrdAt wr bs v ms ∧ bs ≤ wr.heap.size) (fun _ j _ => 12 - (intOf j).toNat)
  case atStart => exact ⟨0, [], by omega, by omega, rfl, rfl, fun m hm => by simp at hm, hTA5, hBw5, hbn5, by rw [hbs] at hO5 ⊢; exact hO5, hbs5⟩
  case round =>
    obtain ⟨i, ms, hil, hi12, hml, rfl, hmo, hTA, hB, hbn, hO, hbs6⟩ := hrel
    by_cases hgo : i < l.length ∧ i < 12
    · have hlt := hgo.1
      have hlt2 := hgo.2
      obtain ⟨ad, rfl, hadl, a0⟩ := hA i hlt
      have a1 : wr.cell? (ad.add i) = some (.int .i64 l[i]) := (hB.cell (by rw [show (ad.add i).block = ad.block from by unfold Addr.add; split <;> rfl]; exact hadl)).trans a0
      have b0 := hbn.cell 0
      have b1 := hbn.cell 1
      have b2 := hbn.cell 2
      have b3 := hbn.cell 3
      simp at b0 b1 b2 b3
      obtain ⟨mv, hmv⟩ : ∃ mv, mv = wrap64 ((wrap64 (l[i].tmod 5 + 5)).tmod 5 + 1) := ⟨_, rfl⟩
      have hmm : isMode mv = true := by rw [hmv]; exact mode_of l[i]
      have hmo2 : modesOk (ms ++ [mv]) := fun m hm => by
        rw [List.mem_append, List.mem_singleton] at hm
        rcases hm with hm | rfl
        · exact hmo m hm
        · exact hmm
      have hcon := ask_ta hTA (fits_first (by omega)) ((ms.length : Int) + 2) mv 2 1 0 0 false true
      have hask : ask (one (firstQ ms)) (ws (nos 0 ms.length)) ((ms.length : Int) + 2) ⟨2, 1, 0, 0⟩ mv false true = _ := ask_turn hmm
      rw [hask, hml] at hcon
      go_wp2_with fail
      rw [← hmv]
      clear hmv
      refine hcon.mono ?_
      rintro e w6 ⟨rfl, hTA6, hF6⟩
      have hB6 := hB.trans hF6.below
      have hbn6 := hF6.others _ _ _ (by decide) (by decide) hbn
      have hO6 := hO.frame hF6
      have hs6 := hF6.below.size
      have hTA6' : TA w.heap.size w6 T QB WB (one (firstQ (ms ++ [mv]))) (ws (nos 0 (ms ++ [mv]).length)) := hTA6
      clear b0 b1 b2 b3 hcon hask
      go_wp2_with (at_builtin; refine wpList_append_own_at _ rfl _ _ 26 rfl bs 3 i0 _ 1 8 Try.underlying26 hi0 hz0 hz1 hz2 rfl (by decide) _ _ _ rfl (hO6.alloc _) ⟨w6.heap.size, 0, none⟩ 1 1 [.int .i64 mv] rfl rfl (cell_one_new _ _ _) (by simp [Value.oneCell']) (by unfold maxLen; omega) (by omega) (by simp; omega) ?_; intro v' w8 hown8 hgr8 hnil8 _)
      have hBx : Below w6.heap.size w6 (w6.alloc (.cells #[.int .i64 mv] 3)) := (Below.refl _ _).alloc (Nat.le_refl _) _
      have hOx : OrdAt (w6.alloc (.cells #[.int .i64 mv] 3)) bs u7 ms := hO6.alloc _
      have hgr9 : (w6.alloc (.cells #[.int .i64 mv] 3)).grownBy w8 u7.ownBlock := hgr8
      obtain ⟨hT8, hBe8, hk8⟩ := hOx.grown hbw (by simp; omega) (hTA6'.below hBx) hgr9
      have hO8 : OrdAt w8 bs v' (ms ++ [mv]) := by
        unfold OrdAt
        rw [List.length_append, List.map_append]
        exact hown8
      have hB8 : Below w.heap.size w w8 := (hB6.trans (hBx.mono hB6.size)).trans hBe8
      have hbn8 := hk8 _ _ _ (by decide) (hbn6.of_block (hBx.block _ hbn6.lt))
      have hs8 : bs ≤ w8.heap.size := by have := hgr9.size; simp at this; omega
      go_roundw
      case rel => exact ⟨i + 1, ms ++ [mv], by omega, by omega, by simp [hml], by go_num, hmo2, hT8, hB8, hbn8, hO8, hs8⟩
      case measure => simp [intOf]; omega
    · have hml12 : ms.length ≤ 12 := by omega
      have hge12 : ¬ (i < l.length ∧ i < 12) := hgo
      have HML := Lib.hid hml
      clear hA hml
      by_cases hlt : i < l.length
      all_goals
        try have h12 : ¬ i < 12 := by omega
        have hcon := release_ta hTA (fits_first hml12) 1
        go_wp2_with fail
        refine hcon.mono ?_
        rintro e w2 ⟨vw, rfl, hi2, hTA2, hF2⟩
        obtain ⟨k, G0, hk, hout, hts, hnew⟩ := first_release hmo
        obtain ⟨L2, hL2⟩ : ∃ L2, L2 = (rel 1 (one (firstQ ms)) (ws (nos 0 ms.length))).L := ⟨_, rfl⟩
        obtain ⟨W2, hW2⟩ : ∃ W2, W2 = (rel 1 (one (firstQ ms)) (ws (nos 0 ms.length))).W := ⟨_, rfl⟩
        have hfit2 : Fits 1000 L2 := by rw [hL2]; exact (fits_first hml12).rel 1 _
        rw [← hL2, ← hW2] at hts hTA2
        rw [← hL2] at hnew
        rw [hout] at hi2
        have hrw : RowV w2 vw (nos 0 k) := .of_ints hi2 (by rw [nos_len]; omega)
        have hro : RowV w2 u7 ms := (hO.row (by omega)).frame hF2
        have hbn2 := hF2.others _ _ _ (by decide) (by decide) hbn
        have hBw2' := hB.trans hF2.below
        clear hcon hL2 hW2 hout hi2 hF2 hTA hB hbn hO hbs6
        go_wp2_with fail
        go_loopw [12, 13, 14] (fun nx wv tn wr => ∃ (nxt b t : Nat) (G : List Ak) (L : List (Nm × List Ak)) (W : List (Int × Nm)), t ≤ 20 ∧ nxt ≤ b ∧ nx = .int .i64 nxt ∧ tn = .int .i64 t ∧ TS ms b G L W ∧ Fits 1000 L ∧ TA w.heap.size wr T QB WB L W ∧ Below w.heap.size w wr ∧
            Blk wr Bn 34 #[.int .i64 2, .int .i64 1, .int .u32 0, .int .i64 0] ∧ RowV wr u7 ms ∧ RowV wr wv (nos nxt (b - nxt)) ∧ ∀ j : Nat, nxt ≤ j → j < b → ms[j]? = some (hasQ (qL L nT) ((j : Int) + 2))) (fun _ _ tn _ => 20 - (intOf tn).toNat)
        case atStart => exact ⟨0, 0 + k, 0, G0, L2, W2, by omega, by omega, rfl, rfl, hts, hfit2, hTA2, hBw2', hbn2, hro, by simpa using hrw, hnew⟩
        case round =>
          obtain ⟨nxt, b, t, G, L, W, ht20, hnb, rfl, rfl, hts, hfit, hTA, hB, hbn, hro, hrw, hnew⟩ := hrel
          obtain ⟨d, hd⟩ : ∃ d, b = nxt + d := ⟨b - nxt, by omega⟩
          rw [show b - nxt = d by omega] at hrw
          have hd1 : b ≤ nxt + d := by omega
          have hd2 : nxt + d ≤ b := by omega
          have HD := Lib.hid hd
          clear hd
          by_cases ht : t < 20
          · have hdt : decide ((t : Int) < 20) = true := by simp; omega
            have hb12 : b ≤ 12 := Nat.le_trans hts.le hml12
            obtain ⟨ao, co, rfl, -, -⟩ := id hro
            obtain ⟨aw, cw, rfl, -, -⟩ := id hrw
            simp only [nos_len] at hrw ⊢
            go_wp2_with fail
            go_loopw [12, 15] (fun nx ii wr => ∃ i : Nat, i ≤ d ∧ nx = .int .i64 (nxt + i : Nat) ∧ ii = .int .i64 i ∧ TA w.heap.size wr T QB WB L W ∧ Below w.heap.size w wr ∧
                Blk wr Bn 34 #[.int .i64 2, .int .i64 1, .int .u32 0, .int .i64 0] ∧ RowV wr (.slice ao ms.length co) ms ∧ RowV wr (.slice aw d cw) (nos nxt d)) (fun _ ii _ => d - (intOf ii).toNat)
            case atStart => exact ⟨0, by omega, rfl, rfl, hTA, hB, hbn, hro, hrw⟩
            case round =>
              obtain ⟨i, hi, rfl, rfl, hTA, hB, hbn, hro, hrw⟩ := hrel
              by_cases hlt3 : i < d
              · obtain ⟨gw, cw2, hwe, x0⟩ := hrw.cell (i := i) (by rw [nos_len]; exact hlt3)
                rw [nos_len] at hwe
                obtain ⟨rfl, rfl⟩ : aw = some ⟨gw, 0, none⟩ ∧ cw = cw2 := by simpa using hwe
                rw [nos_get hlt3] at x0
                have htxe : (nxt : Int) + i + 2 = ((nxt + i : Nat) : Int) + 2 := by push_cast; omega
                rw [htxe] at x0
                have hjm : nxt + i < ms.length := by have := hts.le; omega
                obtain ⟨go, co2, hoe, x1⟩ := hro.cell hjm
                obtain ⟨rfl, rfl⟩ : ao = some ⟨go, 0, none⟩ ∧ co = co2 := by simpa using hoe
                obtain ⟨n1, hn1⟩ : ∃ n1, n1 = nxt + i := ⟨_, rfl⟩
                have hmj := hnew n1 (by omega) (by omega)
                simp only [← hn1] at x0 x1 hjm htxe ⊢
                rw [List.getElem?_eq_getElem hjm, Option.some.injEq] at hmj
                rw [hmj] at x1
                have HN1 := Lib.hid hn1
                clear hn1 hmj
                have hn12 : n1 < 12 := by omega
                have hji0 : (0 : Int) ≤ (n1 : Int) := by omega
                have hjil : (n1 : Int) < (ms.length : Int) := by omega
                have hii0 : (0 : Int) ≤ (i : Int) := by omega
                have hiil : (i : Int) < (d : Int) := by omega
                have hne0 : (((n1 : Int) + 2) != ((n1 : Int) + 2)) = false := by simp
                have hwr2 : IntKind.i64.wrap ((n1 : Int) + 2) = (n1 : Int) + 2 := by simp [IntKind.wrap, IntKind.bits, IntKind.signed]; omega
                obtain ⟨hv, hhv⟩ : ∃ hv, hv = hasQ (qL L nT) ((n1 : Int) + 2) := ⟨_, rfl⟩
                have hcon : Calls Try.prog 18 #[.pointer (some ⟨T, 0, none⟩), .int .i64 ((n1 : Int) + 2), .agg #[.int .i64 2, .int .i64 1, .int .u32 0, .int .i64 0]] wr.drew fun e w' => e = .returned (.int .i64 hv) ∧ Below wr.drew.heap.size wr.drew w' := by
                  rw [hhv]; exact has_ta (hTA.below (Below.refl _ _).drew) ((n1 : Int) + 2) 2 1 0 0
                rw [← hhv] at x1
                have hneh : (hv != hv) = false := by simp
                clear hhv
                have b0 := hbn.cell 0
                have b1 := hbn.cell 1
                have b2 := hbn.cell 2
                have b3 := hbn.cell 3
                simp at b0 b1 b2 b3
                have HK : Hid (∀ w8, Below wr.drew.heap.size wr.drew w8 → w8.cell? ⟨gw, i, none⟩ = some (.int .i64 ((n1 : Int) + 2)) ∧ w8.cell? ⟨go, n1, none⟩ = some (.int .i64 hv) ∧ w8.cell? ⟨Bn, 0, none⟩ = some (.int .i64 2) ∧ w8.cell? ⟨Bn, 1, none⟩ = some (.int .i64 1) ∧ w8.cell? ⟨Bn, 2, none⟩ = some (.int .u32 0) ∧ w8.cell? ⟨Bn, 3, none⟩ = some (.int .i64 0)) :=
                  Lib.hid (fun w8 hb => ⟨(hb.cell (World.block_lt_of_cell? _ _ x0)).trans x0, (hb.cell (World.block_lt_of_cell? _ _ x1)).trans x1, (hb.cell hbn.lt).trans b0, (hb.cell hbn.lt).trans b1, (hb.cell hbn.lt).trans b2, (hb.cell hbn.lt).trans b3⟩)
                go_wp2_with fail
                go_region_held3 (fun w' => w'.cell? ⟨gw, i, none⟩ = some (.int .i64 ((n1 : Int) + 2)) ∧ w'.cell? ⟨go, n1, none⟩ = some (.int .i64 hv) ∧ w'.cell? ⟨Bn, 0, none⟩ = some (.int .i64 2) ∧ w'.cell? ⟨Bn, 1, none⟩ = some (.int .i64 1) ∧ w'.cell? ⟨Bn, 2, none⟩ = some (.int .u32 0) ∧ w'.cell? ⟨Bn, 3, none⟩ = some (.int .i64 0))
                  (first
                    | (go_split_ands; refine ⟨?_, ?_, ?_, ?_, ?_, ?_⟩ <;> go_keep)
                    | exact HK.out _ hB8)
                  ((go_at_call 18; refine hcon.mono ?_; rintro e w8 ⟨rfl, hB8⟩))
                clear hwr2 hne0 hneh hcon HK
                go_wp2_with fail
                have hF8 : Frame w.heap.size wr w8 := .of_below hB.size ((Below.refl _ _).drew.trans hB8)
                go_roundw
                case rel => exact ⟨i + 1, by omega, by rw [HN1.out]; go_num, by go_num, (hTA.below (Below.refl _ _).drew).below hB8, hB.trans hF8.below, hF8.others _ _ _ (by decide) (by decide) hbn, hro.frame hF8, hrw.frame hF8⟩
                case measure => simp [intOf]; omega
              · have hie : nxt + i = b := by omega
                rw [hie]
                clear hie
                by_cases hall : b = ms.length
                · subst hall
                  go_wp2_with fail
                  go_ret
                  exact ⟨rfl, hB⟩
                · have hbl : b < ms.length := by have := hts.le; omega
                  have hbe : ((b : Int) == (ms.length : Int)) = false := by rw [beq_eq_false_iff_ne]; omega
                  have hwt := hts.waits hbl
                  have hcon := waits_ta hTA ((b : Int) + 2)
                  rw [hwt] at hcon
                  obtain ⟨j0, hj0, -⟩ := hts.some hbl
                  have hb0 : ((b : Int) == 0) = false := by rw [beq_eq_false_iff_ne]; omega
                  clear hwt hnew hall
                  go_wp2_with fail
                  refine hcon.mono ?_
                  rintro e w4 ⟨rfl, hB4⟩
                  have hF4 : Frame w.heap.size wr w4 := .of_below hB.size hB4
                  have hTA4' := hTA.below hB4
                  have hB4' := hB.trans hF4.below
                  have hbn4' := hF4.others _ _ _ (by decide) (by decide) hbn
                  have hro4 := hro.frame hF4
                  clear hcon hbn hB hTA hro hrw hF4 hd1 hd2 hnb
                  obtain ⟨w5, hw5⟩ : ∃ w5, w5 = w4.alloc (.cells #[] 3) := ⟨_, rfl⟩
                  have hB5' : Below w4.heap.size w4 w5 := by rw [hw5]; exact (Below.refl _ _).alloc (Nat.le_refl _) _
                  have hF5 : Frame w.heap.size w4 w5 := .of_below hB4'.size hB5'
                  have hTA5' := hTA4'.below hB5'
                  have hB5'' := hB4'.trans hF5.below
                  have hbn5' := hF5.others _ _ _ (by decide) (by decide) hbn4'
                  have hro5 := hro4.frame hF5
                  go_wp2_with fail
                  rw [← hw5]
                  clear hw5
                  obtain ⟨N4, hN4⟩ : ∃ N4, N4 = w4.heap.size := ⟨_, rfl⟩
                  rw [← hN4]
                  clear hN4 hTA4' hB4' hbn4' hro4 hF5 hB5' hB4
                  go_loopw [13, 16] (fun wv txv wr => ∃ (jj d2 : Nat) (G : List Ak) (L : List (Nm × List Ak)) (W : List (Int × Nm)), jj ≤ b ∧ txv = .int .i64 (jj + 2 : Nat) ∧ TS ms (b + d2) G L W ∧ Fits 1000 L ∧ TA w.heap.size wr T QB WB L W ∧ Below w.heap.size w wr ∧
                      Blk wr Bn 34 #[.int .i64 2, .int .i64 1, .int .u32 0, .int .i64 0] ∧ RowV wr (.slice ao ms.length co) ms ∧ RowV wr wv (nos b d2) ∧ Hid (∀ j : Nat, b ≤ j → j < b + d2 → ms[j]? = some (hasQ (qL L nT) ((j : Int) + 2)))) (fun _ txv _ => b + 2 - (intOf txv).toNat)
                  case atStart => exact ⟨0, 0, G, L, W, by omega, rfl, hts, hfit, hTA5', hB5'', hbn5', hro5, by simpa [nos] using RowV.nil w5 (some ⟨N4, 0, none⟩) 0, Lib.hid (fun j h1 h2 => by omega)⟩
                  case round =>
                    clear hts hfit hTA5' hB5'' hbn5' hro5
                    obtain ⟨jj, d2, G, L, W, hjj, rfl, hts, hfit, hTA, hB, hbn, hro, hrw, HNEW⟩ := hrel
                    obtain ⟨aw2, cw2, rfl, -, -⟩ := id hrw
                    simp only [nos_len] at hrw ⊢
                    by_cases hgo2 : jj < b ∧ d2 = 0
                    · obtain ⟨hj1, rfl⟩ := hgo2
                      have hlt2 : ((jj + 2 : Nat) : Int) < (b : Int) + 2 := by push_cast; omega
                      have b0 := hbn.cell 0
                      have b1 := hbn.cell 1
                      have b2 := hbn.cell 2
                      have b3 := hbn.cell 3
                      simp at b0 b1 b2 b3
                      have hcon := has_ta hTA ((jj : Int) + 2) 2 1 0 0
                      obtain ⟨hv, hhv⟩ : ∃ hv, hv = hasQ (qL L nT) ((jj : Int) + 2) := ⟨_, rfl⟩
                      have hcon2 : Calls Try.prog 18 #[.pointer (some ⟨T, 0, none⟩), .int .i64 ((jj : Int) + 2), .agg #[.int .i64 2, .int .i64 1, .int .u32 0, .int .i64 0]] wr fun e w' => e = .returned (.int .i64 hv) ∧ Below wr.heap.size wr w' := by rw [hhv]; exact hcon
                      have HHV := Lib.hid hhv
                      clear hhv hcon
                      by_cases hv0 : hv = 0
                      · have hvb : (hv != 0) = false := by simpa using hv0
                        have HV0 := Lib.hid hv0
                        clear hv0
                        go_wp2_with fail
                        refine hcon2.mono ?_
                        rintro e w6 ⟨rfl, hB6⟩
                        have hF6 : Frame w.heap.size wr w6 := .of_below hB.size hB6
                        clear hcon2 b0 b1 b2 b3
                        go_wp2_with fail
                        go_roundw
                        case rel => exact ⟨jj + 1, 0, G, L, W, by omega, by go_num, hts, hfit, hTA.below hB6, hB.trans hF6.below, hF6.others _ _ _ (by decide) (by decide) hbn, hro.frame hF6, hrw.frame hF6, HNEW⟩
                        case measure => simp [intOf]; omega
                      · have hvb : (hv != 0) = true := by simpa using hv0
                        have HV0 := Lib.hid hv0
                        clear hv0
                        go_wp2_with fail
                        refine hcon2.mono ?_
                        rintro e w6 ⟨rfl, hB6⟩
                        have hF6 : Frame w.heap.size wr w6 := .of_below hB.size hB6
                        have hTA6 := hTA.below hB6
                        have hcon3 := release_ta hTA6 hfit ((jj : Int) + 2)
                        obtain ⟨k2, G2, hk2, hout2, hts2, hnew2⟩ := (show TS ms b G L W from hts).release hj1 (by rw [← HHV.out]; exact HV0.out)
                        have hfit2 := hfit.rel ((jj : Int) + 2) W
                        obtain ⟨L3, hL3⟩ : ∃ L3, L3 = (rel ((jj : Int) + 2) L W).L := ⟨_, rfl⟩
                        obtain ⟨W3, hW3⟩ : ∃ W3, W3 = (rel ((jj : Int) + 2) L W).W := ⟨_, rfl⟩
                        rw [← hL3, ← hW3, hout2] at hcon3
                        rw [← hL3] at hfit2 hnew2 hts2
                        rw [← hW3] at hts2
                        clear hcon2 b0 b1 b2 b3 hL3 hW3 hout2
                        go_wp2_with fail
                        refine hcon3.mono ?_
                        rintro e w7 ⟨vw2, rfl, hi7, hTA7, hF7⟩
                        have hF8 := hF6.trans hF7
                        have hrw7 : RowV w7 vw2 (nos b k2) := .of_ints hi7 (by rw [nos_len]; have := hts2.le; omega)
                        clear hcon3
                        go_wp2_with fail
                        go_roundw
                        case rel => exact ⟨jj + 1, k2, G2, L3, W3, by omega, by go_num, hts2, hfit2, hTA7, hB.trans hF8.below, hF8.others _ _ _ (by decide) (by decide) hbn, hro.frame hF8, hrw7, Lib.hid hnew2⟩
                        case measure => simp [intOf]; omega
                    · by_cases hj1 : jj < b
                      all_goals
                        have hd20 : jj < b → ((d2 : Int) == 0) = false := fun h => by
                          have : d2 ≠ 0 := fun e => hgo2 ⟨h, e⟩
                          rw [beq_eq_false_iff_ne]; omega
                        try have hd21 := hd20 hj1
                        obtain ⟨z4, hz4⟩ : ∃ z4 : Int, z4 = ((jj + 2 : Nat) : Int) := ⟨_, rfl⟩
                        first
                          | have hlt2 : z4 < (b : Int) + 2 := by rw [hz4]; push_cast; omega
                          | have hlt2 : (b : Int) + 2 ≤ z4 := by rw [hz4]; push_cast; omega
                        rw [← hz4]
                        clear hd20 hgo2 hz4
                        go_wp2_with fail
                        go_loopw [17, 18] (fun hv txv wr => ∃ jj : Nat, jj ≤ b ∧ txv = .int .i64 (jj + 2 : Nat) ∧ hv = .bool (anyHas L jj) ∧ TA w.heap.size wr T QB WB L W ∧ Below w.heap.size w wr ∧
                            Blk wr Bn 34 #[.int .i64 2, .int .i64 1, .int .u32 0, .int .i64 0] ∧ RowV wr (.slice ao ms.length co) ms ∧ RowV wr (.slice aw2 d2 cw2) (nos b d2)) (fun _ txv _ => b + 2 - (intOf txv).toNat)
                        case atStart => exact ⟨0, by omega, rfl, rfl, hTA, hB, hbn, hro, hrw⟩
                        case round =>
                          clear hTA hB hbn hro hrw
                          obtain ⟨j5, hj5, rfl, rfl, hTA, hB, hbn, hro, hrw⟩ := hrel
                          by_cases hlt5 : j5 < b
                          · have hlt6 : ((j5 + 2 : Nat) : Int) < (b : Int) + 2 := by push_cast; omega
                            cases hah : anyHas L j5 with
                            | true =>
                              have HS5 : Hid (anyHas L (j5 + 1) = true) := Lib.hid (by unfold anyHas; rw [hah, Bool.true_or])
                              go_wp2_with fail
                              go_roundw
                              case rel => exact ⟨j5 + 1, by omega, by go_num, by rw [HS5.out], hTA, hB, hbn, hro, hrw⟩
                              case measure => simp [intOf]; omega
                            | false =>
                              have b0 := hbn.cell 0
                              have b1 := hbn.cell 1
                              have b2 := hbn.cell 2
                              have b3 := hbn.cell 3
                              simp at b0 b1 b2 b3
                              obtain ⟨hv, hhv⟩ : ∃ hv, hv = hasQ (qL L nT) ((j5 : Int) + 2) := ⟨_, rfl⟩
                              have hcon2 : Calls Try.prog 18 #[.pointer (some ⟨T, 0, none⟩), .int .i64 ((j5 : Int) + 2), .agg #[.int .i64 2, .int .i64 1, .int .u32 0, .int .i64 0]] wr fun e w' => e = .returned (.int .i64 hv) ∧ Below wr.heap.size wr w' := by rw [hhv]; exact has_ta hTA ((j5 : Int) + 2) 2 1 0 0
                              have HS5 : Hid (anyHas L (j5 + 1) = (hv != 0)) := Lib.hid (by unfold anyHas; rw [hah, Bool.false_or, hhv])
                              clear hhv
                              go_wp2_with fail
                              refine hcon2.mono ?_
                              rintro e w6 ⟨rfl, hB6⟩
                              have hF6 : Frame w.heap.size wr w6 := .of_below hB.size hB6
                              clear hcon2 b0 b1 b2 b3
                              go_wp2_with fail
                              go_roundw
                              case rel => exact ⟨j5 + 1, by omega, by go_num, by rw [HS5.out], hTA.below hB6, hB.trans hF6.below, hF6.others _ _ _ (by decide) (by decide) hbn, hro.frame hF6, hrw.frame hF6⟩
                              case measure => simp [intOf]; omega
                          · obtain rfl : j5 = b := by omega
                            by_cases hd0 : d2 = 0
                            · subst hd0
                              obtain ⟨j1, hj1', hh1⟩ := (show TS ms j5 G L W from hts).some hbl
                              have hah := anyHas_of hj1' hh1
                              go_wp2_with fail
                              go_roundw
                              case rel => exact ⟨j5, j5, t + 1, G, L, W, by omega, by omega, by go_num, by go_num, hts, hfit, hTA, hB, hbn, hro, by rw [Nat.sub_self]; exact hrw, HNEW.out⟩
                              case measure => simp [intOf]; omega
                            · have hde : ((d2 : Int) == 0) = false := by rw [beq_eq_false_iff_ne]; omega
                              go_wp2_with fail
                              go_roundw
                              case rel => exact ⟨j5, j5 + d2, t + 1, G, L, W, by omega, by omega, by go_num, by go_num, hts, hfit, hTA, hB, hbn, hro, by rw [Nat.add_sub_cancel_left]; exact hrw, HNEW.out⟩
                              case measure => simp [intOf]; omega
          · obtain rfl : t = 20 := by omega
            go_wp2_with fail
            go_ret
            exact ⟨rfl, hB⟩
end Go.Proofs.Ytpggillecedocaa
