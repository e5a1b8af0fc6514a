import Derived.Test.YtcdlplbccblbaaaGreatBk
import Derived.Test.YtcdlplbccblbaaaGreatMg17
namespace Go.Proofs.YtcdlplbccblbaaaGreat
open Go.RowKit
set_option linter.unusedVariables false

/-! ### The search for a way back, as a plain function -/
def srchL (f : Int → List Int → Bool × List Int × List Int) (to : Int) : List Int → List Int → Bool × List Int × List Int
  | [], s => (false, s, [])
  | b :: bs, s => if b = to then (true, s, []) else if b ∈ s then srchL f to bs s else if (f b s).1 = true then f b s else srchL f to bs (f b s).2.1
def srchO (fr : Int) (r : Bool × List Int × List Int) : Bool × List Int × List Int := if r.1 = true then (true, r.2.1, r.2.2 ++ [fr]) else (false, r.2.1, [])
def srch (B : Int → List Int) (to : Int) : Nat → Int → List Int → Bool × List Int × List Int
  | 0, fr, s => (false, s ++ [fr], [])
  | k + 1, fr, s => srchO fr (srchL (srch B to k) to (B fr) (s ++ [fr]))

theorem srchL_pre {f : Int → List Int → Bool × List Int × List Int} (hf : ∀ b s, ∃ t, (f b s).2.1 = s ++ t) (to : Int) : ∀ l s, ∃ t, (srchL f to l s).2.1 = s ++ t
  | [], s => ⟨[], by simp [srchL]⟩
  | b :: bs, s => by
    unfold srchL
    split
    · exact ⟨[], by simp⟩
    · split
      · exact srchL_pre hf to bs s
      · split
        · exact hf b s
        · obtain ⟨t, ht⟩ := hf b s
          obtain ⟨t2, ht2⟩ := srchL_pre hf to bs (f b s).2.1
          exact ⟨t ++ t2, by rw [ht2, ht, List.append_assoc]⟩
theorem srch_pre (B : Int → List Int) (to : Int) : ∀ k fr s, ∃ t, (srch B to k fr s).2.1 = s ++ t
  | 0, fr, s => ⟨[fr], rfl⟩
  | k + 1, fr, s => by
    obtain ⟨t, ht⟩ := srchL_pre (srch_pre B to k) to (B fr) (s ++ [fr])
    refine ⟨[fr] ++ t, ?_⟩
    unfold srch srchO
    split <;> simp [ht]
theorem srchL_path {f : Int → List Int → Bool × List Int × List Int} {n : Nat} (hf : ∀ b s, (f b s).2.2.length ≤ n) (to : Int) : ∀ l s, (srchL f to l s).2.2.length ≤ n
  | [], s => by simp [srchL]
  | b :: bs, s => by
    unfold srchL
    split
    · simp
    · split
      · exact srchL_path hf to bs s
      · split
        · exact hf b s
        · exact srchL_path hf to bs _
theorem srch_path (B : Int → List Int) (to : Int) : ∀ k fr s, (srch B to k fr s).2.2.length ≤ k
  | 0, fr, s => by simp [srch]
  | k + 1, fr, s => by
    have := srchL_path (srch_path B to k) to (B fr) (s ++ [fr])
    unfold srch srchO
    split
    · simpa using this
    · simp

/-! ### The walk -/
def seenM (s : List Int) : List (Int × Value) := s.map fun t => (t, .bool true)
theorem seenM_keys (s : List Int) : (seenM s).map (·.1) = s := by
  unfold seenM
  rw [List.map_map]
  exact List.map_id s
theorem zeroBool (w : World) : (zeroValue 4).run Tryz.prog w = .ok (.bool false) w := by kernel_rfl
theorem seen_look {w : World} {sb : Nat} {s : List Int} (h : MapAt KI w sb (seenM s)) (b : Int) : (Instr.lookup 96 (.map (some sb)) (.int .i64 b) false).run Tryz.prog w = .ok (.bool (decide (b ∈ s))) w := by
  by_cases hb : b ∈ s
  · have := h.look_some Tryz.underlying96 (a := b) (v := .bool true) (List.mem_map.2 ⟨b, hb, rfl⟩) false
    rw [decide_eq_true hb]
    exact this
  · have := h.look_none Tryz.underlying96 (zeroBool w) (a := b) (by rw [seenM_keys]; exact hb) false
    rw [decide_eq_false hb]
    exact this

section
variable {w w' : World} {T QB WB : Nat} {R : List Row} {W : List (Int × Nm)}
/-- Whoever waits stands in the queue for which it waits. -/
def WaitsIn (R : List Row) (W : List (Int × Nm)) : Prop := ∀ tx n, wOf W tx = some n → (∃ m, (qOf R n).findIdx? (fun a => a.tx == tx) = some m) ∧ (qOf R n).length ≤ 1000000
def blkF (R : List Row) (W : List (Int × Nm)) (tx : Int) : List Int := match wOf W tx with
  | none => []
  | some n => blockersQ (qOf R n) tx
theorem blockersQ_len (q : List Ak) (tx : Int) : (blockersQ q tx).length ≤ q.length := by
  unfold blockersQ
  split
  · simp
  · rw [sortI_len]; exact blkTo_len _ _ _ _
theorem blkF_len (hW : WaitsIn R W) (tx : Int) : (blkF R W tx).length ≤ 1000000 := by
  unfold blkF
  split
  · simp
  · rename_i n hn
    exact Nat.le_trans (blockersQ_len _ _) (hW _ _ hn).2
theorem blockers_any (h : Tab w T QB WB R W) (hW : WaitsIn R W) (tx : Int) :
    Calls Tryz.prog 21 #[.pointer (some ⟨T, 0, none⟩), .int .i64 tx] w fun e w' => ∃ v, e = .returned v ∧ IntsAt w' w.heap.size v (blkF R W tx) ∧ Below w.heap.size w w' := by
  cases hw : wOf W tx with
  | none =>
    refine (blockers_none h hw).mono ?_
    rintro e w' ⟨rfl, hb⟩
    refine ⟨_, rfl, ?_, hb⟩
    have : blkF R W tx = [] := by unfold blkF; rw [hw]
    rw [this]
    exact ⟨⟨rfl, .inl ⟨rfl, rfl⟩⟩, by simp⟩
  | some n =>
    obtain ⟨⟨m, hm⟩, hl⟩ := hW _ _ hw
    have : blkF R W tx = blockersQ (qOf R n) tx := by unfold blkF; rw [hw]
    rw [this]
    exact blockers_tab h hw hm hl

theorem IntsAt.form {w : World} {base : Nat} {v : Value} {l : List Int} (h : IntsAt w base v l) : ∃ a c, v = .slice a l.length c := by
  rcases h.1.2 with ⟨rfl, h0⟩ | ⟨g, cap, cur, rfl, _⟩
  · exact ⟨none, 0, by rw [h0]⟩
  · exact ⟨_, _, rfl⟩
theorem IntsAt.kept' {w w' : World} {base : Nat} {v : Value} {l : List Int} (h : IntsAt w base v l) (hb : ∀ k, k < w.heap.size → some k = v.ownBlock → w'.heap[k]? = w.heap[k]?) : IntsAt w' base v l := by
  refine ⟨⟨h.1.1, ?_⟩, h.2⟩
  rcases h.1.2 with h0 | ⟨g', cap', cur, hv, hg, hb', r1⟩
  · exact .inl h0
  · exact .inr ⟨g', cap', cur, hv, hg, (hb g' (Array.getElem?_eq_some_iff.1 hb').1 (by rw [hv]; rfl)).trans hb', r1⟩
theorem more_form {w : World} {base : Nat} {v : Value} {l : List Int} {x : Int} (h : IntsAt w base v (l ++ [x])) : ∃ a c, v = .slice a (l.length + 1) c := by
  obtain ⟨a, c, e⟩ := h.form
  exact ⟨a, c, by rw [e]; simp⟩
/-- A number more stands behind the others; the row's cell is turned. -/
theorem way_more {base yb sb : Nat} {v v1 v2 : Value} {l : List Int} {x : Int} {wa wr w8 : World} (hyb : base ≤ yb) (hs : wa.heap.size ≤ wr.heap.size) (hO : IntsAt wr base v1 l) (hY : Blk wr yb 52 #[v1])
    (hk : Keeps wa wr (fun k => k = sb ∨ k = yb ∨ some k = v.ownBlock)) (hown : ∀ k, some k = v1.ownBlock → some k = v.ownBlock ∨ wa.heap.size ≤ k)
    (hgr : (wr.alloc (.cells #[.int .i64 x] 3)).grownBy w8 v1.ownBlock) (h8 : w8.ownsRow base 3 1 v2 (l.length + 1) (l.map iv ++ [iv x])) (hn : v2 = .slice none 0 0 ↔ v1 = .slice none 0 0 ∧ 1 = 0) (hat : v2.ownBlock = v1.ownBlock ∨ v2.ownBlock = some (wr.alloc (.cells #[.int .i64 x] 3)).heap.size) :
    Blk w8 yb 52 #[v1] ∧ Blk (w8.setCell ⟨yb, 0, none⟩ v2) yb 52 #[v2] ∧ IntsAt (w8.setCell ⟨yb, 0, none⟩ v2) base v2 (l ++ [x]) ∧ (∀ k, some k = v2.ownBlock → some k = v.ownBlock ∨ wa.heap.size ≤ k) ∧
      Keeps wa (w8.setCell ⟨yb, 0, none⟩ v2) (fun k => k = sb ∨ k = yb ∨ some k = v.ownBlock) ∧ ∀ k, k < wr.heap.size → k ≠ yb → some k ≠ v1.ownBlock → (w8.setCell ⟨yb, 0, none⟩ v2).heap[k]? = wr.heap[k]? := by
  have hyo : some yb ≠ v1.ownBlock := hO.other hY (by decide)
  have hY8 : Blk w8 yb 52 #[v1] := (hY.alloc _).of_block (hgr.block _ (by have := hY.lt; simp; omega) hyo)
  have hO8 : IntsAt w8 base v2 (l ++ [x]) := ⟨by rw [List.length_append, List.map_append]; exact h8, by simpa using hn⟩
  have hy2 : some yb ≠ v2.ownBlock := hO8.other hY8 (by decide)
  have hblk : ∀ k, k < wr.heap.size → k ≠ yb → some k ≠ v1.ownBlock → (w8.setCell ⟨yb, 0, none⟩ v2).heap[k]? = wr.heap[k]? := fun k hkk h1 h2 => by
    rw [Below.heap_setCell w8 ⟨yb, 0, none⟩ v2 k h1, hgr.block k (by simp; omega) h2]
    exact Below.heap_alloc _ _ _ hkk
  refine ⟨hY8, ?_, ?_, ?_, ?_, hblk⟩
  · have := hY8.set_ 0 v2
    simpa using this
  · exact hO8.kept' fun k hkk he => Below.heap_setCell w8 ⟨yb, 0, none⟩ v2 k (fun e => hy2 (by rw [← he, e]))
  · intro k hkk
    rcases hat with h' | h'
    · rw [h'] at hkk; exact hown k hkk
    · rw [h'] at hkk
      simp at hkk
      right; omega
  · have hz : wr.heap.size ≤ w8.heap.size := by have := hgr.size; simp at this; omega
    refine ⟨?_, ?_, ?_, ?_, fun k hkk hne => ?_⟩
    · exact hgr.os.trans hk.os
    · exact hgr.tape.trans hk.tape
    · exact hgr.output.trans hk.output
    · show _ ≤ (w8.setCell _ _).heap.size
      simp [World.setCell]; omega
    · have n1 : k ≠ yb := fun e => hne (.inr (.inl e))
      have n2 : some k ≠ v1.ownBlock := fun e => by
        rcases hown k e with h' | h'
        · exact hne (.inr (.inr h'))
        · omega
      rw [hblk k (by omega) n1 n2]
      exact hk.block k hkk hne
/-- What the search leaves. -/
def SrchPost (sb yb base : Nat) (v : Value) (way : List Int) (w : World) (r : Bool × List Int × List Int) (e : Ending) (w' : World) : Prop :=
  e = .returned (.bool r.1) ∧ MapAt KI w' sb (seenM r.2.1) ∧ (r.1 = false → Keeps w w' (· = sb)) ∧
    (r.1 = true → ∃ v', Blk w' yb 52 #[v'] ∧ IntsAt w' base v' (way ++ r.2.2) ∧ (∀ k, some k = v'.ownBlock → some k = v.ownBlock ∨ w.heap.size ≤ k) ∧ Keeps w w' (fun k => k = sb ∨ k = yb ∨ some k = v.ownBlock))

set_option maxRecDepth 100000 in
set_option maxHeartbeats 4000000 in
theorem search_step {sb yb base N : Nat} {fr to : Int} {seen : List Int} {f : Int → List Int → Bool × List Int × List Int} (hW : WaitsIn R W) (hft : ∀ k, Foot T QB WB R k → k < base) (hsb : base ≤ sb) (hyb : base ≤ yb) (hfr : fr ∉ seen)
    (hpre : ∀ b s, ∃ t, (f b s).2.1 = s ++ t) (hpath : ∀ b s, (f b s).2.2.length ≤ N) {v : Value} {way : List Int} (hN : way.length + N < 1000000)
    (hIH : ∀ b s w, b ∈ blkF R W fr → b ∉ s → (∃ t, s = seen ++ fr :: t) → Tab w T QB WB R W → MapAt KI w sb (seenM s) → Blk w yb 52 #[v] → IntsAt w base v way →
      Calls Tryz.prog 48 #[.pointer (some ⟨T, 0, none⟩), .int .i64 b, .int .i64 to, .map (some sb), .pointer (some ⟨yb, 0, none⟩)] w (SrchPost sb yb base v way w (f b s)))
    {w : World} (hT : Tab w T QB WB R W) (hM : MapAt KI w sb (seenM seen)) (hY : Blk w yb 52 #[v]) (hO : IntsAt w base v way) :
    Calls Tryz.prog 48 #[.pointer (some ⟨T, 0, none⟩), .int .i64 fr, .int .i64 to, .map (some sb), .pointer (some ⟨yb, 0, none⟩)] w (SrchPost sb yb base v way w (srchO fr (srchL f to (blkF R W fr) (seen ++ [fr])))) := by
  obtain ⟨i0, hi0, hz0, hz1, hz2⟩ := info_parts infoInt
  obtain ⟨av, cv, rfl⟩ := hO.form
  obtain ⟨w1, hrun, hM1, ht1⟩ := hM.put_new Tryz.underlying96 (a := fr) (by rw [seenM_keys]; exact hfr) (.bool true)
  have hrun' : (Instr.mapUpdate 96 (.map (some sb)) (.int .i64 fr) (.bool true)).run Tryz.prog w = .ok () w1 := hrun
  have hM1' : MapAt KI w1 sb (seenM (seen ++ [fr])) := by unfold seenM; rw [List.map_append]; exact hM1
  have hsbl : sb < w.heap.size := hM.lt
  have hnsb : ∀ k t cs, Blk w k t cs → k ≠ sb := by
    intro k t cs hb e
    subst e
    obtain ⟨es, c, hm, _⟩ := hM
    unfold Blk at hb
    rw [hb] at hm
    cases hm
  have hk1 : Keeps w w1 (· = sb) := Keeps.of_turned ht1 rfl
  have hT1 : Tab w1 T QB WB R W := hT.of_blocks fun k hk => ht1.block k (fun e => by have := hft k hk; omega)
  have hY1 : Blk w1 yb 52 #[.slice av way.length cv] := hY.of_block (ht1.block _ (hnsb _ _ _ hY))
  have hO1 : IntsAt w1 base (.slice av way.length cv) way := hO.keeps hk1 (fun k cs hb e => hnsb k _ cs hb e)
  have hyne := hnsb _ _ _ hY
  have hvs : some sb ≠ (Value.slice av way.length cv).ownBlock := fun e => by
    rcases hO.1.2 with ⟨e2, _⟩ | ⟨g2, cap2, cur, e2, hg2, hb2, _⟩
    · rw [e2] at e; simp [Value.ownBlock] at e
    · rw [e2] at e
      have : sb = g2 := by simpa [Value.ownBlock] using e
      exact hnsb g2 _ _ hb2 this.symm
  have HNS2 := Lib.hid hvs
  clear hvs
  clear hrun hM1 hM hnsb
  have hcon := blockers_any hT1 hW fr
  have hll := blkF_len hW fr
  have hvl : ∀ k, some k = (Value.slice av way.length cv).ownBlock → k < w.heap.size ∧ base ≤ k := fun k hk => by
    rcases hO.1.2 with ⟨e, _⟩ | ⟨g2, cap2, cur, e, hg2, hb2, _⟩
    · rw [e] at hk; simp [Value.ownBlock] at hk
    · rw [e] at hk
      obtain rfl : k = g2 := by simpa [Value.ownBlock] using hk
      exact ⟨(Array.getElem?_eq_some_iff.1 hb2).1, hg2⟩
  have HVL := Lib.hid hvl
  clear hvl
  obtain ⟨l, hl⟩ : ∃ l, l = blkF R W fr := ⟨_, rfl⟩
  rw [← hl] at hcon hIH hll ⊢
  clear hl
  have HIH := Lib.hid hIH
  have HPRE := Lib.hid hpre
  have HPATH := Lib.hid hpath
  clear hIH hpre hpath
  go_enter Tryz.func48, Tryz.ntmps48
  go_wp2_with fail
  refine hcon.mono ?_
  rintro e w2 ⟨vb, rfl, hL, hB2⟩
  obtain ⟨ab, cb, rfl⟩ : ∃ a c, vb = .slice a l.length c := by
    rcases hL.1.2 with ⟨e, h0⟩ | ⟨g, cap, cur, e, _⟩
    · exact ⟨none, 0, by rw [e, h0]⟩
    · exact ⟨_, cap, e⟩
  have hT2 := hT1.below hB2
  have hY2 := hY1.of_block (hB2.block _ hY1.lt)
  have hO2 := hO1.keeps (.of_below hB2 (fun _ => False)) (fun _ _ _ h => h)
  have hM2 := hM1'.of_block (hB2.block _ hM1'.lt)
  have hk2 : Keeps w w2 (· = sb) := hk1.trans (.of_below hB2 (fun _ => False)) (fun _ _ h => h.elim)
  have hs1 : w.heap.size = w1.heap.size := ht1.size.symm
  clear hcon hT1 hY1 hO1 hM1' hk1 hrun'
  go_wp2_with fail
  go_loopw [19] (fun j wr => ∃ (i : Nat) (s : List Int), i ≤ l.length ∧ j = .int .i64 i ∧ (∃ t, s = seen ++ fr :: t) ∧ Hid (srchL f to (l.drop i) s = srchL f to l (seen ++ [fr])) ∧ Tab wr T QB WB R W ∧ MapAt KI wr sb (seenM s) ∧ Blk wr yb 52 #[.slice av way.length cv] ∧ IntsAt wr base (.slice av way.length cv) way ∧ IntsAt wr w1.heap.size (.slice ab l.length cb) l ∧ Keeps w wr (· = sb)) (fun j _ => l.length - (intOf j).toNat)
  case atStart => exact ⟨0, seen ++ [fr], by omega, rfl, ⟨[], rfl⟩, Lib.hid (by simp), hT2, hM2, hY2, hO2, hL, hk2⟩
  case round =>
    obtain ⟨i, s, hi, rfl, hs, HR, hT, hM, hY, hO, hL, hk⟩ := hrel
    by_cases hlt : i < l.length
    · obtain ⟨b, hb⟩ : ∃ b, b = l[i] := ⟨_, rfl⟩
      have hbm : b ∈ l := by rw [hb]; exact List.getElem_mem hlt
      obtain ⟨gb, capb, curb, hve, hgb, hbb, q1, q2, q3, q4⟩ : ∃ g cap cur, (Value.slice ab l.length cb) = .slice (some ⟨g, 0, none⟩) l.length cap ∧ w1.heap.size ≤ g ∧ Blk wr g 3 cur ∧ l.length ≤ cap ∧ cap ≤ maxLen ∧ cur.size = cap * 1 ∧ cur.toList.take (l.length * 1) = l.map iv := by
        rcases hL.1.2 with ⟨_, h0⟩ | ⟨g, cap, cur, e, h⟩
        · rw [h0] at hlt; simp at hlt
        · exact ⟨g, cap, cur, e, h⟩
      obtain ⟨rfl, rfl⟩ : ab = some ⟨gb, 0, none⟩ ∧ cb = capb := by simpa using hve
      have x0 : wr.cell? ⟨gb, i, none⟩ = some (.int .i64 b) := by
        rw [hbb.cell]
        have h1 : (curb.toList.take (l.length * 1))[i]? = (l.map iv)[i]? := by rw [q4]
        rw [List.getElem?_take_of_lt (by omega), Array.getElem?_toList, List.getElem?_map, List.getElem?_eq_getElem hlt] at h1
        rw [h1, hb]; rfl
      unfold maxLen at q2
      have hdrop : l.drop i = b :: l.drop (i + 1) := by rw [List.drop_eq_getElem_cons hlt, ← hb]
      have HR1 : Hid (srchL f to l (seen ++ [fr]) = if b = to then (true, s, []) else if b ∈ s then srchL f to (l.drop (i + 1)) s else if (f b s).1 = true then f b s else srchL f to (l.drop (i + 1)) (f b s).2.1) := Lib.hid (by rw [← HR.out, hdrop]; rfl)
      have hlk := seen_look hM b
      have HB := Lib.hid hb
      clear hb hve hdrop q4
      have y0 : wr.cell? ⟨yb, 0, none⟩ = some (.slice av way.length cv) := by rw [hY.cell]; rfl
      by_cases hbt : b = to
      · have hbe : (b == to) = true := by simpa using hbt
        have HR2 : Hid (srchL f to l (seen ++ [fr]) = (true, s, [])) := Lib.hid (by rw [HR1.out, if_pos hbt])
        clear hbt
        have hk0 : Keeps w wr (fun k => k = sb ∨ k = yb ∨ some k = (Value.slice av way.length cv).ownBlock) := hk.mono fun k _ h => .inl h
        have hsz := hk.size
        have hyl := hY.lt
        have hbw : base ≤ wr.heap.size := by omega
        go_wp2_with (at_builtin; refine wpList_append_own_at _ rfl _ _ 52 rfl base 3 i0 _ 1 8 Tryz.underlying52 hi0 hz0 hz1 hz2 rfl (by decide) _ _ _ rfl (hO.1.alloc _) ⟨wr.heap.size, 0, none⟩ 1 1 [.int .i64 fr] rfl rfl (cell_one_new _ _ _) (by simp [Value.oneCell']) (by unfold maxLen; omega) (by omega) (by simp; omega) ?_; intro v2 w8 hown8 hgr8 hnil8 hat8; obtain ⟨hY8, hY9, hO9, hown9, hk9, hblk9⟩ := way_more (wa := w) (w8 := w8) (v2 := v2) hyb hk0.size hO hY hk0 (fun k h => .inl h) hgr8 hown8 hnil8 hat8; obtain ⟨a2, c2, rfl⟩ := more_form hO9; have z0 : w8.cell? ⟨yb, 0, none⟩ = some (Value.slice av way.length cv) := (by rw [hY8.cell]; rfl); have z1 := hY8.frozen 0; clear hY8 hown8 hgr8 hnil8 hat8)
        go_ret
        unfold SrchPost
        rw [HR2.out]
        refine ⟨rfl, hM.of_block (hblk9 sb hM.lt (fun e => hyne e.symm) (fun e => ?_)), fun h => by simp [srchO] at h, fun _ => ⟨_, hY9, by simpa [srchO] using hO9, hown9, hk9⟩⟩
        exact HNS2.out e
      · have hbe : (b == to) = false := by simpa using hbt
        by_cases hbs : b ∈ s
        · have hds : decide (b ∈ s) = true := by simpa using hbs
          have HR2 : Hid (srchL f to (l.drop (i + 1)) s = srchL f to l (seen ++ [fr])) := Lib.hid (by rw [HR1.out, if_neg hbt, if_pos hbs])
          rw [hds] at hlk
          clear hbt hbs hds
          go_wp2_with fail
          go_roundw
          case rel => exact ⟨i + 1, s, by omega, by go_num, hs, HR2, hT, hM, hY, hO, hL, hk⟩
          case measure => simp [intOf]; omega
        · have hds : decide (b ∈ s) = false := by simpa using hbs
          have hcon := HIH.out b s wr hbm hbs hs hT hM hY hO
          rw [hds] at hlk
          obtain ⟨rr, hrr⟩ : ∃ rr, rr = f b s := ⟨_, rfl⟩
          rw [← hrr] at hcon HR1
          obtain ⟨t1, ht1'⟩ : ∃ t, rr.2.1 = s ++ t := by rw [hrr]; exact HPRE.out b s
          have hpl : rr.2.2.length ≤ N := by rw [hrr]; exact HPATH.out b s
          have HT1 := Lib.hid ht1'
          clear hrr hds ht1'
          go_wp2_with fail
          refine hcon.mono ?_
          intro e w3 hP
          unfold SrchPost at hP
          obtain ⟨rfl, hM3, hno, hyes⟩ := hP
          cases hr1 : rr.1 with
          | false =>
            have hk3 := hno hr1
            have HR2 : Hid (srchL f to (l.drop (i + 1)) rr.2.1 = srchL f to l (seen ++ [fr])) := Lib.hid (by rw [HR1.out, if_neg hbt, if_neg hbs, hr1]; rfl)
            have hT3 : Tab w3 T QB WB R W := hT.of_blocks fun k hkk => hk3.block k (hT.foot_lt hkk) (fun e => by have := hft k hkk; omega)
            have hY3 := hY.of_block (hk3.block _ hY.lt hyne)
            have hns : ∀ k cs, Blk wr k 3 cs → ¬ k = sb := fun k cs hb0 e => by
              subst e
              obtain ⟨es, c, hm, _⟩ := hM
              unfold Blk at hb0
              rw [hb0] at hm
              cases hm
            have hO3 := hO.keeps hk3 hns
            have hL3 := hL.keeps hk3 hns
            have hkk := hk.trans hk3 (fun _ _ h => h)
            obtain ⟨t0, ht0⟩ := hs
            have hs3 : ∃ t, rr.2.1 = seen ++ fr :: t := ⟨t0 ++ t1, by rw [HT1.out, ht0]; simp⟩
            clear hno hyes hcon hbt hbs hns hlk x0 y0 ht0
            go_wp2_with fail
            go_roundw
            case rel => exact ⟨i + 1, rr.2.1, by omega, by go_num, hs3, HR2, hT3, hM3, hY3, hO3, hL3, hkk⟩
            case measure => simp [intOf]; omega
          | true =>
            obtain ⟨v', hY3, hO3, hown, hk3⟩ := hyes hr1
            obtain ⟨a3, c3, rfl⟩ := hO3.form
            have HR2 : Hid (srchL f to l (seen ++ [fr]) = rr) := Lib.hid (by rw [HR1.out, if_neg hbt, if_neg hbs, if_pos hr1])
            have hk0 : Keeps w w3 (fun k => k = sb ∨ k = yb ∨ some k = (Value.slice av way.length cv).ownBlock) := (hk.mono (F' := fun k => k = sb ∨ k = yb ∨ some k = (Value.slice av way.length cv).ownBlock) fun k _ h => .inl h).trans hk3 (fun _ _ h => h)
            have hown0 : ∀ k, some k = (Value.slice a3 (way ++ rr.2.2).length c3).ownBlock → some k = (Value.slice av way.length cv).ownBlock ∨ w.heap.size ≤ k := fun k h => by
              rcases hown k h with h' | h'
              · exact .inl h'
              · have := hk.size; right; omega
            have HOW := Lib.hid hown0
            have hsz := hk0.size
            have hyl := hY3.lt
            have hbw : base ≤ w3.heap.size := by omega
            have hwl : (way ++ rr.2.2).length < 1000000 := by rw [List.length_append]; omega
            have y3 : w3.cell? ⟨yb, 0, none⟩ = some (.slice a3 (way ++ rr.2.2).length c3) := by rw [hY3.cell]; rfl
            obtain ⟨wy, hwy⟩ : ∃ wy, wy = way ++ rr.2.2 := ⟨_, rfl⟩
            rw [← hwy] at hY3 hO3 hown0 hwl y3 HOW
            have HWY := Lib.hid hwy
            have HR1' := Lib.hid hr1
            clear hno hyes hcon hlk x0 y0 hwy hown0 hown hr1 hbt hbs
            go_wp2_with (at_builtin; refine wpList_append_own_at _ rfl _ _ 52 rfl base 3 i0 _ 1 8 Tryz.underlying52 hi0 hz0 hz1 hz2 rfl (by decide) _ _ _ rfl (hO3.1.alloc _) ⟨w3.heap.size, 0, none⟩ 1 1 [.int .i64 fr] rfl rfl (cell_one_new _ _ _) (by simp [Value.oneCell']) (by unfold maxLen; omega) (by omega) (by simp; omega) ?_; intro v2 w8 hown8 hgr8 hnil8 hat8; obtain ⟨hY8, hY9, hO9, hown9, hk9, hblk9⟩ := way_more (wa := w) (w8 := w8) (v2 := v2) hyb hk0.size hO3 hY3 hk0 HOW.out hgr8 hown8 hnil8 hat8; obtain ⟨a2, c2, rfl⟩ := more_form hO9; have z0 : w8.cell? ⟨yb, 0, none⟩ = some (Value.slice a3 wy.length c3) := (by rw [hY8.cell]; rfl); have z1 := hY8.frozen 0; clear hY8 hown8 hgr8 hnil8 hat8)
            go_ret
            unfold SrchPost
            rw [HR2.out]
            have hrs1 : (srchO fr rr).1 = true := by unfold srchO; rw [if_pos HR1'.out]
            refine ⟨by rw [hrs1]; rfl, ?_, fun h => by simp [srchO, HR1'.out] at h, fun _ => ⟨_, hY9, by simpa [srchO, HR1'.out, HWY.out] using hO9, hown9, hk9⟩⟩
            have : (srchO fr rr).2.1 = rr.2.1 := by unfold srchO; rw [if_pos HR1'.out]
            rw [this]
            refine hM3.of_block (hblk9 sb hM3.lt (fun e => hyne e.symm) (fun e => ?_))
            rcases HOW.out sb e with h' | h'
            · exact HNS2.out h'
            · omega
    · obtain rfl : i = l.length := by omega
      go_wp2_with fail
      go_ret
      rw [← HR.out, List.drop_length]
      exact ⟨rfl, hM, fun _ => hk, fun h => by simp [srchL, srchO] at h⟩

/-- How many wait that were not seen. -/
def nW (W : List (Int × Nm)) (s : List Int) : Nat := (W.filter fun p => !s.contains p.1).length
theorem nW_mono {s t : List Int} (h : ∀ x, x ∈ s → x ∈ t) : nW W t ≤ nW W s := by
  unfold nW
  rw [← List.countP_eq_length_filter, ← List.countP_eq_length_filter]
  refine List.countP_mono_left fun p _ hp => ?_
  simp only [Bool.not_eq_true', List.contains_eq_mem, decide_eq_false_iff_not] at hp ⊢
  exact fun hm => hp (h _ hm)
theorem nW_less {s : List Int} {fr : Int} {n : Nm} (hw : wOf W fr = some n) (hfr : fr ∉ s) : nW W (s ++ [fr]) < nW W s := by
  have : ∀ (W : List (Int × Nm)), (∃ p ∈ W, p.1 = fr) → (W.filter fun p => !(s ++ [fr]).contains p.1).length < (W.filter fun p => !s.contains p.1).length := by
    intro W
    induction W with
    | nil => rintro ⟨p, hp, _⟩; simp at hp
    | cons a W ih =>
      intro h
      have hmono : (W.filter fun p => !(s ++ [fr]).contains p.1).length ≤ (W.filter fun p => !s.contains p.1).length := nW_mono (W := W) (s := s) (t := s ++ [fr]) (fun x hx => by simp [hx])
      rw [List.filter_cons, List.filter_cons]
      by_cases ha : a.1 = fr
      · have h1 : (!(s ++ [fr]).contains a.1) = false := by simp [ha]
        have h2 : (!s.contains a.1) = true := by simp [ha, hfr]
        rw [h1, h2]
        simp
        simpa using Nat.lt_succ_of_le hmono
      · have h1 : (!(s ++ [fr]).contains a.1) = (!s.contains a.1) := by
          simp [ha]
        rw [h1]
        have hex : ∃ p ∈ W, p.1 = fr := by
          obtain ⟨p, hp, he⟩ := h
          rw [List.mem_cons] at hp
          rcases hp with rfl | hp
          · exact absurd he ha
          · exact ⟨p, hp, he⟩
        have := ih hex
        split <;> simp <;> simpa using this
  refine this W ?_
  unfold wOf at hw
  obtain ⟨p, hp, _⟩ := Option.map_eq_some_iff.1 hw
  exact ⟨p, List.mem_of_find?_eq_some hp, by simpa using List.find?_some hp⟩

theorem search_any {sb yb base : Nat} {to : Int} {v : Value} {way : List Int} (hW : WaitsIn R W) (hft : ∀ k, Foot T QB WB R k → k < base) (hsb : base ≤ sb) (hyb : base ≤ yb) (k : Nat) (hN : way.length + k < 1000000) :
    ∀ (fr : Int) (seen : List Int) (w : World), fr ∉ seen → nW W seen ≤ k → Tab w T QB WB R W → MapAt KI w sb (seenM seen) → Blk w yb 52 #[v] → IntsAt w base v way →
      Calls Tryz.prog 48 #[.pointer (some ⟨T, 0, none⟩), .int .i64 fr, .int .i64 to, .map (some sb), .pointer (some ⟨yb, 0, none⟩)] w (SrchPost sb yb base v way w (srch (blkF R W) to k fr seen)) := by
  induction k with
  | zero =>
    intro fr seen w hfr hn hT hM hY hO
    have hl : blkF R W fr = [] := by
      unfold blkF
      cases hw : wOf W fr with
      | none => rfl
      | some n => have := nW_less hw hfr; omega
    have h := search_step (to := to) (f := fun _ s => (false, s, [])) (N := 0) hW hft hsb hyb hfr (fun _ s => ⟨[], by simp⟩) (fun _ _ => by simp) (by omega) (fun b s w hb => by rw [hl] at hb; simp at hb) hT hM hY hO
    rw [hl] at h
    exact h
  | succ k ih =>
    intro fr seen w hfr hn hT hM hY hO
    refine search_step (f := srch (blkF R W) to k) (N := k) hW hft hsb hyb hfr (srch_pre _ _ _) (srch_path _ _ _) (by omega) (fun b s w hb hbs hs hT hM hY hO => ?_) hT hM hY hO
    refine ih (by omega) b s w hbs ?_ hT hM hY hO
    obtain ⟨t, rfl⟩ := hs
    cases hw : wOf W fr with
    | none => unfold blkF at hb; rw [hw] at hb; simp at hb
    | some n =>
      have h1 := nW_less hw hfr
      have h2 : nW W (seen ++ fr :: t) ≤ nW W (seen ++ [fr]) := nW_mono (fun x hx => by simp at hx ⊢; rcases hx with hx | hx <;> simp [hx])
      omega
end
end Go.Proofs.YtcdlplbccblbaaaGreat
