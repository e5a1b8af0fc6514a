import Derived.Test.YtcdlplbccblbaaaGreatSc
import Derived.Test.YtcdlplbccblbaaaGreatMg19
namespace Go.Proofs.YtcdlplbccblbaaaGreat
open Go.RowKit
set_option linter.unusedVariables false

/-! ### The search finds a way back where there is one -/
/-- What a search that found nothing has seen is shut. -/
def Shut (B : Int → List Int) (to : Int) (s s' : List Int) : Prop := ∀ u ∈ s', u ∉ s → ∀ v ∈ B u, v ∈ s' ∧ v ≠ to
theorem srchL_no {B : Int → List Int} {to : Int} {f : Int → List Int → Bool × List Int × List Int} {P : List Int → Prop} (hP : ∀ s t, P s → (∀ x ∈ s, x ∈ t) → P t) (hpre : ∀ b s, ∃ t, (f b s).2.1 = s ++ t)
    : ∀ l s, P s → (∀ b s, b ∈ l → b ∉ s → P s → (f b s).1 = false → b ∈ (f b s).2.1 ∧ Shut B to s (f b s).2.1) → (srchL f to l s).1 = false → (∀ v ∈ l, v ∈ (srchL f to l s).2.1 ∧ v ≠ to) ∧ Shut B to s (srchL f to l s).2.1
  | [], s, _, _, _ => ⟨fun v hv => by simp at hv, fun u hu hn => absurd hu hn⟩
  | b :: bs, s, hs, hf, h => by
    have hf' : ∀ b' s, b' ∈ bs → b' ∉ s → P s → (f b' s).1 = false → b' ∈ (f b' s).2.1 ∧ Shut B to s (f b' s).2.1 := fun b' s hb => hf b' s (by simp [hb])
    unfold srchL at h ⊢
    by_cases e : b = to
    · rw [if_pos e] at h; simp at h
    · rw [if_neg e] at h ⊢
      by_cases hb : b ∈ s
      · rw [if_pos hb] at h ⊢
        obtain ⟨h1, h2⟩ := srchL_no hP hpre bs s hs hf' h
        obtain ⟨t, ht⟩ := srchL_pre hpre to bs s
        refine ⟨fun v hv => ?_, h2⟩
        rcases List.mem_cons.1 hv with rfl | hv
        · exact ⟨by rw [ht]; simp [hb], e⟩
        · exact h1 v hv
      · rw [if_neg hb] at h ⊢
        by_cases hr : (f b s).1 = true
        · rw [if_pos hr] at h; rw [hr] at h; cases h
        · rw [if_neg hr] at h ⊢
          obtain ⟨t0, ht0⟩ := hpre b s
          have hs2 : P (f b s).2.1 := hP s _ hs (fun x hx => by rw [ht0]; simp [hx])
          obtain ⟨g1, g2⟩ := hf b s (by simp) hb hs (by simpa using hr)
          obtain ⟨h1, h2⟩ := srchL_no hP hpre bs _ hs2 hf' h
          obtain ⟨t, ht⟩ := srchL_pre hpre to bs (f b s).2.1
          have hin : ∀ x ∈ (f b s).2.1, x ∈ (srchL f to bs (f b s).2.1).2.1 := fun x hx => by rw [ht]; simp [hx]
          refine ⟨fun v hv => ?_, fun u hu hn v hv => ?_⟩
          · rcases List.mem_cons.1 hv with rfl | hv
            · exact ⟨hin _ g1, e⟩
            · exact h1 v hv
          · by_cases hu2 : u ∈ (f b s).2.1
            · obtain ⟨a1, a2⟩ := g2 u hu2 hn v hv
              exact ⟨hin _ a1, a2⟩
            · exact h2 u hu hu2 v hv
theorem srch_no {B : Int → List Int} {to : Int} {W : List (Int × Nm)} (hB : ∀ t, wOf W t = none → B t = []) : ∀ k fr s, fr ∉ s → nW W s ≤ k → (srch B to k fr s).1 = false → fr ∈ (srch B to k fr s).2.1 ∧ Shut B to s (srch B to k fr s).2.1
  | 0, fr, s, hfr, hn, _ => by
    have hb : B fr = [] := by
      refine hB fr ?_
      cases hw : wOf W fr with
      | none => rfl
      | some n => have := nW_less hw hfr; omega
    refine ⟨by simp [srch], fun u hu hus v hv => ?_⟩
    have : u ∈ s ++ [fr] := hu
    rw [List.mem_append, List.mem_singleton] at this
    rcases this with h | rfl
    · exact absurd h hus
    · rw [hb] at hv; simp at hv
  | k + 1, fr, s, hfr, hn, h => by
    have hr : (srchL (srch B to k) to (B fr) (s ++ [fr])).1 = false := by
      cases hc : (srchL (srch B to k) to (B fr) (s ++ [fr])).1 with
      | false => rfl
      | true =>
        unfold srch srchO at h
        rw [if_pos hc] at h
        simp at h
    have e : (srch B to (k + 1) fr s).2.1 = (srchL (srch B to k) to (B fr) (s ++ [fr])).2.1 := by
      unfold srch srchO
      split <;> rfl
    by_cases hl : B fr = []
    · rw [e, hl]
      refine ⟨by simp [srchL], fun u hu hus v hv => ?_⟩
      have : u ∈ s ++ [fr] := hu
      rw [List.mem_append, List.mem_singleton] at this
      rcases this with h | rfl
      · exact absurd h hus
      · rw [hl] at hv; simp at hv
    · have hn2 : nW W (s ++ [fr]) ≤ k := by
        cases hw : wOf W fr with
        | none => exact absurd (hB fr hw) hl
        | some n => have := nW_less hw hfr; omega
      obtain ⟨h1, h2⟩ := srchL_no (B := B) (to := to) (f := srch B to k) (P := fun s => nW W s ≤ k) (fun s t hs hst => Nat.le_trans (nW_mono hst) hs) (srch_pre B to k) (B fr) (s ++ [fr]) hn2
        (fun b s' hb hbs hs' hf => srch_no hB k b s' hbs hs' hf) hr
      obtain ⟨t, ht⟩ := srchL_pre (srch_pre B to k) to (B fr) (s ++ [fr])
      rw [e]
      refine ⟨by rw [ht]; simp, fun u hu hus v hv => ?_⟩
      by_cases huf : u = fr
      · subst huf
        exact h1 v hv
      · exact h2 u hu (by simp [hus, huf]) v hv

/-- Where each of four waits for one of them, one is on a cycle. -/
theorem some_cycle {B : Int → List Int} {W : List (Int × Nm)} (hB : ∀ t, wOf W t = none → B t = []) (hall : ∀ x, 1 ≤ x → x ≤ 4 → ∃ y ∈ B x, 1 ≤ y ∧ y ≤ 4) {k : Nat} (hk : ∀ s, nW W s ≤ k) :
    ∃ x, 1 ≤ x ∧ x ≤ 4 ∧ (srch B x k x []).1 = true := by
  refine Classical.byContradiction fun hno => ?_
  have hf : ∀ x, 1 ≤ x → x ≤ 4 → (srch B x k x []).1 = false := fun x h1 h2 => by
    cases hc : (srch B x k x []).1 with
    | false => rfl
    | true => exact absurd ⟨x, h1, h2, hc⟩ hno
  -- whom x waits for
  obtain ⟨g, hg⟩ : ∃ g : Int → Int, ∀ x, 1 ≤ x → x ≤ 4 → g x ∈ B x ∧ 1 ≤ g x ∧ g x ≤ 4 := by
    refine Classical.axiomOfChoice (r := fun x y => 1 ≤ x → x ≤ 4 → y ∈ B x ∧ 1 ≤ y ∧ y ≤ 4) (fun x => ?_)
    by_cases hx : 1 ≤ x ∧ x ≤ 4
    · obtain ⟨y, h1, h2⟩ := hall x hx.1 hx.2
      exact ⟨y, fun _ _ => ⟨h1, h2⟩⟩
    · exact ⟨0, fun h1 h2 => absurd ⟨h1, h2⟩ hx⟩
  -- nobody comes back
  have hnb : ∀ x, 1 ≤ x → x ≤ 4 → ∃ s : List Int, x ∈ s ∧ ∀ u ∈ s, ∀ v ∈ B u, v ∈ s ∧ v ≠ x := fun x h1 h2 => by
    obtain ⟨a1, a2⟩ := srch_no hB k x [] (by simp) (hk []) (hf x h1 h2)
    exact ⟨_, a1, fun u hu v hv => a2 u hu (by simp) v hv⟩
  have hwalk : ∀ x, 1 ≤ x → x ≤ 4 → g x ≠ x ∧ g (g x) ≠ x ∧ g (g (g x)) ≠ x ∧ g (g (g (g x))) ≠ x := fun x h1 h2 => by
    obtain ⟨s, hs, hc⟩ := hnb x h1 h2
    obtain ⟨b1, b2, b3⟩ := hg x h1 h2
    obtain ⟨c1, c2, c3⟩ := hg _ b2 b3
    obtain ⟨d1, d2, d3⟩ := hg _ c2 c3
    obtain ⟨e1, e2, e3⟩ := hg _ d2 d3
    obtain ⟨p1, q1⟩ := hc _ hs _ b1
    obtain ⟨p2, q2⟩ := hc _ p1 _ c1
    obtain ⟨p3, q3⟩ := hc _ p2 _ d1
    obtain ⟨p4, q4⟩ := hc _ p3 _ e1
    exact ⟨q1, q2, q3, q4⟩
  have hx0 : (1 : Int) ≤ 1 := by omega
  obtain ⟨b1, b2, b3⟩ := hg 1 (by omega) (by omega)
  obtain ⟨c1, c2, c3⟩ := hg _ b2 b3
  obtain ⟨d1, d2, d3⟩ := hg _ c2 c3
  obtain ⟨e1, e2, e3⟩ := hg _ d2 d3
  have w0 := hwalk 1 (by omega) (by omega)
  have w1 := hwalk _ b2 b3
  have w2 := hwalk _ c2 c3
  have w3 := hwalk _ d2 d3
  obtain ⟨x1, hx1⟩ : ∃ x1, x1 = g 1 := ⟨_, rfl⟩
  rw [← hx1] at *
  obtain ⟨x2, hx2⟩ : ∃ x2, x2 = g x1 := ⟨_, rfl⟩
  rw [← hx2] at *
  obtain ⟨x3, hx3⟩ : ∃ x3, x3 = g x2 := ⟨_, rfl⟩
  rw [← hx3] at *
  obtain ⟨x4, hx4⟩ : ∃ x4, x4 = g x3 := ⟨_, rfl⟩
  rw [← hx4] at *
  omega
end Go.Proofs.YtcdlplbccblbaaaGreat

namespace Go.Proofs.YtcdlplbccblbaaaGreat
open Go.RowKit
set_option linter.unusedVariables false

/-- The mode that a transaction has. -/
def hasQ (q : List Ak) (tx : Int) : Int := match q.findIdx? fun a => a.tx == tx with
  | none => 0
  | some i => (q.getD i ⟨0, 0, 0, false⟩).has
section
variable {B : Nat} {w w' : World} {T QB WB : Nat} {L : List (Nm × List Ak)} {W : List (Int × Nm)} {R : List Row}
set_option maxRecDepth 100000 in
theorem has_tab (h : Tab w T QB WB R W) (tx k o p s : Int) :
    Calls Tryz.prog 28 #[.pointer (some ⟨T, 0, none⟩), .int .i64 tx, .agg #[.int .i64 k, .int .i64 o, .int .u32 p, .int .i64 s]] w fun e w' => e = .returned (.int .i64 (hasQ (qOf R ⟨k, o, p, s⟩) tx)) ∧ Below w.heap.size w w' := by
  obtain ⟨wa, hwa⟩ : ∃ wa, wa = w.alloc (.cells #[.int .i64 k, .int .i64 o, .int .u32 p, .int .i64 s] 46) := ⟨_, rfl⟩
  have hBa : Below w.heap.size w wa := by rw [hwa]; exact (Below.refl _ _).alloc (Nat.le_refl _) _
  have hTa := h.below hBa
  have hbn : Blk wa w.heap.size 46 #[.int .i64 k, .int .i64 o, .int .u32 p, .int .i64 s] := by rw [hwa]; exact Blk.new _ _ _
  have t0 := hTa.head.cell 0
  have b0 := hbn.cell 0
  have b1 := hbn.cell 1
  have b2 := hbn.cell 2
  have b3 := hbn.cell 3
  simp at t0 b0 b1 b2 b3
  have hlk : ∀ q', (Instr.lookup 34 (.map (some QB)) (.agg #[.int .i64 k, .int .i64 o, .int .u32 p, .int .i64 s]) false).run Tryz.prog (wa.drewN q') = .ok (vOf R ⟨k, o, p, s⟩) (wa.drewN q') :=
    fun q' => (hTa.below (below_drewN (Below.refl _ _) q')).look ⟨k, o, p, s⟩
  have hqv : ∀ q', QV (wa.drewN q') (vOf R ⟨k, o, p, s⟩) (qOf R ⟨k, o, p, s⟩) := fun q' => (hTa.below (below_drewN (Below.refl _ _) q')).qv ⟨k, o, p, s⟩
  have hlkd : (Instr.lookup 34 (.map (some QB)) (.agg #[.int .i64 k, .int .i64 o, .int .u32 p, .int .i64 s]) false).run Tryz.prog wa.drew = .ok (vOf R ⟨k, o, p, s⟩) wa.drew := (hTa.below (Below.refl _ _).drew).look ⟨k, o, p, s⟩
  have hqd : QV wa.drew (vOf R ⟨k, o, p, s⟩) (qOf R ⟨k, o, p, s⟩) := (hTa.below (Below.refl _ _).drew).qv ⟨k, o, p, s⟩
  have hTlt : T < wa.drew.heap.size := hTa.head.lt
  have hnlt : w.heap.size < wa.drew.heap.size := hbn.lt
  go_enter Tryz.func28, Tryz.ntmps28
  go_wp2_with fail
  rw [← hwa]
  clear hwa
  go_region_held3 (fun w' => w'.cell? ⟨T, 0, none⟩ = some (.map (some QB)) ∧ w'.cell? ⟨w.heap.size, 0, none⟩ = some (.int .i64 k) ∧ w'.cell? ⟨w.heap.size, 1, none⟩ = some (.int .i64 o) ∧
      w'.cell? ⟨w.heap.size, 2, none⟩ = some (.int .u32 p) ∧ w'.cell? ⟨w.heap.size, 3, none⟩ = some (.int .i64 s))
    ((go_split_ands; refine ⟨?_, ?_, ?_, ?_, ?_⟩ <;> first
      | go_keep
      | (rw [World.cell?_of_block (hB3.block _ (by first | exact hTlt | exact hnlt))]; assumption)))
    ((go_at_call 31; refine (find_any _ _ tx _ hqd).mono ?_; rintro e w3 ⟨rfl, hB3⟩))
  go_split_ands
  have hBw3 : Below w.heap.size w w3 := (hBa.trans ((Below.refl wa.heap.size wa).drew.mono hBa.size)).trans (hB3.mono hBa.size)
  cases hf : (qOf R ⟨k, o, p, s⟩).findIdx? fun a => a.tx == tx with
  | none =>
    rw [idx_of_none hf]
    have hh : Hid (hasQ (qOf R ⟨k, o, p, s⟩) tx = 0) := Lib.hid (by unfold hasQ; rw [hf])
    go_wp2_with fail
    go_ret
    rw [hh.out]
    exact ⟨rfl, hBw3⟩
  | some i =>
    obtain ⟨hix, hil⟩ := idx_of_some hf
    rw [hix]
    have hT3 := h.below hBw3
    rcases hqd with ⟨_, h0⟩ | ⟨g, cap, hve, hrow⟩
    · rw [h0] at hil; simp at hil
    · have hh : Hid (hasQ (qOf R ⟨k, o, p, s⟩) tx = (qOf R ⟨k, o, p, s⟩)[i].has) := Lib.hid (by unfold hasQ; rw [hf]; simp [List.getD, hil])
      have hrow3 : RowAt w3 g cap (qOf R ⟨k, o, p, s⟩) := hrow.of_block (hB3.block _ hrow.lt)
      have r1 := hrow3.c1 hil
      have hle := hrow3.le
      have hmx := hrow3.max
      unfold maxLen at hmx
      have hlk3 : ∀ q', (Instr.lookup 34 (.map (some QB)) (.agg #[.int .i64 k, .int .i64 o, .int .u32 p, .int .i64 s]) false).run Tryz.prog (w3.drewN q') = .ok (.slice (some ⟨g, 0, none⟩) (qOf R ⟨k, o, p, s⟩).length cap) (w3.drewN q') := by
        intro q'
        rw [← hve]
        exact (hT3.below (below_drewN (Below.refl _ _) q')).look ⟨k, o, p, s⟩
      clear hlk hqv
      go_wp2_with fail
      go_quiet (fail)
      go_wp2_with fail
      go_ret
      rw [hh.out]
      exact ⟨rfl, below_drewN hBw3 _⟩
theorem has_ta (h : TA B w T QB WB L W) (tx k o p s : Int) :
    Calls Tryz.prog 28 #[.pointer (some ⟨T, 0, none⟩), .int .i64 tx, .agg #[.int .i64 k, .int .i64 o, .int .u32 p, .int .i64 s]] w fun e w' => e = .returned (.int .i64 (hasQ (qL L ⟨k, o, p, s⟩) tx)) ∧ Below w.heap.size w w' := by
  obtain ⟨R, ht, rfl, _⟩ := h
  rw [qL_rows]
  exact has_tab ht tx k o p s
end
end Go.Proofs.YtcdlplbccblbaaaGreat

namespace Go.Proofs.YtcdlplbccblbaaaGreat
open Go.RowKit
set_option linter.unusedVariables false

theorem infoHeld : (Tryz.prog.info? 71).map (fun i => (i.zero, i.size, i.bytes)) = some (some (.agg #[.int .i64 0, .int .i64 0, .int .u32 0, .int .i64 0, .int .i64 0]), 5, 40) := by kernel_rfl
def hvs (p : Nm × Int) : List Value := [.int .i64 p.1.kind, .int .i64 p.1.of_, .int .u32 p.1.page, .int .i64 p.1.slot, .int .i64 p.2]
theorem hvs_len (l : List (Nm × Int)) : (l.flatMap hvs).length = l.length * 5 := by
  induction l with
  | nil => rfl
  | cons a l ih => simp [hvs, ih]; omega
theorem hvs_get : ∀ (l : List (Nm × Int)) (k j : Nat) (hk : k < l.length) (hj : j < 5), (l.flatMap hvs)[k * 5 + j]? = (hvs l[k])[j]?
  | a :: l, 0, j, _, hj => by
    rw [List.flatMap_cons, List.getElem?_append_left (by simp [hvs]; omega)]
    simp
  | a :: l, k + 1, j, hk, hj => by
    rw [List.flatMap_cons, List.getElem?_append_right (by simp [hvs]; omega)]
    have e : (k + 1) * 5 + j - (hvs a).length = k * 5 + j := by simp [hvs]; omega
    rw [e, hvs_get l k j (by simpa using hk) hj]
    simp
  | [], k, j, hk, _ => by simp at hk
/-- v is a row of what one has, nil if there is none. -/
def HeldAt (w : World) (base : Nat) (v : Value) (l : List (Nm × Int)) : Prop := w.ownsRow base 71 5 v l.length (l.flatMap hvs) ∧ (v = .slice none 0 0 ↔ l = [])
theorem HeldAt.cell {w : World} {base : Nat} {v : Value} {l : List (Nm × Int)} (h : HeldAt w base v l) {i : Nat} (hi : i < l.length) :
    ∃ g cap, v = .slice (some ⟨g, 0, none⟩) l.length cap ∧ l.length ≤ cap ∧ cap ≤ maxLen ∧ g < w.heap.size ∧ w.cell? ⟨g, i * 5, none⟩ = some (.int .i64 l[i].1.kind) ∧ w.cell? ⟨g, i * 5 + 1, none⟩ = some (.int .i64 l[i].1.of_) ∧ w.cell? ⟨g, i * 5 + 2, none⟩ = some (.int .u32 l[i].1.page) ∧ w.cell? ⟨g, i * 5 + 3, none⟩ = some (.int .i64 l[i].1.slot) ∧ w.cell? ⟨g, i * 5 + 4, none⟩ = some (.int .i64 l[i].2) := by
  rcases h.1.2 with ⟨_, h0⟩ | ⟨g, cap, cur, rfl, hg, hb, r1, r2, r3, r4⟩
  · omega
  · have hB : Blk w g 71 cur := hb
    have hc : ∀ j, j < 5 → w.cell? ⟨g, i * 5 + j, none⟩ = (hvs l[i])[j]? := by
      intro j hj
      rw [hB.cell]
      have h1 : (cur.toList.take (l.length * 5))[i * 5 + j]? = (l.flatMap hvs)[i * 5 + j]? := by rw [r4]
      rw [List.getElem?_take_of_lt (by omega), Array.getElem?_toList, hvs_get l i j hi hj] at h1
      exact h1
    exact ⟨g, cap, rfl, r1, r2, hB.lt, hc 0 (by omega), hc 1 (by omega), hc 2 (by omega), hc 3 (by omega), hc 4 (by omega)⟩
theorem HeldAt.form {w : World} {base : Nat} {v : Value} {l : List (Nm × Int)} (h : HeldAt w base v l) : ∃ a c, v = .slice a l.length c := by
  rcases h.1.2 with ⟨rfl, h0⟩ | ⟨g, cap, cur, rfl, _⟩
  · exact ⟨none, 0, by rw [h0]⟩
  · exact ⟨_, _, rfl⟩
theorem HeldAt.below {w w' : World} {base : Nat} {v : Value} {l : List (Nm × Int)} (h : HeldAt w base v l) (hb : Below w.heap.size w w') : HeldAt w' base v l := by
  refine ⟨⟨h.1.1, ?_⟩, h.2⟩
  rcases h.1.2 with h0 | ⟨g', cap', cur, hv, hg, hb', r1⟩
  · exact .inl h0
  · exact .inr ⟨g', cap', cur, hv, hg, (hb.block g' (Array.getElem?_eq_some_iff.1 hb').1).trans hb', r1⟩

def heldK (L : List (Nm × List Ak)) (tx : Int) (l : List Nm) : List (Nm × Int) := l.filterMap fun n => if hasQ (qL L n) tx = 0 then none else some (n, hasQ (qL L n) tx)
/-- What a transaction has, in order. -/
def held (L : List (Nm × List Ak)) (tx : Int) : List (Nm × Int) := heldK L tx (sortN (L.map (·.1)))
theorem heldK_step (L : List (Nm × List Ak)) (tx : Int) (l : List Nm) {i : Nat} (hi : i < l.length) : heldK L tx (l.take (i + 1)) = heldK L tx (l.take i) ++ (if hasQ (qL L l[i]) tx = 0 then [] else [(l[i], hasQ (qL L l[i]) tx)]) := by
  unfold heldK
  rw [List.take_succ_eq_append_getElem hi, List.filterMap_append]
  congr 1
  simp only [List.filterMap_cons, List.filterMap_nil]
  split <;> simp_all

section
variable {B : Nat} {w w' : World} {T QB WB : Nat} {L : List (Nm × List Ak)} {W : List (Int × Nm)} {R : List Row}
set_option maxRecDepth 100000 in
theorem len_ta (h : TA B w T QB WB L W) : Calls Tryz.prog 18 #[.pointer (some ⟨T, 0, none⟩)] w fun e w' => e = .returned (.int .i64 L.length) ∧ Below w.heap.size w w' := by
  obtain ⟨R, ht, rfl, _⟩ := h
  have t0 := ht.head.cell 0
  simp at t0
  obtain ⟨es, c, hq, hes, -⟩ := ht.qm
  have hsz : es.size = R.length := by
    have := congrArg List.length hes
    simpa using this
  have HS := Lib.hid hsz
  have hlen : ∀ ty, (Builtin.len_ #[34] ty #[.map (some QB)]).run Tryz.prog w = .ok (.int .i64 es.size) w := fun ty => by
    have hg := MapKept.run_getObj_map (P := Tryz.prog) hq
    simp [Builtin.len_, run_underlying Tryz.underlying34, hg, Result.andThen, goInt]
  clear hes hsz ht
  go_enter Tryz.func18, Tryz.ntmps18
  go_wp2
  go_ret
  rw [HS.out, List.length_map]
  exact ⟨rfl, by first | exact Below.refl _ _ | exact (Below.refl _ _).drew⟩

set_option maxRecDepth 100000 in
set_option maxHeartbeats 2000000 in
theorem held_ta (h : TA B w T QB WB L W) (hl : L.length ≤ 1000) (tx : Int) :
    Calls Tryz.prog 25 #[.pointer (some ⟨T, 0, none⟩), .int .i64 tx] w fun e w' => ∃ v, e = .returned v ∧ HeldAt w' w.heap.size v (held L tx) ∧ Below w.heap.size w w' := by
  obtain ⟨i0, hi0, hz0, hz1, hz2⟩ := info_parts infoHeld
  have h0 := h
  obtain ⟨R, ht, hm, hf⟩ := h0
  have hRl : R.length ≤ 1000 := by rw [← hm] at hl; simpa using hl
  have hnn : R.map (·.n) = L.map (·.1) := by rw [← hm, List.map_map]; rfl
  go_enter Tryz.func25, Tryz.ntmps25
  go_wp2_with fail
  refine (names_any ht (by omega)).mono ?_
  rintro e w2 ⟨nsv, rfl, hN, hb2⟩
  rw [hnn] at hN
  obtain ⟨ns, hns⟩ : ∃ ns, ns = sortN (L.map (·.1)) := ⟨_, rfl⟩
  have hnsl : ns.length = L.length := by rw [hns, sortN_len, List.length_map]
  rw [← hns] at hN
  have hheld : held L tx = heldK L tx ns := by unfold held; rw [hns]
  have HHELD := Lib.hid hheld
  clear hheld hns hnn
  have hvs : ∃ a c, nsv = .slice a ns.length c := by
    rcases hN.1.2 with ⟨e, h0⟩ | ⟨g, cap, cur, e, _⟩
    · exact ⟨none, 0, by rw [e, h0]⟩
    · exact ⟨_, cap, e⟩
  obtain ⟨na, nc, rfl⟩ := hvs
  go_wp2_with fail
  go_loopw [5, 14] (fun v j wr => ∃ i : Nat, i ≤ ns.length ∧ j = .int .i64 i ∧ Below w.heap.size w wr ∧ NamesAt wr w.heap.size (.slice na ns.length nc) ns ∧ HeldAt wr w.heap.size v (heldK L tx (ns.take i))) (fun _ j _ => ns.length - (intOf j).toNat)
  case atStart => exact ⟨0, by omega, rfl, hb2, hN, ⟨rfl, .inl ⟨rfl, rfl⟩⟩, by simp [heldK]⟩
  case round =>
    obtain ⟨i, hi, rfl, hB, hNr, hH⟩ := hrel
    by_cases hlt : i < ns.length
    · obtain ⟨gn, cn, hve, hcn1, hcn2, hgn, x0, x1, x2, x3⟩ := hNr.cell hlt
      obtain ⟨rfl, rfl⟩ : na = some ⟨gn, 0, none⟩ ∧ nc = cn := by simpa using hve
      unfold maxLen at hcn2
      have hstep := heldK_step L tx ns hlt
      have hlen : (heldK L tx (ns.take i)).length ≤ 1000 := by
        unfold heldK
        refine Nat.le_trans (List.length_filterMap_le _ _) ?_
        rw [List.length_take]; omega
      obtain ⟨n, hn⟩ : ∃ n, n = ns[i] := ⟨_, rfl⟩
      rw [← hn] at x0 x1 x2 x3 hstep
      obtain ⟨k, o, p, s⟩ := n
      have HSTEP := Lib.hid hstep
      clear hstep hn
      obtain ⟨wa, hwa⟩ : ∃ wa, wa = wr.alloc (.cells #[.int .i64 k, .int .i64 o, .int .u32 p, .int .i64 s] 46) := ⟨_, rfl⟩
      have hBa : Below wr.heap.size wr wa := by rw [hwa]; exact (Below.refl _ _).alloc (Nat.le_refl _) _
      have hbn : Blk wa wr.heap.size 46 #[.int .i64 k, .int .i64 o, .int .u32 p, .int .i64 s] := by rw [hwa]; exact Blk.new _ _ _
      have hBwa : Below w.heap.size w wa := hB.trans (hBa.mono hB.size)
      go_wp2_with fail
      rw [← hwa]
      clear hwa
      refine (has_ta (h.below hBwa) tx k o p s).mono ?_
      rintro e w3 ⟨rfl, hB3⟩
      have hBw3 : Below w.heap.size w w3 := hBwa.trans (hB3.mono hBwa.size)
      have hB13 : Below wr.heap.size wr w3 := hBa.trans (hB3.mono hBa.size)
      have hN3 : NamesAt w3 w.heap.size (.slice (some ⟨gn, 0, none⟩) ns.length nc) ns := hNr.keeps (.of_below hB13 (fun _ => False)) (fun _ _ _ h => h)
      have hH3 := hH.below hB13
      have hbn3 : Blk w3 wr.heap.size 46 #[.int .i64 k, .int .i64 o, .int .u32 p, .int .i64 s] := hbn.of_block (hB3.block _ hbn.lt)
      have b0 := hbn3.cell 0
      have b1 := hbn3.cell 1
      have b2 := hbn3.cell 2
      have b3 := hbn3.cell 3
      simp at b0 b1 b2 b3
      obtain ⟨m, hm⟩ : ∃ m, m = hasQ (qL L ⟨k, o, p, s⟩) tx := ⟨_, rfl⟩
      rw [← hm]
      have HM := Lib.hid hm
      clear hm
      by_cases hm0 : m = 0
      · have hc : (m != 0) = false := by simpa using hm0
        have HS1 : Hid (heldK L tx (ns.take (i + 1)) = heldK L tx (ns.take i)) := Lib.hid (by rw [HSTEP.out, ← HM.out, if_pos hm0, List.append_nil])
        clear hm0
        go_wp2_with fail
        go_roundw
        case rel => exact ⟨i + 1, by omega, by go_num, hBw3, hN3, by rw [HS1.out]; exact hH3⟩
        case measure => simp [intOf]; omega
      · have hc : (m != 0) = true := by simpa using hm0
        have HS1 : Hid (heldK L tx (ns.take (i + 1)) = heldK L tx (ns.take i) ++ [(⟨k, o, p, s⟩, m)]) := Lib.hid (by rw [HSTEP.out, ← HM.out, if_neg hm0])
        have hws : w.heap.size ≤ w3.heap.size := hBw3.size
        clear hm0
        go_wp2_with (at_builtin; refine wpList_append_own_at _ rfl _ _ 64 rfl w.heap.size 71 i0 _ 5 40 Tryz.underlying64 hi0 hz0 hz1 hz2 rfl (by decide) _ _ _ rfl (hH3.1.alloc _) ⟨w3.heap.size, 0, none⟩ 1 1 [.int .i64 k, .int .i64 o, .int .u32 p, .int .i64 s, .int .i64 m] rfl rfl (World.news_of_block (cs := #[.int .i64 k, .int .i64 o, .int .u32 p, .int .i64 s, .int .i64 m]) (t := 71) (fr := (0, 0)) (heap_alloc_new w3 _)) (by simp [Value.oneCell']) (by unfold maxLen; omega) (by omega) (by simp; omega) ?_; intro v' w8 hown8 hgr8 hnil8 _)
        have hgr9 : (w3.alloc (.cells #[.int .i64 k, .int .i64 o, .int .u32 p, .int .i64 s, .int .i64 m] 71)).grownBy w8 u5.ownBlock := hgr8
        have hB8 : Below w.heap.size w w8 := (hBw3.alloc hws _).grown hgr9 (by simp; omega) (fun kk hk => by
          rcases hH3.1.2 with ⟨e, _⟩ | ⟨g5, cap5, cur5, e, hg5, _⟩
          · rw [e] at hk; simp [Value.ownBlock] at hk
          · rw [e] at hk; simp [Value.ownBlock] at hk; omega)
        have hN8 : NamesAt w8 w.heap.size (.slice (some ⟨gn, 0, none⟩) ns.length nc) ns := by
          have ka : Keeps w3 (w3.alloc (.cells #[.int .i64 k, .int .i64 o, .int .u32 p, .int .i64 s, .int .i64 m] 71)) (fun _ => False) := .of_below ((Below.refl _ _).alloc (Nat.le_refl _) _) _
          refine (hN3.keeps ka (fun _ _ _ h => h)).keeps (.of_grown hgr9 (F := fun kk => ∃ cs, Blk (w3.alloc (.cells #[.int .i64 k, .int .i64 o, .int .u32 p, .int .i64 s, .int .i64 m] 71)) kk 71 cs) (fun kk hk => ?_)) (fun kk cs hb hx => ?_)
          · rcases (hH3.1.alloc (.cells #[.int .i64 k, .int .i64 o, .int .u32 p, .int .i64 s, .int .i64 m] 71)).2 with ⟨e, _⟩ | ⟨g5, cap5, cur5, e, hg5, hb5, _⟩
            · rw [e] at hk; simp [Value.ownBlock] at hk
            · rw [e] at hk
              obtain rfl : g5 = kk := by simpa [Value.ownBlock] using hk
              exact ⟨cur5, hb5⟩
          · obtain ⟨cs2, hb2'⟩ := hx
            unfold Blk at hb hb2'
            rw [hb] at hb2'
            simp at hb2'
        have hH8 : HeldAt w8 w.heap.size v' (heldK L tx (ns.take i) ++ [(⟨k, o, p, s⟩, m)]) := ⟨by rw [List.length_append, List.flatMap_append]; simpa [hvs] using hown8, by simpa using hnil8⟩
        go_wp2_with fail
        go_roundw
        case rel => exact ⟨i + 1, by omega, by go_num, hB8, hN8, by rw [HS1.out]; exact hH8⟩
        case measure => simp [intOf]; omega
    · obtain rfl : i = ns.length := by omega
      have HF : Hid (heldK L tx (ns.take ns.length) = heldK L tx ns) := Lib.hid (by rw [List.take_length])
      go_wp2_with fail
      go_ret
      rw [HF.out, ← HHELD.out] at hH
      exact ⟨_, rfl, hH, hB⟩
end
end Go.Proofs.YtcdlplbccblbaaaGreat
