import Derived.Test.YtcdlplbccblbaaaGreatMg13
namespace Go.Proofs.YtcdlplbccblbaaaGreat
open Go.RowKit
set_option linter.unusedVariables false

/-- Neither has nor waits. -/
def zAk (a : Ak) : Bool := a.has == 0 && a.wants == 0

theorem grant1_any (a : Ak) (w : World) :
    Calls Tryz.prog 60 #[.agg #[.int .i64 a.tx, .int .i64 a.has, .int .i64 a.wants, .bool a.inst]] w fun e w' => e = .returned (.bool (zAk a)) ∧ Below w.heap.size w w' := by
  unfold zAk
  cases h0 : a.has == 0
  · go_enter Tryz.func60, Tryz.ntmps60
    go_wp2
    go_ret
    exact ⟨rfl, (Below.refl _ _).alloc (Nat.le_refl _) _⟩
  · go_enter Tryz.func60, Tryz.ntmps60
    go_wp2
    go_ret
    exact ⟨rfl, (Below.refl _ _).alloc (Nat.le_refl _) _⟩

/-- The place of the first that neither has nor waits; -1: none. -/
def zidx (q : List Ak) : Int := match q.findIdx? zAk with | some i => i | none => -1
theorem zidx_some {q : List Ak} {k : Nat} (hk : k < q.length) (h : zAk q[k] = true) (hno : ∀ j (hj : j < q.length), j < k → zAk q[j] = false) : zidx q = k := by
  have : q.findIdx? zAk = some k := by
    rw [List.findIdx?_eq_some_iff_getElem]
    exact ⟨hk, h, fun j hj => by simpa using hno j (by omega) hj⟩
  simp [zidx, this]
theorem zidx_none {q : List Ak} (hno : ∀ j (hj : j < q.length), zAk q[j] = false) : zidx q = -1 := by
  have : q.findIdx? zAk = none := by
    rw [List.findIdx?_eq_none_iff]
    intro a ha
    obtain ⟨j, hj, rfl⟩ := List.getElem_of_mem ha
    simpa using hno j hj
  simp [zidx, this]

theorem indexZ_row (g cap : Nat) (q : List Ak) (w : World) (h : RowAt w g cap q) :
    Calls Tryz.prog 53 #[.slice (some ⟨g, 0, none⟩) q.length cap, .func (.func 60) #[] #[]] w fun e w' => e = .returned (.int .i64 (zidx q)) ∧ Below w.heap.size w w' := by
  have hglt := h.lt
  have hqc := h.le
  have hcm := h.max
  unfold maxLen at hcm
  go_enter Tryz.func53, Tryz.ntmps53
  go_wp2
  go_loopw [8] (fun i wr => ∃ k : Nat, k ≤ q.length ∧ i = .int .i64 k ∧ Below w.heap.size w wr ∧ Hid (∀ j (hj : j < q.length), j < k → zAk q[j] = false)) (fun i _ => q.length - (intOf i).toNat)
  case atStart => exact ⟨0, Nat.zero_le _, rfl, Below.refl _ _, Lib.hid (fun j _ h => by omega)⟩
  case round =>
    obtain ⟨k, hk, rfl, hB, hno⟩ := hrel
    by_cases hlt2 : k < q.length
    · have hr := h.of_block (hB.block g hglt)
      have c0 := hr.c0 hlt2
      have c1 := hr.c1 hlt2
      have c2 := hr.c2 hlt2
      have c3 := hr.c3 hlt2
      have hsz := hB.size
      by_cases heq : zAk q[k] = true
      · have HE := Lib.hid heq
        go_wp2_with fail
        refine (grant1_any q[k] wr).mono ?_
        rintro e w1 ⟨rfl, hB1⟩
        go_wp2_with fail
        go_ret
        exact ⟨ret_int (zidx_some hlt2 HE.out hno.out).symm, hB.trans (hB1.mono hsz)⟩
      · have heq : zAk q[k] = false := by simpa using heq
        have HE := Lib.hid heq
        go_wp2_with fail
        refine (grant1_any q[k] wr).mono ?_
        rintro e w1 ⟨rfl, hB1⟩
        go_wp2_with fail
        go_roundw
        case rel =>
          refine ⟨k + 1, by omega, by go_num, hB.trans (hB1.mono hsz), Lib.hid (fun j hj hjk => ?_)⟩
          rcases Nat.lt_or_ge j k with h | h
          · exact hno.out j hj h
          · obtain rfl : j = k := by omega
            exact HE.out
        case measure => simp [intOf]; omega
    · obtain rfl : k = q.length := by omega
      go_wp2_with fail
      go_ret
      exact ⟨ret_int (zidx_none (fun j hj => hno.out j hj hj)).symm, hB⟩

section
variable {w w' : World} {g cap : Nat} {q : List Ak}
/-- One who stands there is written whole. -/
def store4 (w : World) (g k : Nat) (a : Ak) : World :=
  (((w.setCell ⟨g, k * 4, none⟩ (.int .i64 a.tx)).setCell ⟨g, k * 4 + 1, none⟩ (.int .i64 a.has)).setCell ⟨g, k * 4 + 2, none⟩ (.int .i64 a.wants)).setCell ⟨g, k * 4 + 3, none⟩ (.bool a.inst)
theorem RowAt.put4 (h : RowAt w g cap q) {k : Nat} (hk : k < q.length) (a : Ak) : RowAt (store4 w g k a) g cap (q.set k a) ∧ Keeps w (store4 w g k a) (· = g) := by
  refine ⟨?_, ((((Keeps.setCell w ⟨g, k * 4, none⟩ _ (F := (· = g)) (Eq.refl g)).trans (F' := (· = g)) (Keeps.setCell _ ⟨g, k * 4 + 1, none⟩ _ (Eq.refl g)) (fun _ _ h => h)).trans (F' := (· = g)) (Keeps.setCell _ ⟨g, k * 4 + 2, none⟩ _ (Eq.refl g)) (fun _ _ h => h)).trans (F' := (· = g)) (Keeps.setCell _ ⟨g, k * 4 + 3, none⟩ _ (Eq.refl g)) (fun _ _ h => h))⟩
  have h0 := h.put (j := 0) hk (by omega) (a := { q[k] with tx := a.tx }) (u := .int .i64 a.tx) rfl
  have h1 := h0.put (k := k) (j := 1) (by simpa using hk) (by omega) (a := { q[k] with tx := a.tx, has := a.has }) (u := .int .i64 a.has) (by simp; rfl)
  have h2 := h1.put (k := k) (j := 2) (by simpa using hk) (by omega) (a := { q[k] with tx := a.tx, has := a.has, wants := a.wants }) (u := .int .i64 a.wants) (by simp; rfl)
  have h3 := h2.put (k := k) (j := 3) (by simpa using hk) (by omega) (a := a) (u := .bool a.inst) (by simp; rfl)
  simpa [List.set_set, store4] using h3
end

/-- Those that stay. -/
def stay (q : List Ak) : List Ak := q.filter fun a => !zAk a
theorem stay_none {q : List Ak} (h : zidx q = -1) : stay q = q := by
  unfold zidx at h
  cases hf : q.findIdx? zAk with
  | some i => rw [hf] at h; simp at h
  | none =>
    rw [List.findIdx?_eq_none_iff] at hf
    unfold stay
    rw [List.filter_eq_self]
    intro a ha
    rw [hf a ha]
    rfl
theorem stay_some {q : List Ak} (h : zidx q ≠ -1) : ∃ k : Nat, zidx q = k ∧ k < q.length ∧ (stay (q.take (k + 1))) = q.take k := by
  unfold zidx at h ⊢
  cases hf : q.findIdx? zAk with
  | none => rw [hf] at h; simp at h
  | some i =>
    rw [List.findIdx?_eq_some_iff_getElem] at hf
    obtain ⟨hi, h1, h2⟩ := hf
    refine ⟨i, rfl, hi, ?_⟩
    unfold stay
    rw [List.take_succ_eq_append_getElem hi, List.filter_append]
    have e1 : [q[i]].filter (fun a => !zAk a) = [] := by simp [h1]
    rw [e1, List.append_nil, List.filter_eq_self]
    intro a ha
    obtain ⟨j, hj, rfl⟩ := List.getElem_of_mem ha
    rw [List.length_take] at hj
    have := h2 j (by omega)
    rw [List.getElem_take]
    simpa using this

set_option maxHeartbeats 1600000 in
theorem deleteFunc_row (g cap : Nat) (q : List Ak) (w : World) (h : RowAt w g cap q) :
    Calls Tryz.prog 59 #[.slice (some ⟨g, 0, none⟩) q.length cap, .func (.func 60) #[] #[]] w fun e w' =>
      e = .returned (.slice (some ⟨g, 0, none⟩) (stay q).length cap) ∧ RowAt w' g cap (stay q) ∧ Keeps w w' (· = g) := by
  have hglt := h.lt
  have hqc := h.le
  have hcm := h.max
  unfold maxLen at hcm
  go_enter Tryz.func59, Tryz.ntmps59
  go_wp2_with fail
  refine (indexZ_row g cap q w h).mono ?_
  rintro e w1 ⟨rfl, hB1⟩
  have h1 := h.of_block (hB1.block g hglt)
  by_cases hz : zidx q = -1
  · rw [hz]
    go_wp2_with fail
    go_ret
    rw [stay_none hz]
    exact ⟨rfl, h1, .of_below hB1 _⟩
  · obtain ⟨k0, hk0, hk1, hst⟩ := stay_some hz
    rw [hk0]
    have hbe : ((k0 : Int) == -1) = false := by rw [beq_eq_false_iff_ne]; omega
    have HS := Lib.hid hst
    clear hst hz hk0
    go_wp2_with fail
    go_loopw [5, 6] (fun i j wr => ∃ (k m : Nat) (L : List Ak), i = .int .i64 k ∧ j = .int .i64 m ∧ k < m ∧ m ≤ q.length ∧ L.length = q.length ∧ RowAt wr g cap L ∧ L.take k = stay (q.take m) ∧ L.drop m = q.drop m ∧ Keeps w wr (· = g)) (fun _ j _ => q.length - (intOf j).toNat)
    case atStart => exact ⟨k0, k0 + 1, q, rfl, by go_num, by omega, by omega, rfl, h1, HS.out.symm, rfl, .of_below hB1 _⟩
    case round =>
      obtain ⟨k, m, L, rfl, rfl, hkm, hmq, hL, hR, hT, hD, hK⟩ := hrel
      by_cases hlt2 : m < q.length
      · have hmL : m < L.length := by omega
        have hkL : k < L.length := by omega
        have c0 := hR.c0 hmL
        have c1 := hR.c1 hmL
        have c2 := hR.c2 hmL
        have c3 := hR.c3 hmL
        have hlm : L[m] = q[m] := by
          have : (L.drop m)[0]? = (q.drop m)[0]? := by rw [hD]
          simpa [hmL, hlt2] using this
        rw [hlm] at c0 c1 c2 c3
        have HT := Lib.hid hT
        have HD := Lib.hid hD
        clear hT hD
        have A1 : Below wr.heap.size wr (wr.alloc (.cells #[.int .i64 q[m].tx, .int .i64 q[m].has, .int .i64 q[m].wants, .bool q[m].inst] 80)) := (Below.refl _ _).alloc (Nat.le_refl _) _
        go_wp2_with fail
        refine (grant1_any q[m] _).mono ?_
        rintro e w2 ⟨rfl, hB2⟩
        have hg2 : g < wr.heap.size := hR.lt
        have hB3 : Below wr.heap.size wr w2 := A1.trans (hB2.mono (by simp))
        have hR2 : RowAt w2 g cap L := hR.of_block (hB3.block g hg2)
        have hb2 : Blk w2 wr.heap.size 80 #[.int .i64 q[m].tx, .int .i64 q[m].has, .int .i64 q[m].wants, .bool q[m].inst] := (Blk.new wr 80 _).of_block (hB2.block _ (by simp))
        have d0 := hb2.cell 0
        have d1 := hb2.cell 1
        have d2 := hb2.cell 2
        have d3 := hb2.cell 3
        simp at d0 d1 d2 d3
        have e0 := hR2.c0 hkL
        have e1 := hR2.c1 hkL
        have e2 := hR2.c2 hkL
        have e3 := hR2.c3 hkL
        have f0 := hR2.frozen (k * 4)
        have f1 := hR2.frozen (k * 4 + 1)
        have f2 := hR2.frozen (k * 4 + 2)
        have f3 := hR2.frozen (k * 4 + 3)
        clear c0 c1 c2 c3
        cases hz : zAk q[m]
        · go_wp2_with fail
          obtain ⟨w3, hw3⟩ : ∃ w3, w3 = store4 w2 g k q[m] := ⟨_, rfl⟩
          obtain ⟨p1, p2⟩ := hR2.put4 hkL q[m]
          rw [← hw3] at p1 p2
          unfold store4 at hw3
          simp only [← hw3]
          go_roundw
          case rel =>
            refine ⟨k + 1, m + 1, L.set k q[m], by go_num, by go_num, by omega, by omega, by simp [hL], p1, ?_, ?_, (hK.trans (.of_below hB3 _) (fun _ _ h => h)).trans (F' := (· = g)) p2 (fun _ _ h => h)⟩
            · rw [List.take_succ_eq_append_getElem (by simpa using hkL), List.take_set_of_le (Nat.le_refl _), HT.out, List.take_succ_eq_append_getElem hlt2]
              unfold stay
              rw [List.filter_append]
              simp [hz]
            · rw [List.drop_set_of_lt (by omega), ← List.drop_drop, HD.out, List.drop_drop]
          case measure => simp [intOf]; omega
        · go_wp2_with fail
          go_roundw
          case rel =>
            refine ⟨k, m + 1, L, rfl, by go_num, by omega, by omega, hL, hR2, ?_, ?_, hK.trans (.of_below hB3 _) (fun _ _ h => h)⟩
            · rw [HT.out, List.take_succ_eq_append_getElem hlt2]
              unfold stay
              rw [List.filter_append]
              simp [hz]
            · rw [← List.drop_drop, HD.out, List.drop_drop]
          case measure => simp [intOf]; omega
      · obtain rfl : m = q.length := by omega
        have HT := Lib.hid hT
        have hR' := hR
        obtain ⟨cur, hb, hs, ht⟩ := hR.ex
        obtain ⟨w2, hcl, ht2, cur', hb', hs', htk⟩ := run_clear_asks hb k (q.length - k) (cap - k) (by omega) (by omega)
        have hne2 : ¬ (cap = k) := by omega
        have hq1 : (k : Int) ≤ (q.length : Int) := by omega
        have hq2 : (k : Int) ≤ (cap : Int) := by omega
        have hkl : k = (stay q).length := by
          have := congrArg List.length hT
          rw [List.length_take, List.take_length] at this
          omega
        have HX : Hid (RowAt w2 g cap (stay q) ∧ Keeps w w2 (· = g)) := by
          refine Lib.hid ⟨⟨⟨cur', hb', by omega, ?_⟩, by omega, hR.max⟩, hK.trans (F' := (· = g)) (.of_turned ht2 (Eq.refl g)) (fun _ _ h => h)⟩
          rw [← hkl, htk]
          have e1 : (L.flatMap av).take (k * 4) = (stay q).flatMap av := by rw [av_take, hT, List.take_length]
          rw [← e1, ← ht, List.take_take, Nat.min_eq_left (by omega)]
        have HK := Lib.hid hkl
        clear hb hs ht hb' hs' htk hT hD hR hR' hK hkl
        go_wp2_with fail
        go_ret
        rw [← HK.out]
        exact ⟨rfl, HX.out⟩
end Go.Proofs.YtcdlplbccblbaaaGreat
