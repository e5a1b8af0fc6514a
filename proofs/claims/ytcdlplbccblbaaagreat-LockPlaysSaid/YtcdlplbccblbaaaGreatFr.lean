import Derived.Test.YtcdlplbccblbaaaGreatMg28
namespace Go.Proofs.YtcdlplbccblbaaaGreat
open Go.RowKit
set_option linter.unusedVariables false

/-- The place of the first other transaction; -1: there is none. -/
def idxN (q : List Ak) (tx : Int) : Int := match q.findIdx? (fun a => a.tx != tx) with | some i => i | none => -1
theorem idxN_some {q : List Ak} {tx : Int} {k : Nat} (hk : k < q.length) (h : q[k].tx ≠ tx) (hno : ∀ j (hj : j < q.length), j < k → q[j].tx = tx) : idxN q tx = k := by
  have : q.findIdx? (fun a => a.tx != tx) = some k := by
    rw [List.findIdx?_eq_some_iff_getElem]
    exact ⟨hk, by simpa using h, fun j hj => by simpa using hno j (by omega) hj⟩
  simp [idxN, this]
theorem idxN_none {q : List Ak} {tx : Int} (hno : ∀ j (hj : j < q.length), q[j].tx = tx) : idxN q tx = -1 := by
  have : q.findIdx? (fun a => a.tx != tx) = none := by
    rw [List.findIdx?_eq_none_iff]
    intro a ha
    obtain ⟨j, hj, rfl⟩ := List.getElem_of_mem ha
    simpa using hno j hj
  simp [idxN, this]
theorem idxN_ge (q : List Ak) (tx : Int) : decide (idxN q tx ≥ 0) = !q.all (fun a => a.tx == tx) := by
  unfold idxN
  cases h : q.findIdx? (fun a => a.tx != tx) with
  | none =>
    rw [List.findIdx?_eq_none_iff] at h
    have : q.all (fun a => a.tx == tx) = true := by
      rw [List.all_eq_true]
      intro a ha
      have := h a ha
      simpa using this
    rw [this]
    rfl
  | some i =>
    rw [List.findIdx?_eq_some_iff_getElem] at h
    obtain ⟨hi, hh, _⟩ := h
    have : q.all (fun a => a.tx == tx) = false := by
      rw [Bool.eq_false_iff]
      intro hall
      rw [List.all_eq_true] at hall
      have := hall _ (List.getElem_mem hi)
      simp at this hh
      exact hh this
    rw [this]
    simp

theorem free1_any (a : Ak) (tx : Int) (B : Nat) (w : World) (hc : w.cell? ⟨B, 0, none⟩ = some (.int .i64 tx)) :
    Calls Tryz.prog 52 #[.agg #[.int .i64 a.tx, .int .i64 a.has, .int .i64 a.wants, .bool a.inst], .pointer (some ⟨B, 0, none⟩)] w fun e w' => e = .returned (.bool (a.tx != tx)) ∧ Below w.heap.size w w' := by
  have hlt := World.block_lt_of_cell? _ _ hc
  have hc2 : (w.alloc (.cells #[.int .i64 a.tx, .int .i64 a.has, .int .i64 a.wants, .bool a.inst] 80)).cell? ⟨B, 0, none⟩ = some (.int .i64 tx) := by
    rw [World.cell?_alloc_past _ _ _ hlt]; exact hc
  go_enter Tryz.func52, Tryz.ntmps52
  go_wp2
  go_ret
  exact ⟨rfl, (Below.refl _ _).alloc (Nat.le_refl _) _⟩

theorem indexFree_nil (B : Nat) (w : World) :
    Calls Tryz.prog 53 #[.slice none 0 0, .func (.func 52) #[] #[.pointer (some ⟨B, 0, none⟩)]] w fun e w' => e = .returned (.int .i64 (-1)) ∧ w = w' := by
  go_enter Tryz.func53, Tryz.ntmps53
  go_wp2
  refine wp_loop_rounds 1 ?_
  rw [rounds_succ]
  go_wp2
  go_ret
  exact ⟨rfl, rfl⟩

theorem indexFree_row (g cap : Nat) (q : List Ak) (tx : Int) (B : Nat) (w : World) (h : RowAt w g cap q) (hc : w.cell? ⟨B, 0, none⟩ = some (.int .i64 tx)) :
    Calls Tryz.prog 53 #[.slice (some ⟨g, 0, none⟩) q.length cap, .func (.func 52) #[] #[.pointer (some ⟨B, 0, none⟩)]] w fun e w' => e = .returned (.int .i64 (idxN q tx)) ∧ Below w.heap.size w w' := by
  have hlt := World.block_lt_of_cell? _ _ hc
  have hglt := h.lt
  have hqc := h.le
  have hcm := h.max
  unfold maxLen at hcm
  go_enter Tryz.func53, Tryz.ntmps53
  go_wp2
  go_loopw [8] (fun i wr => ∃ k : Nat, k ≤ q.length ∧ i = .int .i64 k ∧ Below w.heap.size w wr ∧ Hid (∀ j (hj : j < q.length), j < k → q[j].tx = tx)) (fun i _ => q.length - (intOf i).toNat)
  case atStart => exact ⟨0, Nat.zero_le _, rfl, Below.refl _ _, Lib.hid (fun j _ h => by omega)⟩
  case round =>
    obtain ⟨k, hk, rfl, hB, hno⟩ := hrel
    by_cases hlt2 : k < q.length
    · have hr := h.of_block (hB.block g hglt)
      have c0 := hr.c0 hlt2
      have c1 := hr.c1 hlt2
      have c2 := hr.c2 hlt2
      have c3 := hr.c3 hlt2
      have cB : wr.cell? ⟨B, 0, none⟩ = some (.int .i64 tx) := (hB.cell hlt).trans hc
      have hsz := hB.size
      by_cases heq : q[k].tx ≠ tx
      · have hbe : (q[k].tx != tx) = true := by simpa using heq
        have HE := Lib.hid heq
        clear heq
        go_wp2_with fail
        refine (free1_any q[k] tx B wr cB).mono ?_
        rintro e w1 ⟨rfl, hB1⟩
        go_wp2_with fail
        go_ret
        exact ⟨ret_int (idxN_some hlt2 HE.out hno.out).symm, hB.trans (hB1.mono hsz)⟩
      · have hbe : (q[k].tx != tx) = false := by simpa using heq
        have HE := Lib.hid heq
        clear heq
        go_wp2_with fail
        refine (free1_any q[k] tx B wr cB).mono ?_
        rintro e w1 ⟨rfl, hB1⟩
        go_wp2_with fail
        go_roundw
        case rel =>
          refine ⟨k + 1, by omega, by go_num, hB.trans (hB1.mono hsz), Lib.hid (fun j hj hjk => ?_)⟩
          rcases Nat.lt_or_ge j k with h | h
          · exact hno.out j hj h
          · obtain rfl : j = k := by omega
            exact Classical.not_not.1 HE.out
        case measure => simp [intOf]; omega
    · obtain rfl : k = q.length := by omega
      go_wp2_with fail
      go_ret
      exact ⟨ret_int (idxN_none (fun j hj => hno.out j hj hj)).symm, hB⟩


theorem contains_any (v : Value) (q : List Ak) (tx : Int) (B : Nat) (w : World) (hv : QV w v q) (hc : w.cell? ⟨B, 0, none⟩ = some (.int .i64 tx)) :
    Calls Tryz.prog 51 #[v, .func (.func 52) #[] #[.pointer (some ⟨B, 0, none⟩)]] w fun e w' => e = .returned (.bool (!q.all (fun a => a.tx == tx))) ∧ Below w.heap.size w w' := by
  have h1 : Calls Tryz.prog 53 #[v, .func (.func 52) #[] #[.pointer (some ⟨B, 0, none⟩)]] w fun e w' => e = .returned (.int .i64 (idxN q tx)) ∧ Below w.heap.size w w' := by
    rcases hv with ⟨rfl, rfl⟩ | ⟨g, cap, rfl, h⟩
    · refine (indexFree_nil _ _).mono ?_
      rintro e w1 ⟨rfl, rfl⟩
      exact ⟨rfl, Below.refl _ _⟩
    · exact indexFree_row g cap q tx _ _ h hc
  have hge := idxN_ge q tx
  go_enter Tryz.func51, Tryz.ntmps51
  go_wp2_with fail
  refine h1.mono ?_
  rintro e w1 ⟨rfl, hB⟩
  go_wp2_with fail
  go_ret
  rw [← hge]
  exact ⟨rfl, hB⟩

section
variable {B : Nat} {w w' : World} {T QB WB : Nat} {L : List (Nm × List Ak)} {W : List (Int × Nm)} {R : List Row}
set_option maxRecDepth 100000 in
theorem free_tab (h : Tab w T QB WB R W) (tx k o p s : Int) :
    Calls Tryz.prog 29 #[.pointer (some ⟨T, 0, none⟩), .int .i64 tx, .agg #[.int .i64 k, .int .i64 o, .int .u32 p, .int .i64 s]] w fun e w' => e = .returned (.bool ((qOf R ⟨k, o, p, s⟩).all (fun a => a.tx == tx))) ∧ Below w.heap.size w w' := by
  have hmf : ∀ (fn : Fn) (first cap : Array Value) (w : World), (Instr.makeFunc fn first cap).run Tryz.prog w = .ok (.func fn first cap) w := fun _ _ _ _ => rfl
  obtain ⟨wa, hwa⟩ : ∃ wa, wa = (w.alloc (.cells #[.int .i64 tx] 3)).alloc (.cells #[.int .i64 k, .int .i64 o, .int .u32 p, .int .i64 s] 46) := ⟨_, rfl⟩
  have hB1 : Below w.heap.size w (w.alloc (.cells #[.int .i64 tx] 3)) := (Below.refl _ _).alloc (Nat.le_refl _) _
  have hBa : Below w.heap.size w wa := by rw [hwa]; exact hB1.alloc (by simp) _
  have hTa := h.below hBa
  have hbx : Blk wa w.heap.size 3 #[.int .i64 tx] := by rw [hwa]; exact (Blk.new _ _ _).of_block (Below.heap_alloc (w.alloc (.cells #[.int .i64 tx] 3)) _ _ (by simp))
  have hbn : Blk wa (w.heap.size + 1) 46 #[.int .i64 k, .int .i64 o, .int .u32 p, .int .i64 s] := by
    rw [hwa]
    have := Blk.new (w.alloc (.cells #[.int .i64 tx] 3)) 46 #[.int .i64 k, .int .i64 o, .int .u32 p, .int .i64 s]
    simpa using this
  have t0 := hTa.head.cell 0
  have b0 := hbn.cell 0
  have b1 := hbn.cell 1
  have b2 := hbn.cell 2
  have b3 := hbn.cell 3
  have x0 := hbx.cell 0
  simp at t0 b0 b1 b2 b3 x0
  have hlk : ∀ q', (Instr.lookup 34 (.map (some QB)) (.agg #[.int .i64 k, .int .i64 o, .int .u32 p, .int .i64 s]) false).run Tryz.prog (wa.drewN q') = .ok (vOf R ⟨k, o, p, s⟩) (wa.drewN q') :=
    fun q' => (hTa.below (below_drewN (Below.refl _ _) q')).look ⟨k, o, p, s⟩
  have hlkd : (Instr.lookup 34 (.map (some QB)) (.agg #[.int .i64 k, .int .i64 o, .int .u32 p, .int .i64 s]) false).run Tryz.prog wa.drew = .ok (vOf R ⟨k, o, p, s⟩) wa.drew := (hTa.below (Below.refl _ _).drew).look ⟨k, o, p, s⟩
  have hqd : QV wa.drew (vOf R ⟨k, o, p, s⟩) (qOf R ⟨k, o, p, s⟩) := (hTa.below (Below.refl _ _).drew).qv ⟨k, o, p, s⟩
  have xd : wa.drew.cell? ⟨w.heap.size, 0, none⟩ = some (.int .i64 tx) := x0
  have hTlt : T < wa.drew.heap.size := hTa.head.lt
  have hnlt : w.heap.size + 1 < wa.drew.heap.size := hbn.lt
  go_enter Tryz.func29, Tryz.ntmps29
  go_wp2_with fail
  rw [← hwa]
  clear hwa
  go_region_held3 (fun w' => w'.cell? ⟨T, 0, none⟩ = some (.map (some QB)) ∧ w'.cell? ⟨w.heap.size + 1, 0, none⟩ = some (.int .i64 k) ∧ w'.cell? ⟨w.heap.size + 1, 1, none⟩ = some (.int .i64 o) ∧
      w'.cell? ⟨w.heap.size + 1, 2, none⟩ = some (.int .u32 p) ∧ w'.cell? ⟨w.heap.size + 1, 3, none⟩ = some (.int .i64 s))
    ((go_split_ands; refine ⟨?_, ?_, ?_, ?_, ?_⟩ <;> first
      | go_keep
      | (rw [World.cell?_of_block (hB3.block _ (by first | exact hTlt | exact hnlt))]; assumption)))
    ((go_at_call 51; refine (contains_any _ _ tx _ _ hqd xd).mono ?_; rintro e w3 ⟨rfl, hB3⟩))
  all_goals
    go_wp2_with fail
    go_ret
    refine ⟨?_, (hBa.trans ((Below.refl wa.heap.size wa).drew.mono hBa.size)).trans (hB3.mono hBa.size)⟩
    simp
theorem free_ta (h : TA B w T QB WB L W) (tx k o p s : Int) :
    Calls Tryz.prog 29 #[.pointer (some ⟨T, 0, none⟩), .int .i64 tx, .agg #[.int .i64 k, .int .i64 o, .int .u32 p, .int .i64 s]] w fun e w' => e = .returned (.bool ((qL L ⟨k, o, p, s⟩).all (fun a => a.tx == tx))) ∧ Below w.heap.size w w' := by
  obtain ⟨R, ht, rfl, _⟩ := h
  rw [qL_rows]
  exact free_tab ht tx k o p s
end
end Go.Proofs.YtcdlplbccblbaaaGreat
