import Derived.Test.YtpggillecedocaaAb
namespace Go.Proofs.Ytpggillecedocaa
open Go.RowKit
set_option linter.unusedVariables false

/-- The mode that a transaction has. -/
def hasQ (q : List Ak) (tx : Int) : Int := match q.findIdx? fun a => a.tx == tx with
  | none => 0
  | some i => (q.getD i ⟨0, 0, 0, false⟩).has
section
variable {B : Nat} {w w' : World} {T QB WB : Nat} {L : List (Nm × List Ak)} {W : List (Int × Nm)} {R : List Row}
set_option maxRecDepth 100000 in
theorem has_tab (h : Tab w T QB WB R W) (tx k o p s : Int) :
    Calls Try.prog 18 #[.pointer (some ⟨T, 0, none⟩), .int .i64 tx, .agg #[.int .i64 k, .int .i64 o, .int .u32 p, .int .i64 s]] w fun e w' => e = .returned (.int .i64 (hasQ (qOf R ⟨k, o, p, s⟩) tx)) ∧ Below w.heap.size w w' := by
  obtain ⟨wa, hwa⟩ : ∃ wa, wa = w.alloc (.cells #[.int .i64 k, .int .i64 o, .int .u32 p, .int .i64 s] 34) := ⟨_, rfl⟩
  have hBa : Below w.heap.size w wa := by rw [hwa]; exact (Below.refl _ _).alloc (Nat.le_refl _) _
  have hTa := h.below hBa
  have hbn : Blk wa w.heap.size 34 #[.int .i64 k, .int .i64 o, .int .u32 p, .int .i64 s] := by rw [hwa]; exact Blk.new _ _ _
  have t0 := hTa.head.cell 0
  have b0 := hbn.cell 0
  have b1 := hbn.cell 1
  have b2 := hbn.cell 2
  have b3 := hbn.cell 3
  simp at t0 b0 b1 b2 b3
  have hlk : ∀ q', (Instr.lookup 61 (.map (some QB)) (.agg #[.int .i64 k, .int .i64 o, .int .u32 p, .int .i64 s]) false).run Try.prog (wa.drewN q') = .ok (vOf R ⟨k, o, p, s⟩) (wa.drewN q') :=
    fun q' => (hTa.below (below_drewN (Below.refl _ _) q')).look ⟨k, o, p, s⟩
  have hqv : ∀ q', QV (wa.drewN q') (vOf R ⟨k, o, p, s⟩) (qOf R ⟨k, o, p, s⟩) := fun q' => (hTa.below (below_drewN (Below.refl _ _) q')).qv ⟨k, o, p, s⟩
  have hlkd : (Instr.lookup 61 (.map (some QB)) (.agg #[.int .i64 k, .int .i64 o, .int .u32 p, .int .i64 s]) false).run Try.prog wa.drew = .ok (vOf R ⟨k, o, p, s⟩) wa.drew := (hTa.below (Below.refl _ _).drew).look ⟨k, o, p, s⟩
  have hqd : QV wa.drew (vOf R ⟨k, o, p, s⟩) (qOf R ⟨k, o, p, s⟩) := (hTa.below (Below.refl _ _).drew).qv ⟨k, o, p, s⟩
  have hTlt : T < wa.drew.heap.size := hTa.head.lt
  have hnlt : w.heap.size < wa.drew.heap.size := hbn.lt
  go_enter Try.func18, Try.ntmps18
  go_wp2_with fail
  rw [← hwa]
  clear hwa
  go_region_held3 (fun w' => w'.cell? ⟨T, 0, none⟩ = some (.map (some QB)) ∧ w'.cell? ⟨w.heap.size, 0, none⟩ = some (.int .i64 k) ∧ w'.cell? ⟨w.heap.size, 1, none⟩ = some (.int .i64 o) ∧
      w'.cell? ⟨w.heap.size, 2, none⟩ = some (.int .u32 p) ∧ w'.cell? ⟨w.heap.size, 3, none⟩ = some (.int .i64 s))
    ((go_split_ands; refine ⟨?_, ?_, ?_, ?_, ?_⟩ <;> first
      | go_keep
      | (rw [World.cell?_of_block (hB3.block _ (by first | exact hTlt | exact hnlt))]; assumption)))
    ((go_at_call 32; refine (find_any _ _ tx _ hqd).mono ?_; rintro e w3 ⟨rfl, hB3⟩))
  go_split_ands
  have hBw3 : Below w.heap.size w w3 := (hBa.trans ((Below.refl wa.heap.size wa).drew.mono hBa.size)).trans (hB3.mono hBa.size)
  cases hf : (qOf R ⟨k, o, p, s⟩).findIdx? fun a => a.tx == tx with
  | none =>
    rw [idx_of_none hf]
    have hh : Hid (hasQ (qOf R ⟨k, o, p, s⟩) tx = 0) := Lib.hid (by unfold hasQ; rw [hf])
    go_wp2_with fail
    go_ret
    rw [hh.out]
    exact ⟨rfl, hBw3⟩
  | some i =>
    obtain ⟨hix, hil⟩ := idx_of_some hf
    rw [hix]
    have hT3 := h.below hBw3
    rcases hqd with ⟨_, h0⟩ | ⟨g, cap, hve, hrow⟩
    · rw [h0] at hil; simp at hil
    · have hh : Hid (hasQ (qOf R ⟨k, o, p, s⟩) tx = (qOf R ⟨k, o, p, s⟩)[i].has) := Lib.hid (by unfold hasQ; rw [hf]; simp [List.getD, hil])
      have hrow3 : RowAt w3 g cap (qOf R ⟨k, o, p, s⟩) := hrow.of_block (hB3.block _ hrow.lt)
      have r1 := hrow3.c1 hil
      have hle := hrow3.le
      have hmx := hrow3.max
      unfold maxLen at hmx
      have hlk3 : ∀ q', (Instr.lookup 61 (.map (some QB)) (.agg #[.int .i64 k, .int .i64 o, .int .u32 p, .int .i64 s]) false).run Try.prog (w3.drewN q') = .ok (.slice (some ⟨g, 0, none⟩) (qOf R ⟨k, o, p, s⟩).length cap) (w3.drewN q') := by
        intro q'
        rw [← hve]
        exact (hT3.below (below_drewN (Below.refl _ _) q')).look ⟨k, o, p, s⟩
      clear hlk hqv
      go_wp2_with fail
      go_quiet (fail)
      go_wp2_with fail
      go_ret
      rw [hh.out]
      exact ⟨rfl, below_drewN hBw3 _⟩
theorem has_ta (h : TA B w T QB WB L W) (tx k o p s : Int) :
    Calls Try.prog 18 #[.pointer (some ⟨T, 0, none⟩), .int .i64 tx, .agg #[.int .i64 k, .int .i64 o, .int .u32 p, .int .i64 s]] w fun e w' => e = .returned (.int .i64 (hasQ (qL L ⟨k, o, p, s⟩) tx)) ∧ Below w.heap.size w w' := by
  obtain ⟨R, ht, rfl, _⟩ := h
  rw [qL_rows]
  exact has_tab ht tx k o p s
end
end Go.Proofs.Ytpggillecedocaa
