import Derived.Test.YtcdlplbccblbaaaGreatAn
namespace Go.Proofs.YtcdlplbccblbaaaGreat
open Go.RowKit
set_option linter.unusedVariables false

section
variable {w w' : World} {T QB WB : Nat} {R : List Row} {W : List (Int × Nm)}

theorem aheadP_step {q : List Ak} {has i : Int} {j : Nat} (hj : j < q.length) : aheadP q has i (j + 1) = (aheadP q has i j || aheadOne q[j] has i j) := by simp [aheadP, hj]

/-- What an asking by one who stands in the queue comes to. -/
def OldPost (inst wt : Bool) (w : World) (T QB WB : Nat) (R1 : List Row) (r : Row) (R2 : List Row) (W : List (Int × Nm)) (tx mode : Int) (k0 : Nat) (a : Ak) (e : Ending) (w' : World) : Prop :=
  if join a.has mode = a.has then e = .returned (.tuple #[.bool true, .int .i64 0]) ∧ Below w.heap.size w w'
  else if mayS r.q tx (join a.has mode) && !aheadS r.q a.has k0 then
    e = .returned (.tuple #[.bool true, .int .i64 0]) ∧
    (if inst = true then Below w.heap.size w w' else Tab w' T QB WB (R1 ++ { r with q := r.q.set k0 { a with has := join a.has mode } } :: R2) W ∧ Keeps w w' (Foot T QB WB (R1 ++ r :: R2)))
  else
    e = .returned (.tuple #[.bool false, .int .i64 0]) ∧
    (if wt = false then Below w.heap.size w w' else Tab w' T QB WB (R1 ++ { r with q := r.q.set k0 { a with wants := join a.has mode, inst := inst } } :: R2) (W ++ [(tx, r.n)]) ∧ Keeps w w' (Foot T QB WB (R1 ++ r :: R2)))

set_option maxRecDepth 100000 in
set_option maxHeartbeats 2000000 in
theorem ask_old (tx mode : Int) (k o p s : Int) (inst wt : Bool) (R1 R2 : List Row) (r : Row) (h : Tab w T QB WB (R1 ++ r :: R2) W) (ht : 1 ≤ tx) (hm : isMode mode = true) (hw : wOf W tx = none) (hn : r.n = ⟨k, o, p, s⟩)
    (k0 : Nat) (hk0 : k0 < r.q.length) (hq : idx r.q tx = k0) (hlen : r.q.length < 1000000) :
    Calls Tryz.prog 8 #[.pointer (some ⟨T, 0, none⟩), .int .i64 tx, .agg #[.int .i64 k, .int .i64 o, .int .u32 p, .int .i64 s], .int .i64 mode, .bool inst, .bool wt] w fun e w' =>
      OldPost inst wt w T QB WB R1 r R2 W tx mode k0 (r.q[k0]'hk0) e w' := by
  have h1 : Tab (w.alloc (.cells #[.int .i64 k, .int .i64 o, .int .u32 p, .int .i64 s] 46)) T QB WB (R1 ++ r :: R2) W := h.below ((Below.refl _ _).alloc (Nat.le_refl _) _)
  have HW := Lib.hid hw
  have HN := Lib.hid hn
  have HQ := Lib.hid hq
  have hs : (wOf W tx).isSome = false := by rw [hw]; rfl
  clear hw hn hq
  go_enter Tryz.func8, Tryz.ntmps8
  go_wp2_with (go_at_call 30; refine (mode_any _ _).mono ?_; rintro e w' ⟨rfl, rfl⟩)
  refine (waits_any h1 tx).mono ?_
  rintro e w1 ⟨rfl, hB⟩
  have h2 := h1.below hB
  have c0 := h2.head.cell 0
  simp at c0
  have hbox : Blk w1 w.heap.size 46 #[.int .i64 k, .int .i64 o, .int .u32 p, .int .i64 s] := (Blk.new w 46 _).of_block (hB.block _ (by simp))
  have b0 := hbox.cell 0
  have b1 := hbox.cell 1
  have b2 := hbox.cell 2
  have b3 := hbox.cell 3
  simp at b0 b1 b2 b3
  have hlk : ∀ q, (Instr.lookup 34 (.map (some QB)) (.agg #[.int .i64 k, .int .i64 o, .int .u32 p, .int .i64 s]) false).run Tryz.prog (w1.drewN q) = .ok (.slice (some ⟨r.g, 0, none⟩) r.q.length r.cap) (w1.drewN q) := by
    intro q
    have := (h2.below (below_drewN (Below.refl _ _) q)).qm.look_some (a := r.n) (v := r.v) Tryz.underlying34 (by simp) false
    rw [HN.out] at this
    exact this
  go_wp2_with fail
  go_quiet (fail)
  go_wp2_with fail
  have hrow1 : RowAt (w1.drewN nq) r.g r.cap r.q := (h2.rows r (by simp)).of_block rfl
  refine (find_any _ r.q tx _ (.inr ⟨r.g, r.cap, rfl, hrow1⟩)).mono ?_
  rintro e w2 ⟨rfl, hB2⟩
  rw [HQ.out]
  have hsz := hB.size
  simp at hsz
  have hB2' : Below w.heap.size w w2 := ((below_drewN (((Below.refl _ _).alloc (Nat.le_refl _) _).trans (hB.mono (by simp))) nq).trans (hB2.mono (by show w.heap.size ≤ w1.heap.size; omega)))
  have hT2 := h.below hB2'
  have hwlt : w.heap.size < w2.heap.size := by have : w1.heap.size ≤ w2.heap.size := hB2.size; omega
  have hbox2 : Blk w2 w.heap.size 46 #[.int .i64 k, .int .i64 o, .int .u32 p, .int .i64 s] := hbox.of_block (hB2.block _ (by show w.heap.size < w1.heap.size; omega))
  have hrow2 := hT2.rows r (by simp)
  have q1 := hrow2.c1 hk0
  clear b0 b1 b2 b3 c0 hlk
  have hcap0 := hrow2.max
  have hle0 := hrow2.le
  unfold maxLen at hcap0
  go_wp2_with fail
  refine (join_any _ _ _).mono ?_
  rintro e w' ⟨rfl, rfl⟩
  obtain ⟨a, ha⟩ : ∃ a, a = r.q[k0]'hk0 := ⟨_, rfl⟩
  obtain ⟨hv, hhv⟩ : ∃ hv, hv = (r.q[k0]'hk0).has := ⟨_, rfl⟩
  obtain ⟨want, hwant⟩ : ∃ want, want = join hv mode := ⟨_, rfl⟩
  rw [← hhv, ← hwant]
  have HWANT := Lib.hid hwant
  have HHV := Lib.hid hhv
  clear hwant hhv q1
  by_cases hsame : want = hv
  · have hne : (want == hv) = true := by simpa using hsame
    have HS := Lib.hid hsame
    clear hsame
    go_wp2_with fail
    go_ret2
    unfold OldPost
    rw [← HHV.out, ← HWANT.out, if_pos HS.out]
    exact ⟨rfl, hB2'⟩
  have hne : (want == hv) = false := by simpa using hsame
  have HS := Lib.hid hsame
  clear hsame
  go_wp2_with fail
  go_loopw [18, 61] (fun b i wr => ∃ k : Nat, k ≤ r.q.length ∧ i = .int .i64 k ∧ b = .bool (aheadP r.q hv k0 k) ∧ Below w2.heap.size w2 wr) (fun _ i _ => r.q.length - (intOf i).toNat)
  case atStart => exact ⟨0, Nat.zero_le _, rfl, rfl, Below.refl _ _⟩
  case round =>
    obtain ⟨j, hjle, rfl, rfl, hBr⟩ := hrel
    have hTr := hT2.below hBr
    have hrow := hTr.rows r (by simp)
    have hrc := hrow.le
    have hsr := hBr.size
    by_cases hlt : j < r.q.length
    · have c0 := hrow.c0 hlt
      have c1 := hrow.c1 hlt
      have c2 := hrow.c2 hlt
      have c3 := hrow.c3 hlt
      have HS2 := Lib.hid (aheadP_step (has := hv) (i := k0) hlt)
      cases hb : aheadP r.q hv k0 j with
      | true =>
        have HB := Lib.hid hb
        clear hb
        go_wp2_with fail
        go_roundw
        case rel => exact ⟨j + 1, by omega, by go_num, by rw [HS2.out, HB.out]; rfl, hBr.alloc hsr _⟩
        case measure => simp [intOf]; omega
      | false =>
        have HB := Lib.hid hb
        clear hb
        by_cases hwz : r.q[j].wants = 0
        · have hwb : (r.q[j].wants != 0) = false := by simpa using hwz
          have HO : Hid (aheadOne r.q[j] hv k0 j = false) := Lib.hid (by simp [aheadOne, hwz])
          clear hwz
          go_wp2_with fail
          go_roundw
          case rel => exact ⟨j + 1, by omega, by go_num, by rw [HS2.out, HB.out, HO.out]; rfl, hBr.alloc hsr _⟩
          case measure => simp [intOf]; omega
        · have hwb : (r.q[j].wants != 0) = true := by simpa using hwz
          by_cases hv0 : hv = 0
          · have hvb : (hv == 0) = true := by simpa using hv0
            have HO : Hid (aheadOne r.q[j] hv k0 j = true) := Lib.hid (by simp [aheadOne, hwz, hv0])
            clear hwz hv0
            go_wp2_with fail
            go_roundw
            case rel => exact ⟨j + 1, by omega, by go_num, by rw [HS2.out, HB.out, HO.out]; rfl, hBr.alloc hsr _⟩
            case measure => simp [intOf]; omega
          · have hvb : (hv == 0) = false := by simpa using hv0
            by_cases hh0 : r.q[j].has = 0
            · have hhb : (r.q[j].has != 0) = false := by simpa using hh0
              have HO : Hid (aheadOne r.q[j] hv k0 j = false) := Lib.hid (by simp [aheadOne, hh0, hv0])
              clear hwz hv0 hh0
              go_wp2_with fail
              go_roundw
              case rel => exact ⟨j + 1, by omega, by go_num, by rw [HS2.out, HB.out, HO.out]; rfl, hBr.alloc hsr _⟩
              case measure => simp [intOf]; omega
            · have hhb : (r.q[j].has != 0) = true := by simpa using hh0
              by_cases hjk : j < k0
              · have hjb : decide (j < k0) = true := by simpa using hjk
                have HO : Hid (aheadOne r.q[j] hv k0 j = true) := Lib.hid (by simp [aheadOne, hwz, hh0, hjk])
                clear hwz hv0 hh0
                go_wp2_with fail
                go_roundw
                case rel => exact ⟨j + 1, by omega, by go_num, by rw [HS2.out, HB.out, HO.out]; rfl, hBr.alloc hsr _⟩
                case measure => simp [intOf]; omega
              · have hjb : decide (j < k0) = false := by simpa using hjk
                have HO : Hid (aheadOne r.q[j] hv k0 j = false) := Lib.hid (by simp [aheadOne, hv0, hjk])
                clear hwz hv0 hh0
                go_wp2_with fail
                go_roundw
                case rel => exact ⟨j + 1, by omega, by go_num, by rw [HS2.out, HB.out, HO.out]; rfl, hBr.alloc hsr _⟩
                case measure => simp [intOf]; omega
    · obtain rfl : j = r.q.length := by omega
      have hw2 : w2.heap.size ≤ wr.heap.size := hBr.size
      go_wp2_with fail
      refine (may_any _ r.q tx want _ (.inr ⟨r.g, r.cap, rfl, hrow⟩)).mono ?_
      rintro e w3 ⟨rfl, hB3⟩
      have hB3' : Below w.heap.size w w3 := (hB2'.trans (hBr.mono (by omega))).trans (hB3.mono (by omega))
      have hT3 := h.below hB3'
      have hw3 : wr.heap.size ≤ w3.heap.size := hB3.size
      have hbox3 : Blk w3 w.heap.size 46 #[.int .i64 k, .int .i64 o, .int .u32 p, .int .i64 s] := (hbox2.of_block (hBr.block _ (by omega))).of_block (hB3.block _ (by omega))
      have hrow3 := hT3.rows r (by simp)
      have q1 := hrow3.c1 hk0
      have q2 := hrow3.c2 hk0
      have q3 := hrow3.c3 hk0
      have z1 := hrow3.frozen (k0 * 4 + 1)
      have z2 := hrow3.frozen (k0 * 4 + 2)
      have z3 := hrow3.frozen (k0 * 4 + 3)
      have hTW : T ≠ WB := h.kinds.2.1
      have hwW : w.heap.size ≠ WB := fun e => by have := h.wm.lt; omega
      have hwg : w.heap.size ≠ r.g := fun e => by have := (h.rows r (by simp)).lt; omega
      have hTg : T ≠ r.g := fun e => (h.kinds.2.2 r (by simp)).1 e.symm
      have HF := Lib.hid hB3'
      clear hB3 hBr hB2 hB hB2' hB3' h1 h2 hT2 hTr hrow hrow1 hrow2 hbox hbox2
      by_cases hcan : (mayS r.q tx want && !aheadS r.q hv k0) = true
      · have hmay : mayS r.q tx want = true := by simp at hcan; exact hcan.1
        have hah : aheadP r.q hv k0 r.q.length = false := by simp at hcan; exact hcan.2
        have HC := Lib.hid hcan
        clear hcan
        cases inst with
        | true =>
          go_wp2_with fail
          go_ret2
          unfold OldPost
          rw [← HHV.out, ← HWANT.out, if_neg HS.out, if_pos HC.out]
          exact ⟨rfl, HF.out⟩
        | false =>
          have hT4 := hT3.putCell hk0 (j := 1) (by omega) (a := { r.q[k0]'hk0 with has := want }) (u := .int .i64 want) (by simp [av])
          have k1 : Keeps w w3 (Foot T QB WB (R1 ++ r :: R2)) := .of_below HF.out _
          have k2 : Keeps w3 (w3.setCell ⟨r.g, k0 * 4 + 1, none⟩ (.int .i64 want)) (Foot T QB WB (R1 ++ r :: R2)) := .setCell _ _ _ (.inr (.inr (.inr (by simp))))
          go_wp2_with fail
          go_ret2
          unfold OldPost
          rw [← HHV.out, ← HWANT.out, if_neg HS.out, if_pos HC.out]
          exact ⟨rfl, hT4, k1.trans k2 fun _ _ h => h⟩
      · have hah : (mayS r.q tx want = true ∧ aheadP r.q hv k0 r.q.length = true) ∨ mayS r.q tx want = false := by
          cases h1 : mayS r.q tx want
          · exact .inr rfl
          · left
            refine ⟨rfl, ?_⟩
            simp [h1] at hcan
            exact hcan
        have HC := Lib.hid hcan
        clear hcan
        cases wt with
        | false =>
          rcases hah with ⟨ha1, ha2⟩ | ha1
          all_goals
            go_wp2_with fail
            go_ret2
            unfold OldPost
            rw [← HHV.out, ← HWANT.out, if_neg HS.out, if_neg HC.out]
            exact ⟨rfl, HF.out⟩
        | true =>
          have hT4 := hT3.putCell hk0 (j := 2) (by omega) (a := { r.q[k0]'hk0 with wants := want }) (u := .int .i64 want) (by simp [av])
          have hT5 := hT4.putCell (r := { r with q := r.q.set k0 { r.q[k0]'hk0 with wants := want } }) (k := k0) (by simpa using hk0) (j := 3) (by omega) (a := { r.q[k0]'hk0 with wants := want, inst := inst }) (u := .bool inst) (by simp [av])
          simp only [List.set_set] at hT5
          have k1 : Keeps w w3 (Foot T QB WB (R1 ++ r :: R2)) := .of_below HF.out _
          have k2 : Keeps w3 (w3.setCell ⟨r.g, k0 * 4 + 2, none⟩ (.int .i64 want)) (Foot T QB WB (R1 ++ r :: R2)) := .setCell _ _ _ (.inr (.inr (.inr (by simp))))
          have k3 : Keeps (w3.setCell ⟨r.g, k0 * 4 + 2, none⟩ (.int .i64 want)) ((w3.setCell ⟨r.g, k0 * 4 + 2, none⟩ (.int .i64 want)).setCell ⟨r.g, k0 * 4 + 3, none⟩ (.bool inst)) (Foot T QB WB (R1 ++ r :: R2)) := .setCell _ _ _ (.inr (.inr (.inr (by simp))))
          have hbox5 := (hbox3.far (p := ⟨r.g, k0 * 4 + 2, none⟩) hwg (.int .i64 want)).far (p := ⟨r.g, k0 * 4 + 3, none⟩) hwg (.bool inst)
          have hrow4 := (hT4.rows _ (by simp : ({ r with q := r.q.set k0 { r.q[k0]'hk0 with wants := want } } : Row) ∈ _))
          have q3' := hrow4.c3 (k := k0) (by simpa using hk0)
          have z3' := hrow4.frozen (k0 * 4 + 3)
          have hT5d := hT5.below (Below.refl _ _).drew
          obtain ⟨w6, hrun0, hT6, hturn6⟩ := hT5d.wait HW.out r.n
          rw [HN.out] at hrun0
          have e0 := hT5.head.cell 1
          have e1 := hbox5.cell 0
          have e2 := hbox5.cell 1
          have e3 := hbox5.cell 2
          have e4 := hbox5.cell 3
          simp at e0 e1 e2 e3 e4 q3'
          have k4 : Keeps ((w3.setCell ⟨r.g, k0 * 4 + 2, none⟩ (.int .i64 want)).setCell ⟨r.g, k0 * 4 + 3, none⟩ (.bool inst)) ((w3.setCell ⟨r.g, k0 * 4 + 2, none⟩ (.int .i64 want)).setCell ⟨r.g, k0 * 4 + 3, none⟩ (.bool inst)).drew (Foot T QB WB (R1 ++ r :: R2)) := .of_below (Below.refl _ _).drew _
          have k5 : Keeps ((w3.setCell ⟨r.g, k0 * 4 + 2, none⟩ (.int .i64 want)).setCell ⟨r.g, k0 * 4 + 3, none⟩ (.bool inst)).drew w6 (Foot T QB WB (R1 ++ r :: R2)) := .of_turned hturn6 (.inr (.inr (.inl rfl)))
          have hrun6 : (Instr.mapUpdate 35 (.map (some WB)) (.int .i64 tx) (.agg #[.int .i64 k, .int .i64 o, .int .u32 p, .int .i64 s])).run Tryz.prog ((w3.setCell ⟨r.g, k0 * 4 + 2, none⟩ (.int .i64 want)).setCell ⟨r.g, k0 * 4 + 3, none⟩ (.bool inst)).drew = .ok () w6 := hrun0
          clear hrun0
          rcases hah with ⟨ha1, ha2⟩ | ha1
          all_goals
            go_wp2_with fail
            go_region_held3 (fun w' => w'.cell? ⟨T, 1, none⟩ = some (.map (some WB)) ∧ w'.cell? ⟨w.heap.size, 0, none⟩ = some (.int .i64 k) ∧ w'.cell? ⟨w.heap.size, 1, none⟩ = some (.int .i64 o) ∧
                w'.cell? ⟨w.heap.size, 2, none⟩ = some (.int .u32 p) ∧ w'.cell? ⟨w.heap.size, 3, none⟩ = some (.int .i64 s))
              ((go_split_ands; refine ⟨?_, ?_, ?_, ?_, ?_⟩ <;> first
                | go_keep
                | (rw [World.cell?_of_block (hturn6.block _ (by first | exact hTW | exact hwW))]; assumption)))
              (fail)
            go_wp2_with fail
            go_ret2
            unfold OldPost
            rw [← HHV.out, ← HWANT.out, if_neg HS.out, if_neg HC.out]
            exact ⟨rfl, by rw [HHV.out]; exact hT6, (((k1.trans k2 fun _ _ h => h).trans k3 fun _ _ h => h).trans k4 fun _ _ h => h).trans k5 fun _ _ h => h⟩
end
end Go.Proofs.YtcdlplbccblbaaaGreat
