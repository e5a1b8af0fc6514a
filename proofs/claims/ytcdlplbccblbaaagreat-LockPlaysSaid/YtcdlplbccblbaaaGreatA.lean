import Derived.Test.YtcdlplbccblbaaaGreatT
namespace Go.Proofs.YtcdlplbccblbaaaGreat
open Go.RowKit
set_option linter.unusedVariables false

theorem join0 {m : Int} (h : isMode m = true) : join 0 m = m := by
  have h1 : okm m = true := by simp [okm, h]
  have h0 : okm 0 = true := rfl
  simp [join, h1, h0, jn]
theorem infoAsk : (Tryz.prog.info? 80).map (fun i => (i.zero, i.size, i.bytes)) = some (some (.agg #[.int .i64 0, .int .i64 0, .int .i64 0, .bool false]), 4, 32) := by kernel_rfl
theorem idx_nil (tx : Int) : idx [] tx = -1 := rfl

section
variable {w w' : World} {T QB WB : Nat} {R : List Row} {W : List (Int × Nm)}
set_option maxRecDepth 100000 in
theorem ask_arg (tx mode : Int) (k o p s : Int) (inst wt : Bool) (w : World) (ad : Option Addr) (h : ad = none ∨ tx < 1 ∨ isMode mode = false) :
    Calls Tryz.prog 8 #[.pointer ad, .int .i64 tx, (.agg #[.int .i64 k, .int .i64 o, .int .u32 p, .int .i64 s]), .int .i64 mode, .bool inst, .bool wt] w fun e w' => e = .returned (.tuple #[.bool false, .int .i64 1]) ∧ Below w.heap.size w w' := by
  by_cases hp : ad = none
  · subst hp
    go_enter Tryz.func8, Tryz.ntmps8
    go_wp2_with fail
    go_ret2
    exact ⟨rfl, (Below.refl _ _).alloc (Nat.le_refl _) _⟩
  · obtain ⟨a, rfl⟩ := Option.ne_none_iff_exists'.1 hp
    by_cases ht : tx < 1
    · go_enter Tryz.func8, Tryz.ntmps8
      go_wp2_with fail
      go_ret2
      exact ⟨rfl, (Below.refl _ _).alloc (Nat.le_refl _) _⟩
    · have hm : isMode mode = false := by simpa [ht] using h
      go_enter Tryz.func8, Tryz.ntmps8
      go_wp2_with (go_at_call 30; refine (mode_any _ _).mono ?_; rintro e w' ⟨rfl, rfl⟩)
      go_ret2
      exact ⟨rfl, (Below.refl _ _).alloc (Nat.le_refl _) _⟩

set_option maxRecDepth 100000 in
theorem ask_waits (tx mode : Int) (k o p s : Int) (m : Nm) (inst wt : Bool) (h : Tab w T QB WB R W) (ht : 1 ≤ tx) (hm : isMode mode = true) (hw : wOf W tx = some m) :
    Calls Tryz.prog 8 #[.pointer (some ⟨T, 0, none⟩), .int .i64 tx, (.agg #[.int .i64 k, .int .i64 o, .int .u32 p, .int .i64 s]), .int .i64 mode, .bool inst, .bool wt] w fun e w' => e = .returned (.tuple #[.bool false, .int .i64 80]) ∧ Below w.heap.size w w' := by
  have h1 : Tab (w.alloc (.cells #[.int .i64 k, .int .i64 o, .int .u32 p, .int .i64 s] 46)) T QB WB R W := h.below ((Below.refl _ _).alloc (Nat.le_refl _) _)
  have HW := Lib.hid hw
  have hs : (wOf W tx).isSome = true := by rw [hw]; rfl
  clear hw
  go_enter Tryz.func8, Tryz.ntmps8
  go_wp2_with (go_at_call 30; refine (mode_any _ _).mono ?_; rintro e w' ⟨rfl, rfl⟩)
  refine (waits_any h1 tx).mono ?_
  rintro e w1 ⟨rfl, hB⟩
  go_wp2_with fail
  go_ret2
  exact ⟨rfl, ((Below.refl _ _).alloc (Nat.le_refl _) _).trans (hB.mono (by simp))⟩

/-- Behind an asking: a new row, or none. -/
def FreshPost (inst : Bool) (w : World) (T QB WB : Nat) (R : List Row) (W : List (Int × Nm)) (n : Nm) (a : Ak) (w' : World) : Prop :=
  if inst = true then Below w.heap.size w w' else ∃ g cap, Tab w' T QB WB (R ++ [⟨n, g, cap, [a]⟩]) W ∧ w.heap.size ≤ g ∧ Keeps w w' (Foot T QB WB R)

set_option maxRecDepth 100000 in
set_option maxHeartbeats 1000000 in
/-- Nobody has the lock or waits for it. -/
theorem ask_fresh (tx mode : Int) (k o p s : Int) (inst wt : Bool) (h : Tab w T QB WB R W) (ht : 1 ≤ tx) (hm : isMode mode = true) (hw : wOf W tx = none) (hn : rOf R ⟨k, o, p, s⟩ = none) :
    Calls Tryz.prog 8 #[.pointer (some ⟨T, 0, none⟩), .int .i64 tx, (.agg #[.int .i64 k, .int .i64 o, .int .u32 p, .int .i64 s]), .int .i64 mode, .bool inst, .bool wt] w fun e w' => e = .returned (.tuple #[.bool true, .int .i64 0]) ∧
      FreshPost inst w T QB WB R W ⟨k, o, p, s⟩ ⟨tx, mode, 0, false⟩ w' := by
  have h1 : Tab (w.alloc (.cells #[.int .i64 k, .int .i64 o, .int .u32 p, .int .i64 s] 46)) T QB WB R W := h.below ((Below.refl _ _).alloc (Nat.le_refl _) _)
  have HW := Lib.hid hw
  have HN := Lib.hid hn
  have hs : (wOf W tx).isSome = false := by rw [hw]; rfl
  clear hw hn
  go_enter Tryz.func8, Tryz.ntmps8
  go_wp2_with (go_at_call 30; refine (mode_any _ _).mono ?_; rintro e w' ⟨rfl, rfl⟩)
  refine (waits_any h1 tx).mono ?_
  rintro e w1 ⟨rfl, hB⟩
  have h2 := h1.below hB
  have c0 := h2.head.cell 0
  simp at c0
  have hbox : Blk w1 w.heap.size 46 #[.int .i64 k, .int .i64 o, .int .u32 p, .int .i64 s] := (Blk.new w 46 _).of_block (hB.block _ (by simp))
  have b0 := hbox.cell 0
  have b1 := hbox.cell 1
  have b2 := hbox.cell 2
  have b3 := hbox.cell 3
  simp at b0 b1 b2 b3
  have hlk : ∀ q, (Instr.lookup 34 (.map (some QB)) (.agg #[.int .i64 k, .int .i64 o, .int .u32 p, .int .i64 s]) false).run Tryz.prog (w1.drewN q) = .ok (.slice none 0 0) (w1.drewN q) := by
    intro q
    have := (h2.below (below_drewN (Below.refl _ _) q)).look ⟨k, o, p, s⟩
    simp only [vOf, HN.out] at this
    exact this
  go_wp2_with fail
  go_quiet (fail)
  go_wp2_with fail
  refine (find_any _ [] tx _ (.inl ⟨rfl, rfl⟩)).mono ?_
  rintro e w2 ⟨rfl, hB2⟩
  have hi := idx_nil tx
  go_wp2_with fail
  refine (join_any _ _ _).mono ?_
  rintro e w' ⟨rfl, rfl⟩
  have hj := join0 hm
  have hne : (mode == 0) = false := by have := isMode_iff.1 hm; simp; omega
  go_wp2_with fail
  refine wp_loop_rounds 1 ?_
  rw [rounds_succ]
  go_wp2_with fail
  refine (may_nil _ _ _).mono ?_
  rintro e w' ⟨rfl, rfl⟩
  have hsz := hB.size
  simp at hsz
  have hB2' : Below w.heap.size w w2 := ((below_drewN (((Below.refl _ _).alloc (Nat.le_refl _) _).trans (hB.mono (by simp))) nq).trans (hB2.mono (by show w.heap.size ≤ w1.heap.size; omega)))
  have hsz2 := hB2.size
  have hT2 := h.below hB2'
  have hbox2 : Blk w2 w.heap.size 46 #[.int .i64 k, .int .i64 o, .int .u32 p, .int .i64 s] := hbox.of_block (hB2.block _ (by show w.heap.size < w1.heap.size; omega))
  have d0 := hT2.head.cell 0
  have d1 := hbox2.cell 0
  have d2 := hbox2.cell 1
  have d3 := hbox2.cell 2
  have d4 := hbox2.cell 3
  simp at d0 d1 d2 d3 d4
  have hTlt := hT2.head.lt
  have hTQ : T ≠ QB := h.kinds.1
  have hwQ : w.heap.size ≠ QB := fun e => by have := h.qm.lt; omega
  have hwlt : w.heap.size < w2.heap.size := by have : w1.heap.size ≤ w2.heap.size := hB2.size; omega
  clear b0 b1 b2 b3 c0 hlk
  cases inst with
  | true =>
    go_wp2_with fail
    go_ret2
    exact ⟨rfl, hB2'⟩
  | false =>
    obtain ⟨i0, hi0, hz0, hz1, hz2⟩ := info_parts infoAsk
    have hT3 : Tab (w2.alloc (.cells #[.int .i64 tx, .int .i64 mode, .int .i64 0, .bool false] 80)).drew T QB WB R W := hT2.below ((Below.refl _ _).alloc (Nat.le_refl _) _).drew
    go_wp2_with fail
    go_region_held3 (fun w' => w'.cell? ⟨T, 0, none⟩ = some (.map (some QB)) ∧ w'.cell? ⟨w.heap.size, 0, none⟩ = some (.int .i64 k) ∧ w'.cell? ⟨w.heap.size, 1, none⟩ = some (.int .i64 o) ∧
        w'.cell? ⟨w.heap.size, 2, none⟩ = some (.int .u32 p) ∧ w'.cell? ⟨w.heap.size, 3, none⟩ = some (.int .i64 s))
      ((go_split_ands; refine ⟨?_, ?_, ?_, ?_, ?_⟩ <;> first
        | go_keep
        | (rw [hgrow.cell_far _ (by simp; omega) (by simp [Value.ownBlock])]; assumption)
        | (rw [World.cell?_of_block (hturn.block _ (by first | exact hTQ | exact hwQ))]; assumption)))
      ((refine step_append_lies _ (by rfl) _ _ _ (by rfl) 0 80 i0 _ 4 32 Tryz.underlying77 hi0 hz0 hz1 hz2 rfl (by omega) (.slice none 0 0) 0 [] (by rfl) (World.ownsRow_nil _ _ _ _)
          ⟨w2.heap.size, 0, none⟩ 1 1 [.int .i64 tx, .int .i64 mode, .int .i64 0, .bool false] (by rfl) (by rfl) (World.news_of_block (cs := #[.int .i64 tx, .int .i64 mode, .int .i64 0, .bool false]) (t := 80) (fr := (0, 0)) (heap_alloc_new w2 _)) (by simp [Value.oneCell'])
          (by omega) (by unfold maxLen; omega) (by omega) (by omega) (w2.heap.size + 1) (by simp) ?_; intro gg cap w3 hown hgrow hat hlt; obtain ⟨w4, hrun0, hT4, hturn⟩ := Tab.grow_new hT3 hgrow (a := ⟨tx, mode, 0, false⟩) (n := ⟨k, o, p, s⟩) (rOf_none HN.out) hown (by rcases hat with h' | h' <;> simp [Value.ownBlock] at h' ⊢; omega); have hrun : (Instr.mapUpdate 34 (.map (some QB)) (.agg #[.int .i64 k, .int .i64 o, .int .u32 p, .int .i64 s]) (.slice (some ⟨gg, 0, none⟩) 1 cap)).run Tryz.prog w3 = .ok () w4 := hrun0; clear hrun0))
    go_wp2_with fail
    go_ret2
    refine ⟨rfl, gg, cap, hT4, ?_, ?_⟩
    · rcases hat with h' | h'
      · simp [Value.ownBlock] at h'
      · omega
    · have k1 : Keeps w w2 (Foot T QB WB R) := .of_below hB2' _
      have k2 : Keeps w2 (w2.alloc (.cells #[.int .i64 tx, .int .i64 mode, .int .i64 0, .bool false] 80)).drew (Foot T QB WB R) := .of_below ((Below.refl _ _).alloc (Nat.le_refl _) _).drew _
      have k3 : Keeps (w2.alloc (.cells #[.int .i64 tx, .int .i64 mode, .int .i64 0, .bool false] 80)).drew w3 (Foot T QB WB R) := .of_grown hgrow (by simp [Value.ownBlock])
      have k4 : Keeps w3 w4 (Foot T QB WB R) := .of_turned hturn (.inr (.inl rfl))
      exact ((k1.trans k2 fun _ _ h => h).trans k3 fun _ _ h => h).trans k4 fun _ _ h => h

end
end Go.Proofs.YtcdlplbccblbaaaGreat
