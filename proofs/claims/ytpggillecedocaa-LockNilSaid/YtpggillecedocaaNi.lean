/- LockNil: a nil table answers as the document says: of any numbers and any name; no condition. -/
import Derived.Test.YtpggillecedocaaW
import Derived.Test.YtpggillecedocaaLaw
import Derived.Lib.SmallJoins
namespace Go.Proofs.Ytpggillecedocaa
open Go.ChangeShapes Go.WideShapes Go.ChangeAt Go.RowKit Go.Deep Go.Joins
set_option linter.unusedVariables false

theorem for_nil (tx : Int) (w : World) : Calls Try.prog 26 #[.pointer none, .int .i64 tx] w fun e w' => e = .returned (.tuple #[.agg #[.int .i64 0, .int .i64 0, .int .u32 0, .int .i64 0], .bool false]) ∧ Below w.heap.size w w' := by
  go_enter Try.func26, Try.ntmps26
  go_wp2
  exact bodyPost_ret (v := .tuple #[.agg #[.int .i64 0, .int .i64 0, .int .u32 0, .int .i64 0], .bool false]) (by simp [results, Try.results26, go_sem]) rfl ⟨rfl, (Below.refl _ _).alloc (Nat.le_refl _) _⟩
theorem has_nil (tx k o p s : Int) (w : World) : Calls Try.prog 18 #[.pointer none, .int .i64 tx, .agg #[.int .i64 k, .int .i64 o, .int .u32 p, .int .i64 s]] w fun e w' => e = .returned (.int .i64 0) ∧ Below w.heap.size w w' := by
  go_enter Try.func18, Try.ntmps18
  go_wp2
  go_ret
  exact ⟨rfl, (Below.refl _ _).alloc (Nat.le_refl _) _⟩
theorem free_nil (tx k o p s : Int) (w : World) : Calls Try.prog 27 #[.pointer none, .int .i64 tx, .agg #[.int .i64 k, .int .i64 o, .int .u32 p, .int .i64 s]] w fun e w' => e = .returned (.bool true) ∧ Below w.heap.size w w' := by
  go_enter Try.func27, Try.ntmps27
  go_wp2
  go_quiet (fail)
  go_wp2
  go_ret
  exact ⟨rfl, below_drewN (((Below.refl _ _).alloc (Nat.le_refl _) _).alloc (by simp) _) _⟩
theorem release_nil (tx : Int) (w : World) : Calls Try.prog 17 #[.pointer none, .int .i64 tx] w fun e w' => e = .returned (.slice none 0 0) ∧ w = w' := by
  go_enter Try.func17, Try.ntmps17
  go_wp2
  go_ret
  exact ⟨rfl, rfl⟩
theorem cancel_nil (tx : Int) (w : World) : Calls Try.prog 23 #[.pointer none, .int .i64 tx] w fun e w' => e = .returned (.slice none 0 0) ∧ Below w.heap.size w w' := by
  go_enter Try.func23, Try.ntmps23
  go_wp2_with fail
  refine (for_nil _ _).mono ?_
  rintro e w1 ⟨rfl, hB⟩
  go_wp2_with fail
  go_ret
  exact ⟨rfl, hB.alloc hB.size _⟩
theorem blockers_nil (tx : Int) (w : World) : Calls Try.prog 25 #[.pointer none, .int .i64 tx] w fun e w' => e = .returned (.slice none 0 0) ∧ Below w.heap.size w w' := by
  go_enter Try.func25, Try.ntmps25
  go_wp2_with fail
  refine (for_nil _ _).mono ?_
  rintro e w1 ⟨rfl, hB⟩
  go_wp2_with fail
  go_ret
  exact ⟨rfl, (hB.alloc hB.size _)⟩
theorem held_nil (tx : Int) (w : World) : Calls Try.prog 21 #[.pointer none, .int .i64 tx] w fun e w' => e = .returned (.slice none 0 0) ∧ w = w' := by
  go_enter Try.func21, Try.ntmps21
  go_wp2
  go_ret
  exact ⟨rfl, rfl⟩
theorem len_nil (w : World) : Calls Try.prog 22 #[.pointer none] w fun e w' => e = .returned (.int .i64 0) ∧ w = w' := by
  go_enter Try.func22, Try.ntmps22
  go_wp2
  go_ret
  exact ⟨rfl, rfl⟩
theorem clone_nil (w : World) : Calls Try.prog 28 #[.pointer none] w fun e w' => e = .returned (.pointer none) ∧ w = w' := by
  go_enter Try.func28, Try.ntmps28
  go_wp2
  go_ret
  exact ⟨rfl, rfl⟩
theorem search_nil (a c : Int) (b y : Nat) (w : World) (hm : MapAt KI w b []) : Calls Try.prog 38 #[.pointer none, .int .i64 a, .int .i64 c, .map (some b), .pointer (some ⟨y, 0, none⟩)] w fun e w' => e = .returned (.bool false) ∧ Keeps w w' (fun k => k = b) := by
  obtain ⟨w1, hrun, _, ht⟩ := hm.put_new Try.underlying76 (a := a) (by simp) (.bool true)
  have hrun' : (Instr.mapUpdate 76 (.map (some b)) (.int .i64 a) (.bool true)).run Try.prog w = .ok () w1 := hrun
  clear hrun
  go_enter Try.func38, Try.ntmps38
  go_wp2_with fail
  refine (blockers_nil _ _).mono ?_
  rintro e w2 ⟨rfl, hB⟩
  go_wp2_with fail
  refine wp_loop_rounds 1 ?_
  rw [rounds_succ]
  go_wp2_with fail
  go_ret
  have k1 : Keeps w w1 (fun k => k = b) := Keeps.of_turned ht rfl
  have k2 : Keeps w1 w2 (fun k => k = b) := Keeps.of_below hB _
  exact ⟨rfl, k1.trans k2 (fun _ _ h => h)⟩
theorem cycle_nil (tx : Int) (w : World) : Calls Try.prog 24 #[.pointer none, .int .i64 tx] w fun e w' => e = .returned (.slice none 0 0) ∧ Below w.heap.size w w' := by
  have hmm := @run_makeMap Try.prog
  have hm0 := MapAt.made KI (w.alloc (.cells #[.slice none 0 0] 26))
  have hm : MapAt KI ((w.alloc (.cells #[.slice none 0 0] 26)).alloc (.map #[] 0)) (w.heap.size + 1) [] := by simpa using hm0
  clear hm0
  go_enter Try.func24, Try.ntmps24
  go_wp2_with fail
  refine (search_nil tx tx _ w.heap.size _ hm).mono ?_
  rintro e w1 ⟨rfl, hK⟩
  go_wp2_with fail
  go_ret
  have b0 : Below w.heap.size w ((w.alloc (.cells #[.slice none 0 0] 26)).alloc (.map #[] 0)) := ((Below.refl _ _).alloc (Nat.le_refl _) _).alloc (by simp) _
  exact ⟨rfl, b0.trans (hK.below b0.size (fun k hk e => by omega))⟩

set_option maxRecDepth 100000 in
set_option maxHeartbeats 1000000 in
theorem nil_any (tx mode k o p s : Int) (w : World) : Calls Try.prog 7 #[.int .i64 tx, .int .i64 mode, .agg #[.int .i64 k, .int .i64 o, .int .u32 p, .int .i64 s]] w fun e w' => e = .returned (.bool true) ∧ Below w.heap.size w w' := by
  have hbox := Blk.new w 34 #[.int .i64 k, .int .i64 o, .int .u32 p, .int .i64 s]
  have hB0 : Below w.heap.size w (w.alloc (.cells #[.int .i64 k, .int .i64 o, .int .u32 p, .int .i64 s] 34)) := (Below.refl _ _).alloc (Nat.le_refl _) _
  go_enter Try.func7, Try.ntmps7
  go_wp2_with fail
  refine (ask_arg _ _ _ _ _ _ _ _ _ none (.inl rfl)).mono ?_
  rintro e w1 ⟨rfl, hB1⟩
  go_wp2_with fail
  refine (for_nil _ _).mono ?_
  rintro e w2 ⟨rfl, hB2⟩
  have c2 : Below w.heap.size w w2 := (hB0.trans (hB1.mono hB0.size)).trans (hB2.mono (by have := hB1.size; have := hB0.size; omega))
  have s1 := hB1.size
  simp at s1
  have s2 := hB2.size
  go_wp2_with fail
  refine (awake_any _).mono ?_
  rintro e w3 ⟨rfl, hB3⟩
  have s3 := hB3.size
  simp at s3
  have c3 := (c2.alloc c2.size (.cells #[.int .i64 0, .int .i64 0, .int .u32 0, .int .i64 0] 34)).trans (hB3.mono (by simp; omega))
  have hbox3 : Blk w3 w.heap.size 34 #[.int .i64 k, .int .i64 o, .int .u32 p, .int .i64 s] :=
    (((hbox.of_block (hB1.block _ (by simp))).of_block (hB2.block _ (by omega))).alloc (.cells #[.int .i64 0, .int .i64 0, .int .u32 0, .int .i64 0] 34)).of_block (hB3.block _ (by simp; omega))
  have d1 := hbox3.cell 0
  have d2 := hbox3.cell 1
  have d3 := hbox3.cell 2
  have d4 := hbox3.cell 3
  simp at d1 d2 d3 d4
  go_wp2_with (go_at_call 19; refine (waits_nil _ _).mono ?_; rintro e w' ⟨rfl, rfl⟩)
  refine (has_nil _ _ _ _ _ _).mono ?_
  rintro e w4 ⟨rfl, hB4⟩
  have s4 := hB4.size
  have c4 := c3.trans (hB4.mono (by omega))
  have hbox4 := hbox3.of_block (hB4.block _ (by omega))
  clear d1 d2 d3 d4
  have d1 := hbox4.cell 0
  have d2 := hbox4.cell 1
  have d3 := hbox4.cell 2
  have d4 := hbox4.cell 3
  simp at d1 d2 d3 d4
  go_wp2_with fail
  refine (free_nil _ _ _ _ _ _).mono ?_
  rintro e w5 ⟨rfl, hB5⟩
  have s5 := hB5.size
  have c5 := c4.trans (hB5.mono (by omega))
  go_wp2_with (go_at_call 17; refine (release_nil _ _).mono ?_; rintro e w' ⟨rfl, rfl⟩)
  refine (cancel_nil _ _).mono ?_
  rintro e w6 ⟨rfl, hB6⟩
  have s6 := hB6.size
  have c6 := c5.trans (hB6.mono (by omega))
  go_wp2_with fail
  refine (blockers_nil _ _).mono ?_
  rintro e w7 ⟨rfl, hB7⟩
  have s7 := hB7.size
  have c7 := c6.trans (hB7.mono (by omega))
  go_wp2_with fail
  refine (cycle_nil _ _).mono ?_
  rintro e w8 ⟨rfl, hB8⟩
  have s8 := hB8.size
  have c8 := c7.trans (hB8.mono (by omega))
  go_wp2_with (first
    | (go_at_call 21; refine (held_nil _ _).mono ?_; rintro e w' ⟨rfl, rfl⟩)
    | (go_at_call 22; refine (len_nil _).mono ?_; rintro e w' ⟨rfl, rfl⟩)
    | (go_at_call 28; refine (clone_nil _).mono ?_; rintro e w' ⟨rfl, rfl⟩))
  go_ret
  exact ⟨rfl, c8⟩


section
variable {H : Type} {enc : TypeId × Value → H} {w : World} {base : Nat} {spare : Nat → Bool} {held : Bool}
theorem open_rid {fuel : Nat} {c0 c1 : Value} {x : DataW H × List MemPlace} (h : DataW.trod enc Try.prog w base spare held fuel 32 [c0, c1] = some x) : ∃ p s, c0 = .int .u32 p ∧ c1 = .int .i64 s := by
  obtain ⟨xs, n, -, -, -, hxl, hf⟩ := DataW.trod_struct Try.underlying32 h
  have k30 : Try.prog.cellsOf 30 = 1 := by kernel_rfl
  have k3 : Try.prog.cellsOf 3 = 1 := by kernel_rfl
  have f0 := hf 0 { name := "Page", type := 30, offset := 0, embedded := false, tag := "", pkgPath := "", byteOffset := 0 } rfl
  have f1 := hf 1 { name := "Slot", type := 3, offset := 1, embedded := false, tag := "", pkgPath := "", byteOffset := 8 } rfl
  simp only [k30, k3, List.drop_zero, List.drop_succ_cons, List.take_succ_cons, List.take_zero] at f0 f1
  rw [List.getElem?_eq_getElem (by rw [hxl]; decide)] at f0 f1
  obtain ⟨p, e0, -, -⟩ := DataW.trod_int Try.underlying30 f0
  obtain ⟨s, e1, -, -⟩ := DataW.trod_int Try.underlying3 f1
  simp only [List.cons.injEq, and_true] at e0 e1
  exact ⟨p, s, e0, e1⟩
set_option maxRecDepth 100000 in
theorem open_name {fuel : Nat} {cs : List Value} {x : DataW H × List MemPlace} (h : DataW.trod enc Try.prog w base spare held fuel 34 cs = some x) : ∃ k o p s, cs = [.int .i64 k, .int .i64 o, .int .u32 p, .int .i64 s] := by
  obtain ⟨xs, n, -, -, hl, hxl, hf⟩ := DataW.trod_struct Try.underlying34 h
  have k34 : Try.prog.cellsOf 34 = 4 := by kernel_rfl
  have k32 : Try.prog.cellsOf 32 = 2 := by kernel_rfl
  have k3 : Try.prog.cellsOf 3 = 1 := by kernel_rfl
  rw [k34] at hl
  match cs, hl with
  | [c0, c1, c2, c3], _ =>
    have f0 := hf 0 { name := "Kind", type := 3, offset := 0, embedded := false, tag := "", pkgPath := "", byteOffset := 0 } rfl
    have f1 := hf 1 { name := "Of", type := 3, offset := 1, embedded := false, tag := "", pkgPath := "", byteOffset := 8 } rfl
    have f2 := hf 2 { name := "RID", type := 32, offset := 2, embedded := false, tag := "", pkgPath := "", byteOffset := 16 } rfl
    simp only [k32, k3, List.drop_zero, List.drop_succ_cons, List.take_succ_cons, List.take_zero] at f0 f1 f2
    rw [List.getElem?_eq_getElem (by rw [hxl]; decide)] at f0 f1 f2
    obtain ⟨k, e0, -, -⟩ := DataW.trod_int Try.underlying3 f0
    obtain ⟨o, e1, -, -⟩ := DataW.trod_int Try.underlying3 f1
    obtain ⟨p, s, rfl, rfl⟩ := open_rid f2
    simp only [List.cons.injEq, and_true] at e0 e1
    subst e0 e1
    exact ⟨k, o, p, s, rfl⟩
end

set_option maxRecDepth 100000 in
theorem nil_lifted (os : Os) (started : os.Started) (H : Type) (enc : TypeId × Value → H) :
    ReturnsInHanded {} Try.checked os 7 .any (Rows.lockNilSpec.pre6 enc Try.prog Try.f7 Rows.lockNilRow.domain false) (Rows.lockNilSpec.post enc Try.prog Try.f7 false true false false) := by
  refine returnsInHanded_of_change (C := Try.checked) Try.own started (by kernel_rfl) Try.func7
    (ChangeSpec.witness6 (enc := enc) (C := Try.checked) false ⟨#[], #[.int .i64 0, .int .i64 0, .agg #[.int .i64 0, .int .i64 0, .int .u32 0, .int .i64 0]], []⟩ 8 (by kernel_rfl) (by kernel_rfl) (by kernel_rfl) (by kernel_rfl)) ?_
  intro W base args ds gs before hval0 hW hcnd _
  have hval : ∀ (j : Nat) t v, Try.f7.params[j]? = some t → args[j]? = some v → Value.okWide Try.prog W .any base t v := hval0
  have hW' := hW
  obtain ⟨p, q, hA0, hV, rfl, hfz, hnd⟩ := hW
  have hA : DataW.TrodAll enc Try.prog W 0 (fun _ => true) true Try.f7.params.toList args.toList ds p := hA0
  rw [Try.params7] at hA hval
  obtain ⟨v0, v1, v2, d0, d1, d2, p0, p1, p2, rfl, rfl, rfl, h0, h1, h2⟩ := trodAll_three hA
  obtain ⟨tx, rfl, -, -, wa⟩ := open_int Try.underlying3 (hval 0 3 v0 rfl rfl) h0
  obtain ⟨mode, rfl, -, -, wb⟩ := open_int Try.underlying3 (hval 1 3 v1 rfl rfl) h1
  obtain ⟨k, o, pg, s, rfl⟩ : ∃ k o p s, v2 = .agg #[.int .i64 k, .int .i64 o, .int .u32 p, .int .i64 s] := by
    obtain ⟨cs, rfl, hs⟩ := okWide_struct Try.underlying34 (hval 2 34 v2 rfl rfl)
    obtain ⟨fuel, hf⟩ := h2
    obtain ⟨k, o, p, s, hc⟩ := open_name hf
    obtain ⟨l⟩ := cs
    simp only [Value.cells] at hc
    exact ⟨k, o, p, s, by rw [show l = _ from hc]⟩
  refine (nil_any tx mode k o pg s W).mono fun e W' ⟨he, hb⟩ => ?_
  subst he
  exact ⟨_, rfl, law_post Try.laidOut (by kernel_rfl) Try.underlying4 rfl (by decide +kernel) hW' rfl hb⟩

theorem nil_holds : Rows.LockNilSaid :=
  OpenClaim.holds_of_wide 7 Try.f7 rfl rfl rfl rfl rfl rfl rfl ⟨rfl, rfl, rfl, rfl, rfl⟩ rfl rfl rfl rfl rfl (by kernel_rfl) Try.func7 (by kernel_rfl)
    (of_decide_eq_true (by kernel_rfl)) (by unfold Func.isWrapper; first | (rw [if_pos (by decide +kernel)]; kernel_rfl) | (rw [if_neg (by decide +kernel)]; exact ⟨rfl, rfl⟩))
    (fun os started H enc _ => nil_lifted os started H enc)
end Go.Proofs.Ytpggillecedocaa
