import Derived.Test.YtogeojiaiilghaaGreatV5
set_option linter.unusedVariables false
set_option linter.unusedSimpArgs false
namespace Go.Ev
open Go.RowKit Go.Proofs Go.Proofs.YtogeojiaiilghaaGreat

/-! ### Calls that look at nil, or at a pointer alone -/
def vOf (x : Option Out) : Option AV := match x with
  | some o => some o.v
  | none => none
def φ1 (b o : Nat) : Emb := ⟨fun _ => b, fun _ => o, fun _ => 0, fun _ => True⟩
theorem run1 {k f : Nat} {vs : List AV} {v : AV} (h : vOf (call E k f vs .e 1) = some v) (b o : Nat) (hvs : scs (φ1 b o) 1 vs) (w : World) :
    Calls Tryz.prog f (concs (φ1 b o) vs).toArray w fun e w' => (∃ φ', e = .returned (conc φ' v)) ∧ Below w.heap.size w w' := by
  cases hc : call E k f vs .e 1 with
  | none => rw [hc] at h; cases h
  | some out =>
    rw [hc] at h
    obtain ⟨_, h1⟩ := runs E_ok E_orc k f vs .e 1 out hc
    refine Calls.mono (h1 (φ1 b o) w ⟨fun l o h => (by cases h), fun l m o p h => (by cases h)⟩ hvs (by decide)) fun e w' hr => ?_
    obtain ⟨φ', e1, e2, e3, _⟩ := hr
    cases h
    exact ⟨⟨φ', e1⟩, e3.os, e3.tape, e3.output, e3.size, fun k hk => e3.frame k hk fun l o h => by cases h⟩
theorem ptr1 (b o : Nat) : scv (φ1 b o) 1 (.ptr 0 0) := (sc_ptr _ _ _ _).2 ⟨by decide, trivial⟩
theorem scs1 {b o : Nat} {l : List AV} (h : ∀ a ∈ l, a = .nil ∨ a = .ptr 0 0) : scs (φ1 b o) 1 l := (scs_iff _ _ _).2 fun a ha => by
  rcases h a ha with rfl | rfl
  · exact sc_nil _ _
  · exact ptr1 b o
theorem step_nil_runs : vOf (call E 20 5 [.nil, .ptr 0 0] .e 1) = some (.tuple [.nilSlice, .int .i64 1]) := by kernel_rfl
theorem step_nil (b o : Nat) (w : World) : Calls Tryz.prog 5 #[.pointer none, .pointer (some ⟨b, o, none⟩)] w fun e w' => e = .returned (.tuple #[.slice none 0 0, .int .i64 1]) ∧ Below w.heap.size w w' := by
  have h := run1 step_nil_runs b o (scs1 (by simp)) w
  simp only [cs_cons, cs_nil, c_ptr, c_nil, φ1, Nat.add_zero] at h
  refine Calls.mono h fun e w' hr => ?_
  obtain ⟨⟨φ', e1⟩, e2⟩ := hr
  exact ⟨by rw [e1]; simp, e2⟩
theorem step_none_runs : vOf (call E 20 5 [.ptr 0 0, .nil] .e 1) = some (.tuple [.nilSlice, .int .i64 1]) := by kernel_rfl
theorem step_none (b o : Nat) (w : World) : Calls Tryz.prog 5 #[.pointer (some ⟨b, o, none⟩), .pointer none] w fun e w' => e = .returned (.tuple #[.slice none 0 0, .int .i64 1]) ∧ Below w.heap.size w w' := by
  have h := run1 step_none_runs b o (scs1 (by simp)) w
  simp only [cs_cons, cs_nil, c_ptr, c_nil, φ1, Nat.add_zero] at h
  refine Calls.mono h fun e w' hr => ?_
  obtain ⟨⟨φ', e1⟩, e2⟩ := hr
  exact ⟨by rw [e1]; simp, e2⟩
theorem kill_nil_runs : vOf (call E 20 7 [.nil, .ptr 0 0] .e 1) = some (.tuple [.nilSlice, .int .i64 1]) := by kernel_rfl
theorem kill_nil (b o : Nat) (w : World) : Calls Tryz.prog 7 #[.pointer none, .pointer (some ⟨b, o, none⟩)] w fun e w' => e = .returned (.tuple #[.slice none 0 0, .int .i64 1]) ∧ Below w.heap.size w w' := by
  have h := run1 kill_nil_runs b o (scs1 (by simp)) w
  simp only [cs_cons, cs_nil, c_ptr, c_nil, φ1, Nat.add_zero] at h
  refine Calls.mono h fun e w' hr => ?_
  obtain ⟨⟨φ', e1⟩, e2⟩ := hr
  exact ⟨by rw [e1]; simp, e2⟩
theorem lost_nil_runs : vOf (call E 20 8 [.nil] .e 1) = some (.tuple []) := by kernel_rfl
theorem lost_nil (b o : Nat) (w : World) : Calls Tryz.prog 8 #[.pointer none] w fun e w' => e = .returned (.tuple #[]) ∧ Below w.heap.size w w' := by
  have h := run1 lost_nil_runs b o (scs1 (by simp)) w
  simp only [cs_cons, cs_nil, c_ptr, c_nil, φ1, Nat.add_zero] at h
  refine Calls.mono h fun e w' hr => ?_
  obtain ⟨⟨φ', e1⟩, e2⟩ := hr
  exact ⟨by rw [e1]; simp, e2⟩
theorem ended_nil_runs : vOf (call E 20 10 [.nil] .e 1) = some (.bool true) := by kernel_rfl
theorem ended_nil (b o : Nat) (w : World) : Calls Tryz.prog 10 #[.pointer none] w fun e w' => e = .returned (.bool true) ∧ Below w.heap.size w w' := by
  have h := run1 ended_nil_runs b o (scs1 (by simp)) w
  simp only [cs_cons, cs_nil, c_ptr, c_nil, φ1, Nat.add_zero] at h
  refine Calls.mono h fun e w' hr => ?_
  obtain ⟨⟨φ', e1⟩, e2⟩ := hr
  exact ⟨by rw [e1]; simp, e2⟩
theorem tx_nil_runs : vOf (call E 20 11 [.nil] .e 1) = some (.int .i64 0) := by kernel_rfl
theorem tx_nil (b o : Nat) (w : World) : Calls Tryz.prog 11 #[.pointer none] w fun e w' => e = .returned (.int .i64 0) ∧ Below w.heap.size w w' := by
  have h := run1 tx_nil_runs b o (scs1 (by simp)) w
  simp only [cs_cons, cs_nil, c_ptr, c_nil, φ1, Nat.add_zero] at h
  refine Calls.mono h fun e w' hr => ?_
  obtain ⟨⟨φ', e1⟩, e2⟩ := hr
  exact ⟨by rw [e1]; simp, e2⟩
theorem at_nil_runs : vOf (call E 20 12 [.nil] .e 1) = some (.int .i64 0) := by kernel_rfl
theorem at_nil (b o : Nat) (w : World) : Calls Tryz.prog 12 #[.pointer none] w fun e w' => e = .returned (.int .i64 0) ∧ Below w.heap.size w w' := by
  have h := run1 at_nil_runs b o (scs1 (by simp)) w
  simp only [cs_cons, cs_nil, c_ptr, c_nil, φ1, Nat.add_zero] at h
  refine Calls.mono h fun e w' hr => ?_
  obtain ⟨⟨φ', e1⟩, e2⟩ := hr
  exact ⟨by rw [e1]; simp, e2⟩
theorem did_nil_runs : vOf (call E 20 13 [.nil] .e 1) = some (.nilSlice) := by kernel_rfl
theorem did_nil (b o : Nat) (w : World) : Calls Tryz.prog 13 #[.pointer none] w fun e w' => e = .returned (.slice none 0 0) ∧ Below w.heap.size w w' := by
  have h := run1 did_nil_runs b o (scs1 (by simp)) w
  simp only [cs_cons, cs_nil, c_ptr, c_nil, φ1, Nat.add_zero] at h
  refine Calls.mono h fun e w' hr => ?_
  obtain ⟨⟨φ', e1⟩, e2⟩ := hr
  exact ⟨by rw [e1]; simp, e2⟩
theorem waits_nil_runs : vOf (call E 20 14 [.nil, .ptr 0 0] .e 1) = some (.bool false) := by kernel_rfl
theorem waits_nil (b o : Nat) (w : World) : Calls Tryz.prog 14 #[.pointer none, .pointer (some ⟨b, o, none⟩)] w fun e w' => e = .returned (.bool false) ∧ Below w.heap.size w w' := by
  have h := run1 waits_nil_runs b o (scs1 (by simp)) w
  simp only [cs_cons, cs_nil, c_ptr, c_nil, φ1, Nat.add_zero] at h
  refine Calls.mono h fun e w' hr => ?_
  obtain ⟨⟨φ', e1⟩, e2⟩ := hr
  exact ⟨by rw [e1]; simp, e2⟩
/-- A session without commands has ended. -/
noncomputable def endsOf (x : Option Out) : Bool := match x with
  | some o => (match o.v with
    | .ptr l k => Nat.ble o.N 16777216 && (match vOf (call E 20 10 [.ptr l k] o.H o.N) with
      | some (.bool b) => b
      | _ => false)
    | _ => false)
  | none => false
theorem ends_runs : endsOf (call E 20 6 [.nilSlice] .e 0) = true := by kernel_rfl
theorem ends_any (w : World) : Calls Tryz.prog 6 #[.slice none 0 0] w fun e w' => ∃ p, e = .returned (.pointer (some p)) ∧ Calls Tryz.prog 10 #[.pointer (some p)] w' fun e w'' => e = .returned (.bool true) ∧ Below w.heap.size w w'' := by
  have h := ends_runs
  cases hc : call E 20 6 [.nilSlice] .e 0 with
  | none => rw [hc] at h; cases h
  | some out =>
    rw [hc] at h
    obtain ⟨_, h1⟩ := runs E_ok E_orc 20 6 [.nilSlice] .e 0 out hc
    have h2 := h1 ⟨fun _ => 0, fun _ => 0, fun _ => 0, fun _ => False⟩ w ⟨fun l o h => (by cases h), fun l m o p h => (by cases h)⟩ ((scs_iff _ _ _).2 fun a ha => by
      obtain rfl := List.mem_singleton.1 ha
      exact sc_nilSlice _ _) (Nat.zero_le _)
    simp only [cs_cons, cs_nil, c_nilSlice] at h2
    refine Calls.mono h2 fun e w' hr => ?_
    obtain ⟨φ', e1, e2, e3, e4⟩ := hr
    clear h2 h1
    obtain ⟨v, H, N⟩ := out
    simp only [endsOf] at h
    split at h
    case h_2 => cases h
    rename_i l k
    rw [Bool.and_eq_true] at h
    obtain ⟨hN, h⟩ := h
    split at h
    case h_2 => cases h
    rename_i b hb2
    subst h
    cases hd : call E 20 10 [.ptr l k] H N with
    | none => rw [hd] at hb2; cases hb2
    | some out2 =>
      rw [hd] at hb2
      refine ⟨⟨φ'.b l, φ'.s l + k, none⟩, by rw [e1]; simp, ?_⟩
      obtain ⟨_, h1⟩ := runs E_ok E_orc 20 10 [.ptr l k] H N out2 hd
      have h2 := h1 φ' w' e2 ((scs_iff _ _ _).2 fun a ha => by
        obtain rfl := List.mem_singleton.1 ha
        exact e4) (Nat.le_of_ble_eq_true hN)
      simp only [cs_cons, cs_nil, c_ptr] at h2
      refine Calls.mono h2 fun e w'' hr => ?_
      obtain ⟨φ'', g1, g2, g3, _⟩ := hr
      have hv : out2.v = .bool true := Option.some.inj hb2
      exact ⟨by rw [g1, hv, c_bool], (e3.trans g3).below⟩
end Go.Ev
