import Derived.Test.YtkcmedbalemmjaaA
namespace Go.Proofs.Ytkcmedbalemmjaa
open Go.RowKit
set_option linter.unusedVariables false

theorem info2 : (Try.prog.info? 2).map (fun i => (i.zero, i.size, i.bytes)) = some (some (.int .i64 0), 1, 8) := by kernel_rfl
theorem info63 : (Try.prog.info? 63).map (fun i => (i.zero, i.size, i.bytes)) = some (some (.agg #[.int .i64 0]), 1, 8) := by kernel_rfl

theorem run_make_rowN {P : Program} (t e : TypeId) (i : TypeInfo) (z : Value) (ht : P.underlying t = some (.slice e)) (hi : P.info? e = some i) (hz : i.zero = some z)
    (kl kc : IntKind) (n c : Nat) (hnc : n ≤ c) (hbytes : i.bytes * c ≤ 281474976710656) (h63 : c ≤ 9223372036854775807) (w : World) :
    (Instr.makeSlice t (.int kl (n : Int)) (.int kc (c : Int))).run P w = .ok (.slice (some ⟨w.heap.size, 0, none⟩) n c) (w.alloc (.cells (madeCells z.cells (c * i.size)) e)) := by
  have hb : (i.bytes : Int) * (c : Int) ≤ 281474976710656 := by
    have h : ((i.bytes * c : Nat) : Int) ≤ 281474976710656 := by omega
    rwa [Int.natCast_mul] at h
  have hr := run_make (P := P) w t e i z ht hi hz kl kc n c (by omega) (by omega) hb (by omega)
  simp only [Int.toNat_natCast] at hr
  exact hr

theorem made_ints (n : Nat) : madeCells #[.int .i64 0] n = ((List.replicate n (0 : Int)).map (Value.int .i64)).toArray := by
  apply Array.ext'
  rw [toList_madeCells_one]
  simp

theorem make63 (n : Nat) (hn : n ≤ 64) (w : World) : (Instr.makeSlice 54 (.int .i64 (n : Int)) (.int .i64 (n : Int))).run Try.prog w = .ok (.slice (some ⟨w.heap.size, 0, none⟩) n n) (w.alloc (.cells ((List.replicate n (0 : Int)).map (Value.int .i64)).toArray 63)) := by
  obtain ⟨i0, hi, hz0, hz1, hz2⟩ := info_parts info63
  have := run_make_rowN (P := Try.prog) 54 63 i0 _ Try.underlying54 hi hz0 .i64 .i64 n n (Nat.le_refl _) (by rw [hz2]; omega) (by omega) w
  rw [this, hz1, Nat.mul_one]
  simp only [Value.cells, made_ints]
theorem make2 (n : Nat) (hn : n ≤ 64) (w : World) : (Instr.makeSlice 28 (.int .i64 (n : Int)) (.int .i64 (n : Int))).run Try.prog w = .ok (.slice (some ⟨w.heap.size, 0, none⟩) n n) (w.alloc (.cells ((List.replicate n (0 : Int)).map (Value.int .i64)).toArray 2)) := by
  obtain ⟨i0, hi, hz0, hz1, hz2⟩ := info_parts info2
  have := run_make_rowN (P := Try.prog) 28 2 i0 _ Try.underlying28 hi hz0 .i64 .i64 n n (Nat.le_refl _) (by rw [hz2]; omega) (by omega) w
  rw [this, hz1, Nat.mul_one]
  simp only [Value.cells, made_ints]

theorem new_no (n : Int) (w : World) (h : n < 1 ∨ 64 < n) :
    Calls Try.prog 7 #[.int .i64 n] w fun e w' => e = .returned (.tuple #[.pointer none, .int .i64 1]) ∧ w = w' := by
  rcases h with h | h
  · go_enter Try.func7, Try.ntmps7
    go_wp2
    go_ret2
    exact ⟨rfl, rfl⟩
  · have h2 : ¬ n < 1 := by omega
    go_enter Try.func7, Try.ntmps7
    go_wp2
    go_ret2
    exact ⟨rfl, rfl⟩

theorem new_ok (n : Nat) (w : World) (h1 : 1 ≤ n) (h2 : n ≤ 64) :
    Calls Try.prog 7 #[.int .i64 n] w fun e w' => e = .returned (.tuple #[.pointer (some ⟨w.heap.size + 1, 0, none⟩), .int .i64 0]) ∧
      MeterAt w' (w.heap.size + 1) w.heap.size (List.replicate n 0) 0 ∧ Below w.heap.size w w' ∧ w'.heap.size = w.heap.size + 2 := by
  have hm := make63 n h2
  go_enter Try.func7, Try.ntmps7
  go_wp2
  go_ret2
  refine ⟨rfl, ⟨?_, ?_, by omega⟩, ?_, by simp⟩
  · have := Blk.new (w.alloc (.cells ((List.replicate n (0 : Int)).map (Value.int .i64)).toArray 63)) 61 #[.slice (some ⟨w.heap.size, 0, none⟩) n n, .int .u64 0]
    simpa using this
  · have := (Blk.new w 63 ((List.replicate n (0 : Int)).map (Value.int .i64)).toArray).alloc (.cells #[.slice (some ⟨w.heap.size, 0, none⟩) n n, .int .u64 0] 61)
    simpa using this
  · exact ((Below.refl _ _).alloc (Nat.le_refl _) _).alloc (by simp) _

theorem all_ok (m c : Nat) (l : List Int) (adds : Int) (w : World) (h : MeterAt w m c l adds) (hl : l.length ≤ 64) :
    Calls Try.prog 12 #[.pointer (some ⟨m, 0, none⟩)] w fun e w' => ∃ v, e = .returned v ∧ w'.ownsRow w.heap.size 2 1 v l.length (l.map (Value.int .i64)) ∧ Below w.heap.size w w' := by
  obtain ⟨i0, hi, hz0, hz1, hz2⟩ := info_parts info2
  have h0 := h.head.cell 0
  simp at h0
  have hmlt := h.head.lt
  have hclt := h.body.lt
  go_enter Try.func12, Try.ntmps12
  go_wp2
  go_loopw [3, 12] (fun v i wr => ∃ k : Nat, k ≤ l.length ∧ i = .int .i64 k ∧ wr.ownsRow w.heap.size 2 1 v k ((l.take k).map (Value.int .i64)) ∧ Below w.heap.size w wr)
    (fun _ i _ => l.length - (intOf i).toNat)
  case atStart => exact ⟨0, Nat.zero_le _, rfl, by simpa using World.ownsRow_nil _ _ _ _, Below.refl _ _⟩
  case round =>
    obtain ⟨k, hk, rfl, hown, hnx⟩ := hrel
    have hh := (h.head.below hnx hmlt).cell 0
    have hb := (h.body.below hnx hclt).cell k
    simp at hh hb
    by_cases hlt : k < l.length
    · simp [hlt] at hb
      have hsz := hnx.size
      go_wp2_with (first
        | (go_at_call 22; refine (load64 _ _ _ _ hb).mono ?_; rintro e w' ⟨rfl, rfl⟩)
        | (at_builtin; refine wpList_append_own _ rfl _ _ 28 rfl w.heap.size 2 i0 (.int .i64 0) 1 8 Try.underlying28 hi hz0 hz1 hz2 rfl (by decide) _ _ _ rfl (hown.alloc _) ⟨wr.heap.size, 0, none⟩ 1 1 [.int .i64 l[k]] rfl rfl ?c1 ?c2 ?c3 ?c4 ?c5 ?_))
      case c1 =>
        intro j u hj
        match j, hj with
        | 0, hj => simp at hj; subst hj; simp [Addr.add]
      case c2 => intro u hu; simp at hu; subst hu; rfl
      case c3 => unfold maxLen; omega
      case c4 => omega
      case c5 => simp; omega
      intro v' w1 hown' hgrow _
      have hb1 : Below w.heap.size w w1 := (hnx.alloc hsz _).grown hgrow (by simp; omega) (fun k' hk' => by
        rcases hown.2 with ⟨rfl, _⟩ | ⟨g, cap, cur, rfl, hg, _⟩
        · simp [Value.ownBlock] at hk'
        · simp [Value.ownBlock] at hk'; omega)
      go_wp2
      go_roundw
      case rel => exact ⟨k + 1, by omega, by go_num, by rw [List.take_succ_eq_append_getElem hlt, List.map_append]; simpa using hown', hb1⟩
      case measure => simp [intOf]; omega
    · obtain rfl : k = l.length := by omega
      go_wp2
      go_ret
      exact ⟨_, rfl, by simpa using hown, hnx⟩

theorem MeterAt.set {w : World} {m c : Nat} {l : List Int} {adds : Int} (h : MeterAt w m c l adds) (i : Nat) (x : Int) : MeterAt (w.setCell ⟨c, i, none⟩ (.int .i64 x)) m c (l.set i x) adds :=
  ⟨by simpa using h.head.far (p := ⟨c, i, none⟩) h.ne _, by simpa using h.body.set_ i (.int .i64 x), h.ne⟩
theorem MeterAt.count {w : World} {m c : Nat} {l : List Int} {adds : Int} (h : MeterAt w m c l adds) (a : Int) : MeterAt (w.setCell ⟨m, 1, none⟩ (.int .u64 a)) m c l a :=
  ⟨by simpa using h.head.set_ 1 (.int .u64 a), h.body.far (p := ⟨m, 1, none⟩) (fun e => h.ne e.symm) _, h.ne⟩
theorem MeterAt.alloc {w : World} {m c : Nat} {l : List Int} {adds : Int} (h : MeterAt w m c l adds) (o : Obj) : MeterAt (w.alloc o) m c l adds :=
  ⟨h.head.alloc o, h.body.alloc o, h.ne⟩
theorem MeterAt.below {w w' : World} {m c : Nat} {l : List Int} {adds : Int} (h : MeterAt w m c l adds) (hb : Below w.heap.size w w') : MeterAt w' m c l adds :=
  ⟨h.head.below hb h.head.lt, h.body.below hb h.body.lt, h.ne⟩
theorem MeterAt.far {w : World} {m c : Nat} {l : List Int} {adds : Int} (h : MeterAt w m c l adds) {p : Addr} (hm : m ≠ p.block) (hc : c ≠ p.block) (u : Value) : MeterAt (w.setCell p u) m c l adds :=
  ⟨h.head.far hm u, h.body.far hc u, h.ne⟩

theorem awake_any (w : World) : Calls Try.prog 8 #[] w fun e w' => e = .returned (.bool true) ∧ Below w.heap.size w w' := by
  go_enter Try.func8, Try.ntmps8
  go_wp2_with fail
  refine (new_ok 2 _ (by omega) (by omega)).mono ?_
  rintro e w1 ⟨rfl, hM, hB, hS⟩
  go_wp2_with fail
  refine (add_ok _ _ 1 _ _ 2 _ hM (by simp) (by simp)).mono ?_
  rintro e w2 ⟨rfl, rfl⟩
  have hM2 := (hM.count (IntKind.u64.wrap (0 + 1))).set 1 (wrap64 ((List.replicate 2 (0 : Int))[1] + 2))
  go_wp2_with fail
  refine (add_ok _ _ 1 _ _ 4 _ hM2 (by simp) (by simp)).mono ?_
  rintro e w2 ⟨rfl, rfl⟩
  have e2 : wrap64 2 = 2 := by unfold wrap64; omega
  have e6 : wrap64 6 = 6 := by unfold wrap64; omega
  go_wp2
  go_ret
  refine ⟨by rfl, ?_⟩
  refine ((((hB.setCell ?_ _).setCell ?_ _).setCell ?_ _).setCell ?_ _) <;> simp
end Go.Proofs.Ytkcmedbalemmjaa
