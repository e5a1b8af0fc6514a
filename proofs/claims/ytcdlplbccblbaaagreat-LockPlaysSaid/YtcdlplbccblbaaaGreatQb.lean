import Derived.Test.YtcdlplbccblbaaaGreatQa
import Derived.Test.YtcdlplbccblbaaaGreatMg10
import Derived.Maps.AppendAt
namespace Go.Proofs.YtcdlplbccblbaaaGreat
open Go.RowKit
set_option linter.unusedVariables false
set_option linter.unusedSimpArgs false

theorem eq_rname (a b : Nm) (w : World) : (Op.equal 49 (nv a) (nv b)).run Tryz.prog w = .ok (decide (a = b)) w := by
  show (Op.equalIn (9997 + 3) 49 (nv a) (nv b)).run Tryz.prog w = _
  generalize 9997 = d
  unfold nv
  rw [run_equalIn_agg w (d + 2) 49 _ _ (by kernel_rfl) (by kernel_rfl)]
  have e1 : ∀ x y, (Op.equalIn (d + 2) 3 (.int .i64 x) (.int .i64 y)).run Tryz.prog w = .ok (x == y) w := fun x y => run_equalIn_int w (d + 1) 3 .i64 .i64 x y Tryz.underlying3
  have e2 : ∀ x y, (Op.equalIn (d + 2) 41 (.int .u32 x) (.int .u32 y)).run Tryz.prog w = .ok (x == y) w := fun x y => run_equalIn_int w (d + 1) 41 .u32 .u32 x y Tryz.underlying41
  have f34 : (Tryz.prog.fieldsOf 49).toList = [{ name := "Kind", type := 3, offset := 0, embedded := false, tag := "", pkgPath := "", byteOffset := 0 },
        { name := "Of", type := 3, offset := 1, embedded := false, tag := "", pkgPath := "", byteOffset := 8 },
        { name := "Page", type := 41, offset := 2, embedded := false, tag := "", pkgPath := "", byteOffset := 16 },
        { name := "Slot", type := 3, offset := 3, embedded := false, tag := "", pkgPath := "", byteOffset := 24 }] := by kernel_rfl
  have p1 : ∀ x y z u : Value, (part 3 #[x, y, z, u] 0).run Tryz.prog w = .ok x w := fun x y z u => by kernel_rfl
  have p2 : ∀ x y z u : Value, (part 3 #[x, y, z, u] 1).run Tryz.prog w = .ok y w := fun x y z u => by kernel_rfl
  have p3 : ∀ x y z u : Value, (part 41 #[x, y, z, u] 2).run Tryz.prog w = .ok z w := fun x y z u => by kernel_rfl
  have p4 : ∀ x y z u : Value, (part 3 #[x, y, z, u] 3).run Tryz.prog w = .ok u w := fun x y z u => by kernel_rfl
  rw [f34]
  obtain ⟨k, o, p, s⟩ := a
  obtain ⟨k', o', p', s'⟩ := b
  by_cases h1 : k = k'
  · subst h1
    by_cases h2 : o = o'
    · subst h2
      by_cases h3 : p = p'
      · subst h3
        by_cases h4 : s = s'
        · subst h4
          simp [Op.eqFields, e1, e2, p1, p2, p3, p4, Result.andThen]
        · simp [Op.eqFields, e1, e2, p1, p2, p3, p4, Result.andThen, h4]
      · simp [Op.eqFields, e1, e2, p1, p2, p3, Result.andThen, h3]
    · simp [Op.eqFields, e1, p1, p2, Result.andThen, h2]
  · simp [Op.eqFields, e1, p1, Result.andThen, h1]

theorem before_any (k o p s k' o' p' s' : Int) (w : World) : Calls Tryz.prog 61 #[.agg #[.int .i64 k, .int .i64 o, .int .u32 p, .int .i64 s], .agg #[.int .i64 k', .int .i64 o', .int .u32 p', .int .i64 s']] w fun e w' =>
    e = .returned (.bool (ltN ⟨k, o, p, s⟩ ⟨k', o', p', s'⟩)) ∧ Below w.heap.size w w' := by
  have hB : Below w.heap.size w ((w.alloc (.cells #[.int .i64 k, .int .i64 o, .int .u32 p, .int .i64 s] 49)).alloc (.cells #[.int .i64 k', .int .i64 o', .int .u32 p', .int .i64 s'] 49)) := ((Below.refl _ _).alloc (Nat.le_refl _) _).alloc (by simp) _
  by_cases h1 : k = k'
  · have e1 : (k != k') = false := by simpa using h1
    by_cases h2 : o = o'
    · have e2 : (o != o') = false := by simpa using h2
      by_cases h3 : p = p'
      · have e3 : (p != p') = false := by simpa using h3
        have HR : Hid (ltN ⟨k, o, p, s⟩ ⟨k', o', p', s'⟩ = decide (s < s')) := Lib.hid (by unfold ltN; rw [decide_eq_decide]; simp only; omega)
        clear h1 h2 h3
        go_enter Tryz.func61, Tryz.ntmps61
        go_wp2
        go_ret
        exact ⟨ret_bool HR.out.symm, hB⟩
      · have e3 : (p != p') = true := by simpa using h3
        have HR : Hid (ltN ⟨k, o, p, s⟩ ⟨k', o', p', s'⟩ = decide (p < p')) := Lib.hid (by unfold ltN; rw [decide_eq_decide]; simp only; omega)
        clear h1 h2 h3
        go_enter Tryz.func61, Tryz.ntmps61
        go_wp2
        go_ret
        exact ⟨ret_bool HR.out.symm, hB⟩
    · have e2 : (o != o') = true := by simpa using h2
      have HR : Hid (ltN ⟨k, o, p, s⟩ ⟨k', o', p', s'⟩ = decide (o < o')) := Lib.hid (by unfold ltN; rw [decide_eq_decide]; simp only; omega)
      clear h1 h2
      go_enter Tryz.func61, Tryz.ntmps61
      go_wp2
      go_ret
      exact ⟨ret_bool HR.out.symm, hB⟩
  · have e1 : (k != k') = true := by simpa using h1
    have HR : Hid (ltN ⟨k, o, p, s⟩ ⟨k', o', p', s'⟩ = decide (k < k')) := Lib.hid (by unfold ltN; rw [decide_eq_decide]; simp only; omega)
    clear h1
    go_enter Tryz.func61, Tryz.ntmps61
    go_wp2
    go_ret
    exact ⟨ret_bool HR.out.symm, hB⟩

/-- The queue of a name, in a list. -/
def qE (E : List Qr) (n : Nm) : List Ak := ((E.find? fun e => e.n == n).map (·.q)).getD []
set_option maxHeartbeats 1000000 in
set_option maxRecDepth 100000 in
theorem rqueue_any {w : World} {v : Value} {E : List Qr} (h : RE w 0 v E) (hq : ∀ e ∈ E, e.q.length ≤ 100000) (k o p s : Int) :
    Calls Tryz.prog 27 #[v, .agg #[.int .i64 k, .int .i64 o, .int .u32 p, .int .i64 s]] w fun e w' => ∃ v', e = .returned v' ∧ AO w' w.heap.size v' (qE E ⟨k, o, p, s⟩) ∧ Below w.heap.size w w' := by
  obtain ⟨i0, hi0, hz0, hz1, hz2⟩ := info_parts infoAsker
  obtain ⟨A, c, rfl, h1, h2⟩ := h.form
  unfold maxLen at h2
  have hgd : Tryz.prog.eqGuardType Tryz.prog.depth 49 = false := by kernel_rfl
  obtain ⟨wa, hwa⟩ : ∃ wa, wa = w.alloc (.cells #[.int .i64 k, .int .i64 o, .int .u32 p, .int .i64 s] 49) := ⟨_, rfl⟩
  have hBa : Below w.heap.size w wa := by rw [hwa]; exact (Below.refl _ _).alloc (Nat.le_refl _) _
  have hbn : Blk wa w.heap.size 49 #[.int .i64 k, .int .i64 o, .int .u32 p, .int .i64 s] := by rw [hwa]; exact Blk.new _ _ _
  go_enter Tryz.func27, Tryz.ntmps27
  go_wp2_with fail
  rw [← hwa]
  go_loopw [5] (fun i wr => ∃ j : Nat, j ≤ E.length ∧ i = .int .i64 j ∧ Below wa.heap.size wa wr ∧ Hid (∀ j' (hj : j' < E.length), j' < j → E[j'].n ≠ ⟨k, o, p, s⟩)) (fun i _ => E.length - (intOf i).toNat)
  case atStart => exact ⟨0, Nat.zero_le _, rfl, Below.refl _ _, Lib.hid (fun j _ h => by omega)⟩
  case round =>
    obtain ⟨j, hj, rfl, hB, hno⟩ := hrel
    by_cases hlt : j < E.length
    · have hbr := hbn.of_block (hB.block _ hbn.lt)
      have hBw : Below w.heap.size w wr := hBa.trans (hB.mono hBa.size)
      obtain ⟨g, rfl, -, -, -, -, hgl, c0, c1, c2, c3, c4, hao⟩ := (h.below hBw).cell hlt
      have b0 := hbr.cell 0
      have b1 := hbr.cell 1
      have b2 := hbr.cell 2
      have b3 := hbr.cell 3
      simp at b0 b1 b2 b3
      have hql := hq E[j] (List.getElem_mem hlt)
      have HST : Hid (E[j].n ≠ ⟨k, o, p, s⟩ → ∀ j' (hj : j' < E.length), j' < j + 1 → E[j'].n ≠ ⟨k, o, p, s⟩) := Lib.hid (fun hne j' hj' hjk => by
        rcases Nat.lt_or_ge j' j with h' | h'
        · exact hno.out j' hj' h'
        · obtain rfl : j' = j := by omega
          exact hne)
      have HFD : Hid (E[j].n = ⟨k, o, p, s⟩ → qE E ⟨k, o, p, s⟩ = E[j].q) := Lib.hid (fun he => by
        unfold qE
        rw [List.find?_eq_some_iff_getElem.2 ⟨by simpa using he, j, hlt, rfl, fun j' hj' => by simpa using hno.out j' (by omega) hj'⟩]
        rfl)
      obtain ⟨e, he⟩ : ∃ e, e = E[j] := ⟨_, rfl⟩
      rw [← he] at c0 c1 c2 c3 c4 hao hql HST HFD
      obtain ⟨⟨k', o', p', s'⟩, q, ev⟩ := e
      simp only at c0 c1 c2 c3 c4 hao hql HST HFD
      clear he
      by_cases hn : (⟨k', o', p', s'⟩ : Nm) = ⟨k, o, p, s⟩
      · have HRES := Lib.hid (HFD.out hn)
        simp only [Nm.mk.injEq] at hn
        obtain ⟨rfl, rfl, rfl, rfl⟩ := hn
        clear HST HFD
        obtain ⟨sa, sc, rfl, hs1, hs2⟩ := hao.form
        have hao2 : ∀ nq, AO ((wr.drewN nq).alloc (.cells #[] 74)) 0 (.slice sa q.length sc) q := fun nq => hao.below (below_drewN (Below.refl _ _) nq |>.alloc (Nat.le_refl _) _)
        have hBd : ∀ nq, Below w.heap.size w (wr.drewN nq) := fun nq => below_drewN hBw nq
        go_wp2_with fail
        go_quiet (fail)
        obtain ⟨wq, hwq⟩ : ∃ wq, wq = wr.drewN nq := ⟨_, rfl⟩
        have hsz : w.heap.size ≤ wq.heap.size := by rw [hwq]; exact (hBd nq).size
        have c4q : wq.cell? ⟨g, j * 5 + 4, none⟩ = some (.slice sa q.length sc) := by rw [hwq]; exact c4
        have hglq : g < wq.heap.size := by rw [hwq]; exact hgl
        have hao3 := hao2 nq
        have hBd3 := hBd nq
        rw [← hwq] at hao3 hBd3 ⊢
        clear hao2 hBd hwq
        go_wp2_with (at_builtin; refine wpList_append_ao rfl _ _ rfl w.heap.size _ [] q rfl ((AO.made wq).base_ hsz) sa _ sc rfl rfl hao3.src_none hao3.src (by simpa using Nat.le_trans hql (by omega)) (by simp; omega) ?_; intro v' w8 ho8 hg8)
        go_wp2_with fail
        go_ret
        rw [HRES.out]
        exact ⟨_, rfl, ho8, below_grown (hBd3.alloc hsz _) ((AO.made wq).base_ hsz) hg8 (by simp; omega)⟩
      · have HRES := Lib.hid (HST.out hn)
        have hn4 : k' ≠ k ∨ (k' = k ∧ (o' ≠ o ∨ (o' = o ∧ (p' ≠ p ∨ (p' = p ∧ s' ≠ s))))) := by
          simp only [Nm.mk.injEq] at hn
          omega
        clear hn HST HFD
        rcases hn4 with hn | ⟨rfl, hn | ⟨rfl, hn | ⟨rfl, hn⟩⟩⟩
        all_goals
          go_wp2_with fail
          go_quiet (fail)
          go_wp2_with fail
          go_roundw
          case rel => exact ⟨j + 1, by omega, by go_num, below_drewN hB _, HRES⟩
          case measure => simp [intOf]; omega
    · obtain rfl : j = E.length := by omega
      have HRES : Hid (qE E ⟨k, o, p, s⟩ = []) := Lib.hid (by
        unfold qE
        rw [List.find?_eq_none.2 (fun e he => by
          obtain ⟨j, hj, rfl⟩ := List.getElem_of_mem he
          simpa using hno.out j hj hj)]
        rfl)
      go_wp2_with fail
      go_ret
      rw [HRES.out]
      exact ⟨_, rfl, AO.nil _ _, hBa.trans (hB.mono hBa.size)⟩
end Go.Proofs.YtcdlplbccblbaaaGreat
