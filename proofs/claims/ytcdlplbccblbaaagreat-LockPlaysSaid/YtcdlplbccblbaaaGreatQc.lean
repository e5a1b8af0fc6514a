import Derived.Test.YtcdlplbccblbaaaGreatQb
import Derived.Test.YtcdlplbccblbaaaGreatMg29
namespace Go.Proofs.YtcdlplbccblbaaaGreat
open Go.RowKit
set_option linter.unusedVariables false
set_option linter.unusedSimpArgs false

theorem qE_eq (E : List Qr) (n : Nm) : qE E n = qL (E.map eq2) n := by
  unfold qE qL eq2
  rw [List.find?_map]
  simp [Function.comp_def, Option.map_map]
theorem RT.frame {B : Nat} {w w' : World} {v : Value} {M : List (Nm × List Ak)} (h : RT w v M) (hf : Frame B w w') : RT w' v M := by
  obtain ⟨E, e, h⟩ := h
  refine ⟨E, e, h.of_block fun k cs t ht hk => ?_⟩
  have := hf.others k t cs (by rcases ht with rfl | rfl <;> decide) (by rcases ht with rfl | rfl <;> decide) hk
  exact Eq.trans this hk.symm

theorem below_cell {w w' : World} {n : Nat} (h : Below n w w') {p : Addr} (hp : p.block < n) {v : Value} (hc : w.cell? p = some v) : w'.cell? p = some v := (World.cell?_of_block (h.block _ hp)).trans hc
theorem results_cell1 {P : Program} {fn : Func} {p u : Tmp} {ty : TypeId} (h : fn.results = #[.cell p ty, .tmp u]) (tmps : Array Value) (w : World) (g : Nat) (t : TypeId) (cs : Array Value) (fr : Nat × Nat) (d : TypeDesc)
    (hp : tmps.getD p undef = .pointer (some ⟨g, 0, none⟩)) (hg : w.heap[g]? = some (.cells cs t fr)) (hu : P.underlying ty = some d) (hd : (match d with | .struct _ | .array _ _ => true | _ => false) = true) (hi : (P.info? ty).map (·.size) = some cs.size) :
    (results fn tmps).run P w = .ok (.tuple #[.agg cs, tmps.getD u undef]) w := by
  have hp' : tmps[p]?.getD undef = .pointer (some ⟨g, 0, none⟩) := by simpa using hp
  simp [results, h, hp', asAddr, run_loadVar_row w g t ty cs fr d hg hu hd hi, Sem.run_bind, Result.andThen]
theorem Blk.set4 {w : World} {g : Nat} {t : TypeId} {x0 x1 x2 x3 : Value} (h : Blk w g t #[x0, x1, x2, x3]) (y0 y1 y2 y3 : Value) :
    Blk ((((w.setCell ⟨g, 0, none⟩ y0).setCell ⟨g, 1, none⟩ y1).setCell ⟨g, 2, none⟩ y2).setCell ⟨g, 3, none⟩ y3) g t #[y0, y1, y2, y3] := by
  have := (((h.set_ 0 y0).set_ 1 y1).set_ 2 y2).set_ 3 y3
  simpa using this
theorem below_set4 {w w' : World} {n : Nat} {g : Nat} (h : Below n w w') (hg : n ≤ g) (y0 y1 y2 y3 : Value) : Below n w ((((w'.setCell ⟨g, 0, none⟩ y0).setCell ⟨g, 1, none⟩ y1).setCell ⟨g, 2, none⟩ y2).setCell ⟨g, 3, none⟩ y3) :=
  (((h.setCell (p := ⟨g, 0, none⟩) hg y0).setCell (p := ⟨g, 1, none⟩) hg y1).setCell (p := ⟨g, 2, none⟩) hg y2).setCell (p := ⟨g, 3, none⟩) hg y3

theorem RE.cell_in {w w' : World} {A : Option Addr} {n c base : Nat} {E : List Qr} (h : RE w base (.slice A n c) E) (hb : Below w.heap.size w w') {k : Nat} (hk : k < E.length) : ∃ g, A = some ⟨g, 0, none⟩ ∧ g < w.heap.size ∧ g < w'.heap.size ∧
    w'.cell? ⟨g, k * 5, none⟩ = some (.int .i64 E[k].n.kind) ∧ w'.cell? ⟨g, k * 5 + 1, none⟩ = some (.int .i64 E[k].n.of_) ∧ w'.cell? ⟨g, k * 5 + 2, none⟩ = some (.int .u32 E[k].n.page) ∧ w'.cell? ⟨g, k * 5 + 3, none⟩ = some (.int .i64 E[k].n.slot) ∧
    w'.cell? ⟨g, k * 5 + 4, none⟩ = some E[k].v ∧ AO w' 0 E[k].v E[k].q := by
  obtain ⟨g, e1, -, -, -, -, hg, -⟩ := h.cell hk
  obtain ⟨g', e2, -, -, -, -, hg', r⟩ := (h.below hb).cell hk
  rw [e1] at e2
  simp at e2
  subst e2
  exact ⟨g, e1, hg, hg', r⟩

/-! ### The mode that a transaction has -/
set_option maxRecDepth 100000 in
set_option maxHeartbeats 1000000 in
theorem rhas_any {w : World} {v : Value} {E : List Qr} (h : RE w 0 v E) (hq : ∀ e ∈ E, e.q.length ≤ 100000) (tx k o p s : Int) :
    Calls Tryz.prog 26 #[v, .int .i64 tx, .agg #[.int .i64 k, .int .i64 o, .int .u32 p, .int .i64 s]] w fun e w' => e = .returned (.int .i64 (hasQ (qE E ⟨k, o, p, s⟩) tx)) ∧ Below w.heap.size w w' := by
  obtain ⟨A, c, rfl, h1, h2⟩ := h.form
  obtain ⟨wa, hwa⟩ : ∃ wa, wa = w.alloc (.cells #[.int .i64 k, .int .i64 o, .int .u32 p, .int .i64 s] 49) := ⟨_, rfl⟩
  have hBa : Below w.heap.size w wa := by rw [hwa]; exact (Below.refl _ _).alloc (Nat.le_refl _) _
  have hbn : Blk wa w.heap.size 49 #[.int .i64 k, .int .i64 o, .int .u32 p, .int .i64 s] := by rw [hwa]; exact Blk.new _ _ _
  have b0 := hbn.cell 0
  have b1 := hbn.cell 1
  have b2 := hbn.cell 2
  have b3 := hbn.cell 3
  simp at b0 b1 b2 b3
  have hcon := rqueue_any (h.below hBa) hq k o p s
  obtain ⟨q, hqd⟩ : ∃ q, q = qE E ⟨k, o, p, s⟩ := ⟨_, rfl⟩
  rw [← hqd] at hcon ⊢
  clear hqd
  go_enter Tryz.func26, Tryz.ntmps26
  go_wp2_with fail
  rw [← hwa]
  go_wp2_with fail
  refine hcon.mono ?_
  rintro e w1 ⟨v1, rfl, hao, hB1⟩
  have hao1 := hao.base_ (Nat.zero_le _)
  obtain ⟨sa, sc, rfl, hs1, hs2⟩ := hao1.form
  have hBw : Below w.heap.size w w1 := hBa.trans (hB1.mono hBa.size)
  go_wp2_with fail
  refine (rfind_any hao1 tx).mono ?_
  rintro e w2 ⟨rfl, hB2⟩
  have hao2 := hao1.below hB2
  unfold maxLen at hs2
  cases hf : q.findIdx? fun a => a.tx == tx with
  | none =>
    rw [idx_of_none hf]
    have HH : Hid (hasQ q tx = 0) := Lib.hid (by unfold hasQ; rw [hf])
    go_wp2_with fail
    go_ret
    rw [HH.out]
    exact ⟨rfl, hBw.trans (hB2.mono hBw.size)⟩
  | some i =>
    obtain ⟨hix, hil⟩ := idx_of_some hf
    rw [hix]
    have HH : Hid (hasQ q tx = q[i].has) := Lib.hid (by unfold hasQ; rw [hf]; simp [List.getD, hil])
    obtain ⟨g, rfl, -, -, -, -, hgl, c0, c1, -⟩ := hao2.cell hil
    go_wp2_with fail
    go_ret
    rw [HH.out]
    exact ⟨rfl, hBw.trans (hB2.mono hBw.size)⟩

/-! ### What a transaction waits for -/
def waitsB (q : List Ak) (tx : Int) : Bool := match q.findIdx? fun a => a.tx == tx with
  | none => false
  | some i => (q.getD i ak0).wants != 0
def forE (E : List Qr) (tx : Int) : Option Nm := (E.find? fun e => waitsB e.q tx).map (·.n)
def forZ (E : List Qr) (tx : Int) : Nm := (forE E tx).getD n0
set_option maxRecDepth 100000 in
set_option maxHeartbeats 1000000 in
theorem rfor_any {w : World} {v : Value} {E : List Qr} (h : RE w 0 v E) (tx : Int) :
    Calls Tryz.prog 20 #[v, .int .i64 tx] w fun e w' =>
      e = .returned (.tuple #[.agg #[.int .i64 (forZ E tx).kind, .int .i64 (forZ E tx).of_, .int .u32 (forZ E tx).page, .int .i64 (forZ E tx).slot], .bool (forE E tx).isSome]) ∧ Below w.heap.size w w' := by
  obtain ⟨A, c, rfl, h1, h2⟩ := h.form
  unfold maxLen at h2
  obtain ⟨wa, hwa⟩ : ∃ wa, wa = w.alloc (.cells #[.int .i64 0, .int .i64 0, .int .u32 0, .int .i64 0] 49) := ⟨_, rfl⟩
  have hBa : Below w.heap.size w wa := by rw [hwa]; exact (Below.refl _ _).alloc (Nat.le_refl _) _
  have hbn : Blk wa w.heap.size 49 #[.int .i64 0, .int .i64 0, .int .u32 0, .int .i64 0] := by rw [hwa]; exact Blk.new _ _ _
  go_enter Tryz.func20, Tryz.ntmps20
  go_wp2_with fail
  rw [← hwa]
  go_loopw [6] (fun i wr => ∃ j : Nat, j ≤ E.length ∧ i = .int .i64 j ∧ Below wa.heap.size wa wr ∧ Hid (∀ j' (hj : j' < E.length), j' < j → waitsB E[j'].q tx = false)) (fun i _ => E.length - (intOf i).toNat)
  case atStart => exact ⟨0, Nat.zero_le _, rfl, Below.refl _ _, Lib.hid (fun j _ h => by omega)⟩
  case round =>
    obtain ⟨j, hj, rfl, hB, hno⟩ := hrel
    have hbr := hbn.of_block (hB.block _ hbn.lt)
    have hBw : Below w.heap.size w wr := hBa.trans (hB.mono hBa.size)
    have hwlt := hbr.lt
    by_cases hlt : j < E.length
    · obtain ⟨g, rfl, hgw, hgl, c0, c1, c2, c3, c4, hao⟩ := h.cell_in hBw hlt
      have hgN : g ≠ w.heap.size := by omega
      have HST : Hid (waitsB E[j].q tx = false → ∀ j' (hj : j' < E.length), j' < j + 1 → waitsB E[j'].q tx = false) := Lib.hid (fun hne j' hj' hjk => by
        rcases Nat.lt_or_ge j' j with h' | h'
        · exact hno.out j' hj' h'
        · obtain rfl : j' = j := by omega
          exact hne)
      have HFD : Hid (waitsB E[j].q tx = true → forE E tx = some E[j].n) := Lib.hid (fun he => by
        unfold forE
        rw [List.find?_eq_some_iff_getElem.2 ⟨by simpa using he, j, hlt, rfl, fun j' hj' => by simpa using hno.out j' (by omega) hj'⟩]
        rfl)
      obtain ⟨e, he⟩ : ∃ e, e = E[j] := ⟨_, rfl⟩
      rw [← he] at c0 c1 c2 c3 c4 hao HST HFD
      obtain ⟨⟨k', o', p', s'⟩, q, ev⟩ := e
      simp only at c0 c1 c2 c3 c4 hao HST HFD
      clear he
      obtain ⟨sa, sc, rfl, hs1, hs2⟩ := hao.form
      unfold maxLen at hs2
      go_wp2_with fail
      refine (rfind_any hao tx).mono ?_
      rintro e w2 ⟨rfl, hB2⟩
      have hao2 := hao.below hB2
      have hB2' : Below wa.heap.size wa w2 := hB.trans (hB2.mono hB.size)
      have d0 := below_cell hB2 (p := ⟨g, j * 5, none⟩) hgl c0
      have d1 := below_cell hB2 (p := ⟨g, j * 5 + 1, none⟩) hgl c1
      have d2 := below_cell hB2 (p := ⟨g, j * 5 + 2, none⟩) hgl c2
      have d3 := below_cell hB2 (p := ⟨g, j * 5 + 3, none⟩) hgl c3
      have d4 := below_cell hB2 (p := ⟨g, j * 5 + 4, none⟩) hgl c4
      have hbr2 := hbr.of_block (hB2.block _ hbr.lt)
      clear c0 c1 c2 c3 c4
      cases hf : q.findIdx? fun a => a.tx == tx with
      | none =>
        rw [idx_of_none hf]
        have HW := Lib.hid (HST.out (by unfold waitsB; rw [hf]))
        go_wp2_with fail
        go_roundw
        case rel => exact ⟨j + 1, by omega, by go_num, hB2', HW⟩
        case measure => simp [intOf]; omega
      | some i =>
        obtain ⟨hix, hil⟩ := idx_of_some hf
        rw [hix]
        obtain ⟨g2, rfl, -, -, -, -, hgl2, a0, a1, a2, -⟩ := hao2.cell hil
        by_cases hw0 : q[i].wants = 0
        · have HW := Lib.hid (HST.out (by unfold waitsB; rw [hf]; simp [List.getD, hil, hw0]))
          have hwb : (q[i].wants != 0) = false := by simpa using hw0
          clear hw0
          go_wp2_with fail
          go_roundw
          case rel => exact ⟨j + 1, by omega, by go_num, hB2', HW⟩
          case measure => simp [intOf]; omega
        · have HW := Lib.hid (HFD.out (by unfold waitsB; rw [hf]; simp [List.getD, hil, hw0]))
          have hwb : (q[i].wants != 0) = true := by simpa using hw0
          clear hw0
          have e0 := hbr2.cell 0
          have e1 := hbr2.cell 1
          have e2 := hbr2.cell 2
          have e3 := hbr2.cell 3
          simp at e0 e1 e2 e3
          have f0 := hbr2.frozen 0
          have f1 := hbr2.frozen 1
          have f2 := hbr2.frozen 2
          have f3 := hbr2.frozen 3
          go_wp2_with fail
          refine bodyPost_ret (results_cell1 rfl _ _ w.heap.size 49 #[.int .i64 k', .int .i64 o', .int .u32 p', .int .i64 s'] (0, 0) _ rfl ?_ Tryz.underlying49 rfl (by kernel_rfl)) rfl ?_
          · exact hbr2.set4 _ _ _ _
          · unfold forZ
            rw [HW.out]
            exact ⟨rfl, below_set4 (hBa.trans (hB2'.mono hBa.size)) (Nat.le_refl _) _ _ _ _⟩
    · obtain rfl : j = E.length := by omega
      have HRES : Hid (forE E tx = none) := Lib.hid (by
        unfold forE
        rw [List.find?_eq_none.2 (fun e he => by
          obtain ⟨j, hj, rfl⟩ := List.getElem_of_mem he
          simpa using hno.out j hj hj)]
        rfl)
      have e0 := hbr.cell 0
      have e1 := hbr.cell 1
      have e2 := hbr.cell 2
      have e3 := hbr.cell 3
      simp at e0 e1 e2 e3
      have f0 := hbr.frozen 0
      have f1 := hbr.frozen 1
      have f2 := hbr.frozen 2
      have f3 := hbr.frozen 3
      go_wp2_with fail
      refine bodyPost_ret (results_cell1 rfl _ _ w.heap.size 49 #[.int .i64 0, .int .i64 0, .int .u32 0, .int .i64 0] (0, 0) _ rfl ?_ Tryz.underlying49 rfl (by kernel_rfl)) rfl ?_
      · exact hbr.set4 _ _ _ _
      · unfold forZ
        rw [HRES.out]
        exact ⟨rfl, below_set4 hBw (Nat.le_refl _) _ _ _ _⟩
end Go.Proofs.YtcdlplbccblbaaaGreat
