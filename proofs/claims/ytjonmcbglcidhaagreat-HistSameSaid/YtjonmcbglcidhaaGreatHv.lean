/- HistSame: two results are the same whatever the order of their rows, and nil models answer as the document says: of any rows, any turn and any statement the law returns true; no condition. -/
import Derived.Test.YtjonmcbglcidhaaGreatLaw
import Derived.Test.YtjonmcbglcidhaaGreatHt
import Derived.Test.YtjonmcbglcidhaaGreatV4
import Derived.SizedLaws
namespace Go.Proofs.YtjonmcbglcidhaaGreat
open Go.ChangeShapes Go.WideShapes Go.ChangeAt Go.RowKit Go.Deep
open Go.ChangeMaps (open_string)
set_option linter.unusedVariables false

section
variable {H : Type} {enc : TypeId × Value → H} {P : Program} {w : World} {base : Nat} {spare : Nat → Bool} {held : Bool}
theorem open_slice_fields {t e : TypeId} {fs : Array Field} {fuel : Nat} {cs : List Value} {x : DataW H × List MemPlace} (ht : P.underlying t = some (.slice e)) (he : P.underlying e = some (.struct fs))
    (hone : oneCellFields P fs = true) (hC : P.cellsOf e = fs.size) (h : DataW.trod enc P w base spare held fuel t cs = some x) :
    (cs = [.slice none 0 0] ∧ x = (.nil, [])) ∨
    ∃ (a : Addr) (len cap m : Nat) (D : Nat → DataW H) (Pl : Nat → List MemPlace), cs = [.slice (some a) len cap] ∧ base ≤ a.block ∧ len ≤ cap ∧ cap ≤ maxLen ∧ m = (if spare a.block then cap else len) ∧
      x = (.slice ((List.range len).map D) ((List.range (m - len)).map fun j => D (len + j)), MemPlace.row a (m * fs.size) ++ (List.range m).flatMap Pl) ∧
      ∀ i, i < m → ∃ (ys : List (DataW H × List MemPlace)) (n : Nat), D i = .agg (ys.map (·.1)) ∧ Pl i = ys.flatMap (·.2) ∧ ys.length = fs.size ∧
        ∀ (j : Nat) (f : Field), fs[j]? = some f → ∃ (v : Value) (y : DataW H × List MemPlace), w.cell? (a.add (i * fs.size + j)) = some v ∧ ys[j]? = some y ∧ DataW.trod enc P w base spare held n f.type [v] = some y := by
  rcases open_slice ht h with h0 | ⟨a, len, cap, m, n, D, Pl, hcs, hb, hl, hm, hmm, hx, hi⟩
  · exact .inl h0
  · refine .inr ⟨a, len, cap, m, D, Pl, hcs, hb, hl, hm, hmm, by rw [hC] at hx; exact hx, fun i him => ?_⟩
    obtain ⟨cs', hc, ht'⟩ := hi i him
    rw [hC] at hc
    obtain ⟨ys, n', hn', hy, hlen, hyl, hf⟩ := DataW.trod_struct he ht'
    obtain ⟨_, hcl, hat⟩ := World.cells?_some hc
    simp only [Prod.mk.injEq] at hy
    refine ⟨ys, n', hy.1, hy.2, hyl, fun j f hj => ?_⟩
    obtain ⟨ho, hk⟩ := hone_of hone j f hj
    have hjl : j < fs.size := (Array.getElem?_eq_some_iff.1 hj).1
    have hcell := hat j hjl
    have hv : cs'[j]? = some (cs'[j]'(by omega)) := List.getElem?_eq_getElem (by omega)
    have h1 := hf j f hj
    rw [ho, hk] at h1
    have hone' : (cs'.drop j).take 1 = [cs'[j]'(by omega)] := by
      rw [List.drop_eq_getElem_cons (by omega)]
      rfl
    rw [hone'] at h1
    have hys : ys[j]? = some (ys[j]'(by omega)) := List.getElem?_eq_getElem (by omega)
    refine ⟨_, _, ?_, hys, h1.trans hys⟩
    rw [← Go.Deep.add_add, hcell, hv]
end


theorem bytesVal : Tryz.prog.bytesOf 26 = 32 := by kernel_rfl
theorem bytesVals : Tryz.prog.bytesOf 24 = 24 := by kernel_rfl
theorem cellsVals : Tryz.prog.cellsOf 24 = 1 := by kernel_rfl
theorem cellsStmt : Tryz.prog.cellsOf 28 = 12 := by kernel_rfl

set_option maxRecDepth 100000 in
theorem open_vals_cs {H : Type} {enc : TypeId × Value → H} {W : World} {fuel : Nat} {cs : List Value} {x : DataW H × List MemPlace} (hf : DataW.trod enc Tryz.prog W 0 (fun _ => true) true fuel 24 cs = some x) :
    ∃ (l : List V) (A : Option Addr) (cap : Nat), cs = [.slice A l.length cap] ∧ VAt W A l ∧ (A = none → cap = 0) ∧ (l = [] ∨ ∃ elems spare, x.1 = .slice elems spare ∧ elems.length = l.length) := by
  rcases open_slice_fields Tryz.underlying24 Tryz.underlying26 (by kernel_rfl) (by kernel_rfl) hf with ⟨rfl, _⟩ | ⟨a, len, cap, m, D, Pl, rfl, _, hl, hm, hmm, hx, hi⟩
  · exact ⟨[], none, 0, rfl, fun k hk => absurd hk (by simp), fun _ => rfl, .inl rfl⟩
  · have hall : ∀ k, ∃ x : V, k < len → At1 W (some a) k x a := fun k => by
      by_cases hk : k < len
      · obtain ⟨ys, n, -, -, -, hf⟩ := hi k (by rw [hmm]; simp; omega)
        obtain ⟨x0, y0, c0, -, t0⟩ := hf 0 _ rfl
        obtain ⟨x1, y1, c1, -, t1⟩ := hf 1 _ rfl
        obtain ⟨x2, y2, c2, -, t2⟩ := hf 2 _ rfl
        obtain ⟨n0, e0, -, -⟩ := DataW.trod_int Tryz.underlying3 t0
        obtain ⟨n1, e1, -, hw⟩ := DataW.trod_int Tryz.underlying2 t1
        obtain ⟨s2, e2, -, -⟩ := DataW.trod_string Tryz.underlying9 t2
        simp only [List.cons.injEq, and_true] at e0 e1 e2
        subst e0 e1 e2
        have b0 := World.block_lt_of_cell? _ _ c0
        rw [block_of_add] at b0
        simp only [List.size_toArray, List.length_cons, List.length_nil, Nat.zero_add, Nat.reduceAdd, Nat.add_zero] at c0 c1 c2
        rw [add_step _ _ _ (by omega)] at c1 c2
        exact ⟨⟨n0, n1, s2⟩, fun _ => ⟨rfl, b0, c0, c1, c2⟩⟩
      · exact ⟨⟨0, 0, ⟨#[]⟩⟩, fun h => absurd h hk⟩
    obtain ⟨f, hfa⟩ := Classical.axiomOfChoice hall
    refine ⟨(List.range len).map f, some a, cap, by simp, fun k hk => ?_, (fun e => by cases e), .inr ?_⟩
    · have hk' : k < len := by simpa using hk
      refine ⟨a, ?_⟩
      simp only [List.getElem_map, List.getElem_range]
      exact hfa k hk'
    · exact ⟨_, _, by rw [hx], by simp⟩

theorem weightsAll_mem {H : Type} {P : Program} {e : TypeId} : ∀ {l : List (DataW H)} {d : DataW H}, d ∈ l → ∀ n ∈ d.weights P e, n ∈ DataW.weightsAll P e l
  | a :: r, d, h, n, hn => by
    simp only [DataW.weightsAll, List.mem_append]
    rcases List.mem_cons.1 h with rfl | h
    · exact .inl hn
    · exact .inr (weightsAll_mem h n hn)

set_option maxRecDepth 100000 in
theorem open_rows {H : Type} {enc : TypeId × Value → H} {W : World} {r : Reach} {b0 : Nat} {v : Value} {d : DataW H} {ps : List MemPlace} (h : DataW.Trod enc Tryz.prog W 0 (fun _ => true) true 22 v d ps) (hok : Value.okWide Tryz.prog W r b0 22 v)
    (hsz : (d.weights Tryz.prog 22).all (· ≤ reachBytes) = true) :
    ∃ (R : List RH) (A : Option Addr) (cap : Nat), v = .slice A R.length cap ∧ RRead W (.slice A R.length cap) R ∧ (∀ r ∈ R, VAt W r.A r.l ∧ r.l.length * 32 ≤ 140737488351232 ∧ (r.A = none → r.cap = 0)) ∧ R.length * 24 ≤ 140737488351232 := by
  obtain ⟨fuel, hf⟩ := h
  obtain ⟨A, len, cap, rfl⟩ := okWide_slice Tryz.underlying22 hok
  rcases open_slice Tryz.underlying22 hf with ⟨hc, _⟩ | ⟨a, len', cap', m, n, D, Pl, hc, _, hl, hm, hmm, hx, hi⟩
  · simp only [Value.cells, List.cons.injEq, Value.slice.injEq] at hc
    obtain ⟨⟨rfl, rfl, rfl⟩, _⟩ := hc
    exact ⟨[], none, 0, rfl, ⟨none, 0, rfl, fun _ => rfl, fun j hj => absurd hj (by simp)⟩, fun r hr => by simp at hr, by simp⟩
  · simp only [Value.cells, List.cons.injEq, Value.slice.injEq] at hc
    obtain ⟨⟨rfl, rfl, rfl⟩, _⟩ := hc
    simp only [Prod.mk.injEq] at hx
    obtain ⟨rfl, -⟩ := hx
    have hws : ∀ n ∈ DataW.weights Tryz.prog 22 (DataW.slice ((List.range len).map D) ((List.range (m - len)).map fun j => D (len + j))), n ≤ 140737488351232 := fun n hn => by
      have := List.all_eq_true.1 hsz n hn
      exact of_decide_eq_true this
    have hl24 : len * 24 ≤ 140737488351232 := by
      have := hws ((((List.range len).map D).length + ((List.range (m - len)).map fun j => D (len + j)).length) * Tryz.prog.bytesOf 24) (by simp [DataW.weights, Tryz.underlying22])
      rw [bytesVals] at this
      simp at this
      omega
    have hall : ∀ k, ∃ x : RH, k < len → W.cell? (a.add k) = some (hv x) ∧ VAt W x.A x.l ∧ x.l.length * 32 ≤ 140737488351232 ∧ (x.A = none → x.cap = 0) := fun k => by
      by_cases hk : k < len
      · obtain ⟨cs', hcs, ht⟩ := hi k (by rw [hmm]; simp; omega)
        obtain ⟨l, A', cap', rfl, h1, h2, h3⟩ := open_vals_cs ht
        rw [cellsVals, Nat.mul_one] at hcs
        obtain ⟨-, -, hat⟩ := World.cells?_some hcs
        have hc0 := hat 0 (by omega)
        have h9 : (a.add k).add 0 = a.add k := by unfold Addr.add; simp
        rw [h9] at hc0
        refine ⟨⟨A', cap', l⟩, fun _ => ⟨hc0, h1, ?_, h2⟩⟩
        rcases h3 with rfl | ⟨elems, spare, e, he⟩
        · simp
        · have hmem : D k ∈ (List.range len).map D := List.mem_map.2 ⟨k, List.mem_range.2 hk, rfl⟩
          have := hws ((elems.length + spare.length) * Tryz.prog.bytesOf 26) (by
            simp only [DataW.weights, Tryz.underlying22, List.mem_cons, List.mem_append]
            refine .inr (.inl (weightsAll_mem hmem _ ?_))
            simp only [] at e
            rw [e]
            simp [DataW.weights, Tryz.underlying24])
          rw [bytesVal] at this
          show l.length * 32 ≤ _
          omega
      · exact ⟨⟨none, 0, []⟩, fun h => absurd h hk⟩
    obtain ⟨f, hfa⟩ := Classical.axiomOfChoice hall
    refine ⟨(List.range len).map f, some a, cap, by simp, ⟨some a, cap, rfl, (fun e => by cases e), fun j hj => ?_⟩, fun x hx => ?_, by simpa using hl24⟩
    · have hj' : j < len := by simpa using hj
      obtain ⟨h1, -⟩ := hfa j hj'
      have hlt := World.block_lt_of_cell? _ _ h1
      rw [block_of_add] at hlt
      exact ⟨a, rfl, hlt, by simpa using h1⟩
    · obtain ⟨k, hk, rfl⟩ := List.mem_map.1 hx
      exact (hfa k (List.mem_range.1 hk)).2

theorem agg12 {cs : Array Value} (h : cs.size = 12) : ∃ c0 c1 c2 c3 c4 c5 c6 c7 c8 c9 c10 c11, cs = #[c0, c1, c2, c3, c4, c5, c6, c7, c8, c9, c10, c11] := by
  obtain ⟨l⟩ := cs
  match l, h with
  | [c0, c1, c2, c3, c4, c5, c6, c7, c8, c9, c10, c11], _ => exact ⟨c0, c1, c2, c3, c4, c5, c6, c7, c8, c9, c10, c11, rfl⟩

set_option maxRecDepth 100000 in
theorem same_lifted (os : Os) (started : os.Started) (H : Type) (enc : TypeId × Value → H) :
    ReturnsInHanded {} Tryz.checked os 3 .any (Rows.histSameSpec.pre6 enc Tryz.prog Tryz.f3 Rows.histSameRow.domain false) (Rows.histSameSpec.post enc Tryz.prog Tryz.f3 false true false false) := by
  refine returnsInHanded_of_change_sized (C := Tryz.checked) Tryz.own started (by kernel_rfl) Tryz.func3
    (ChangeSpec.witness6 (enc := enc) (C := Tryz.checked) false ⟨#[], #[.slice none 0 0, .int .i64 0, .agg #[.int .i64 0, .string ⟨#[]⟩, .string ⟨#[]⟩, .slice none 0 0, .bool false, .slice none 0 0, .slice none 0 0, .slice none 0 0, .int .i64 0, .int .i64 0, .int .i64 0, .string ⟨#[]⟩]], []⟩ 8 (by kernel_rfl) (by kernel_rfl) (by kernel_rfl) (by kernel_rfl)) ?_
  intro W base args ds gs before hval0 hW hcnd hsz0 _
  have hval : ∀ (j : Nat) t v, Tryz.f3.params[j]? = some t → args[j]? = some v → Value.okWide Tryz.prog W .any base t v := hval0
  have hsz : (DataW.weightsEach Tryz.prog (Tryz.f3.params.toList ++ Rows.histSameSpec.plain.varTypes Tryz.prog) (ds ++ gs)).all (· ≤ reachBytes) = true := hsz0
  have hW' := hW
  obtain ⟨p, q, hA0, hV, rfl, hfz, hnd⟩ := hW
  have hA : DataW.TrodAll enc Tryz.prog W 0 (fun _ => true) true Tryz.f3.params.toList args.toList ds p := hA0
  rw [Tryz.params3] at hA hval hsz
  obtain ⟨v0, v1, v2, d0, d1, d2, p0, p1, p2, rfl, rfl, rfl, h0, h1, h2⟩ := trodAll_three hA
  obtain ⟨R, A, cap, rfl, hR, hC, hb⟩ := open_rows h0 (hval 0 22 v0 rfl rfl) (by
    rw [List.all_eq_true] at hsz ⊢
    exact fun n hn => hsz n (DataW.weights_mem_each (j := 0) rfl rfl n hn))
  obtain ⟨t, rfl, rfl, rfl, wt⟩ := open_int Tryz.underlying3 (hval 1 3 v1 rfl rfl) h1
  have ht := wt
  simp [Lit.wf, IntKind.min, IntKind.max, IntKind.bits, IntKind.signed] at ht
  obtain ⟨cs, rfl, hcs⟩ := okWide_struct Tryz.underlying28 (hval 2 28 v2 rfl rfl)
  rw [cellsStmt] at hcs
  obtain ⟨c0, c1, c2, c3, c4, c5, c6, c7, c8, c9, c10, c11, rfl⟩ := agg12 hcs
  refine (hist_any hR hC hb t ht.1 (by omega) Go.Ev.awake_any c0 c1 c2 c3 c4 c5 c6 c7 c8 c9 c10 c11).mono fun e W' ⟨he, hb⟩ => ?_
  subst he
  exact ⟨_, rfl, law_post Tryz.laidOut (by kernel_rfl) Tryz.underlying4 rfl (by decide +kernel) hW' rfl hb⟩

theorem same_holds : Rows.HistSameSaid :=
  OpenClaim.holds_of_wide 3 Tryz.f3 rfl rfl rfl rfl rfl rfl rfl ⟨rfl, rfl, rfl, rfl, rfl⟩ rfl rfl rfl rfl rfl (by kernel_rfl) Tryz.func3 (by kernel_rfl)
    (of_decide_eq_true (by kernel_rfl)) (by unfold Func.isWrapper; first | (rw [if_pos (by decide +kernel)]; kernel_rfl) | (rw [if_neg (by decide +kernel)]; exact ⟨rfl, rfl⟩))
    (fun os started H enc _ => same_lifted os started H enc)
end Go.Proofs.YtjonmcbglcidhaaGreat
