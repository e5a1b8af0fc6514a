import Derived.Test.YtjonmcbglcidhaaGreatHf
import Derived.Test.YtjonmcbglcidhaaGreatSh
import Derived.Lib.RowBridge
import Derived.Laws.CopyRow
namespace Go.Proofs.YtjonmcbglcidhaaGreat
open Go.RowKit Go.Shelf Go.Sort
set_option linter.unusedVariables false

/-! ### Sorting rows -/
def RB (B : Nat) (w : World) (r : RH) : Prop := VAt w r.A r.l ∧ (r.l ≠ [] → ∀ ad, r.A = some ad → ad.block < B) ∧ r.l.length ≤ 9223372036854775807
abbrev RW (B : Nat) (w : World) := {r : RH // RB B w r}
instance (B : Nat) (w : World) : Inhabited (RW B w) := ⟨⟨⟨none, 0, []⟩, fun k hk => absurd hk (by simp), fun h => absurd rfl h, by simp⟩⟩
def encR {B : Nat} {w : World} (x : RW B w) : Value := hv x.1
def cfR {B : Nat} {w : World} (x y : RW B w) : Int := cmpL x.1.l y.1.l
theorem swoR {B : Nat} {w : World} : SWO (ltOf (cfR (B := B) (w := w))) := by
  have o := cmpL_ord
  refine ⟨fun x => ?_, fun x y z h1 h2 => ?_, fun x y z h1 h2 => ?_⟩
  · unfold ltOf cfR; rw [o.self]; rfl
  · unfold ltOf cfR at *
    simp only [decide_eq_true_eq] at *
    exact o.trans _ _ _ h1 h2
  · unfold ltOf cfR at *
    simp only [decide_eq_false_iff_not] at *
    intro h3
    by_cases e : cmpL x.1.l y.1.l = 0
    · have e2 := (o.zero _ _).1 e
      rw [e2] at h3
      exact h2 h3
    · have p1 : 0 < cmpL x.1.l y.1.l := by omega
      have p2 := (o.swap y.1.l x.1.l).2 p1
      exact h2 (o.trans _ _ _ p2 h3)
theorem VAt.kept {B : Nat} {w w' : World} {A : Option Addr} {l : List V} (h : VAt w A l) (hs : w.heap.size ≤ w'.heap.size) (hB : l ≠ [] → ∀ ad, A = some ad → ad.block < B) (hb : ∀ k, k < B → k < w.heap.size → w'.heap[k]? = w.heap[k]?) : VAt w' A l := fun k hk => by
  obtain ⟨ad, h1⟩ := h k hk
  have hlt := hB (fun e => by rw [e] at hk; simp at hk) ad h1.at_
  have hc : ∀ p : Addr, p.block = ad.block → w'.cell? p = w.cell? p := fun p hp => World.cell?_of_block (by rw [hp]; exact hb _ hlt h1.lt)
  exact ⟨ad, h1.at_, Nat.lt_of_lt_of_le h1.lt hs, (hc _ (block_of_add _ _)).trans h1.c0, (hc ⟨(ad.add (k * 3)).block, (ad.add (k * 3)).off + 1, none⟩ (block_of_add ad (k * 3))).trans h1.c1, (hc ⟨(ad.add (k * 3)).block, (ad.add (k * 3)).off + 2, none⟩ (block_of_add ad (k * 3))).trans h1.c2⟩
theorem RB.kept {B : Nat} {w w' : World} {r : RH} (h : RB B w r) (hs : w.heap.size ≤ w'.heap.size) (hb : ∀ k, k < B → k < w.heap.size → w'.heap[k]? = w.heap[k]?) : RB B w' r := ⟨h.1.kept hs h.2.1 hb, h.2⟩

theorem turned_cells {g : Nat} : ∀ (vs : List Value) (o : Nat) (w : World), (w.setCells g o vs).os = w.os ∧ (w.setCells g o vs).tape = w.tape ∧ (w.setCells g o vs).output = w.output ∧ (w.setCells g o vs).heap.size = w.heap.size ∧ ∀ i, i ≠ g → (w.setCells g o vs).heap[i]? = w.heap[i]?
  | [], _, _ => ⟨rfl, rfl, rfl, rfl, fun _ _ => rfl⟩
  | v :: r, o, w => by
    obtain ⟨a, b, c, d, e⟩ := turned_cells r (o + 1) (w.setCell ⟨g, o, none⟩ v)
    exact ⟨a, b, c, d.trans (by simp [World.setCell]), fun i hi => (e i hi).trans (Below.heap_setCell w ⟨g, o, none⟩ v i hi)⟩
theorem block_cells {g : Nat} {t : TypeId} : ∀ (vs : List Value) (o : Nat) (w : World) (cur : Array Value), w.heap[g]? = some (.cells cur t (0, 0)) → o + vs.length ≤ cur.size →
    (w.setCells g o vs).heap[g]? = some (.cells (cur.toList.take o ++ vs ++ cur.toList.drop (o + vs.length)).toArray t (0, 0))
  | [], o, w, cur, h, _ => by simpa [World.setCells] using h
  | v :: r, o, w, cur, h, hl => by
    have h1 : (w.setCell ⟨g, o, none⟩ v).heap[g]? = some (.cells (cur.setIfInBounds o v) t (0, 0)) := by
      simp [World.setCell, Array.getElem?_modify, h]
    have ih := block_cells r (o + 1) (w.setCell ⟨g, o, none⟩ v) _ h1 (by simp at hl ⊢; omega)
    have e := list_seg_step cur.toList o v r (by simp at hl ⊢; omega)
    simp only [World.setCells, List.length_cons]
    rw [Array.toList_setIfInBounds] at ih
    rw [e] at ih
    exact ih

/-- The rows, in their order. -/
def SortedR (R : List RH) : Prop := R.Pairwise fun x y => ¬ cmpL y.l x.l < 0
theorem sortR_any {w : World} {base : Nat} {v : Value} {R : List RH} (h : ROwn w base v R) (hR : ∀ r ∈ R, RB base w r) (hl : R.length < 4611686018427387904) :
    Calls Tryz.prog 18 #[v, .func (.func 19) #[] #[]] w fun e w' => ∃ R', e = .returned (.tuple #[]) ∧ R'.Perm R ∧ SortedR R' ∧ ROwn w' base v R' ∧ w.heap.size ≤ w'.heap.size ∧ w'.os = w.os ∧ w'.tape = w.tape ∧ w'.output = w.output ∧ ∀ k, k < w.heap.size → some k ≠ v.ownBlock → w'.heap[k]? = w.heap[k]? := by
  rcases h.2 with ⟨rfl, h0⟩ | ⟨g, cap, cur, rfl, hg, hb, r1, r2, r3, r4⟩
  · have hl0 : R = [] := List.length_eq_zero_iff.1 h0
    subst hl0
    have hc := AnyF.slices_SortFunc_none Tryz.sortR0 none 0 (.func (.func 19) #[] #[]) w
    change Calls Tryz.prog 18 _ _ _ at hc
    refine hc.mono ?_
    rintro e w' ⟨rfl, rfl⟩
    exact ⟨[], rfl, List.Perm.refl _, List.Pairwise.nil, h, Nat.le_refl _, rfl, rfl, rfl, fun _ _ _ => rfl⟩
  · have hlt : g < w.heap.size := (Array.getElem?_eq_some_iff.1 hb).1
    obtain ⟨d, hd⟩ : ∃ d : List (RW base w), d.map (·.1) = R := ⟨R.attach.map fun r => ⟨r.1, hR r.1 r.2⟩, by rw [List.map_map]; exact List.attach_map_subtype_val R⟩
    have hdl : d.length = R.length := by rw [← hd, List.length_map]
    have henc : d.map encR = R.map hv := by rw [← hd, List.map_map]; rfl
    have hH : Holds encR w g 0 d.toArray := by
      intro j hj
      have hj' : j < d.length := by simpa using hj
      refine ⟨?_, by simp [World.frozen?, hb]⟩
      rw [Nat.zero_add, cell_of_row w g j cur 24 (0, 0) hb]
      have h1 : (cur.toList.take (R.length * 1))[j]? = (d.map encR)[j]? := by rw [r4, henc]
      rw [List.getElem?_take_of_lt (by omega), Array.getElem?_toList, List.getElem?_map, List.getElem?_eq_getElem hj'] at h1
      rw [h1]
      simp [hj']
    have hcmp : CmpLays1 Tryz.prog 19 #[] (encR (B := base) (w := w)) (cfR (B := base) (w := w)) g 0 d.toArray.size w := by
      intro m os dk hs x y
      have hput : putRow encR (Sort.ahead w m) g 0 dk = (w.drewN m).setCells g 0 (dk.toList.map encR) := by
        have := Lib.putRow_eq_setCells encR w g 0 d.toArray dk.toList m hH (by simpa using hs)
        simpa using this
      have hsz : w.heap.size ≤ (sortWorld encR w g 0 m dk os).heap.size := by
        unfold sortWorld
        rw [hput]
        show _ ≤ (((w.drewN m).setCells g 0 (dk.toList.map encR)).heap ++ os).size
        rw [Array.size_append, (turned_cells _ _ _).2.2.2.1]
        show w.heap.size ≤ w.heap.size + _
        omega
      have hblk : ∀ k, k < base → k < w.heap.size → (sortWorld encR w g 0 m dk os).heap[k]? = w.heap[k]? := fun k hk hkw => by
        unfold sortWorld
        rw [hput, Sort.heap_grow_old _ _ (by rw [(turned_cells _ _ _).2.2.2.1]; exact hkw), (turned_cells _ _ _).2.2.2.2 k (by omega)]
        rfl
      have hx := x.2.kept hsz hblk
      have hy := y.2.kept hsz hblk
      refine (compare_any x.1.A y.1.A x.1.cap y.1.cap x.1.l y.1.l (sortWorld encR w g 0 m dk os) hx.1 hy.1 hx.2.2 hy.2.2).mono ?_
      rintro e w' ⟨rfl, q, os', rfl⟩
      exact ⟨rfl, q, os', rfl⟩
    have hc := Any.slices_SortFunc Tryz.sortR (encR (B := base) (w := w)) (fun _ => rfl) (cfR (B := base) (w := w)) swoR 19 #[] g 0 cap d.toArray w (enters_of Tryz.func19 (by kernel_rfl) rfl) hcmp hH hlt (by simp; omega)
    change Calls Tryz.prog 18 _ _ _ at hc
    rw [List.size_toArray, hdl] at hc
    refine hc.mono ?_
    rintro e w' ⟨rfl, d', n, os, hp, hs, rfl⟩
    obtain ⟨hp1, -, hp3⟩ := hp
    have hsz : d'.size = R.length := by rw [hp1]; simpa using hdl
    have hperm : d'.toList.Perm d := by
      have e1 : (d'.extract 0 R.length).toList = d'.toList := by rw [← hsz]; simp
      have e2 : (d.toArray.extract 0 R.length).toList = d := by rw [← hdl]; simp
      rw [e1, e2] at hp3
      exact hp3
    have hput : putRow encR (Sort.ahead w n) g 0 d' = (w.drewN n).setCells g 0 (d'.toList.map encR) := by
      have := Lib.putRow_eq_setCells encR w g 0 d.toArray d'.toList n hH (by simpa [hdl] using hsz)
      simpa using this
    have hl3 : (d'.toList.map encR).length = R.length := by simpa using hsz
    obtain ⟨t1, t2, t3, t4, t5⟩ := turned_cells (g := g) (d'.toList.map encR) 0 (w.drewN n)
    have hlt2 : g < ((w.drewN n).setCells g 0 (d'.toList.map encR)).heap.size := by rw [t4]; exact hlt
    have hbc := block_cells (t := 24) (d'.toList.map encR) 0 (w.drewN n) cur hb (by omega)
    have hR' : (d'.toList.map (·.1)).map hv = d'.toList.map encR := by rw [List.map_map]; rfl
    have hl4 : (d'.toList.map (·.1)).length = R.length := by simpa using hsz
    unfold sortWorld
    rw [hput]
    refine ⟨d'.toList.map (·.1), rfl, ?_, ?_, ⟨by simp, .inr ⟨g, cap, _, by rw [hl4], hg, (Sort.heap_grow_old _ os hlt2).trans hbc, by rw [hl4]; exact r1, r2, ?_, ?_⟩⟩, ?_, t1, t2, t3, fun k hk hne => ?_⟩
    · rw [← hd]; exact hperm.map _
    · unfold SortedR
      rw [List.pairwise_map, List.pairwise_iff_getElem]
      intro i j hi hj hij
      have hj2 : j < R.length := by rw [← hsz]; simpa using hj
      have h1 := hs i j (Nat.zero_le _) hij hj2
      unfold ltOf cfR at h1
      simp only [decide_eq_false_iff_not] at h1
      have hi3 : i < d'.size := by simpa using hi
      have hj3 : j < d'.size := by simpa using hj
      rw [getElem!_pos d' i hi3, getElem!_pos d' j hj3] at h1
      simpa using h1
    · simp [hl3]; omega
    · rw [hR', hl4]
      simp only [List.take_zero, List.nil_append, Nat.zero_add]
      rw [List.take_append_of_le_length (by rw [hl3]; omega), List.take_of_length_le (by rw [hl3]; omega)]
    · show w.heap.size ≤ (_ ++ os).size
      rw [Array.size_append, t4]
      show w.heap.size ≤ w.heap.size + _
      omega
    · have hkg : k ≠ g := fun e => hne (by rw [e]; rfl)
      rw [Sort.heap_grow_old _ os (by rw [t4]; exact hk), t5 k hkg]
      rfl
end Go.Proofs.YtjonmcbglcidhaaGreat
