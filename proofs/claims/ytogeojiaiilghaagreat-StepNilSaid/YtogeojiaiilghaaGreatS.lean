import Derived.Test.YtogeojiaiilghaaGreatRl
import Derived.Test.YtogeojiaiilghaaGreatRj
import Derived.Test.YtogeojiaiilghaaGreatDe
import Derived.Test.YtogeojiaiilghaaGreatSh
import Derived.Lib.RowBridge
namespace Go.Proofs.YtogeojiaiilghaaGreat
open Go.RowKit Go.Shelf Go.Sort
set_option linter.unusedVariables false

instance : Inhabited Nm := ⟨n0⟩
theorem nvs_len (l : List Nm) : (l.flatMap nvs).length = l.length * 4 := by
  induction l with
  | nil => rfl
  | cons a l ih => simp [nvs, ih]; omega
theorem nvs_get : ∀ (l : List Nm) (k j : Nat) (hk : k < l.length) (hj : j < 4), (l.flatMap nvs)[k * 4 + j]? = (nvs l[k])[j]?
  | a :: l, 0, j, _, hj => by
    rw [List.flatMap_cons, List.getElem?_append_left (by simp [nvs]; omega)]
    simp
  | a :: l, k + 1, j, hk, hj => by
    rw [List.flatMap_cons, List.getElem?_append_right (by simp [nvs]; omega)]
    have e : (k + 1) * 4 + j - (nvs a).length = k * 4 + j := by simp [nvs]; omega
    rw [e, nvs_get l k j (by simpa using hk) hj]
    simp
  | [], k, j, hk, _ => by simp at hk
theorem flat_names (l : List Nm) : flatK nvs 4 l.toArray = (l.flatMap nvs).toArray := by
  refine ext_get! (by simp [nvs_len, -List.length_flatMap]) fun t ht => ?_
  have ht' : t < l.length * 4 := by simpa using ht
  rw [get_flatK _ _ _ t (by simpa using ht')]
  have hk : t / 4 < l.length := by omega
  have hj : t % 4 < 4 := by omega
  have e : t = t / 4 * 4 + t % 4 := by omega
  have h1 := nvs_get l (t / 4) (t % 4) hk hj
  rw [← e] at h1
  have h2 : (l.flatMap nvs).toArray[t]! = ((l.flatMap nvs)[t]?).getD default := by simp [List.getElem!_eq_getElem?_getD]
  rw [h2, h1]
  have h3 : l.toArray[t / 4]! = l[t / 4] := by simp [hk]
  rw [h3]
  simp [List.getElem!_eq_getElem?_getD]

/-- The names in order. -/
def sortN (l : List Nm) : List Nm := l.mergeSort fun x y => !(ltOf cmpN) y x
theorem ltOf_cmpN (a b : Nm) : ltOf cmpN a b = ltN a b := cmpN_neg a b
theorem swoN : SWO (ltOf cmpN) where
  irrefl x := by rw [ltOf_cmpN]; exact ltN_irrefl x
  trans x y z h1 h2 := by rw [ltOf_cmpN] at *; exact ltN_trans h1 h2
  ntrans x y z h1 h2 := by rw [ltOf_cmpN] at *; exact ltN_ntrans h1 h2
theorem sortN_perm (l : List Nm) : (sortN l).Perm l := List.mergeSort_perm l _
theorem sortN_len (l : List Nm) : (sortN l).length = l.length := (sortN_perm l).length_eq

/-- v is a row of these names, nil if there are none. -/
def NamesAt (w : World) (base : Nat) (v : Value) (l : List Nm) : Prop := w.ownsRow base 108 4 v l.length (l.flatMap nvs) ∧ (v = .slice none 0 0 ↔ l = [])

theorem cmpLaysN (blk off size : Nat) (w : World) : CmpLays Tryz.prog 128 #[] nvs 4 cmpN blk off size w :=
  fun m os dk _ x y => less_any x y _

theorem Keeps.grow (w : World) (os : Array Obj) (F : Nat → Prop) : Keeps w (Go.Sort.grow w os) F :=
  ⟨rfl, rfl, rfl, by simp, fun k hk _ => heap_grow_old w os hk⟩

theorem sortFunc_any {w : World} {base : Nat} {v : Value} {l : List Nm} (h : NamesAt w base v l) (hlen : l.length < 1000000) :
    Calls Tryz.prog 210 #[v, .func (.func 128) #[] #[]] w fun e w' => e = .returned (.tuple #[]) ∧ NamesAt w' base v (sortN l) ∧ Keeps w w' (fun k => some k = v.ownBlock) := by
  rcases h.1.2 with ⟨rfl, h0⟩ | ⟨g, cap, cur, rfl, hg, hb, r1, r2, r3, r4⟩
  · have hl : l = [] := h.2.1 rfl
    subst hl
    have hc := AnyF.slices_SortFunc_none Tryz.sortNm none 0 (.func (.func 128) #[] #[]) w
    change Calls Tryz.prog 210 _ _ _ at hc
    refine hc.mono ?_
    rintro e w' ⟨rfl, rfl⟩
    have hs : sortN [] = [] := by simp [sortN]
    rw [hs]
    exact ⟨rfl, h, .refl _ _⟩
  · have hlt : g < w.heap.size := (Array.getElem?_eq_some_iff.1 hb).1
    have hB : Blk w g 108 cur := hb
    have hlen4 := nvs_len l
    have hH : HoldsK nvs 4 w g 0 l.toArray := by
      unfold HoldsK
      rw [flat_names]
      intro j hj
      have hj' : j < l.length * 4 := by simpa [hlen4, -List.length_flatMap] using hj
      refine ⟨?_, hB.frozen _⟩
      rw [Nat.zero_add, hB.cell]
      have h1 : (cur.toList.take (l.length * 4))[j]? = (l.flatMap nvs)[j]? := by rw [r4]
      rw [List.getElem?_take_of_lt hj', Array.getElem?_toList] at h1
      rw [h1]
      simp only [id]
      rw [List.getElem?_eq_getElem (by omega)]
      simp [hlen4, hj', -List.length_flatMap]
    have hc := AnyQ.slices_SortFunc_total Tryz.sortNm 4 Tryz.isAgg108 Tryz.sizeOf108 nvs (fun _ => rfl) (fun x v hv => nvs_one x v hv) cmpN swoN 128 #[] g 0 cap l.toArray w
      (enters_of Tryz.func128 (by kernel_rfl) rfl) (cmpLaysN g 0 l.toArray.size w) hH hlt (by simp; omega) (fun x y h1 h2 => by rw [ltOf_cmpN] at *; exact ltN_total h1 h2)
    change Calls Tryz.prog 210 _ _ _ at hc
    rw [List.size_toArray] at hc
    refine hc.mono ?_
    rintro e w' ⟨rfl, n, os, rfl⟩
    have hs : (l.mergeSort fun x y => !(ltOf cmpN) y x) = sortN l := rfl
    unfold sortWorldK putRowK
    rw [hs, flat_names]
    have hw : putRow id (Sort.ahead w n) g 0 ((sortN l).flatMap nvs).toArray = (w.drewN n).setCells g 0 ((sortN l).flatMap nvs) := by
      have := Lib.putRow_eq_setCells id w g 0 _ ((sortN l).flatMap nvs) n hH (by rw [nvs_len, sortN_len, flat_names]; simp [hlen4, -List.length_flatMap])
      rw [this, List.map_id]
    rw [hw]
    have hl2 : ((sortN l).flatMap nvs).length = l.length * 4 := by rw [nvs_len, sortN_len]
    have hb2 := Blk.setCells ((sortN l).flatMap nvs) 0 (w.drewN n) cur hb (by omega)
    have ht2 := turned_setCells (g := g) ((sortN l).flatMap nvs) 0 (w.drewN n)
    have hlt2 : g < ((w.drewN n).setCells g 0 ((sortN l).flatMap nvs)).heap.size := by rw [ht2.size]; exact hlt
    refine ⟨rfl, ⟨⟨by rw [hl2, sortN_len], .inr ⟨g, cap, _, by rw [sortN_len], hg, (heap_grow_old _ os hlt2).trans hb2, by rw [sortN_len]; exact r1, r2, ?_, ?_⟩⟩, ?_⟩, ?_⟩
    · simp [hl2, -List.length_flatMap]; omega
    · rw [sortN_len]
      simp only [List.take_zero, List.nil_append, Nat.zero_add]
      rw [List.take_append_of_le_length (by omega), List.take_of_length_le (by omega)]
    · have hne : l ≠ [] := fun e => by have := h.2.2 e; simp at this
      have : sortN l ≠ [] := fun e => hne (by have := sortN_len l; rw [e] at this; exact List.length_eq_zero_iff.1 this.symm)
      simp [this]
    · exact ((Keeps.of_below (below_drewN (Below.refl _ _) n) (fun k => some k = (Value.slice (some ⟨g, 0, none⟩) l.length cap).ownBlock)).trans (.of_turned ht2 (F := fun k => some k = (Value.slice (some ⟨g, 0, none⟩) l.length cap).ownBlock) rfl) (fun _ _ h => h)).trans (.grow _ os _) (fun _ _ h => h)
end Go.Proofs.YtogeojiaiilghaaGreat
