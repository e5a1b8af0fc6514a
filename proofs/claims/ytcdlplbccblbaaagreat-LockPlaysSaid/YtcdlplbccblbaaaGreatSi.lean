import Derived.Test.YtcdlplbccblbaaaGreatG
import Derived.Test.YtcdlplbccblbaaaGreatSo
import Derived.Deep.Cut
import Derived.Lib.RowBridge
import Derived.Lib.AppendIntMem
namespace Go.Proofs.YtcdlplbccblbaaaGreat
open Go.RowKit Go.Shelf Go.Sort
set_option linter.unusedVariables false

/-- Numbers, rising. -/
def sortI (l : List Int) : List Int := l.mergeSort fun x y => decide (x ≤ y)
theorem sortI_len (l : List Int) : (sortI l).length = l.length := List.length_mergeSort _
theorem sortI_perm (l : List Int) : (sortI l).Perm l := List.mergeSort_perm _ _

theorem holds_ints {w : World} {g : Nat} {cur : Array Value} {l : List Int} (hB : Blk w g 3 cur) (r4 : cur.toList.take (l.length * 1) = l.map iv) : Holds (Value.int .i64) w g 0 l.toArray := by
  intro j hj
  have hj' : j < l.length := by simpa using hj
  refine ⟨?_, hB.frozen _⟩
  rw [Nat.zero_add, hB.cell]
  have h1 : (cur.toList.take (l.length * 1))[j]? = (l.map iv)[j]? := by rw [r4]
  rw [List.getElem?_take_of_lt (by omega), Array.getElem?_toList] at h1
  rw [h1, List.getElem?_map, List.getElem?_eq_getElem hj']
  simp [hj', iv]
theorem IntsAt.puts {w : World} {base : Nat} {g cap : Nat} {l l' : List Int} {cur : Array Value} (n : Nat) (hlen : l'.length = l.length) (hg : base ≤ g) (hb : Blk w g 3 cur) (r1 : l.length ≤ cap) (r2 : cap ≤ maxLen) (r3 : cur.size = cap * 1) (hne : l ≠ []) :
    IntsAt ((w.drewN n).setCells g 0 (l'.map iv)) base (.slice (some ⟨g, 0, none⟩) l.length cap) l' ∧ Keeps w ((w.drewN n).setCells g 0 (l'.map iv)) (fun k => some k = (Value.slice (some ⟨g, 0, none⟩) l.length cap).ownBlock) := by
  have hl2 : (l'.map iv).length = l.length := by simp [hlen]
  have hb2 := Blk.setCells (l'.map iv) 0 (w.drewN n) cur hb (by omega)
  have ht2 := turned_setCells (g := g) (l'.map iv) 0 (w.drewN n)
  refine ⟨⟨⟨by simp, .inr ⟨g, cap, _, by rw [hlen], hg, hb2, by rw [hlen]; exact r1, r2, ?_, ?_⟩⟩, ?_⟩, ?_⟩
  · simp [hlen]; omega
  · simp only [List.take_zero, List.nil_append, Nat.zero_add]
    rw [List.take_append_of_le_length (by simp), List.take_of_length_le (by simp)]
  · have : l' ≠ [] := fun e => hne (by rw [e] at hlen; exact List.length_eq_zero_iff.1 hlen.symm)
    simp [this]
  · exact (Keeps.of_below (below_drewN (Below.refl _ _) n) (fun k => some k = (Value.slice (some ⟨g, 0, none⟩) l.length cap).ownBlock)).trans (.of_turned ht2 (F := fun k => some k = (Value.slice (some ⟨g, 0, none⟩) l.length cap).ownBlock) rfl) (fun _ _ h => h)
theorem keeps_grow (w : World) (os : Array Obj) (F : Nat → Prop) : Keeps w (Go.Sort.grow w os) F :=
  ⟨rfl, rfl, rfl, by simp, fun k hk _ => Go.Sort.heap_grow_old w os hk⟩
theorem IntsAt.kept {w w' : World} {base : Nat} {v : Value} {l : List Int} (h : IntsAt w base v l) (hb : ∀ k, k < w.heap.size → w'.heap[k]? = w.heap[k]?) : IntsAt w' base v l := by
  refine ⟨⟨h.1.1, ?_⟩, h.2⟩
  rcases h.1.2 with h0 | ⟨g', cap', cur, hv, hg, hb', r1⟩
  · exact .inl h0
  · exact .inr ⟨g', cap', cur, hv, hg, (hb g' (Array.getElem?_eq_some_iff.1 hb').1).trans hb', r1⟩

theorem sortInts_any {w : World} {base : Nat} {v : Value} {l : List Int} (h : IntsAt w base v l) (hlen : l.length < 1000000000) :
    Calls Tryz.prog 46 #[v] w fun e w' => e = .returned (.tuple #[]) ∧ IntsAt w' base v (sortI l) ∧ Keeps w w' (fun k => some k = v.ownBlock) := by
  rcases h.1.2 with ⟨rfl, h0⟩ | ⟨g, cap, cur, rfl, hg, hb, r1, r2, r3, r4⟩
  · have hl : l = [] := h.2.1 rfl
    subst hl
    have hc := Tryz.slices_Sort_int_none none 0 w
    refine hc.mono ?_
    rintro e w' ⟨rfl, rfl⟩
    have hs : sortI [] = [] := by simp [sortI]
    rw [hs]
    exact ⟨rfl, h, .refl _ _⟩
  · have hlt : g < w.heap.size := (Array.getElem?_eq_some_iff.1 hb).1
    have hB : Blk w g 3 cur := hb
    have hH := holds_ints hB r4
    have hne : l ≠ [] := fun e => by have := h.2.2 e; simp at this
    refine (Tryz.slices_Sort_int g 0 cap l w hH hlt (by omega)).mono ?_
    rintro e w' ⟨rfl, n, os, rfl⟩
    have hs : (l.mergeSort fun x y => decide (x ≤ y)) = sortI l := rfl
    rw [hs, Lib.putRow_eq_setCells (Value.int .i64) w g 0 _ (sortI l) n hH (by rw [sortI_len]; simp)]
    obtain ⟨h1, h2⟩ := IntsAt.puts (base := base) (l' := sortI l) n (sortI_len l) hg hB r1 r2 r3 hne
    exact ⟨rfl, h1.kept (fun k hk => Go.Sort.heap_grow_old _ os hk), h2.trans (keeps_grow _ os _) (fun _ _ h => h)⟩

theorem reverseInts_any {w : World} {base : Nat} {v : Value} {l : List Int} (h : IntsAt w base v l) (hlen : l.length < 1000000000) :
    Calls Tryz.prog 49 #[v] w fun e w' => e = .returned (.tuple #[]) ∧ IntsAt w' base v l.reverse ∧ Keeps w w' (fun k => some k = v.ownBlock) := by
  rcases h.1.2 with ⟨rfl, h0⟩ | ⟨g, cap, cur, rfl, hg, hb, r1, r2, r3, r4⟩
  · have hl : l = [] := h.2.1 rfl
    subst hl
    refine (Tryz.slices_Reverse_int_empty none 0 w).mono ?_
    rintro e w' ⟨rfl, rfl⟩
    exact ⟨rfl, h, .refl _ _⟩
  · have hB : Blk w g 3 cur := hb
    have hH := holds_ints hB r4
    have hne : l ≠ [] := fun e => by have := h.2.2 e; simp at this
    refine (Tryz.slices_Reverse_int g 0 cap l w hH (by omega)).mono ?_
    rintro e w' ⟨rfl, n, rfl⟩
    rw [Lib.putRow_eq_setCells (Value.int .i64) w g 0 _ l.reverse n hH (by simp)]
    obtain ⟨h1, h2⟩ := IntsAt.puts (base := base) (l' := l.reverse) n (by simp) hg hB r1 r2 r3 hne
    exact ⟨rfl, h1, h2⟩
end Go.Proofs.YtcdlplbccblbaaaGreat
