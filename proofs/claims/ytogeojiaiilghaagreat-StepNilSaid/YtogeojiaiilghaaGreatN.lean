import Derived.Test.YtogeojiaiilghaaGreatS
namespace Go.Proofs.YtogeojiaiilghaaGreat
open Go.RowKit Go.Shelf Go.Sort
set_option linter.unusedVariables false

theorem sortN_of_perm {l l' : List Nm} (h : l.Perm l') : sortN l = sortN l' := by
  have hs : ∀ l : List Nm, (sortN l).Pairwise fun x y => (!(ltOf cmpN) y x) = true := fun l =>
    List.pairwise_mergeSort (fun a b c h1 h2 => by
      simp only [Bool.not_eq_true'] at *
      exact swoN.ntrans _ _ _ h2 h1) (fun a b => by
      cases hab : ltOf cmpN a b <;> cases hba : ltOf cmpN b a <;> simp
      have := swoN.trans _ _ _ hab hba
      rw [swoN.irrefl] at this
      cases this) l
  refine List.Perm.eq_of_pairwise (le := fun x y => (!(ltOf cmpN) y x) = true) ?_ (hs l) (hs l') (((sortN_perm l).trans h).trans (sortN_perm l').symm)
  intro a b _ _ h1 h2
  simp only [Bool.not_eq_true'] at h1 h2
  rw [ltOf_cmpN] at h1 h2
  exact ltN_total h2 h1

theorem NamesAt.base {w : World} {b b' : Nat} {v : Value} {l : List Nm} (h : NamesAt w b v l) (hb : b' ≤ b) : NamesAt w b' v l := by
  refine ⟨⟨h.1.1, ?_⟩, h.2⟩
  rcases h.1.2 with h0 | ⟨g, cap, cur, hv, hg, r⟩
  · exact .inl h0
  · exact .inr ⟨g, cap, cur, hv, by omega, r⟩

theorem collect_any (Bm b : Nat) (L : List (Nm × Value)) (w : World) (hBm : Bm < w.heap.size) (hc : w.cell? ⟨Bm, 0, none⟩ = some (.map (some b))) (hL : MapAt KN w b L) (hlen : L.length < 1000000) :
    Calls Tryz.prog 209 #[.func (.func 211) #[] #[.pointer (some ⟨Bm, 0, none⟩)]] w fun e w' => ∃ (v : Value) (ss : List Nm), e = .returned v ∧ ss.Perm (L.map (·.1)) ∧ NamesAt w' w.heap.size v ss ∧ Below w.heap.size w w' := by
  have hseq := keys_stops Fence.wide 1 trivial rfl (Nat.le_refl _) Bm b L w hBm hc hL
  have hcon := callsIn_wide.1 (appendSeq_in Fence.wide 2 trivial rfl (Nat.le_refl _) 211 _ trivial (enters_of Tryz.func211 (by kernel_rfl) rfl) _ _ L.length (by unfold maxLen; omega) (by omega) w hseq)
  go_enter Tryz.func209, Tryz.ntmps209
  go_wp2_with fail
  refine hcon.mono ?_
  rintro e w' ⟨v, ss, rfl, hS, hrow, hnil, hb⟩
  go_wp2_with fail
  go_ret
  exact ⟨v, ss, rfl, hS, ⟨hrow, hnil⟩, hb⟩

theorem sorted_any (Bm b : Nat) (L : List (Nm × Value)) (w : World) (hBm : Bm < w.heap.size) (hc : w.cell? ⟨Bm, 0, none⟩ = some (.map (some b))) (hL : MapAt KN w b L) (hlen : L.length < 1000000) :
    Calls Tryz.prog 126 #[.func (.func 211) #[] #[.pointer (some ⟨Bm, 0, none⟩)], .func (.func 128) #[] #[]] w fun e w' => ∃ (v : Value), e = .returned v ∧ NamesAt w' w.heap.size v (sortN (L.map (·.1))) ∧ Below w.heap.size w w' := by
  have hcon := collect_any Bm b L w hBm hc hL hlen
  go_enter Tryz.func126, Tryz.ntmps126
  go_wp2_with fail
  refine hcon.mono ?_
  rintro e w1 ⟨v, ss, rfl, hS, hN, hb⟩
  go_wp2_with fail
  refine (sortFunc_any hN (by have := hS.length_eq; simp at this; omega)).mono ?_
  rintro e w2 ⟨rfl, hN2, hk⟩
  go_wp2_with fail
  go_ret
  rw [sortN_of_perm hS] at hN2
  refine ⟨v, rfl, hN2, ?_⟩
  refine ⟨hk.os.trans hb.os, hk.tape.trans hb.tape, hk.output.trans hb.output, Nat.le_trans hb.size hk.size, fun k hk' => ?_⟩
  have hs := hb.size
  refine (hk.block k (by omega) ?_).trans (hb.block k hk')
  rcases hN.1.2 with ⟨rfl, _⟩ | ⟨g, cap, cur, rfl, hg, _⟩
  · simp [Value.ownBlock]
  · intro e
    obtain rfl : k = g := by simpa [Value.ownBlock] using e
    omega

theorem keys_any (mb : Option Nat) (W : World) :
    Calls Tryz.prog 127 #[.map mb] W fun e w' => e = .returned (.func (.func 211) #[] #[.pointer (some ⟨W.heap.size, 0, none⟩)]) ∧ w' = W.alloc (.cells #[.map mb] 110) :=
  callsIn_wide.1 (keys_in Fence.wide 1 trivial rfl mb W)

theorem names_any {w : World} {T QB WB : Nat} {R : List Row} {W : List (Int × Nm)} (h : Tab w T QB WB R W) (hlen : R.length < 1000000) :
    Calls Tryz.prog 76 #[.pointer (some ⟨T, 0, none⟩)] w fun e w' => ∃ v, e = .returned v ∧ NamesAt w' w.heap.size v (sortN (R.map (·.n))) ∧ Below w.heap.size w w' := by
  have c0 := h.head.cell 0
  simp at c0
  have hB : Below w.heap.size w (w.alloc (.cells #[.map (some QB)] 110)) := (Below.refl _ _).alloc (Nat.le_refl _) _
  have hcon := sorted_any w.heap.size QB (R.map fun r => (r.n, r.v)) (w.alloc (.cells #[.map (some QB)] 110)) (by simp) (by rw [World.cell?_alloc_at _ _ _ _ rfl]; rfl) ((h.below hB).qm) (by simpa using hlen)
  simp only [List.map_map, Function.comp_def] at hcon
  go_enter Tryz.func76, Tryz.ntmps76
  go_wp2_with fail
  refine (keys_any _ _).mono ?_
  rintro e w1 ⟨rfl, rfl⟩
  go_wp2_with fail
  refine hcon.mono ?_
  rintro e w2 ⟨v, rfl, hN, hb⟩
  go_wp2_with fail
  go_ret
  exact ⟨v, rfl, hN.base (by simp), hB.trans (hb.mono (by simp))⟩
end Go.Proofs.YtogeojiaiilghaaGreat
