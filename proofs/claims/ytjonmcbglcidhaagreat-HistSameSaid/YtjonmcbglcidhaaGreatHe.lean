import Derived.Test.YtjonmcbglcidhaaGreatHd
import Derived.Maps.AppendAt
import Derived.WalkSpells
namespace Go.Proofs.YtjonmcbglcidhaaGreat
open Go.RowKit
set_option linter.unusedVariables false

/-! ### Rows of rows -/
structure RH where
  A : Option Addr
  cap : Nat
  l : List V
def hv (r : RH) : Value := .slice r.A r.l.length r.cap
/-- What the rows hold lies below B. -/
def RIn (B : Nat) (w : World) (R : List RH) : Prop := ∀ r ∈ R, VAt w r.A r.l ∧ (r.l ≠ [] → ∀ ad, r.A = some ad → ad.block < B) ∧ r.l.length ≤ 9223372036854775807
/-- v reads as these rows. -/
def RRead (w : World) (v : Value) (R : List RH) : Prop := ∃ A c, v = .slice A R.length c ∧ (A = none → c = 0) ∧ ∀ j (h : j < R.length), ∃ ad, A = some ad ∧ ad.block < w.heap.size ∧ w.cell? (ad.add j) = some (hv R[j])
/-- v is a row of the call's own. -/
def ROwn (w : World) (base : Nat) (v : Value) (R : List RH) : Prop := w.ownsRow base 24 1 v R.length (R.map hv)
theorem infoVals : (Tryz.prog.info? 24).map (fun i => (i.zero, i.size, i.bytes)) = some (some (.slice none 0 0), 1, 24) := by kernel_rfl

section
variable {w w' : World} {base : Nat} {v : Value} {R : List RH}
theorem ROwn.form (h : ROwn w base v R) : ∃ a c, v = .slice a R.length c := by
  rcases h.2 with ⟨rfl, h0⟩ | ⟨g, cap, cur, rfl, _⟩
  · exact ⟨none, 0, by rw [h0]⟩
  · exact ⟨_, _, rfl⟩
theorem ROwn.kept (h : ROwn w base v R) (hb : ∀ k, k < w.heap.size → some k = v.ownBlock → w'.heap[k]? = w.heap[k]?) : ROwn w' base v R := by
  refine ⟨h.1, ?_⟩
  rcases h.2 with h0 | ⟨g', cap', cur, hv, hg, hb', r1⟩
  · exact .inl h0
  · exact .inr ⟨g', cap', cur, hv, hg, (hb g' (Array.getElem?_eq_some_iff.1 hb').1 (by rw [hv]; rfl)).trans hb', r1⟩
theorem ROwn.below (h : ROwn w base v R) (hb : Below w.heap.size w w') : ROwn w' base v R := h.kept fun k hk _ => hb.block k hk
theorem ROwn.lower (h : ROwn w base v R) {b : Nat} (hb : b ≤ base) : ROwn w b v R := by
  refine ⟨h.1, ?_⟩
  rcases h.2 with h0 | ⟨g', cap', cur, hv, hg, r⟩
  · exact .inl h0
  · exact .inr ⟨g', cap', cur, hv, by omega, r⟩
theorem ROwn.read (h : ROwn w base v R) : RRead w v R := by
  rcases h.2 with ⟨rfl, h0⟩ | ⟨g, cap, cur, rfl, hg, hb, r1, r2, r3, r4⟩
  · have hl : R.length = 0 := h0
    exact ⟨none, 0, by rw [hl], fun _ => rfl, fun j hj => by omega⟩
  · have hlt : g < w.heap.size := (Array.getElem?_eq_some_iff.1 hb).1
    refine ⟨_, _, rfl, (fun e => by cases e), fun j hj => ⟨_, rfl, hlt, ?_⟩⟩
    have hadd : (⟨g, 0, none⟩ : Addr).add j = ⟨g, j, none⟩ := by unfold Addr.add; split <;> simp_all
    rw [hadd, cell_of_row w g j cur 24 (0, 0) hb]
    have h1 : (cur.toList.take (R.length * 1))[j]? = (R.map hv)[j]? := by rw [r4]
    rw [List.getElem?_take_of_lt (by omega), Array.getElem?_toList, List.getElem?_map, List.getElem?_eq_getElem hj] at h1
    exact h1
theorem RIn.below {B : Nat} (h : RIn B w R) (hb : Below w.heap.size w w') : RIn B w' R := fun r hr => by
  obtain ⟨h1, h2, h3⟩ := h r hr
  exact ⟨h1.below hb, h2, h3⟩
theorem RRead.below (h : RRead w v R) (hb : Below w.heap.size w w') : RRead w' v R := by
  obtain ⟨A, c, e, h0, h⟩ := h
  refine ⟨A, c, e, h0, fun j hj => ?_⟩
  obtain ⟨ad, h1, h2, h3⟩ := h j hj
  have := hb.size
  exact ⟨ad, h1, by omega, (hb.cell (by rw [block_of_add]; exact h2)).trans h3⟩
theorem hv_one (R : List RH) : ∀ u ∈ R.map hv, u.oneCell' = true := by
  intro u hu
  obtain ⟨r, _, rfl⟩ := List.mem_map.1 hu
  rfl
theorem rown_empty (w : World) : (w.alloc (.cells #[] 24)).ownsRow w.heap.size 24 1 (.slice (some ⟨w.heap.size, 0, none⟩) 0 0) 0 [] :=
  ⟨rfl, .inr ⟨w.heap.size, 0, #[], rfl, Nat.le_refl _, heap_alloc_new w _, Nat.le_refl _, by simp, rfl, rfl⟩⟩
end

set_option maxRecDepth 100000 in
theorem cloneR_any {w : World} {v : Value} {R : List RH} (h : RRead w v R) (hb : R.length * 24 ≤ 140737488355328) :
    Calls Tryz.prog 21 #[v] w fun e w' => ∃ v', e = .returned v' ∧ ROwn w' w.heap.size v' R ∧ Below w.heap.size w w' := by
  obtain ⟨A, c, rfl, hcn, hc⟩ := h
  obtain ⟨i0, hi0, hz0, hz1, hz2⟩ := info_parts infoVals
  have hb1 : Below w.heap.size w (w.alloc (.cells #[] 24)) := (Below.refl _ _).alloc (Nat.le_refl _) _
  cases A with
  | none =>
    have h0 : R = [] := by
      cases R with
      | nil => rfl
      | cons r R => obtain ⟨ad, e, _⟩ := hc 0 (by simp); cases e
    subst h0
    have hc0 := hcn rfl
    subst hc0
    have he : ∀ w, (binOp .eql 22 (.slice none 0 0) (.slice none 0 0)).run Tryz.prog w = .ok (.bool true) w := fun w => by kernel_rfl
    go_enter Tryz.func21, Tryz.ntmps21
    go_wp2
    go_ret
    exact ⟨_, rfl, ⟨rfl, .inl ⟨rfl, rfl⟩⟩, Below.refl _ _⟩
  | some ad =>
    have he : ∀ w, (binOp .eql 22 (.slice (some ad) R.length c) (.slice none 0 0)).run Tryz.prog w = .ok (.bool false) w := fun w => Lib.run_eql_slice_nil w 22 24 _ _ _ _ _ Tryz.underlying22
    have hrd : ∀ j u, (R.map hv)[j]? = some u → (w.alloc (.cells #[] 24)).cell? (ad.add j) = some u := fun j u hu => by
      have hj : j < R.length := by
        have := (List.getElem?_eq_some_iff.1 hu).1
        simpa using this
      obtain ⟨ad', e, h2, h3⟩ := hc j hj
      obtain rfl : ad = ad' := by simpa using e
      rw [hb1.cell (by rw [block_of_add]; exact h2), h3, ← hu, List.getElem?_map, List.getElem?_eq_getElem hj]
      rfl
    have HR := Lib.hid hrd
    clear hrd hc
    go_enter Tryz.func21, Tryz.ntmps21
    go_wp2_with (at_builtin; refine wpList_append_own_at _ rfl _ _ 22 rfl w.heap.size 24 i0 _ 1 24 Tryz.underlying22 hi0 hz0 hz1 hz2 rfl (by omega) (.slice (some ⟨w.heap.size, 0, none⟩) 0 0) 0 [] rfl (rown_empty w) ad R.length c (R.map hv) rfl (by simp) HR.out (hv_one R) (by unfold maxLen; omega) (by omega) (by simp) ?_)
    intro v' w1 hown hgrow hnil hat
    go_wp2_with fail
    go_ret
    refine ⟨v', rfl, by simpa [ROwn] using hown, hb1.grown hgrow (by simp) (fun k hk => ?_)⟩
    simp [Value.ownBlock] at hk
    omega
end Go.Proofs.YtjonmcbglcidhaaGreat
