import Derived.Test.YtcdlplbccblbaaaGreatMg10
import Derived.Test.YtcdlplbccblbaaaGreatMg9
import Derived.Test.YtcdlplbccblbaaaGreatMg13
import Derived.Test.YtcdlplbccblbaaaGreatSh
import Derived.Lib.RowBridge
import Derived.Test.YtcdlplbccblbaaaGreatG
namespace Go.Proofs.YtcdlplbccblbaaaGreat
open Go.RowKit Go.Shelf Go.Sort
set_option linter.unusedVariables false

instance : Inhabited Nm := ⟨n0⟩
theorem nvs_len (l : List Nm) : (l.flatMap nvs).length = l.length * 4 := by
  induction l with
  | nil => rfl
  | cons a l ih => simp [nvs, ih]; omega
theorem nvs_get : ∀ (l : List Nm) (k j : Nat) (hk : k < l.length) (hj : j < 4), (l.flatMap nvs)[k * 4 + j]? = (nvs l[k])[j]?
  | a :: l, 0, j, _, hj => by
    rw [List.flatMap_cons, List.getElem?_append_left (by simp [nvs]; omega)]
    simp
  | a :: l, k + 1, j, hk, hj => by
    rw [List.flatMap_cons, List.getElem?_append_right (by simp [nvs]; omega)]
    have e : (k + 1) * 4 + j - (nvs a).length = k * 4 + j := by simp [nvs]; omega
    rw [e, nvs_get l k j (by simpa using hk) hj]
    simp
  | [], k, j, hk, _ => by simp at hk
theorem flat_names (l : List Nm) : flatK nvs 4 l.toArray = (l.flatMap nvs).toArray := by
  refine ext_get! (by simp [nvs_len, -List.length_flatMap]) fun t ht => ?_
  have ht' : t < l.length * 4 := by simpa using ht
  rw [get_flatK _ _ _ t (by simpa using ht')]
  have hk : t / 4 < l.length := by omega
  have hj : t % 4 < 4 := by omega
  have e : t = t / 4 * 4 + t % 4 := by omega
  have h1 := nvs_get l (t / 4) (t % 4) hk hj
  rw [← e] at h1
  have h2 : (l.flatMap nvs).toArray[t]! = ((l.flatMap nvs)[t]?).getD default := by simp [List.getElem!_eq_getElem?_getD]
  rw [h2, h1]
  have h3 : l.toArray[t / 4]! = l[t / 4] := by simp [hk]
  rw [h3]
  simp [List.getElem!_eq_getElem?_getD]

/-- The names in order. -/
def sortN (l : List Nm) : List Nm := l.mergeSort fun x y => !(ltOf cmpN) y x
theorem ltOf_cmpN (a b : Nm) : ltOf cmpN a b = ltN a b := cmpN_neg a b
theorem swoN : SWO (ltOf cmpN) where
  irrefl x := by rw [ltOf_cmpN]; exact ltN_irrefl x
  trans x y z h1 h2 := by rw [ltOf_cmpN] at *; exact ltN_trans h1 h2
  ntrans x y z h1 h2 := by rw [ltOf_cmpN] at *; exact ltN_ntrans h1 h2
theorem sortN_perm (l : List Nm) : (sortN l).Perm l := List.mergeSort_perm l _
theorem sortN_len (l : List Nm) : (sortN l).length = l.length := (sortN_perm l).length_eq

/-- v is a row of these names, nil if there are none. -/
def NamesAt (w : World) (base : Nat) (v : Value) (l : List Nm) : Prop := w.ownsRow base 46 4 v l.length (l.flatMap nvs) ∧ (v = .slice none 0 0 ↔ l = [])

theorem cmpLaysN (blk off size : Nat) (w : World) : CmpLays Tryz.prog 58 #[] nvs 4 cmpN blk off size w :=
  fun m os dk _ x y => less_any x y _

theorem Keeps.grow (w : World) (os : Array Obj) (F : Nat → Prop) : Keeps w (Go.Sort.grow w os) F :=
  ⟨rfl, rfl, rfl, by simp, fun k hk _ => heap_grow_old w os hk⟩

theorem sortFunc_any {w : World} {base : Nat} {v : Value} {l : List Nm} (h : NamesAt w base v l) (hlen : l.length < 1000000) :
    Calls Tryz.prog 69 #[v, .func (.func 58) #[] #[]] w fun e w' => e = .returned (.tuple #[]) ∧ NamesAt w' base v (sortN l) ∧ Keeps w w' (fun k => some k = v.ownBlock) := by
  rcases h.1.2 with ⟨rfl, h0⟩ | ⟨g, cap, cur, rfl, hg, hb, r1, r2, r3, r4⟩
  · have hl : l = [] := h.2.1 rfl
    subst hl
    have hc := AnyF.slices_SortFunc_none Tryz.sortNm none 0 (.func (.func 58) #[] #[]) w
    change Calls Tryz.prog 69 _ _ _ at hc
    refine hc.mono ?_
    rintro e w' ⟨rfl, rfl⟩
    have hs : sortN [] = [] := by simp [sortN]
    rw [hs]
    exact ⟨rfl, h, .refl _ _⟩
  · have hlt : g < w.heap.size := (Array.getElem?_eq_some_iff.1 hb).1
    have hB : Blk w g 46 cur := hb
    have hlen4 := nvs_len l
    have hH : HoldsK nvs 4 w g 0 l.toArray := by
      unfold HoldsK
      rw [flat_names]
      intro j hj
      have hj' : j < l.length * 4 := by simpa [hlen4, -List.length_flatMap] using hj
      refine ⟨?_, hB.frozen _⟩
      rw [Nat.zero_add, hB.cell]
      have h1 : (cur.toList.take (l.length * 4))[j]? = (l.flatMap nvs)[j]? := by rw [r4]
      rw [List.getElem?_take_of_lt hj', Array.getElem?_toList] at h1
      rw [h1]
      simp only [id]
      rw [List.getElem?_eq_getElem (by omega)]
      simp [hlen4, hj', -List.length_flatMap]
    have hc := AnyQ.slices_SortFunc_total Tryz.sortNm 4 Tryz.isAgg46 Tryz.sizeOf46 nvs (fun _ => rfl) (fun x v hv => nvs_one x v hv) cmpN swoN 58 #[] g 0 cap l.toArray w
      (enters_of Tryz.func58 (by kernel_rfl) rfl) (cmpLaysN g 0 l.toArray.size w) hH hlt (by simp; omega) (fun x y h1 h2 => by rw [ltOf_cmpN] at *; exact ltN_total h1 h2)
    change Calls Tryz.prog 69 _ _ _ at hc
    rw [List.size_toArray] at hc
    refine hc.mono ?_
    rintro e w' ⟨rfl, n, os, rfl⟩
    have hs : (l.mergeSort fun x y => !(ltOf cmpN) y x) = sortN l := rfl
    unfold sortWorldK putRowK
    rw [hs, flat_names]
    have hw : putRow id (Sort.ahead w n) g 0 ((sortN l).flatMap nvs).toArray = (w.drewN n).setCells g 0 ((sortN l).flatMap nvs) := by
      have := Lib.putRow_eq_setCells id w g 0 _ ((sortN l).flatMap nvs) n hH (by rw [nvs_len, sortN_len, flat_names]; simp [hlen4, -List.length_flatMap])
      rw [this, List.map_id]
    rw [hw]
    have hl2 : ((sortN l).flatMap nvs).length = l.length * 4 := by rw [nvs_len, sortN_len]
    have hb2 := Blk.setCells ((sortN l).flatMap nvs) 0 (w.drewN n) cur hb (by omega)
    have ht2 := turned_setCells (g := g) ((sortN l).flatMap nvs) 0 (w.drewN n)
    have hlt2 : g < ((w.drewN n).setCells g 0 ((sortN l).flatMap nvs)).heap.size := by rw [ht2.size]; exact hlt
    refine ⟨rfl, ⟨⟨by rw [hl2, sortN_len], .inr ⟨g, cap, _, by rw [sortN_len], hg, (heap_grow_old _ os hlt2).trans hb2, by rw [sortN_len]; exact r1, r2, ?_, ?_⟩⟩, ?_⟩, ?_⟩
    · simp [hl2, -List.length_flatMap]; omega
    · rw [sortN_len]
      simp only [List.take_zero, List.nil_append, Nat.zero_add]
      rw [List.take_append_of_le_length (by omega), List.take_of_length_le (by omega)]
    · have hne : l ≠ [] := fun e => by have := h.2.2 e; simp at this
      have : sortN l ≠ [] := fun e => hne (by have := sortN_len l; rw [e] at this; exact List.length_eq_zero_iff.1 this.symm)
      simp [this]
    · exact ((Keeps.of_below (below_drewN (Below.refl _ _) n) (fun k => some k = (Value.slice (some ⟨g, 0, none⟩) l.length cap).ownBlock)).trans (.of_turned ht2 (F := fun k => some k = (Value.slice (some ⟨g, 0, none⟩) l.length cap).ownBlock) rfl) (fun _ _ h => h)).trans (.grow _ os _) (fun _ _ h => h)
end Go.Proofs.YtcdlplbccblbaaaGreat

namespace Go.Proofs.YtcdlplbccblbaaaGreat
open Go.RowKit Go.Shelf Go.Sort
set_option linter.unusedVariables false

theorem sortN_of_perm {l l' : List Nm} (h : l.Perm l') : sortN l = sortN l' := by
  have hs : ∀ l : List Nm, (sortN l).Pairwise fun x y => (!(ltOf cmpN) y x) = true := fun l =>
    List.pairwise_mergeSort (fun a b c h1 h2 => by
      simp only [Bool.not_eq_true'] at *
      exact swoN.ntrans _ _ _ h2 h1) (fun a b => by
      cases hab : ltOf cmpN a b <;> cases hba : ltOf cmpN b a <;> simp
      have := swoN.trans _ _ _ hab hba
      rw [swoN.irrefl] at this
      cases this) l
  refine List.Perm.eq_of_pairwise (le := fun x y => (!(ltOf cmpN) y x) = true) ?_ (hs l) (hs l') (((sortN_perm l).trans h).trans (sortN_perm l').symm)
  intro a b _ _ h1 h2
  simp only [Bool.not_eq_true'] at h1 h2
  rw [ltOf_cmpN] at h1 h2
  exact ltN_total h2 h1

theorem NamesAt.base {w : World} {b b' : Nat} {v : Value} {l : List Nm} (h : NamesAt w b v l) (hb : b' ≤ b) : NamesAt w b' v l := by
  refine ⟨⟨h.1.1, ?_⟩, h.2⟩
  rcases h.1.2 with h0 | ⟨g, cap, cur, hv, hg, r⟩
  · exact .inl h0
  · exact .inr ⟨g, cap, cur, hv, by omega, r⟩

theorem collect_any (Bm b : Nat) (L : List (Nm × Value)) (w : World) (hBm : Bm < w.heap.size) (hc : w.cell? ⟨Bm, 0, none⟩ = some (.map (some b))) (hL : MapAt KN w b L) (hlen : L.length < 1000000) :
    Calls Tryz.prog 68 #[.func (.func 70) #[] #[.pointer (some ⟨Bm, 0, none⟩)]] w fun e w' => ∃ (v : Value) (ss : List Nm), e = .returned v ∧ ss.Perm (L.map (·.1)) ∧ NamesAt w' w.heap.size v ss ∧ Below w.heap.size w w' := by
  have hseq := keys_stops Fence.wide 1 trivial rfl (Nat.le_refl _) Bm b L w hBm hc hL
  have hcon := callsIn_wide.1 (appendSeq_in Fence.wide 2 trivial rfl (Nat.le_refl _) 70 _ trivial (enters_of Tryz.func70 (by kernel_rfl) rfl) _ _ L.length (by unfold maxLen; omega) (by omega) w hseq)
  go_enter Tryz.func68, Tryz.ntmps68
  go_wp2_with fail
  refine hcon.mono ?_
  rintro e w' ⟨v, ss, rfl, hS, hrow, hnil, hb⟩
  go_wp2_with fail
  go_ret
  exact ⟨v, ss, rfl, hS, ⟨hrow, hnil⟩, hb⟩

theorem sorted_any (Bm b : Nat) (L : List (Nm × Value)) (w : World) (hBm : Bm < w.heap.size) (hc : w.cell? ⟨Bm, 0, none⟩ = some (.map (some b))) (hL : MapAt KN w b L) (hlen : L.length < 1000000) :
    Calls Tryz.prog 56 #[.func (.func 70) #[] #[.pointer (some ⟨Bm, 0, none⟩)], .func (.func 58) #[] #[]] w fun e w' => ∃ (v : Value), e = .returned v ∧ NamesAt w' w.heap.size v (sortN (L.map (·.1))) ∧ Below w.heap.size w w' := by
  have hcon := collect_any Bm b L w hBm hc hL hlen
  go_enter Tryz.func56, Tryz.ntmps56
  go_wp2_with fail
  refine hcon.mono ?_
  rintro e w1 ⟨v, ss, rfl, hS, hN, hb⟩
  go_wp2_with fail
  refine (sortFunc_any hN (by have := hS.length_eq; simp at this; omega)).mono ?_
  rintro e w2 ⟨rfl, hN2, hk⟩
  go_wp2_with fail
  go_ret
  rw [sortN_of_perm hS] at hN2
  refine ⟨v, rfl, hN2, ?_⟩
  refine ⟨hk.os.trans hb.os, hk.tape.trans hb.tape, hk.output.trans hb.output, Nat.le_trans hb.size hk.size, fun k hk' => ?_⟩
  have hs := hb.size
  refine (hk.block k (by omega) ?_).trans (hb.block k hk')
  rcases hN.1.2 with ⟨rfl, _⟩ | ⟨g, cap, cur, rfl, hg, _⟩
  · simp [Value.ownBlock]
  · intro e
    obtain rfl : k = g := by simpa [Value.ownBlock] using e
    omega

theorem keys_any (mb : Option Nat) (W : World) :
    Calls Tryz.prog 57 #[.map mb] W fun e w' => e = .returned (.func (.func 70) #[] #[.pointer (some ⟨W.heap.size, 0, none⟩)]) ∧ w' = W.alloc (.cells #[.map mb] 34) :=
  callsIn_wide.1 (keys_in Fence.wide 1 trivial rfl mb W)

theorem names_any {w : World} {T QB WB : Nat} {R : List Row} {W : List (Int × Nm)} (h : Tab w T QB WB R W) (hlen : R.length < 1000000) :
    Calls Tryz.prog 34 #[.pointer (some ⟨T, 0, none⟩)] w fun e w' => ∃ v, e = .returned v ∧ NamesAt w' w.heap.size v (sortN (R.map (·.n))) ∧ Below w.heap.size w w' := by
  have c0 := h.head.cell 0
  simp at c0
  have hB : Below w.heap.size w (w.alloc (.cells #[.map (some QB)] 34)) := (Below.refl _ _).alloc (Nat.le_refl _) _
  have hcon := sorted_any w.heap.size QB (R.map fun r => (r.n, r.v)) (w.alloc (.cells #[.map (some QB)] 34)) (by simp) (by rw [World.cell?_alloc_at _ _ _ _ rfl]; rfl) ((h.below hB).qm) (by simpa using hlen)
  simp only [List.map_map, Function.comp_def] at hcon
  go_enter Tryz.func34, Tryz.ntmps34
  go_wp2_with fail
  refine (keys_any _ _).mono ?_
  rintro e w1 ⟨rfl, rfl⟩
  go_wp2_with fail
  refine hcon.mono ?_
  rintro e w2 ⟨v, rfl, hN, hb⟩
  go_wp2_with fail
  go_ret
  exact ⟨v, rfl, hN.base (by simp), hB.trans (hb.mono (by simp))⟩
end Go.Proofs.YtcdlplbccblbaaaGreat

namespace Go.Proofs.YtcdlplbccblbaaaGreat
open Go.RowKit
set_option linter.unusedVariables false

/-! ### A table told by its queues -/
def nq (r : Row) : Nm × List Ak := (r.n, r.q)
def qL (L : List (Nm × List Ak)) (n : Nm) : List Ak := ((L.find? fun p => p.1 == n).map (·.2)).getD []
/-- Another queue for a name that stands there; none: it goes. -/
def repl (L : List (Nm × List Ak)) (n : Nm) (q : List Ak) : List (Nm × List Ak) := L.flatMap fun p => if p.1 = n then (if q.isEmpty = true then [] else [(n, q)]) else [p]
theorem qL_rows (R : List Row) (n : Nm) : qL (R.map nq) n = qOf R n := by
  unfold qL qOf rOf nq
  rw [List.find?_map]
  simp [Function.comp_def, Option.map_map]
theorem repl_out {L : List (Nm × List Ak)} {n : Nm} (h : n ∉ L.map (·.1)) (q : List Ak) : repl L n q = L := by
  induction L with
  | nil => rfl
  | cons p L ih =>
    simp only [List.map_cons, List.mem_cons, not_or] at h
    unfold repl at ih ⊢
    rw [List.flatMap_cons, ih h.2, if_neg (fun e => h.1 e.symm)]
    rfl
theorem repl_mid {L1 L2 : List (Nm × List Ak)} {n : Nm} {q0 q : List Ak} (h1 : n ∉ L1.map (·.1)) (h2 : n ∉ L2.map (·.1)) : repl (L1 ++ (n, q0) :: L2) n q = if q.isEmpty = true then L1 ++ L2 else L1 ++ (n, q) :: L2 := by
  have e1 := repl_out h1 q
  have e2 := repl_out h2 q
  unfold repl at *
  rw [List.flatMap_append, List.flatMap_cons, e1, e2]
  simp only [if_true]
  split <;> simp

structure Rs where
  L : List (Nm × List Ak)
  W : List (Int × Nm)
  out : List Int
def relOne (tx : Int) (s : Rs) (n : Nm) : Rs :=
  match (qL s.L n).findIdx? fun a => a.tx == tx with
  | none => s
  | some i => ⟨repl s.L n (gq ((qL s.L n).eraseIdx i)), s.W.filter fun p => !(gout ((qL s.L n).eraseIdx i)).contains p.1, s.out ++ gout ((qL s.L n).eraseIdx i)⟩
def relK (tx : Int) (s : Rs) (l : List Nm) : Rs := l.foldl (relOne tx) s
/-- All is let go. -/
def rel (tx : Int) (L : List (Nm × List Ak)) (W : List (Int × Nm)) : Rs := relK tx ⟨L, W.filter fun p => p.1 != tx, []⟩ (sortN (L.map (·.1)))

theorem stay_len (q : List Ak) : (stay q).length ≤ q.length := List.length_filter_le _ _
theorem gq_len (q : List Ak) : (gq q).length ≤ q.length := by
  unfold gq
  have := stay_len (gk q 2).q
  rw [gk_len] at this
  exact this
theorem gout_len (q : List Ak) : (gout q).length ≤ 2 * q.length := gk_out q 2
/-- How great a table is. -/
def Fits (N : Nat) (L : List (Nm × List Ak)) : Prop := L.length ≤ N ∧ ∀ p ∈ L, p.2.length ≤ N
theorem Fits.qL {N : Nat} {L : List (Nm × List Ak)} (h : Fits N L) (n : Nm) : (qL L n).length ≤ N := by
  unfold YtcdlplbccblbaaaGreat.qL
  cases hf : L.find? fun p => p.1 == n with
  | none => simp
  | some p => exact h.2 p (List.mem_of_find?_eq_some hf)
theorem repl_length (L : List (Nm × List Ak)) (n : Nm) (q : List Ak) : (repl L n q).length ≤ L.length := by
  induction L with
  | nil => simp [repl]
  | cons p L ih =>
    unfold repl at ih ⊢
    rw [List.flatMap_cons, List.length_append, List.length_cons]
    have h1 : (if p.1 = n then (if q.isEmpty = true then [] else [(n, q)]) else [p]).length ≤ 1 := by
      split
      · split <;> simp
      · simp
    omega
theorem repl_mem {L : List (Nm × List Ak)} {n : Nm} {q : List Ak} {p : Nm × List Ak} (h : p ∈ repl L n q) : p ∈ L ∨ p = (n, q) := by
  unfold repl at h
  rw [List.mem_flatMap] at h
  obtain ⟨p0, h0, h1⟩ := h
  split at h1
  · split at h1
    · simp at h1
    · simp at h1; exact .inr h1
  · simp at h1; exact .inl (h1 ▸ h0)
theorem Fits.repl {N : Nat} {L : List (Nm × List Ak)} (h : Fits N L) (n : Nm) {q : List Ak} (hq : q.length ≤ N) : Fits N (repl L n q) :=
  ⟨Nat.le_trans (repl_length L n q) h.1, fun p hp => by
    rcases repl_mem hp with hp | rfl
    · exact h.2 p hp
    · exact hq⟩
theorem Fits.relOne {N : Nat} {s : Rs} (h : Fits N s.L) (tx : Int) (n : Nm) : Fits N (relOne tx s n).L := by
  unfold YtcdlplbccblbaaaGreat.relOne
  split
  · exact h
  · exact h.repl n (Nat.le_trans (gq_len _) (Nat.le_trans (by rw [List.length_eraseIdx]; split <;> omega) (h.qL n)))
theorem relOne_out {N : Nat} {s : Rs} (h : Fits N s.L) (tx : Int) (n : Nm) : (relOne tx s n).out.length ≤ s.out.length + 2 * N := by
  unfold relOne
  split
  · simp
  · simp only [List.length_append]
    rename_i i _
    have := gout_len ((qL s.L n).eraseIdx i)
    have h2 := h.qL n
    have h3 : ((qL s.L n).eraseIdx i).length ≤ (qL s.L n).length := by rw [List.length_eraseIdx]; split <;> omega
    omega
theorem Fits.relK {N : Nat} (tx : Int) : ∀ (l : List Nm) {s : Rs}, Fits N s.L → Fits N (relK tx s l).L ∧ (relK tx s l).out.length ≤ s.out.length + l.length * (2 * N)
  | [], s, h => ⟨h, by simp [YtcdlplbccblbaaaGreat.relK]⟩
  | n :: l, s, h => by
    have ih := Fits.relK tx l (h.relOne tx n)
    have ho := relOne_out h tx n
    refine ⟨ih.1, Nat.le_trans ih.2 ?_⟩
    rw [List.length_cons, Nat.add_mul]
    omega
theorem relK_take {tx : Int} {s : Rs} {l : List Nm} {i : Nat} (hi : i < l.length) : relK tx s (l.take (i + 1)) = relOne tx (relK tx s (l.take i)) l[i] := by
  unfold relK
  rw [List.take_succ_eq_append_getElem hi, List.foldl_append]
  rfl

/-! ### The walk's words -/
theorem IntsAt.keeps {w w' : World} {base : Nat} {v : Value} {l : List Int} {F : Nat → Prop} (h : IntsAt w base v l) (hk : Keeps w w' F) (hF : ∀ k cs, Blk w k 3 cs → ¬ F k) : IntsAt w' base v l := by
  refine ⟨⟨h.1.1, ?_⟩, h.2⟩
  rcases h.1.2 with h0 | ⟨g', cap', cur, hv, hg, hb', r1⟩
  · exact .inl h0
  · exact .inr ⟨g', cap', cur, hv, hg, (hk.block g' (Array.getElem?_eq_some_iff.1 hb').1 (hF g' cur hb')).trans hb', r1⟩
theorem NamesAt.keeps {w w' : World} {base : Nat} {v : Value} {l : List Nm} {F : Nat → Prop} (h : NamesAt w base v l) (hk : Keeps w w' F) (hF : ∀ k cs, Blk w k 46 cs → ¬ F k) : NamesAt w' base v l := by
  refine ⟨⟨h.1.1, ?_⟩, h.2⟩
  rcases h.1.2 with h0 | ⟨g', cap', cur, hv, hg, hb', r1⟩
  · exact .inl h0
  · exact .inr ⟨g', cap', cur, hv, hg, (hk.block g' (Array.getElem?_eq_some_iff.1 hb').1 (hF g' cur hb')).trans hb', r1⟩
theorem Tab.not_foot {w : World} {T QB WB : Nat} {R : List Row} {W : List (Int × Nm)} (h : Tab w T QB WB R W) {k : Nat} {t : TypeId} {cs : Array Value} (hb : Blk w k t cs) (h1 : t ≠ 37) (h2 : t ≠ 80) : ¬ Foot T QB WB R k := by
  unfold Blk at hb
  rintro (rfl | rfl | rfl | hk)
  · have := h.head
    unfold Blk at this
    rw [hb] at this
    simp at this
    exact h1 this.2
  · obtain ⟨es, c, hq, _⟩ := h.qm
    rw [hb] at hq; cases hq
  · obtain ⟨es, c, hq, _⟩ := h.wm
    rw [hb] at hq; cases hq
  · obtain ⟨r, hr, rfl⟩ := List.mem_map.1 hk
    obtain ⟨cur, hb2, _⟩ := (h.rows r hr).ex
    unfold Blk at hb2
    rw [hb] at hb2
    simp at hb2
    exact h2 hb2.2

/-- A table within letting go. -/
structure RI (w : World) (T QB WB : Nat) (R0 : List Row) (nsv : Value) (ns : List Nm) (s : Rs) (v : Value) (wr : World) (R : List Row) : Prop where
  tab : Tab wr T QB WB R s.W
  map : R.map nq = s.L
  own : IntsAt wr w.heap.size v s.out
  names : NamesAt wr w.heap.size nsv ns
  foot : ∀ k, Foot T QB WB R k → Foot T QB WB R0 k ∨ w.heap.size ≤ k
  keeps : Keeps w wr (Foot T QB WB R0)
section
variable {w wr w' : World} {T QB WB : Nat} {R0 R R1 R2 : List Row} {r : Row} {nsv v : Value} {ns : List Nm} {s : Rs}
theorem RI.below (h : RI w T QB WB R0 nsv ns s v wr R) (hb : Below wr.heap.size wr w') : RI w T QB WB R0 nsv ns s v w' R :=
  ⟨h.tab.below hb, h.map, h.own.keeps (.of_below hb (fun _ => False)) (fun _ _ _ h => h), h.names.keeps (.of_below hb (fun _ => False)) (fun _ _ _ h => h), h.foot, h.keeps.trans (F' := fun _ => False) (.of_below hb _) (fun _ _ h => h.elim)⟩
theorem gR_foot {k : Nat} {q' : List Ak} {g' cap' : Nat} (h : Foot T QB WB (gR R1 ⟨r.n, g', cap', q'⟩ R2) k) : Foot T QB WB (R1 ++ r :: R2) k ∨ k = g' := by
  rcases h with h | h | h | h
  · exact .inl (.inl h)
  · exact .inl (.inr (.inl h))
  · exact .inl (.inr (.inr (.inl h)))
  · unfold gR at h
    split at h
    · exact .inl (.inr (.inr (.inr (by simp only [List.map_append, List.mem_append, List.map_cons, List.mem_cons] at h ⊢; rcases h with h | h <;> simp [h]))))
    · simp only [List.map_append, List.mem_append, List.map_cons, List.mem_cons] at h
      rcases h with h | h | h
      · exact .inl (.inr (.inr (.inr (by simp only [List.map_append, List.mem_append, List.map_cons, List.mem_cons]; exact .inl h))))
      · exact .inr h
      · exact .inl (.inr (.inr (.inr (by simp only [List.map_append, List.mem_append, List.map_cons, List.mem_cons]; exact .inr (.inr h)))))
theorem gR_map {q' : List Ak} {g' cap' : Nat} (h : ((R1 ++ r :: R2).map (·.n)).Nodup) : (gR R1 ⟨r.n, g', cap', q'⟩ R2).map nq = repl ((R1 ++ r :: R2).map nq) r.n (gq q') := by
  rw [List.map_append, List.map_cons, List.nodup_append, List.nodup_cons] at h
  obtain ⟨n1, ⟨n2, _⟩, n3⟩ := h
  have h1 : r.n ∉ (R1.map nq).map (·.1) := by
    rw [List.map_map]
    intro hm
    exact n3 _ hm r.n (by simp) rfl
  have h2 : r.n ∉ (R2.map nq).map (·.1) := by rw [List.map_map]; exact n2
  rw [List.map_append, List.map_cons, show nq r = (r.n, r.q) from rfl, repl_mid h1 h2]
  unfold gR
  split
  · simp
  · simp [nq]
theorem RI.grant (h : RI w T QB WB R0 nsv ns s v wr (R1 ++ r :: R2)) {q' : List Ak} {w4 w5 w6 : World} (hb4 : Below wr.heap.size wr w4) {g' cap' : Nat} (hrow : RowAt w4 g' cap' q') (hg' : wr.heap.size ≤ g') (ht5 : Turned w4 w5 QB)
    (h5 : Tab w5 T QB WB (R1 ++ ⟨r.n, g', cap', q'⟩ :: R2) s.W)
    (t6 : Tab w6 T QB WB (gR R1 ⟨r.n, g', cap', q'⟩ R2) (s.W.filter fun p => !(gout q').contains p.1)) (k6 : Keeps w5 w6 (Foot T QB WB (R1 ++ ⟨r.n, g', cap', q'⟩ :: R2))) :
    IntsAt w6 w.heap.size v s.out ∧ ∀ w7 v', w6.grownBy w7 v.ownBlock → IntsAt w7 w.heap.size v' (s.out ++ gout q') →
      RI w T QB WB R0 nsv ns ⟨repl s.L r.n (gq q'), s.W.filter fun p => !(gout q').contains p.1, s.out ++ gout q'⟩ v' w7 (gR R1 ⟨r.n, g', cap', q'⟩ R2) := by
  have h4 := h.below hb4
  have k5 : Keeps w4 w5 (· = QB) := .of_turned ht5 (Eq.refl QB)
  have i5 : IntsAt w5 w.heap.size v s.out := h4.own.keeps k5 (fun k cs hb e => h4.tab.not_foot hb (by decide) (by decide) (.inr (.inl e)))
  have n5 : NamesAt w5 w.heap.size nsv ns := h4.names.keeps k5 (fun k cs hb e => h4.tab.not_foot hb (by decide) (by decide) (.inr (.inl e)))
  have i6 : IntsAt w6 w.heap.size v s.out := i5.keeps k6 (fun k cs hb => h5.not_foot hb (by decide) (by decide))
  have n6 : NamesAt w6 w.heap.size nsv ns := n5.keeps k6 (fun k cs hb => h5.not_foot hb (by decide) (by decide))
  have hs : w.heap.size ≤ wr.heap.size := h.keeps.size
  have k16 : Keeps w w6 (Foot T QB WB R0) := by
    refine (h4.keeps.trans k5 (fun k hk e => ?_)).trans k6 (fun k hk hf => ?_)
    · subst e
      rcases h.foot k (.inr (.inl rfl)) with h' | h'
      · exact h'
      · omega
    · have hf2 : Foot T QB WB (R1 ++ r :: R2) k ∨ k = g' := by
        rcases hf with hf | hf | hf | hf
        · exact .inl (.inl hf)
        · exact .inl (.inr (.inl hf))
        · exact .inl (.inr (.inr (.inl hf)))
        · simp only [List.map_append, List.mem_append, List.map_cons, List.mem_cons] at hf
          rcases hf with hf | hf | hf
          · exact .inl (.inr (.inr (.inr (by simp only [List.map_append, List.mem_append, List.map_cons, List.mem_cons]; exact .inl hf))))
          · exact .inr hf
          · exact .inl (.inr (.inr (.inr (by simp only [List.map_append, List.mem_append, List.map_cons, List.mem_cons]; exact .inr (.inr hf)))))
      rcases hf2 with hf2 | hf2
      · rcases h.foot k hf2 with h' | h'
        · exact h'
        · omega
      · omega
  refine ⟨i6, fun w7 v' hgr hi7 => ?_⟩
  have hv : ∀ k, some k = v.ownBlock → ∃ cs, Blk w6 k 3 cs ∧ w.heap.size ≤ k := by
    intro k e
    rcases i6.1.2 with ⟨rfl, _⟩ | ⟨g2, cap2, cur, rfl, hg2, hb2, _⟩
    · simp [Value.ownBlock] at e
    · obtain rfl : k = g2 := by simpa [Value.ownBlock] using e
      exact ⟨cur, hb2, hg2⟩
  have kg : Keeps w6 w7 (fun k => some k = v.ownBlock) := .of_grown hgr (fun k e => e.symm)
  refine ⟨t6.of_blocks fun k hf => hgr.block k (t6.foot_lt hf) (fun e => ?_), ?_, hi7, n6.keeps kg (fun k cs hb e => ?_), fun k hf => ?_, k16.trans kg (fun k hk e => ?_)⟩
  · obtain ⟨cs, hb, _⟩ := hv k e
    exact t6.not_foot hb (by decide) (by decide) hf
  · have := h.tab.names
    rw [gR_map this, h.map]
  · obtain ⟨cs2, hb2, _⟩ := hv k e
    unfold Blk at hb hb2
    rw [hb] at hb2
    simp at hb2
  · rcases gR_foot hf with h' | h'
    · exact h.foot k h'
    · exact .inr (by omega)
  · obtain ⟨_, _, h3⟩ := hv k e
    omega
end
end Go.Proofs.YtcdlplbccblbaaaGreat
