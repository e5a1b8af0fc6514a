import Derived.Test.YtogeojiaiilghaaGreatN
import Derived.Test.YtogeojiaiilghaaGreatOq
set_option linter.unusedVariables false
namespace Go.Proofs.YtogeojiaiilghaaGreat
open Go.RowKit Go.Shelf Go.Sort

/-! ### The names of a lock table's queues, from the map alone -/
theorem names_map {w : World} {T o QB : Nat} {L : List (Nm × Value)} (c0 : w.cell? ⟨T, o, none⟩ = some (.map (some QB))) (hL : MapAt KN w QB L) (hlen : L.length < 1000000) :
    Calls Tryz.prog 76 #[.pointer (some ⟨T, o, none⟩)] w fun e w' => ∃ v, e = .returned v ∧ NamesAt w' w.heap.size v (sortN (L.map (·.1))) ∧ Below w.heap.size w w' := by
  have hB : Below w.heap.size w (w.alloc (.cells #[.map (some QB)] 110)) := (Below.refl _ _).alloc (Nat.le_refl _) _
  have hcon := sorted_any w.heap.size QB L (w.alloc (.cells #[.map (some QB)] 110)) (by simp) (by rw [World.cell?_alloc_at _ _ _ _ rfl]; rfl) (hL.of_block (hB.block _ hL.lt)) hlen
  go_enter Tryz.func76, Tryz.ntmps76
  go_wp2_with fail
  refine (keys_any _ _).mono ?_
  rintro e w1 ⟨rfl, rfl⟩
  go_wp2_with fail
  refine hcon.mono ?_
  rintro e w2 ⟨v, rfl, hN, hb⟩
  go_wp2_with fail
  go_ret
  exact ⟨v, rfl, hN.base (by simp), hB.trans (hb.mono (by simp))⟩

/-! ### Sorting by insertion is the sorting of the library -/
def leN (a b : Nm) : Bool := !(ltOf cmpN) b a
def insN (k : Nm) : List Nm → List Nm
  | [] => [k]
  | x :: r => if leN k x then k :: x :: r else x :: insN k r
def isortN : List Nm → List Nm
  | [] => []
  | x :: r => insN x (isortN r)
theorem insN_perm (k : Nm) : ∀ l : List Nm, (insN k l).Perm (k :: l)
  | [] => .refl _
  | x :: r => by
    unfold insN
    split
    · exact .refl _
    · exact ((insN_perm k r).cons x).trans (.swap k x r)
theorem isortN_perm : ∀ l : List Nm, (isortN l).Perm l
  | [] => .refl _
  | x :: r => (insN_perm x (isortN r)).trans ((isortN_perm r).cons x)
theorem leN_trans {a b c : Nm} (h1 : leN a b = true) (h2 : leN b c = true) : leN a c = true := by
  unfold leN at *
  simp only [Bool.not_eq_true'] at *
  exact swoN.ntrans _ _ _ h2 h1
theorem leN_total {a b : Nm} (h : ¬ leN a b = true) : leN b a = true := by
  unfold leN at *
  simp only [Bool.not_eq_true', Bool.not_eq_false] at *
  cases hab : ltOf cmpN a b
  · rfl
  · have := swoN.trans _ _ _ hab h
    rw [swoN.irrefl] at this
    cases this
theorem leN_def (a b : Nm) : leN a b = !(ltOf cmpN) b a := rfl
attribute [irreducible] leN
theorem insN_sorted (k : Nm) (l : List Nm) (h : l.Pairwise (fun x y => leN x y = true)) : (insN k l).Pairwise (fun x y => leN x y = true) := by
  induction l with
  | nil => exact List.pairwise_cons.2 ⟨fun y hy => by simp at hy, .nil⟩
  | cons x r ih =>
    obtain ⟨h1, h2⟩ := List.pairwise_cons.1 h
    have ih := ih h2
    have hp := insN_perm k r
    by_cases hk : leN k x = true
    · have e : insN k (x :: r) = k :: x :: r := by rw [insN, if_pos hk]
      rw [e]
      refine List.pairwise_cons.2 ⟨fun y hy => ?_, h⟩
      rcases List.mem_cons.1 hy with e | hy
      · rw [e]; exact hk
      · exact leN_trans hk (h1 y hy)
    · have e : insN k (x :: r) = x :: insN k r := by rw [insN, if_neg hk]
      rw [e]
      refine List.pairwise_cons.2 ⟨fun y hy => ?_, ih⟩
      rcases List.mem_cons.1 (hp.mem_iff.1 hy) with e | hy
      · rw [e]; exact leN_total hk
      · exact h1 y hy
theorem isortN_sorted (l : List Nm) : (isortN l).Pairwise (fun x y => leN x y = true) := by
  induction l with
  | nil => exact .nil
  | cons x r ih => exact insN_sorted x _ ih
theorem isortN_eq (l : List Nm) : isortN l = sortN l := by
  have hs : (sortN l).Pairwise fun x y => leN x y = true :=
    by
      have he : (fun x y => !(ltOf cmpN) y x) = leN := by funext x y; exact (leN_def x y).symm
      unfold sortN
      rw [he]
      exact List.pairwise_mergeSort (le := leN) (fun a b c h1 h2 => leN_trans h1 h2) (fun a b => by
        cases h : leN a b
        · rw [leN_total (a := a) (b := b) (by rw [h]; simp)]; rfl
        · rfl) l
  refine List.Perm.eq_of_pairwise (le := fun x y => leN x y = true) ?_ (isortN_sorted l) hs ((isortN_perm l).trans (sortN_perm l).symm)
  intro a b _ _ h1 h2
  rw [leN_def] at h1 h2
  simp only [Bool.not_eq_true'] at h1 h2
  rw [ltOf_cmpN] at h1 h2
  exact ltN_total h2 h1
end Go.Proofs.YtogeojiaiilghaaGreat
namespace Go.Ev
open Go.RowKit Go.Proofs Go.Proofs.YtogeojiaiilghaaGreat

/-! ### A new row somewhere behind what stood -/
/-- A block that is laid at the end of memory, under a new label. -/
theorem new_movesG {φ : Emb} {H : Tr AObj} {N : Nat} {w w' : World} (h : HRel φ H N w) (hN : N < 16777216) (o : AObj) (g : Nat) (hg : w.heap.size ≤ g) (c : Nat) (hs : sco φ N o)
    (hk : ∀ k, k < w.heap.size → w'.heap[k]? = w.heap[k]?) (hw : w'.os = w.os ∧ w'.tape = w.tape ∧ w'.output = w.output ∧ w.heap.size ≤ w'.heap.size)
    (ho : OAt (φ.with N g 0 c) w' N o) :
    HRel (φ.with N g 0 c) (hput H N o) (N + 1) w' ∧ Moves φ H N w (φ.with N g 0 c) (hput H N o) (N + 1) w' := by
  have hsame := φ.with_same N g 0 c
  have hN1 : (φ.with N g 0 c).b N = g := by simp [Emb.with]
  refine ⟨⟨fun l p hp => ?_, fun l m p q hp hq hlk hmk he => ?_⟩, ⟨hsame, Nat.le_succ _, hw.1, hw.2.1, hw.2.2.1, hw.2.2.2, fun l hl hlk => Emb.with_k' hlk (by omega), fun l hl _ => (by rw [hget_put _ hN, if_neg (by omega)]), fun k hk' _ => hk k hk', fun l p hp hlk hlt => ?_⟩⟩
  · rw [hget_put _ hN] at hp
    split at hp
    · rename_i e
      subst e
      obtain rfl := Option.some.inj hp
      exact ⟨Nat.lt_succ_self _, fun _ => ⟨ho, sco_mono hsame (Nat.le_succ _) hs⟩⟩
    · rename_i hne
      refine ⟨Nat.lt_succ_of_lt (h.all l p hp).1, fun hlk => ?_⟩
      have hlk := Emb.with_k' hlk hne
      obtain ⟨h1, h2, h3⟩ := h.obj l p hp hlk
      exact ⟨h2.kept h1 hlk h3 hsame (hk _ h2.lt), sco_mono hsame (Nat.le_succ _) h3⟩
  · rw [hget_put _ hN] at hp hq
    split at hp
    · split at hq
      · omega
      · rename_i e1 e2
        subst e1
        have hmk := Emb.with_k' hmk e2
        obtain ⟨h1, h2, h3⟩ := h.obj m q hq hmk
        have := h2.lt
        rw [hN1, (hsame m h1 hmk).1] at he
        omega
    · split at hq
      · rename_i e1 e2
        subst e2
        have hlk := Emb.with_k' hlk e1
        obtain ⟨h1, h2, h3⟩ := h.obj l p hp hlk
        have := h2.lt
        rw [hN1, (hsame l h1 hlk).1] at he
        omega
      · rename_i e1 e2
        have hlk := Emb.with_k' hlk e1
        have hmk := Emb.with_k' hmk e2
        have h1 := (h.all l p hp).1
        have h2 := (h.all m q hq).1
        rw [(hsame l h1 hlk).1, (hsame m h2 hmk).1] at he
        exact h.inj l m p q hp hq hlk hmk he
  · rw [hget_put _ hN] at hp
    split at hp
    · rename_i e
      subst e
      rw [hN1] at hlt
      omega
    · rename_i e
      have hlk := Emb.with_k' hlk e
      have h1 := (h.all l p hp).1
      exact ⟨l, p, hp, hlk, (hsame l h1 hlk).1.symm⟩

theorem row_rel {φ : Emb} {H : Tr AObj} {N : Nat} {w w' : World} (hh : HRel φ H N w) (hN : N < 16777216) (hb : Below w.heap.size w w') {e : TypeId} {size n : Nat} {v : Value} (cs : List AV) (hsc : ∀ u ∈ cs, scv φ N u) (hsame : ∀ φ', concs φ' cs = concs φ cs)
    (ho : w'.ownsRow w.heap.size e size v n (concs φ cs)) (hn : 0 < n) :
    ∃ φ', v = conc φ' (.slice N 0 n true 0 0) ∧ HRel φ' (hput H N (.cells cs size true)) (N + 1) w' ∧ Moves φ H N w φ' (hput H N (.cells cs size true)) (N + 1) w' ∧ scv φ' (N + 1) (.slice N 0 n true 0 0) := by
  obtain ⟨hlen, h2⟩ := ho
  rcases h2 with ⟨_, h0⟩ | ⟨g, cap, cur, rfl, hg, hbk, r1, r2, r3, r4⟩
  · omega
  · have hcl : cs.length = n * size := by simpa [len_concs] using hlen
    have hle : n * size ≤ cap * size := Nat.mul_le_mul_right _ r1
    obtain ⟨m1, m2⟩ := new_movesG hh hN (.cells cs size true) g hg cap hsc hb.block ⟨hb.os, hb.tape, hb.output, hb.size⟩ (by
      refine ⟨cur, e, 0, 0, by simpa [Emb.with] using hbk, by simp [Emb.with]; omega, fun i u hu => ?_, fun i hi => by omega, fun _ => ⟨by simp [Emb.with]; omega, by simp [Emb.with]; omega⟩⟩
      have hi : i < cs.length := (List.getElem?_eq_some_iff.1 hu).1
      have h1 : (concs (φ.with N g 0 cap) cs)[i]? = some (conc (φ.with N g 0 cap) u) := by
        rw [concs_eq, List.getElem?_map, hu]; rfl
      rw [hsame, ← r4, List.getElem?_take_of_lt (by omega), Array.getElem?_toList] at h1
      simpa [Emb.with] using h1)
    refine ⟨_, ?_, m1, m2, (sc_sliceT _ _ _ _ _ _ _).2 ⟨⟨Nat.lt_succ_self _, Emb.with_k _ _ _ _ _⟩, by simp [Emb.with]; exact r1, Nat.zero_le _⟩⟩
    simp [Emb.with]
end Go.Ev
