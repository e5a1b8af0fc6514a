import Derived.Test.YtcdlplbccblbaaaGreatQl
import Derived.Test.YtcdlplbccblbaaaGreatFa
import Derived.Test.YtcdlplbccblbaaaGreatFr
import Derived.Test.YtcdlplbccblbaaaGreatMg29
namespace Go.Proofs.YtcdlplbccblbaaaGreat
open Go.RowKit
set_option linter.unusedVariables false
set_option linter.unusedSimpArgs false

/-! ### Names in order -/
theorem ltN_irr (a : Nm) : ltN a a = false := by
  unfold ltN
  rw [decide_eq_false_iff_not]
  omega
theorem ltN_tr {a b c : Nm} (h : ltN a b = true) (k : ltN b c = true) : ltN a c = true := by
  unfold ltN at *
  rw [decide_eq_true_iff] at *
  omega
theorem ltN_tot {a b : Nm} (h : a ≠ b) : ltN a b = true ∨ ltN b a = true := by
  obtain ⟨k, o, p, s⟩ := a
  obtain ⟨k', o', p', s'⟩ := b
  have : ¬ (k = k' ∧ o = o' ∧ p = p' ∧ s = s') := fun e => h (by simp [e.1, e.2.1, e.2.2.1, e.2.2.2])
  unfold ltN
  rw [decide_eq_true_iff, decide_eq_true_iff]
  simp only
  omega
theorem ltN_asym {a b : Nm} (h : ltN a b = true) : ltN b a = false := by
  cases hb : ltN b a
  · rfl
  · have := ltN_tr h hb
    rw [ltN_irr] at this
    cases this
theorem sortN_pw (l : List Nm) : (sortN l).Pairwise fun a b => (!ltN b a) = true := by
  have := List.pairwise_mergeSort (le := fun x y => !(ltOf cmpN) y x) (fun a b c h k => ?_) (fun a b => ?_) l
  · simp only [ltOf_cmpN] at this
    unfold sortN
    simpa only [ltOf_cmpN] using this
  · simp only [ltOf_cmpN, Bool.not_eq_true'] at *
    cases hc : ltN c a
    · rfl
    · by_cases e : a = b
      · subst e; rw [hc] at k; cases k
      · rcases ltN_tot e with h' | h'
        · have := ltN_tr hc h'; rw [this] at k; cases k
        · rw [h'] at h; cases h
  · simp only [ltOf_cmpN]
    cases hb : ltN b a
    · simp
    · simp [ltN_asym hb]
/-- Names that rise are the names sorted. -/
theorem sortN_eq {l m : List Nm} (h : m.Pairwise fun a b => ltN a b = true) (hp : m.Perm l) : sortN l = m := by
  refine List.Perm.eq_of_pairwise (le := fun a b => (!ltN b a) = true) (fun a b _ _ h1 h2 => ?_) (sortN_pw l) (h.imp fun {a b} hab => by simp [ltN_asym hab]) ((sortN_perm l).trans hp.symm)
  refine Classical.byContradiction fun e => ?_
  rcases ltN_tot e with h' | h' <;> simp_all
theorem nodup_of_lt {m : List Nm} (h : m.Pairwise fun a b => ltN a b = true) : m.Nodup :=
  h.imp fun {a b} hab e => by subst e; rw [ltN_irr] at hab; cases hab

/-! ### Numbers in order -/
theorem sortI_pw (l : List Int) : (sortI l).Pairwise fun a b => a ≤ b := by
  have := List.pairwise_mergeSort (le := fun x y : Int => decide (x ≤ y)) (fun a b c h k => by simp at *; omega) (fun a b => by simp; omega) l
  unfold sortI
  simpa using this
theorem takeDrop_while (p : Int → Bool) (l : List Int) : l.take (l.takeWhile p).length = l.takeWhile p ∧ l.drop (l.takeWhile p).length = l.dropWhile p := by
  induction l with
  | nil => simp
  | cons a l ih =>
    by_cases h : p a = true
    · simp [h, ih.1, ih.2]
    · simp [h]
theorem insI_eq (p : Int → Int → Bool) (l : List Int) (x : Int) : insI p l x = l.takeWhile (p · x) ++ [x] ++ l.dropWhile (p · x) := by
  unfold insI insAt
  rw [(takeDrop_while (p · x) l).1, (takeDrop_while (p · x) l).2]
theorem insI_perm (p : Int → Int → Bool) (l : List Int) (x : Int) : (insI p l x).Perm (l ++ [x]) := by
  rw [insI_eq]
  conv => rhs; rw [← List.takeWhile_append_dropWhile (p := (p · x)) (l := l)]
  rw [List.append_assoc, List.append_assoc]
  exact List.Perm.append_left _ List.perm_append_comm
theorem mem_takeW {p : Int → Bool} {l : List Int} {y : Int} (h : y ∈ l.takeWhile p) : p y = true := by
  induction l with
  | nil => simp at h
  | cons a l ih =>
    rw [List.takeWhile_cons] at h
    split at h
    · rw [List.mem_cons] at h
      rcases h with rfl | h
      · assumption
      · exact ih h
    · simp at h
theorem head_dropW {p : Int → Bool} : ∀ {l : List Int} {y : Int} {r : List Int}, l.dropWhile p = y :: r → p y = false
  | [], y, r, h => by simp at h
  | a :: l, y, r, h => by
    rw [List.dropWhile_cons] at h
    split at h
    · exact head_dropW h
    · injection h with h1 h2
      subst h1
      simp_all
theorem insI_pw {p : Int → Int → Bool} {R : Int → Int → Prop} (hR : ∀ a b c, R a b → R b c → R a c) (h1 : ∀ y x, p y x = true → R y x) (h2 : ∀ y x, p y x = false → R x y) {l : List Int} (h : l.Pairwise R) (x : Int) : (insI p l x).Pairwise R := by
  rw [insI_eq]
  have hs : (l.takeWhile (p · x) ++ l.dropWhile (p · x)).Pairwise R := by rw [List.takeWhile_append_dropWhile]; exact h
  rw [List.pairwise_append] at hs
  obtain ⟨s1, s2, s3⟩ := hs
  have hx : ∀ y ∈ l.dropWhile (p · x), R x y := by
    intro y hy
    cases hd : l.dropWhile (p · x) with
    | nil => rw [hd] at hy; simp at hy
    | cons z r =>
      have hz : R x z := h2 z x (head_dropW (p := (p · x)) hd)
      rw [hd] at hy s2
      rw [List.mem_cons] at hy
      rcases hy with rfl | hy
      · exact hz
      · exact hR _ _ _ hz (List.rel_of_pairwise_cons s2 hy)
  rw [List.append_assoc, List.pairwise_append]
  refine ⟨s1, ?_, fun a ha b hb => ?_⟩
  · rw [List.singleton_append, List.pairwise_cons]
    exact ⟨hx, s2⟩
  · rw [List.singleton_append, List.mem_cons] at hb
    rcases hb with rfl | hb
    · exact h1 a _ (mem_takeW (p := (p · b)) ha)
    · exact s3 a ha b hb
theorem sortD_go (l acc : List Int) (h : acc.Pairwise fun a b => b ≤ a) : (l.foldl (insI gtI) acc).Pairwise (fun a b => b ≤ a) ∧ (l.foldl (insI gtI) acc).Perm (acc ++ l) := by
  induction l generalizing acc with
  | nil => simpa using h
  | cons x l ih =>
    rw [List.foldl_cons]
    obtain ⟨i1, i2⟩ := ih (insI gtI acc x) (insI_pw (R := fun a b => b ≤ a) (fun a b c h k => by omega) (fun y x h => by unfold gtI at h; simp at h; omega) (fun y x h => by unfold gtI at h; simp at h; omega) h x)
    refine ⟨i1, i2.trans ?_⟩
    rw [show acc ++ x :: l = (acc ++ [x]) ++ l by simp]
    exact (insI_perm _ _ _).append_right l
theorem sortD_eq (l : List Int) : sortD l = (sortI l).reverse := by
  obtain ⟨h1, h2⟩ := sortD_go l [] List.Pairwise.nil
  refine List.Perm.eq_of_pairwise (le := fun a b : Int => b ≤ a) (fun a b _ _ h k => by omega) h1 ?_ ?_
  · rw [List.pairwise_reverse]
    exact sortI_pw l
  · refine h2.trans ?_
    rw [List.nil_append]
    exact (sortI_perm l).symm.trans (List.reverse_perm _).symm
theorem rblkTo_sort {q : List Ak} {tx : Int} {m : Nat} (hm : ∀ k (hk : k < q.length), q[k].tx = tx ↔ k = m) : ∀ k, k ≤ q.length → (rblkTo q m k).Pairwise (fun a b => a ≤ b) ∧ (rblkTo q m k).Perm (blkTo q tx m k)
  | 0, _ => by simp [rblkTo, blkTo]
  | k + 1, hk => by
    have hk' : k < q.length := by omega
    obtain ⟨i1, i2⟩ := rblkTo_sort hm k (by omega)
    have hg : q.getD k ak0 = q[k] := by simp [List.getD, hk']
    have hkm := hm k hk'
    unfold rblkTo blkTo
    rw [hg]
    by_cases e : k = m
    · rw [if_pos e, if_pos (hkm.2 e)]
      simpa using ⟨i1, i2⟩
    · rw [if_neg e, if_neg (fun h => e (hkm.1 h))]
      split
      · refine ⟨insI_pw (R := fun a b => a ≤ b) (fun a b c h k => by omega) (fun y x h => by unfold ltI at h; simp at h; omega) (fun y x h => by unfold ltI at h; simp at h; omega) i1 _, (insI_perm _ _ _).trans (i2.append_right _)⟩
      · simpa using ⟨i1, i2⟩
theorem rblkQ_eq {q : List Ak} (hq : QP q) (tx : Int) : rblkQ q tx = blockersQ q tx := by
  unfold rblkQ blockersQ
  cases hf : q.findIdx? fun a => a.tx == tx with
  | none => rfl
  | some m =>
    obtain ⟨hm, ht, -⟩ := List.findIdx?_eq_some_iff_getElem.1 hf
    have ht' : q[m].tx = tx := by simpa using ht
    obtain ⟨h1, h2⟩ := rblkTo_sort (tx := tx) (m := m) (fun k hk => ⟨fun e => hq.inj_get hk hm (e.trans ht'.symm), fun e => by subst e; exact ht'⟩) q.length (Nat.le_refl _)
    exact List.Perm.eq_of_pairwise (le := fun a b : Int => a ≤ b) (fun a b _ _ h k => by omega) h1 (sortI_pw _) (h2.trans (sortI_perm _).symm)
end Go.Proofs.YtcdlplbccblbaaaGreat

namespace Go.Proofs.YtcdlplbccblbaaaGreat
open Go.RowKit
set_option linter.unusedVariables false
set_option linter.unusedSimpArgs false

/-! ### A queue is put into the reference's table -/
def insM (n : Nm) (l : List Ak) : List (Nm × List Ak) → List (Nm × List Ak)
  | [] => [(n, l)]
  | p :: M => if p.1 = n then insM n l M else if ltN n p.1 = true then (n, l) :: p :: M.filter (fun p => !decide (p.1 = n)) else p :: insM n l M
theorem mstep_done (n : Nm) (l : List Ak) : ∀ (M acc : List (Nm × List Ak)), M.foldl (mstep n l) (acc, true) = (acc ++ M.filter (fun p => !decide (p.1 = n)), true)
  | [], acc => by simp
  | p :: M, acc => by
    rw [List.foldl_cons]
    by_cases e : p.1 = n
    · rw [show mstep n l (acc, true) p = (acc, true) by unfold mstep; rw [if_pos e], mstep_done n l M acc, List.filter_cons]
      simp [e]
    · rw [show mstep n l (acc, true) p = (acc ++ [p], true) by unfold mstep; rw [if_neg e]; simp, mstep_done n l M (acc ++ [p]), List.filter_cons]
      simp [e]
theorem mstep_go (n : Nm) (l : List Ak) : ∀ (M acc : List (Nm × List Ak)), (if (M.foldl (mstep n l) (acc, false)).2 = true then (M.foldl (mstep n l) (acc, false)).1 else (M.foldl (mstep n l) (acc, false)).1 ++ [(n, l)]) = acc ++ insM n l M
  | [], acc => by simp [insM]
  | p :: M, acc => by
    rw [List.foldl_cons]
    unfold insM
    by_cases e : p.1 = n
    · rw [show mstep n l (acc, false) p = (acc, false) by unfold mstep; rw [if_pos e], if_pos e]
      exact mstep_go n l M acc
    · rw [if_neg e]
      by_cases h : ltN n p.1 = true
      · rw [show mstep n l (acc, false) p = (acc ++ [(n, l)] ++ [p], true) by unfold mstep; rw [if_neg e]; simp [h], if_pos h, mstep_done]
        simp
      · rw [show mstep n l (acc, false) p = (acc ++ [p], false) by unfold mstep; rw [if_neg e]; simp [h], if_neg h, mstep_go n l M (acc ++ [p])]
        simp
theorem withM_eq (n : Nm) (l : List Ak) (M : List (Nm × List Ak)) : withM n l M = if l.isEmpty = true then M.filter (fun p => !decide (p.1 = n)) else insM n l M := by
  unfold withM
  cases hl : l.isEmpty with
  | true =>
    rw [mstep_done]
    simp
  | false =>
    rw [mstep_go]
    simp
section
variable {M L : List (Nm × List Ak)} {W : List (Int × Nm)} {n m : Nm} {l : List Ak}
theorem qL_filter : qL (M.filter fun p => !decide (p.1 = n)) m = if m = n then [] else qL M m := by
  induction M with
  | nil => simp [qL]
  | cons p M ih =>
    obtain ⟨a, q⟩ := p
    rw [List.filter_cons]
    by_cases e : a = n
    · subst e
      rw [qL_cons]
      simp only [decide_true, Bool.not_true, Bool.false_eq_true, if_false]
      rw [ih]
      by_cases h : m = a <;> simp [h]
    · simp only [e, decide_false, Bool.not_false, if_true]
      rw [qL_cons, qL_cons, ih]
      by_cases h : m = a
      · subst h; simp [e]
      · rw [if_neg h, if_neg h]
theorem qL_insM : qL (insM n l M) m = if m = n then l else qL M m := by
  induction M with
  | nil => unfold insM; rw [qL_cons]
  | cons p M ih =>
    obtain ⟨a, q⟩ := p
    unfold insM
    by_cases e : a = n
    · subst e
      rw [if_pos rfl, ih, qL_cons]
      by_cases h : m = a <;> simp [h]
    · rw [if_neg e]
      split
      · rw [qL_cons, qL_cons, qL_cons, qL_filter]
        by_cases h : m = n
        · rw [if_pos h, if_pos h]
        · rw [if_neg h, if_neg h, if_neg h]
      · rw [qL_cons, ih, qL_cons]
        by_cases h : m = a
        · subst h; simp [e]
        · rw [if_neg h, if_neg h]
theorem qL_withM : qL (withM n l M) m = if m = n then l else qL M m := by
  rw [withM_eq]
  cases hl : l.isEmpty with
  | true =>
    have : l = [] := by simpa using hl
    subst this
    simp [qL_filter]
  | false => simp [qL_insM]
theorem mem_insM {p : Nm × List Ak} : p ∈ insM n l M → p = (n, l) ∨ p ∈ M := by
  induction M with
  | nil => intro h; simpa [insM] using h
  | cons x M ih =>
    unfold insM
    split
    · intro h
      rcases ih h with h | h
      · exact .inl h
      · exact .inr (by simp [h])
    · split
      · intro h
        rw [List.mem_cons, List.mem_cons, List.mem_filter] at h
        rcases h with h | h | h
        · exact .inl h
        · exact .inr (by simp [h])
        · exact .inr (by simp [h.1])
      · intro h
        rw [List.mem_cons] at h
        rcases h with h | h
        · exact .inr (by simp [h])
        · rcases ih h with h | h
          · exact .inl h
          · exact .inr (by simp [h])
def Srt (M : List (Nm × List Ak)) : Prop := M.Pairwise fun a b => ltN a.1 b.1 = true
theorem Srt.insM (h : Srt M) : Srt (insM n l M) := by
  unfold Srt at *
  induction M with
  | nil => simp [Go.Proofs.YtcdlplbccblbaaaGreat.insM]
  | cons x M ih =>
    rw [List.pairwise_cons] at h
    unfold Go.Proofs.YtcdlplbccblbaaaGreat.insM
    split
    · exact ih h.2
    · rename_i e
      split
      · rename_i hlt
        rw [List.pairwise_cons, List.pairwise_cons]
        refine ⟨fun p hp => ?_, fun p hp => h.1 p (List.mem_filter.1 hp).1, h.2.sublist List.filter_sublist⟩
        rw [List.mem_cons] at hp
        rcases hp with rfl | hp
        · exact hlt
        · exact ltN_tr hlt (h.1 p (List.mem_filter.1 hp).1)
      · rename_i hlt
        rw [List.pairwise_cons]
        refine ⟨fun p hp => ?_, ih h.2⟩
        rcases mem_insM hp with rfl | hp
        · rcases ltN_tot e with h' | h'
          · exact h'
          · exact absurd h' hlt
        · exact h.1 p hp
theorem Srt.withM (h : Srt M) (n : Nm) (l : List Ak) : Srt (withM n l M) := by
  rw [withM_eq]
  split
  · exact List.Pairwise.sublist List.filter_sublist h
  · exact h.insM
theorem withM_ne (h : ∀ p ∈ M, p.2 ≠ []) : ∀ p ∈ withM n l M, p.2 ≠ [] := by
  rw [withM_eq]
  split
  · exact fun p hp => h p (List.mem_filter.1 hp).1
  · rename_i hl
    intro p hp
    rcases mem_insM hp with rfl | hp
    · simpa using hl
    · exact h p hp
theorem Srt.nodup (h : Srt M) : (M.map (·.1)).Nodup := nodup_of_lt (List.pairwise_map.2 h)

/-! ### The two tables say the same -/
structure EQ (M L : List (Nm × List Ak)) : Prop where
  srt : Srt M
  neM : ∀ p ∈ M, p.2 ≠ []
  nm : (L.map (·.1)).Nodup
  neL : ∀ p ∈ L, p.2 ≠ []
  q : ∀ n, qL M n = qL L n
theorem EQ.nil : EQ [] [] := ⟨List.Pairwise.nil, by simp, by simp, by simp, fun _ => rfl⟩
theorem mem_iff_q (h : (L.map (·.1)).Nodup) (hn : ∀ p ∈ L, p.2 ≠ []) (n : Nm) : n ∈ L.map (·.1) ↔ qL L n ≠ [] := by
  refine ⟨fun hm => ?_, name_of_q⟩
  obtain ⟨p, hp, rfl⟩ := List.mem_map.1 hm
  obtain ⟨L1, L2, q0, rfl, h1, h2⟩ := split_name h hm
  rw [qL_app, if_neg h1, qL_cons, if_pos rfl]
  exact hn (p.1, q0) (by simp)
theorem qL_mem (h : (L.map (·.1)).Nodup) {p : Nm × List Ak} (hp : p ∈ L) : qL L p.1 = p.2 := by
  obtain ⟨L1, L2, rfl⟩ := List.append_of_mem hp
  rw [List.map_append, List.map_cons, List.nodup_append] at h
  have h1 : p.1 ∉ L1.map (·.1) := fun hm => h.2.2 _ hm p.1 (by simp) rfl
  obtain ⟨a, q⟩ := p
  rw [qL_app, if_neg h1, qL_cons, if_pos rfl]
theorem EQ.perm (h : EQ M L) : (M.map (·.1)).Perm (L.map (·.1)) := by
  rw [List.perm_ext_iff_of_nodup h.srt.nodup h.nm]
  intro a
  rw [mem_iff_q h.srt.nodup h.neM, mem_iff_q h.nm h.neL, h.q]
theorem EQ.names (h : EQ M L) : sortN (L.map (·.1)) = M.map (·.1) := sortN_eq (List.pairwise_map.2 h.srt) h.perm
theorem EQ.len (h : EQ M L) : M.length = L.length := by simpa using h.perm.length_eq
theorem repl_ne (h : ∀ p ∈ L, p.2 ≠ []) : ∀ p ∈ repl L n l, p.2 ≠ [] := by
  intro p hp
  unfold repl at hp
  rw [List.mem_flatMap] at hp
  obtain ⟨x, hx, hp⟩ := hp
  split at hp
  · split at hp
    · simp at hp
    · rename_i hl
      simp at hp
      subst hp
      simpa using hl
  · simp at hp
    subst hp
    exact h _ hx
theorem EQ.put (h : EQ M L) (hm : n ∈ L.map (·.1)) (l : List Ak) : EQ (withM n l M) (repl L n l) :=
  ⟨h.srt.withM n l, withM_ne h.neM, repl_nodup h.nm n l, repl_ne h.neL, fun m => by rw [qL_withM, qL_repl h.nm hm, h.q]⟩
theorem EQ.fresh (h : EQ M L) (hm : n ∉ L.map (·.1)) (hl : l ≠ []) : EQ (withM n l M) (L ++ [(n, l)]) := by
  refine ⟨h.srt.withM n l, withM_ne h.neM, ?_, ?_, fun m => ?_⟩
  · rw [List.map_append, List.nodup_append]
    refine ⟨h.nm, by simp, fun a ha b hb => ?_⟩
    simp at hb
    subst hb
    exact fun e => hm (e ▸ ha)
  · intro p hp
    rw [List.mem_append, List.mem_singleton] at hp
    rcases hp with hp | rfl
    · exact h.neL p hp
    · exact hl
  · rw [qL_withM, qL_app, h.q]
    by_cases e : m = n
    · subst e
      rw [if_pos rfl, if_neg hm, qL_cons, if_pos rfl]
    · rw [if_neg e]
      split
      · rfl
      · rename_i hno
        rw [qL_cons, if_neg e, qL_out hno]
        rfl
theorem EQ.of_perm {L' : List (Nm × List Ak)} (h : EQ M L) (hp : L'.Perm L) : EQ M L' := by
  have hn : (L'.map (·.1)).Nodup := (hp.map _).nodup_iff.2 h.nm
  refine ⟨h.srt, h.neM, hn, fun p hp' => h.neL p (hp.mem_iff.1 hp'), fun n => ?_⟩
  rw [h.q]
  by_cases hm : n ∈ L.map (·.1)
  · obtain ⟨p, hp', rfl⟩ := List.mem_map.1 hm
    rw [qL_mem h.nm hp', qL_mem hn (hp.mem_iff.2 hp')]
  · rw [qL_out hm, qL_out (fun e => hm ((hp.map _).mem_iff.1 e))]
end
end Go.Proofs.YtcdlplbccblbaaaGreat
