import Derived.Test.YtcdlplbccblbaaaGreatCl
namespace Go.Proofs.YtcdlplbccblbaaaGreat
open Go.RowKit
set_option linter.unusedVariables false

/-! ### A table whose blocks are told -/
def FA (F : Nat → Prop) (w : World) (T QB WB : Nat) (L : List (Nm × List Ak)) (W : List (Int × Nm)) : Prop :=
  ∃ R, Tab w T QB WB R W ∧ R.map nq = L ∧ ∀ k, Foot T QB WB R k → F k
section
variable {F : Nat → Prop} {w w' : World} {T QB WB : Nat} {L : List (Nm × List Ak)} {W : List (Int × Nm)}
theorem FA.below (h : FA F w T QB WB L W) (hb : Below w.heap.size w w') : FA F w' T QB WB L W := by
  obtain ⟨R, ht, hm, hf⟩ := h
  exact ⟨R, ht.below hb, hm, hf⟩
theorem release_fa (h : FA F w T QB WB L W) (hF : ∀ k, w.heap.size ≤ k → F k) (hfit : Fits 1000 L) (tx : Int) :
    Calls Tryz.prog 11 #[.pointer (some ⟨T, 0, none⟩), .int .i64 tx] w fun e w' => ∃ v, e = .returned v ∧ IntsAt w' w.heap.size v (rel tx L W).out ∧ FA F w' T QB WB (rel tx L W).L (rel tx L W).W ∧ Keeps w w' F := by
  obtain ⟨R, ht, rfl, hf⟩ := h
  refine (release_any ht hfit tx).mono ?_
  rintro e w' ⟨v, R', rfl, ht', hm', hi, hf', hk⟩
  refine ⟨v, rfl, hi, ⟨R', ht', hm', fun k hk' => ?_⟩, hk.mono fun k _ hk => hf k hk⟩
  rcases hf' k hk' with h1 | h1
  · exact hf k h1
  · exact hF k (by omega)
theorem ask_fa (h : FA F w T QB WB L W) (hF : ∀ k, w.heap.size ≤ k → F k) (hfit : Fits 1000 L) (tx mode k o p s : Int) (inst wt : Bool) :
    Calls Tryz.prog 8 #[.pointer (some ⟨T, 0, none⟩), .int .i64 tx, .agg #[.int .i64 k, .int .i64 o, .int .u32 p, .int .i64 s], .int .i64 mode, .bool inst, .bool wt] w fun e w' =>
      e = .returned (.tuple #[.bool (ask L W tx ⟨k, o, p, s⟩ mode inst wt).had, .int .i64 (ask L W tx ⟨k, o, p, s⟩ mode inst wt).err]) ∧ FA F w' T QB WB (ask L W tx ⟨k, o, p, s⟩ mode inst wt).L (ask L W tx ⟨k, o, p, s⟩ mode inst wt).W ∧ Keeps w w' F := by
  have h0 := h
  obtain ⟨R, ht, hm, hf⟩ := h
  by_cases hbad : tx < 1 ∨ isMode mode = false
  · refine (ask_arg tx mode k o p s inst wt w _ (.inr hbad)).mono ?_
    rintro e w' ⟨rfl, hb⟩
    unfold ask
    rw [if_pos hbad]
    exact ⟨rfl, h0.below hb, .of_below hb F⟩
  have ht1 : 1 ≤ tx := by omega
  have hmo : isMode mode = true := by
    cases hi : isMode mode
    · exact absurd (.inr hi) hbad
    · rfl
  cases hw : wOf W tx with
  | some m =>
    refine (ask_waits tx mode k o p s m inst wt ht ht1 hmo hw).mono ?_
    rintro e w' ⟨rfl, hb⟩
    unfold ask
    rw [if_neg hbad, if_pos (by rw [hw]; rfl)]
    exact ⟨rfl, h0.below hb, .of_below hb F⟩
  | none =>
    unfold ask
    rw [if_neg hbad, if_neg (by rw [hw]; simp), ← hm, find_rows]
    have hk2 : ∀ {w'}, Keeps w w' (Foot T QB WB R) → Keeps w w' F := fun hk => hk.mono fun k _ hk => hf k hk
    cases hr : rOf R ⟨k, o, p, s⟩ with
    | none =>
      refine (ask_fresh tx mode k o p s inst wt ht ht1 hmo hw hr).mono ?_
      rintro e w' ⟨rfl, hp⟩
      simp only [Option.map_none]
      unfold FreshPost at hp
      cases inst with
      | true =>
        simp only [if_true] at hp ⊢
        exact ⟨by trivial, ⟨R, ht.below hp, rfl, hf⟩, .of_below hp F⟩
      | false =>
        simp only [if_neg Bool.false_ne_true] at hp ⊢
        obtain ⟨g, cap, ht', hg, hk⟩ := hp
        refine ⟨by trivial, ⟨_, ht', by simp [nq], fun k hk' => ?_⟩, hk2 hk⟩
        rcases hk' with h' | h' | h' | h'
        · exact hf k (.inl h')
        · exact hf k (.inr (.inl h'))
        · exact hf k (.inr (.inr (.inl h')))
        · simp only [List.map_append, List.mem_append, List.map_cons, List.map_nil, List.mem_singleton] at h'
          rcases h' with h' | h'
          · exact hf k (.inr (.inr (.inr h')))
          · exact hF k (by omega)
    | some r =>
      obtain ⟨R1, R2, rfl, hrn⟩ := rOf_split hr
      simp only [Option.map_some, nq]
      have hql : r.q.length < 1000000 := by
        have := hfit.2 (nq r) (by rw [← hm]; simp)
        show (nq r).2.length < _
        omega
      have hfn : ∀ {g' cap' q'} k, (g' = r.g ∨ w.heap.size ≤ g') → Foot T QB WB (R1 ++ ⟨r.n, g', cap', q'⟩ :: R2) k → F k := fun k hg h' => by
        rcases foot_new h' with h' | h'
        · exact hf k h'
        · rcases hg with hg | hg
          · exact hf k (.inr (.inr (.inr (by rw [h', hg]; simp))))
          · exact hF k (by omega)
      have hno := ht.names
      have hrep : ∀ {q'} g' cap', q' ≠ [] → (R1 ++ ⟨r.n, g', cap', q'⟩ :: R2).map nq = repl ((R1 ++ r :: R2).map nq) ⟨k, o, p, s⟩ q' := fun g' cap' hq => by rw [repl_rows hno hq g' cap', hrn]
      cases hfi : r.q.findIdx? fun a => a.tx == tx with
      | none =>
        refine (ask_new tx mode k o p s inst wt R1 R2 r ht ht1 hmo hw hrn (idx_of_none hfi) hql).mono ?_
        intro e w' hp
        unfold NewPost at hp
        simp only
        split at hp
        · rename_i hc
          obtain ⟨rfl, hp⟩ := hp
          rw [if_pos hc]
          cases inst with
          | true =>
            simp only [if_true] at hp ⊢
            exact ⟨by trivial, ⟨_, ht.below hp, rfl, hf⟩, .of_below hp F⟩
          | false =>
            simp only [if_neg Bool.false_ne_true] at hp ⊢
            obtain ⟨g, cap, ht', hg, hk⟩ := hp
            exact ⟨by trivial, ⟨_, ht', hrep g cap (by simp), fun k hk' => hfn k hg hk'⟩, hk2 hk⟩
        · rename_i hc
          obtain ⟨rfl, hp⟩ := hp
          rw [if_neg hc]
          cases wt with
          | false =>
            simp only [if_true] at hp ⊢
            exact ⟨by trivial, ⟨_, ht.below hp, rfl, hf⟩, .of_below hp F⟩
          | true =>
            simp only [Bool.true_eq_false, if_false] at hp ⊢
            obtain ⟨g, cap, ht', hg, hk⟩ := hp
            rw [show W ++ [(tx, r.n)] = W ++ [(tx, (⟨k, o, p, s⟩ : Nm))] by rw [hrn]] at ht'
            exact ⟨by trivial, ⟨_, ht', hrep g cap (by simp), fun k hk' => hfn k hg hk'⟩, hk2 hk⟩
      | some i =>
        obtain ⟨hix, hil⟩ := idx_of_some hfi
        have hg : r.q.getD i ⟨0, 0, 0, false⟩ = r.q[i] := by simp [List.getD, hil]
        refine (ask_old tx mode k o p s inst wt R1 R2 r ht ht1 hmo hw hrn i hil hix hql).mono ?_
        intro e w' hp
        unfold OldPost at hp
        simp only
        rw [hg]
        have hset : ∀ a : Ak, r.q.set i a ≠ [] := fun a e => by have := congrArg List.length e; simp at this; rw [this] at hil; simp at hil
        split at hp
        · rename_i hc
          obtain ⟨rfl, hp⟩ := hp
          rw [if_pos hc]
          exact ⟨by trivial, ⟨_, ht.below hp, rfl, hf⟩, .of_below hp F⟩
        · rename_i hc
          rw [if_neg hc]
          split at hp
          · rename_i hc2
            obtain ⟨rfl, hp⟩ := hp
            rw [if_pos hc2]
            cases inst with
            | true =>
              simp only [if_true] at hp ⊢
              exact ⟨by trivial, ⟨_, ht.below hp, rfl, hf⟩, .of_below hp F⟩
            | false =>
              simp only [if_neg Bool.false_ne_true] at hp ⊢
              obtain ⟨ht', hk⟩ := hp
              exact ⟨by trivial, ⟨_, ht', hrep r.g r.cap (hset _), fun k hk' => hfn k (.inl rfl) hk'⟩, hk2 hk⟩
          · rename_i hc2
            obtain ⟨rfl, hp⟩ := hp
            rw [if_neg hc2]
            cases wt with
            | false =>
              simp only [if_true] at hp ⊢
              exact ⟨by trivial, ⟨_, ht.below hp, rfl, hf⟩, .of_below hp F⟩
            | true =>
              simp only [Bool.true_eq_false, if_false] at hp ⊢
              obtain ⟨ht', hk⟩ := hp
              rw [show W ++ [(tx, r.n)] = W ++ [(tx, (⟨k, o, p, s⟩ : Nm))] by rw [hrn]] at ht'
              exact ⟨by trivial, ⟨_, ht', hrep r.g r.cap (hset _), fun k hk' => hfn k (.inl rfl) hk'⟩, hk2 hk⟩
end
end Go.Proofs.YtcdlplbccblbaaaGreat
