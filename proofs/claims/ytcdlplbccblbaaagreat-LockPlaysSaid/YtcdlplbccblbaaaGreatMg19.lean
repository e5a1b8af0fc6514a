import Derived.Test.YtcdlplbccblbaaaGreatRe
import Derived.Test.YtcdlplbccblbaaaGreatMg7
namespace Go.Proofs.YtcdlplbccblbaaaGreat
open Go.RowKit
set_option linter.unusedVariables false

/-! ### A table told by what stands in it -/
def TA (B : Nat) (w : World) (T QB WB : Nat) (L : List (Nm × List Ak)) (W : List (Int × Nm)) : Prop :=
  ∃ R, Tab w T QB WB R W ∧ R.map nq = L ∧ ∀ k, Foot T QB WB R k → B ≤ k
section
variable {B : Nat} {w w' : World} {T QB WB : Nat} {L : List (Nm × List Ak)} {W : List (Int × Nm)}
theorem TA.below (h : TA B w T QB WB L W) (hb : Below w.heap.size w w') : TA B w' T QB WB L W := by
  obtain ⟨R, ht, hm, hf⟩ := h
  exact ⟨R, ht.below hb, hm, hf⟩
theorem TA.lt (h : TA B w T QB WB L W) : B ≤ w.heap.size := by
  obtain ⟨R, ht, hm, hf⟩ := h
  exact Nat.le_of_lt (Nat.lt_of_le_of_lt (hf T (.inl rfl)) ht.head.lt)
theorem TA.Tlt (h : TA B w T QB WB L W) : T < w.heap.size := by
  obtain ⟨R, ht, _⟩ := h
  exact ht.head.lt
theorem TA.names (h : TA B w T QB WB L W) : (L.map (·.1)).Nodup := by
  obtain ⟨R, ht, rfl, hf⟩ := h
  have := ht.names
  simpa [List.map_map, Function.comp_def, nq] using this
theorem TA.txs (h : TA B w T QB WB L W) : (W.map (·.1)).Nodup := by
  obtain ⟨R, ht, rfl, hf⟩ := h
  exact ht.txs

/-- What a step of the table leaves as it was: what lay below B, and all rows but its own. -/
structure Frame (B : Nat) (w w' : World) : Prop where
  below : Below B w w'
  others : ∀ k t cs, t ≠ 37 → t ≠ 80 → Blk w k t cs → Blk w' k t cs
theorem Frame.of_below (hB : B ≤ w.heap.size) (h : Below w.heap.size w w') : Frame B w w' := ⟨h.mono hB, fun k t cs _ _ hb => hb.of_block (h.block k hb.lt)⟩
theorem Frame.of_keeps {R : List Row} (ht : Tab w T QB WB R W) (hf : ∀ k, Foot T QB WB R k → B ≤ k) (hk : Keeps w w' (Foot T QB WB R)) : Frame B w w' :=
  ⟨hk.below (Nat.le_of_lt (Nat.lt_of_le_of_lt (hf T (.inl rfl)) ht.head.lt)) (fun k hk' hf2 => by have := hf k hf2; omega), fun k t cs h1 h2 hb => hb.of_block (hk.block k hb.lt (ht.not_foot hb h1 h2))⟩
theorem Frame.trans {w'' : World} (h : Frame B w w') (k : Frame B w' w'') : Frame B w w'' := ⟨h.below.trans k.below, fun i t cs h1 h2 hb => k.others i t cs h1 h2 (h.others i t cs h1 h2 hb)⟩
theorem Frame.refl (B : Nat) (w : World) : Frame B w w := ⟨Below.refl _ _, fun _ _ _ _ _ h => h⟩

theorem release_ta (h : TA B w T QB WB L W) (hfit : Fits 1000 L) (tx : Int) :
    Calls Tryz.prog 11 #[.pointer (some ⟨T, 0, none⟩), .int .i64 tx] w fun e w' => ∃ v, e = .returned v ∧ IntsAt w' w.heap.size v (rel tx L W).out ∧ TA B w' T QB WB (rel tx L W).L (rel tx L W).W ∧ Frame B w w' := by
  obtain ⟨R, ht, rfl, hf⟩ := h
  refine (release_any ht hfit tx).mono ?_
  rintro e w' ⟨v, R', rfl, ht', hm', hi, hf', hk⟩
  have hB : B ≤ w.heap.size := Nat.le_of_lt (Nat.lt_of_le_of_lt (hf T (.inl rfl)) ht.head.lt)
  refine ⟨v, rfl, hi, ⟨R', ht', hm', fun k hk' => ?_⟩, .of_keeps ht hf hk⟩
  rcases hf' k hk' with h1 | h1
  · exact hf k h1
  · omega

/-! ### Asking -/
structure As where
  had : Bool
  err : Int
  L : List (Nm × List Ak)
  W : List (Int × Nm)
def ask (L : List (Nm × List Ak)) (W : List (Int × Nm)) (tx : Int) (n : Nm) (mode : Int) (inst wt : Bool) : As :=
  if tx < 1 ∨ isMode mode = false then ⟨false, 1, L, W⟩
  else if (wOf W tx).isSome = true then ⟨false, 80, L, W⟩
  else match L.find? fun p => p.1 == n with
  | none => ⟨true, 0, if inst = true then L else L ++ [(n, [⟨tx, mode, 0, false⟩])], W⟩
  | some (_, q) => match q.findIdx? fun a => a.tx == tx with
    | none =>
      if (mayS q tx mode && !aheadS q 0 (-1)) = true then ⟨true, 0, if inst = true then L else repl L n (q ++ [⟨tx, mode, 0, false⟩]), W⟩
      else ⟨false, 0, if wt = false then L else repl L n (q ++ [⟨tx, 0, mode, inst⟩]), if wt = false then W else W ++ [(tx, n)]⟩
    | some i =>
      if join (q.getD i ⟨0, 0, 0, false⟩).has mode = (q.getD i ⟨0, 0, 0, false⟩).has then ⟨true, 0, L, W⟩
      else if (mayS q tx (join (q.getD i ⟨0, 0, 0, false⟩).has mode) && !aheadS q (q.getD i ⟨0, 0, 0, false⟩).has i) = true then
        ⟨true, 0, if inst = true then L else repl L n (q.set i { q.getD i ⟨0, 0, 0, false⟩ with has := join (q.getD i ⟨0, 0, 0, false⟩).has mode }), W⟩
      else ⟨false, 0, if wt = false then L else repl L n (q.set i { q.getD i ⟨0, 0, 0, false⟩ with wants := join (q.getD i ⟨0, 0, 0, false⟩).has mode, inst := inst }), if wt = false then W else W ++ [(tx, n)]⟩

theorem find_rows (R : List Row) (n : Nm) : (R.map nq).find? (fun p => p.1 == n) = (rOf R n).map nq := by
  rw [List.find?_map]
  rfl
theorem repl_rows {R1 R2 : List Row} {r : Row} (h : ((R1 ++ r :: R2).map (·.n)).Nodup) {q' : List Ak} (hq : q' ≠ []) (g' cap' : Nat) : (R1 ++ ⟨r.n, g', cap', q'⟩ :: R2).map nq = repl ((R1 ++ r :: R2).map nq) r.n q' := by
  rw [List.map_append, List.map_cons, List.nodup_append, List.nodup_cons] at h
  obtain ⟨n1, ⟨n2, _⟩, n3⟩ := h
  have h1 : r.n ∉ (R1.map nq).map (·.1) := by
    rw [List.map_map]
    intro hm
    exact n3 _ hm r.n (by simp) rfl
  have h2 : r.n ∉ (R2.map nq).map (·.1) := by rw [List.map_map]; exact n2
  rw [List.map_append (f := nq) (l₁ := R1) (l₂ := r :: R2), List.map_cons, show nq r = (r.n, r.q) from rfl, repl_mid h1 h2, if_neg (by simpa using hq)]
  simp [nq]
theorem foot_new {R1 R2 : List Row} {r : Row} {g' cap' k : Nat} {q' : List Ak} (h : Foot T QB WB (R1 ++ ⟨r.n, g', cap', q'⟩ :: R2) k) : Foot T QB WB (R1 ++ r :: R2) k ∨ k = g' := by
  rcases h with hf | hf | hf | hf
  · exact .inl (.inl hf)
  · exact .inl (.inr (.inl hf))
  · exact .inl (.inr (.inr (.inl hf)))
  · simp only [List.map_append, List.mem_append, List.map_cons, List.mem_cons] at hf
    rcases hf with hf | hf | hf
    · exact .inl (.inr (.inr (.inr (by simp only [List.map_append, List.mem_append, List.map_cons, List.mem_cons]; exact .inl hf))))
    · exact .inr hf
    · exact .inl (.inr (.inr (.inr (by simp only [List.map_append, List.mem_append, List.map_cons, List.mem_cons]; exact .inr (.inr hf)))))

theorem ask_ta (h : TA B w T QB WB L W) (hfit : Fits 1000 L) (tx mode k o p s : Int) (inst wt : Bool) :
    Calls Tryz.prog 8 #[.pointer (some ⟨T, 0, none⟩), .int .i64 tx, .agg #[.int .i64 k, .int .i64 o, .int .u32 p, .int .i64 s], .int .i64 mode, .bool inst, .bool wt] w fun e w' =>
      e = .returned (.tuple #[.bool (ask L W tx ⟨k, o, p, s⟩ mode inst wt).had, .int .i64 (ask L W tx ⟨k, o, p, s⟩ mode inst wt).err]) ∧ TA B w' T QB WB (ask L W tx ⟨k, o, p, s⟩ mode inst wt).L (ask L W tx ⟨k, o, p, s⟩ mode inst wt).W ∧ Frame B w w' := by
  have hlt := h.lt
  have h0 := h
  obtain ⟨R, ht, hm, hf⟩ := h
  by_cases hbad : tx < 1 ∨ isMode mode = false
  · refine (ask_arg tx mode k o p s inst wt w _ (.inr hbad)).mono ?_
    rintro e w' ⟨rfl, hb⟩
    unfold ask
    rw [if_pos hbad]
    exact ⟨rfl, h0.below hb, .of_below hlt hb⟩
  have ht1 : 1 ≤ tx := by omega
  have hmo : isMode mode = true := by
    cases hi : isMode mode
    · exact absurd (.inr hi) hbad
    · rfl
  cases hw : wOf W tx with
  | some m =>
    refine (ask_waits tx mode k o p s m inst wt ht ht1 hmo hw).mono ?_
    rintro e w' ⟨rfl, hb⟩
    unfold ask
    rw [if_neg hbad, if_pos (by rw [hw]; rfl)]
    exact ⟨rfl, h0.below hb, .of_below hlt hb⟩
  | none =>
    unfold ask
    rw [if_neg hbad, if_neg (by rw [hw]; simp), ← hm, find_rows]
    have hk2 : ∀ {w'}, Keeps w w' (Foot T QB WB R) → Frame B w w' := fun hk => .of_keeps ht hf hk
    cases hr : rOf R ⟨k, o, p, s⟩ with
    | none =>
      refine (ask_fresh tx mode k o p s inst wt ht ht1 hmo hw hr).mono ?_
      rintro e w' ⟨rfl, hp⟩
      simp only [Option.map_none]
      unfold FreshPost at hp
      cases inst with
      | true =>
        simp only [if_true] at hp ⊢
        exact ⟨by trivial, ⟨R, ht.below hp, rfl, hf⟩, .of_below hlt hp⟩
      | false =>
        simp only [if_neg Bool.false_ne_true] at hp ⊢
        obtain ⟨g, cap, ht', hg, hk⟩ := hp
        refine ⟨by trivial, ⟨_, ht', by simp [nq], fun k hk' => ?_⟩, hk2 hk⟩
        rcases hk' with h' | h' | h' | h'
        · exact hf k (.inl h')
        · exact hf k (.inr (.inl h'))
        · exact hf k (.inr (.inr (.inl h')))
        · simp only [List.map_append, List.mem_append, List.map_cons, List.map_nil, List.mem_singleton] at h'
          rcases h' with h' | h'
          · exact hf k (.inr (.inr (.inr h')))
          · omega
    | some r =>
      obtain ⟨R1, R2, rfl, hrn⟩ := rOf_split hr
      simp only [Option.map_some, nq]
      have hql : r.q.length < 1000000 := by
        have := hfit.2 (nq r) (by rw [← hm]; simp)
        show (nq r).2.length < _
        omega
      have hfn : ∀ {g' cap' q'} k, (g' = r.g ∨ w.heap.size ≤ g') → Foot T QB WB (R1 ++ ⟨r.n, g', cap', q'⟩ :: R2) k → B ≤ k := fun k hg h' => by
        rcases foot_new h' with h' | h'
        · exact hf k h'
        · rcases hg with hg | hg
          · exact hf k (.inr (.inr (.inr (by rw [h', hg]; simp))))
          · omega
      have hno := ht.names
      have hrep : ∀ {q'} g' cap', q' ≠ [] → (R1 ++ ⟨r.n, g', cap', q'⟩ :: R2).map nq = repl ((R1 ++ r :: R2).map nq) ⟨k, o, p, s⟩ q' := fun g' cap' hq => by rw [repl_rows hno hq g' cap', hrn]
      cases hfi : r.q.findIdx? fun a => a.tx == tx with
      | none =>
        refine (ask_new tx mode k o p s inst wt R1 R2 r ht ht1 hmo hw hrn (idx_of_none hfi) hql).mono ?_
        intro e w' hp
        unfold NewPost at hp
        simp only
        split at hp
        · rename_i hc
          obtain ⟨rfl, hp⟩ := hp
          rw [if_pos hc]
          cases inst with
          | true =>
            simp only [if_true] at hp ⊢
            exact ⟨by trivial, ⟨_, ht.below hp, rfl, hf⟩, .of_below hlt hp⟩
          | false =>
            simp only [if_neg Bool.false_ne_true] at hp ⊢
            obtain ⟨g, cap, ht', hg, hk⟩ := hp
            exact ⟨by trivial, ⟨_, ht', hrep g cap (by simp), fun k hk' => hfn k hg hk'⟩, hk2 hk⟩
        · rename_i hc
          obtain ⟨rfl, hp⟩ := hp
          rw [if_neg hc]
          cases wt with
          | false =>
            simp only [if_true] at hp ⊢
            exact ⟨by trivial, ⟨_, ht.below hp, rfl, hf⟩, .of_below hlt hp⟩
          | true =>
            simp only [Bool.true_eq_false, if_false] at hp ⊢
            obtain ⟨g, cap, ht', hg, hk⟩ := hp
            rw [show W ++ [(tx, r.n)] = W ++ [(tx, (⟨k, o, p, s⟩ : Nm))] by rw [hrn]] at ht'
            exact ⟨by trivial, ⟨_, ht', hrep g cap (by simp), fun k hk' => hfn k hg hk'⟩, hk2 hk⟩
      | some i =>
        obtain ⟨hix, hil⟩ := idx_of_some hfi
        have hg : r.q.getD i ⟨0, 0, 0, false⟩ = r.q[i] := by simp [List.getD, hil]
        refine (ask_old tx mode k o p s inst wt R1 R2 r ht ht1 hmo hw hrn i hil hix hql).mono ?_
        intro e w' hp
        unfold OldPost at hp
        simp only
        rw [hg]
        have hset : ∀ a : Ak, r.q.set i a ≠ [] := fun a e => by have := congrArg List.length e; simp at this; rw [this] at hil; simp at hil
        split at hp
        · rename_i hc
          obtain ⟨rfl, hp⟩ := hp
          rw [if_pos hc]
          exact ⟨by trivial, ⟨_, ht.below hp, rfl, hf⟩, .of_below hlt hp⟩
        · rename_i hc
          rw [if_neg hc]
          split at hp
          · rename_i hc2
            obtain ⟨rfl, hp⟩ := hp
            rw [if_pos hc2]
            cases inst with
            | true =>
              simp only [if_true] at hp ⊢
              exact ⟨by trivial, ⟨_, ht.below hp, rfl, hf⟩, .of_below hlt hp⟩
            | false =>
              simp only [if_neg Bool.false_ne_true] at hp ⊢
              obtain ⟨ht', hk⟩ := hp
              exact ⟨by trivial, ⟨_, ht', hrep r.g r.cap (hset _), fun k hk' => hfn k (.inl rfl) hk'⟩, hk2 hk⟩
          · rename_i hc2
            obtain ⟨rfl, hp⟩ := hp
            rw [if_neg hc2]
            cases wt with
            | false =>
              simp only [if_true] at hp ⊢
              exact ⟨by trivial, ⟨_, ht.below hp, rfl, hf⟩, .of_below hlt hp⟩
            | true =>
              simp only [Bool.true_eq_false, if_false] at hp ⊢
              obtain ⟨ht', hk⟩ := hp
              rw [show W ++ [(tx, r.n)] = W ++ [(tx, (⟨k, o, p, s⟩ : Nm))] by rw [hrn]] at ht'
              exact ⟨by trivial, ⟨_, ht', hrep r.g r.cap (hset _), fun k hk' => hfn k (.inl rfl) hk'⟩, hk2 hk⟩
end
end Go.Proofs.YtcdlplbccblbaaaGreat

namespace Go.Proofs.YtcdlplbccblbaaaGreat
open Go.RowKit
set_option linter.unusedVariables false

/-! ### What holds of any table -/
def okMode (m : Int) : Prop := 0 ≤ m ∧ m ≤ 5
def okAk (a : Ak) : Prop := okMode a.has ∧ okMode a.wants
def okQ (q : List Ak) : Prop := ∀ a ∈ q, okAk a
/-- All modes are modes; the names are of the kinds that P tells. -/
def Good (P : Nm → Prop) (L : List (Nm × List Ak)) : Prop := ∀ p ∈ L, P p.1 ∧ okQ p.2

theorem okQ.stay {q : List Ak} (h : okQ q) : okQ (stay q) := fun a ha => h a (List.mem_filter.1 ha).1
theorem okQ.set {q : List Ak} (h : okQ q) (i : Nat) {a : Ak} (ha : okAk a) : okQ (q.set i a) := fun b hb => by
  rcases List.mem_or_eq_of_mem_set hb with hb | rfl
  · exact h b hb
  · exact ha
theorem okAk.fired {a : Ak} (h : okAk a) : okAk (fired a) := by
  unfold YtcdlplbccblbaaaGreat.fired
  refine ⟨?_, by unfold okMode; simp⟩
  split
  · exact h.1
  · exact h.2
theorem okQ.gstep {s : Gs} (h : okQ s.q) (conv : Bool) (i : Nat) : okQ (gstep conv i s).q := by
  unfold YtcdlplbccblbaaaGreat.gstep
  split
  · exact h
  · split
    · exact h
    · rename_i a ha
      split
      · exact h
      · split
        · exact h.set i (h a (List.mem_of_getElem? ha)).fired
        · exact h
theorem okQ.gpass {s : Gs} (h : okQ s.q) (conv : Bool) : ∀ k, okQ (gpass conv k s).q
  | 0 => h
  | k + 1 => (okQ.gpass h conv k).gstep conv k
theorem okQ.gk {q : List Ak} (h : okQ q) : ∀ k, okQ (gk q k).q
  | 0 => h
  | k + 1 => (okQ.gk h k).gpass (k == 0) q.length
theorem okQ.gq {q : List Ak} (h : okQ q) : okQ (gq q) := (h.gk 2).stay
theorem okQ.erase {q : List Ak} (h : okQ q) (i : Nat) : okQ (q.eraseIdx i) := fun a ha => h a (List.mem_of_mem_eraseIdx ha)
theorem okQ.nil : okQ [] := fun a ha => by simp at ha
theorem Good.qL {P : Nm → Prop} {L : List (Nm × List Ak)} (h : Good P L) (n : Nm) : okQ (qL L n) := by
  unfold YtcdlplbccblbaaaGreat.qL
  cases hf : L.find? fun p => p.1 == n with
  | none => exact .nil
  | some p => exact (h p (List.mem_of_find?_eq_some hf)).2
theorem repl_name {L : List (Nm × List Ak)} {n : Nm} {q : List Ak} {p : Nm × List Ak} (h : p ∈ repl L n q) : p ∈ L ∨ (p = (n, q) ∧ n ∈ L.map (·.1)) := by
  unfold repl at h
  rw [List.mem_flatMap] at h
  obtain ⟨p0, h0, h1⟩ := h
  split at h1
  · rename_i hn
    split at h1
    · simp at h1
    · simp at h1; exact .inr ⟨h1, List.mem_map.2 ⟨p0, h0, hn⟩⟩
  · simp at h1; exact .inl (h1 ▸ h0)
theorem Good.repl {P : Nm → Prop} {L : List (Nm × List Ak)} (h : Good P L) (n : Nm) {q : List Ak} (hq : okQ q) : Good P (repl L n q) := fun p hp => by
  rcases repl_name hp with hp | ⟨rfl, hn⟩
  · exact h p hp
  · obtain ⟨p0, h0, e⟩ := List.mem_map.1 hn
    exact ⟨e ▸ (h p0 h0).1, hq⟩
theorem Good.relOne {P : Nm → Prop} {s : Rs} (h : Good P s.L) (tx : Int) (n : Nm) : Good P (relOne tx s n).L := by
  unfold YtcdlplbccblbaaaGreat.relOne
  split
  · exact h
  · exact h.repl n ((h.qL n).erase _).gq
theorem Good.relK {P : Nm → Prop} (tx : Int) : ∀ (l : List Nm) {s : Rs}, Good P s.L → Good P (relK tx s l).L
  | [], s, h => h
  | n :: l, s, h => Good.relK tx l (h.relOne tx n)
theorem Good.rel {P : Nm → Prop} {L : List (Nm × List Ak)} (h : Good P L) (tx : Int) (W : List (Int × Nm)) : Good P (rel tx L W).L := Good.relK tx _ h
theorem Fits.rel {N : Nat} {L : List (Nm × List Ak)} (h : Fits N L) (tx : Int) (W : List (Int × Nm)) : Fits N (rel tx L W).L := (Fits.relK tx _ h).1
theorem Fits.mono {N M : Nat} {L : List (Nm × List Ak)} (h : Fits N L) (hN : N ≤ M) : Fits M L := ⟨Nat.le_trans h.1 hN, fun p hp => Nat.le_trans (h.2 p hp) hN⟩

theorem ok_mode {m : Int} (h : isMode m = true) : 1 ≤ m ∧ m ≤ 5 := by
  unfold isMode at h
  simp at h
  omega
theorem ok_join {a m : Int} (ha : okMode a) (hm : isMode m = true) : okMode (join a m) := by
  obtain ⟨h1, h2⟩ := ok_mode hm
  obtain ⟨h3, h4⟩ := ha
  have ha' : a = 0 ∨ a = 1 ∨ a = 2 ∨ a = 3 ∨ a = 4 ∨ a = 5 := by omega
  have hm' : m = 1 ∨ m = 2 ∨ m = 3 ∨ m = 4 ∨ m = 5 := by omega
  rcases ha' with rfl | rfl | rfl | rfl | rfl | rfl <;> rcases hm' with rfl | rfl | rfl | rfl | rfl <;> exact ⟨by decide, by decide⟩
theorem okQ.getD {q : List Ak} (h : okQ q) (i : Nat) : okAk (q.getD i ⟨0, 0, 0, false⟩) := by
  by_cases hi : i < q.length
  · have : q.getD i ⟨0, 0, 0, false⟩ = q[i] := by simp [List.getD, hi]
    rw [this]
    exact h _ (List.getElem_mem hi)
  · have : q.getD i ⟨0, 0, 0, false⟩ = ⟨0, 0, 0, false⟩ := by rw [List.getD, List.getElem?_eq_none (by omega)]; rfl
    rw [this]
    exact ⟨⟨by simp, by simp⟩, ⟨by simp, by simp⟩⟩
theorem okQ.append {q : List Ak} (h : okQ q) {a : Ak} (ha : okAk a) : okQ (q ++ [a]) := fun b hb => by
  rw [List.mem_append, List.mem_singleton] at hb
  rcases hb with hb | rfl
  · exact h b hb
  · exact ha

theorem ask_keeps {P : Nm → Prop} {N : Nat} {L : List (Nm × List Ak)} (h : Good P L) (hf : Fits N L) (W : List (Int × Nm)) (tx : Int) {n : Nm} (hn : P n) (mode : Int) (inst wt : Bool) :
    Good P (ask L W tx n mode inst wt).L ∧ Fits (N + 1) (ask L W tx n mode inst wt).L := by
  have hf1 : Fits (N + 1) L := hf.mono (by omega)
  unfold ask
  split
  · exact ⟨h, hf1⟩
  · rename_i hbad
    have hm : isMode mode = true := by
      cases hi : isMode mode
      · exact absurd (.inr hi) hbad
      · rfl
    have om : okMode mode := by obtain ⟨a, b⟩ := ok_mode hm; exact ⟨by omega, b⟩
    have o0 : okMode 0 := ⟨by omega, by omega⟩
    split
    · exact ⟨h, hf1⟩
    · split
      · simp only
        split
        · exact ⟨h, hf1⟩
        · refine ⟨fun p hp => ?_, by simp; exact hf.1, fun p hp => ?_⟩
          · rw [List.mem_append, List.mem_singleton] at hp
            rcases hp with hp | rfl
            · exact h p hp
            · exact ⟨hn, fun a ha => by simp at ha; subst ha; exact ⟨om, o0⟩⟩
          · rw [List.mem_append, List.mem_singleton] at hp
            rcases hp with hp | rfl
            · exact hf1.2 p hp
            · simp
      · rename_i nm q hfq
        have hqm := List.mem_of_find?_eq_some hfq
        have hq : okQ q := (h _ hqm).2
        have hql : q.length ≤ N := hf.2 _ hqm
        split
        · split
          · simp only
            split
            · exact ⟨h, hf1⟩
            · exact ⟨h.repl _ (hq.append ⟨om, o0⟩), hf1.repl _ (by simp; exact hql)⟩
          · simp only
            split
            · exact ⟨h, hf1⟩
            · exact ⟨h.repl _ (hq.append ⟨o0, om⟩), hf1.repl _ (by simp; exact hql)⟩
        · rename_i i _
          have hg := hq.getD i
          split
          · exact ⟨h, hf1⟩
          · split
            · simp only
              split
              · exact ⟨h, hf1⟩
              · exact ⟨h.repl _ (hq.set _ ⟨ok_join hg.1 hm, hg.2⟩), hf1.repl _ (by simp; omega)⟩
            · simp only
              split
              · exact ⟨h, hf1⟩
              · exact ⟨h.repl _ (hq.set _ ⟨hg.1, ok_join hg.1 hm⟩), hf1.repl _ (by simp; omega)⟩
end Go.Proofs.YtcdlplbccblbaaaGreat

namespace Go.Proofs.YtcdlplbccblbaaaGreat
open Go.RowKit
set_option linter.unusedVariables false

theorem at_of_some {q : List Ak} {tx : Int} {i : Nat} (h : (q.findIdx? fun a => a.tx == tx) = some i) : idx q tx = i ∧ i < q.length := by
  refine ⟨by unfold idx; rw [h], ?_⟩
  rw [List.findIdx?_eq_some_iff_getElem] at h
  exact h.1

section
variable {w w' : World} {T QB WB : Nat} {R : List Row} {W : List (Int × Nm)}
/-- What a transaction waits for. -/
theorem for_tab (h : Tab w T QB WB R W) (tx : Int) : Calls Tryz.prog 19 #[.pointer (some ⟨T, 0, none⟩), .int .i64 tx] w fun e w' =>
    e = .returned (.tuple #[.agg #[.int .i64 (wz W tx).kind, .int .i64 (wz W tx).of_, .int .u32 (wz W tx).page, .int .i64 (wz W tx).slot], .bool (wOf W tx).isSome]) ∧ Below w.heap.size w w' := by
  have hB : Below w.heap.size w (w.alloc (.cells #[.int .i64 0, .int .i64 0, .int .u32 0, .int .i64 0] 46)) := (Below.refl _ _).alloc (Nat.le_refl _) _
  have h1 := h.below hB
  have h0 := h1.head.cell 1
  simp at h0
  have hl := h1.waits tx
  obtain ⟨n, hn⟩ : ∃ n, n = wz W tx := ⟨_, rfl⟩
  obtain ⟨b, hb⟩ : ∃ b, b = (wOf W tx).isSome := ⟨_, rfl⟩
  rw [← hn, ← hb] at hl ⊢
  clear hn hb h1 h
  obtain ⟨k, o, p, s⟩ := n
  simp only at hl ⊢
  go_enter Tryz.func19, Tryz.ntmps19
  go_wp2
  exact bodyPost_ret (v := .tuple #[.agg #[.int .i64 k, .int .i64 o, .int .u32 p, .int .i64 s], .bool b]) (by simp [results, Tryz.results19, go_sem]) rfl ⟨rfl, ((Below.refl _ _).alloc (Nat.le_refl _) _).alloc (by simp) _⟩
end
end Go.Proofs.YtcdlplbccblbaaaGreat
